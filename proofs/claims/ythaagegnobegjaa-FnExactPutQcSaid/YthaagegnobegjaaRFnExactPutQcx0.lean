/- The functions that FnExactPutQc calls, each held to what it answers. Printed by a program of this session; Lean checks it. -/
import Derived.Test.YthaagegnobegjaaProg
import Derived.Test.YthaagegnobegjaaRf24
namespace Go.Proofs.Ythaagegnobegjaa.Rf
open Go.RowKit
set_option linter.unusedVariables false
set_option linter.unnecessarySimpa false
set_option linter.unusedSimpArgs false
set_option maxRecDepth 100000
set_option maxHeartbeats 4000000
@[ext] structure SQc where
  f0 : Int
  f1 : Int
  f2 : List Int
  f3 : List Int
  f4 : List (List Int)
  deriving Inhabited, DecidableEq
def SQc.cells (x : SQc) : List D := [(.int .i64 x.f0), (.int .i64 x.f1), (.ints .u8 x.f2), (.ints .u8 x.f3), (.bss x.f4)]
theorem SQc.len (x : SQc) : x.cells.length = 5 := rfl
def SQc.sz (x : SQc) (l : Int) : Int := szThen (szB x.f2 l) fun l0 => szThen (szB x.f3 l0) fun l1 => szThen (szLs szB x.f4 l1) fun l2 => l2
def SQc.sm (x : SQc) : Prop := (x.f2.length ≤ 1048576) ∧ (x.f3.length ≤ 1048576) ∧ (x.f4.length ≤ 1048576 ∧ ∀ y ∈ x.f4, y.length ≤ 1048576)
def SQc.ok (x : SQc) : Prop := (I64 x.f0) ∧ (I64 x.f1) ∧ (U8s x.f2) ∧ (U8s x.f3) ∧ (∀ y ∈ x.f4, U8s y)
theorem SQc.sz_le (x : SQc) {l : Int} (h : 0 ≤ l) : x.sz l ≤ l := by
  unfold SQc.sz
  exact szThen_le' (szB_le _ h) h fun l0 h0 => szThen_le' (szB_le _ h0) h0 fun l1 h1 => szThen_le' (szLs_le (fun x l h => szB_le x h) _ h1) h1 fun l2 h2 => Int.le_refl _
theorem SQc.sz_sm (x : SQc) {l : Int} (h0 : 0 ≤ l) (hl : l ≤ 1048576) (h : 0 ≤ x.sz l) : x.sm := by
  unfold SQc.sz at h
  have ⟨p0, h⟩ := szThen_nn h
  have e0 : (szB x.f2 l) ≤ l := szB_le _ h0
  have s0 := szB_sm p0 hl
  have c0 := Int.le_trans e0 hl
  have ⟨p1, h⟩ := szThen_nn h
  have e1 : (szB x.f3 (szB x.f2 l)) ≤ (szB x.f2 l) := szB_le _ p0
  have s1 := szB_sm p1 c0
  have c1 := Int.le_trans e1 c0
  have ⟨p2, h⟩ := szThen_nn h
  have e2 : (szLs szB x.f4 (szB x.f3 (szB x.f2 l))) ≤ (szB x.f3 (szB x.f2 l)) := szLs_le (fun x l h => szB_le x h) _ p1
  have s2 := szLs_sm (p := fun y => y.length ≤ 1048576) (fun x l h => szB_le x h) (fun x l h h0 hl => szB_sm h hl) p2 c1
  have c2 := Int.le_trans e2 c1
  exact ⟨s0, s1, s2⟩
def SQc.cm (x : SQc) : Int := (x.f2.length : Int) + (x.f3.length : Int) + cntL (fun x : List Int => (x.length : Int)) x.f4
def SQc.hm (a b : SQc) (k : Int) : Prop := (b.f2 = mkB a.f2 k) ∧ (b.f3 = mkB a.f3 (k + (a.f2.length : Int))) ∧ (b.f4 = mkBs a.f4 ((k + (a.f2.length : Int)) + (a.f3.length : Int)))
theorem SQc.cm_nn (x : SQc) : 0 ≤ x.cm := by
  unfold SQc.cm
  have n4 := cntBs_nonneg x.f4
  omega
theorem SQc.cm_le {x : SQc} (h : x.sm) : x.cm ≤ 1099513724928 := by
  unfold SQc.cm
  obtain ⟨p2, p3, p4⟩ := h
  have e2 := p2
  have e3 := p3
  have e4 := cntBs_le p4
  omega
theorem SQc.sm_df : (default : SQc).sm := by (repeat' (first | exact Nat.zero_le _ | (intro y hy; exact absurd hy (List.not_mem_nil)) | apply And.intro))
def SQc.ce (x : SQc) : Int := 1 + 1 + (x.f2.length : Int) + (x.f3.length : Int) + cntL (fun x : List Int => (x.length : Int)) x.f4
def SQc.me (x : SQc) (k : Int) : SQc := ⟨k, k + 1, mkB x.f2 ((k + 1) + 1), mkB x.f3 (((k + 1) + 1) + (x.f2.length : Int)), mkBs x.f4 ((((k + 1) + 1) + (x.f2.length : Int)) + (x.f3.length : Int))⟩
theorem SQc.ce_nn (x : SQc) : 0 ≤ x.ce := by
  unfold SQc.ce
  have n4 := cntBs_nonneg x.f4
  omega
theorem SQc.ce_le {x : SQc} (h : x.sm) : x.ce ≤ 1099513724930 := by
  unfold SQc.ce
  obtain ⟨p2, p3, p4⟩ := h
  have e2 := p2
  have e3 := p3
  have e4 := cntBs_le p4
  omega
theorem SQc.cL_le {xs : List SQc} (h : xs.length ≤ 1048576 ∧ ∀ y ∈ xs, SQc.sm y) : cntL SQc.ce xs ≤ 1152923703632199680 := by
  have h1 := cntL_le (cnt := SQc.ce) (n := 1099513724930) xs fun x hx => SQc.ce_le (h.2 x hx)
  have h2 := h.1
  omega
@[ext] structure SLimits where
  f0 : Int
  f1 : Int
  f2 : Int
  f3 : Int
  f4 : Int
  deriving Inhabited, DecidableEq
def SLimits.cells (x : SLimits) : List D := [(.int .i64 x.f0), (.int .i64 x.f1), (.int .i64 x.f2), (.int .i64 x.f3), (.int .i64 x.f4)]
theorem SLimits.len (x : SLimits) : x.cells.length = 5 := rfl
def SLimits.sz (x : SLimits) (l : Int) : Int := l
def SLimits.sm (x : SLimits) : Prop := True
def SLimits.ok (x : SLimits) : Prop := (I64 x.f0) ∧ (I64 x.f1) ∧ (I64 x.f2) ∧ (I64 x.f3) ∧ (I64 x.f4)
theorem SLimits.sz_le (x : SLimits) {l : Int} (h : 0 ≤ l) : x.sz l ≤ l := by
  unfold SLimits.sz
  exact Int.le_refl _
theorem SLimits.sz_sm (x : SLimits) {l : Int} (h0 : 0 ≤ l) (hl : l ≤ 1048576) (h : 0 ≤ x.sz l) : x.sm := by
  unfold SLimits.sz at h
  exact trivial
def SLimits.cm (x : SLimits) : Int := 0
def SLimits.hm (a b : SLimits) (k : Int) : Prop := True
theorem SLimits.cm_nn (x : SLimits) : 0 ≤ x.cm := by
  unfold SLimits.cm
  omega
theorem SLimits.cm_le {x : SLimits} (h : x.sm) : x.cm ≤ 0 := by
  unfold SLimits.cm
  omega
def SLimits.ce (x : SLimits) : Int := 1 + 1 + 1 + 1 + 1
def SLimits.me (x : SLimits) (k : Int) : SLimits := ⟨k, k + 1, (k + 1) + 1, ((k + 1) + 1) + 1, (((k + 1) + 1) + 1) + 1⟩
theorem SLimits.ce_nn (x : SLimits) : 0 ≤ x.ce := by
  unfold SLimits.ce
  omega
theorem SLimits.ce_le {x : SLimits} (h : x.sm) : x.ce ≤ 5 := by
  unfold SLimits.ce
  omega
theorem SLimits.cL_le {xs : List SLimits} (h : xs.length ≤ 1048576 ∧ ∀ y ∈ xs, SLimits.sm y) : cntL SLimits.ce xs ≤ 5242880 := by
  have h1 := cntL_le (cnt := SLimits.ce) (n := 5) xs fun x hx => SLimits.ce_le (h.2 x hx)
  have h2 := h.1
  omega
def limOk (l : SLimits) : Bool := decide (1 ≤ l.f0 ∧ l.f0 ≤ 10) && decide (0 ≤ l.f1 ∧ l.f1 ≤ 40) && decide (0 ≤ l.f2 ∧ l.f2 ≤ 8) && decide (1 ≤ l.f3 ∧ l.f3 ≤ 4000) && decide (3 ≤ l.f4 ∧ l.f4 ≤ 5)
theorem limOk_n {l : SLimits} (h : limOk l = true) : 1 ≤ l.f0 ∧ l.f0 ≤ 10 := by simp [limOk] at h; omega
def bitsOk (b : List Int) (n : Int) : Bool := decide (1 ≤ n ∧ n ≤ 10) && decide ((b.length : Int) = bitsSize n) && (bitList b).all (fun x => decide (x < n))
theorem all_step {l : List Int} {n : Int} {i : Nat} (hi : i < l.length) (h : (l.take i).all (fun x => decide (x < n)) = true) (hx : l.getD i 0 < n) : (l.take (i + 1)).all (fun x => decide (x < n)) = true := by
  rw [take_succ' (df := 0) hi]; simp only [List.all_append, List.all_cons, List.all_nil, Bool.and_true, Bool.and_eq_true] at h ⊢; exact ⟨h, decide_eq_true hx⟩
theorem all_no {l : List Int} {n : Int} {i : Nat} (hi : i < l.length) (hx : ¬ l.getD i 0 < n) : l.all (fun x => decide (x < n)) = false := by
  cases h : l.all (fun x => decide (x < n)) with
  | false => rfl
  | true =>
    rw [List.all_eq_true] at h
    have := h (l.getD i 0) (by rw [List.getD_eq_getElem?_getD, List.getElem?_eq_getElem hi]; exact List.getElem_mem hi)
    exact absurd (of_decide_eq_true this) hx
theorem bits_last {b : List Int} {n : Int} (h : 0 < (bitList b).length) : (bitList b).all (fun x => decide (x < n)) = decide ((bitList b).getD (((bitList b).length : Int) - 1).toNat 0 < n) := by
  rw [show (((bitList b).length : Int) - 1).toNat = (bitList b).length - 1 from by omega]
  have h1 := bitsGo_last b n (8 * b.length) 0
  rw [show bitsGo b (8 * b.length) 0 = bitList b from rfl] at h1
  rw [h1, List.getLast?_eq_getElem?, List.getElem?_eq_getElem (by omega), List.getD_eq_getElem?_getD, List.getElem?_eq_getElem (by omega)]
  rfl
theorem bitsOk_len {b : List Int} {n : Int} (h : bitsOk b n = true) : b.length ≤ 2 := by
  simp only [bitsOk, Bool.and_eq_true, decide_eq_true_eq] at h
  have := h.1.2
  unfold bitsSize at this
  rw [if_neg (by omega)] at this
  omega
def hashes (l : List (List Int)) : Bool := l.all fun x => decide ((x.length : Int) = 32)
theorem hashes_step {l : List (List Int)} {i : Nat} (hi : i < l.length) (h : hashes (l.take i) = true) (hx : ((l.getD i []).length : Int) = 32) : hashes (l.take (i + 1)) = true := by
  rw [take_succ' (df := []) hi]; simp only [hashes, List.all_append, List.all_cons, List.all_nil, Bool.and_true, Bool.and_eq_true] at h ⊢; exact ⟨h, decide_eq_true hx⟩
theorem hashes_no {l : List (List Int)} {i : Nat} (hi : i < l.length) (hx : ¬ ((l.getD i []).length : Int) = 32) : hashes l = false := by
  cases h : hashes l with
  | false => rfl
  | true =>
    rw [hashes, List.all_eq_true] at h
    have := h (l.getD i []) (by rw [List.getD_eq_getElem?_getD, List.getElem?_eq_getElem hi]; exact List.getElem_mem hi)
    exact absurd (of_decide_eq_true this) hx
def qcOk (l : SLimits) (q : SQc) : Bool := limOk l && decide (0 ≤ q.f0 ∧ q.f0 ≤ 1152921504606846975) && decide (0 ≤ q.f1 ∧ q.f1 ≤ 1152921504606846975) && decide ((q.f2.length : Int) = 32) && bitsOk q.f3 l.f0 && decide ((q.f4.length : Int) = ((bitList q.f3).length : Int)) && hashes q.f4
def varW (n : Int) : List Int := if h : n < 128 then [n] else (n % 128 + 128) :: varW (n / 128)
termination_by n.toNat
decreasing_by omega
theorem varW_last {n : Int} (h : n < 128) : varW n = [n] := by rw [varW, dif_pos h]
theorem varW_next {n : Int} (h : ¬ n < 128) : varW n = (n % 128 + 128) :: varW (n / 128) := by rw [varW, dif_neg h]
theorem varW_len : ∀ (k : Nat) (n : Int), n < 128 ^ (k + 1) → (varW n).length ≤ k + 1
  | 0, n, h => by rw [varW_last (by simpa using h)]; simp
  | k + 1, n, h => by
    by_cases h0 : n < 128
    · rw [varW_last h0]; simp
    · rw [varW_next h0, List.length_cons]
      have := varW_len k (n / 128) (by rw [Int.pow_succ] at h; omega)
      omega
theorem varW_len9 {n : Int} (h : n ≤ 1152921504606846975) : (varW n).length ≤ 9 := by
  have e : (128 : Int) ^ (8 + 1) = 9223372036854775808 := by decide
  exact varW_len 8 n (by rw [e]; omega)
def putVar (b : List Int) (n : Int) : List Int := if decide (0 ≤ n ∧ n ≤ 1152921504606846975) = true then b ++ varW n else []
theorem putVar_len (b : List Int) (n : Int) : (putVar b n).length ≤ b.length + 9 := by
  unfold putVar
  split
  · rename_i h
    have := varW_len9 (of_decide_eq_true h).2
    rw [List.length_append]; omega
  · simp
theorem foldl_take_succ {α β : Type} (g : β → α → β) (b : β) (xs : List α) (i : Nat) (df : α) (h : i < xs.length) : (xs.take (i + 1)).foldl g b = g ((xs.take i).foldl g b) (xs.getD i df) := by
  rw [take_succ' (df := df) h, List.foldl_append]; rfl
theorem foldl_len {α : Type} (g : List Int → α → List Int) (c : Nat) (p : α → Prop) (hg : ∀ b x, p x → (g b x).length ≤ b.length + c) : ∀ (xs : List α) (b : List Int), (∀ x ∈ xs, p x) → (xs.foldl g b).length ≤ b.length + xs.length * c
  | [], b, _ => by simp
  | x :: xs, b, h => by
    have h1 := foldl_len g c p hg xs (g b x) fun y hy => h y (by simp [hy])
    have h2 := hg b x (h x (by simp))
    simp only [List.foldl_cons, List.length_cons, Nat.add_mul]
    omega
theorem foldl_take_len {α : Type} (g : List Int → α → List Int) (c : Nat) (p : α → Prop) (hg : ∀ b x, p x → (g b x).length ≤ b.length + c) (xs : List α) (b : List Int) (h : ∀ x ∈ xs, p x) (i : Nat) (n : Nat) (hn : xs.length ≤ n) : ((xs.take i).foldl g b).length ≤ b.length + n * c := by
  have h1 := foldl_len g c p hg (xs.take i) b fun x hx => h x (List.mem_of_mem_take hx)
  have h2 : (xs.take i).length * c ≤ n * c := Nat.mul_le_mul_right _ (by simp; omega)
  omega
theorem foldl_all {α β : Type} (g : β → α → β) (b : β) (xs : List α) (i : Nat) (h : xs.length ≤ i) : (xs.take i).foldl g b = xs.foldl g b := by rw [List.take_of_length_le h]
def rawsB (b : List Int) (l : List (List Int)) : List Int := l.foldl (fun b x => b ++ x) b
theorem raws_len {b : List Int} {l : List (List Int)} {n : Nat} (hn : l.length ≤ n) (h : ∀ x ∈ l, x.length ≤ 1048576) (i : Nat) : ((l.take i).foldl (fun b x => b ++ x) b).length ≤ b.length + n * 1048576 :=
  foldl_take_len _ 1048576 (fun x => x.length ≤ 1048576) (fun b x hx => by simp only [List.length_append]; omega) l b h i n hn
def putQcB (b : List Int) (q : SQc) : List Int := rawsB (putVar (putVar b q.f0) q.f1 ++ q.f2 ++ q.f3) q.f4
def putQc (l : SLimits) (b : List Int) (q : SQc) : List Int := if qcOk l q = true then putQcB b q else []
theorem putQcB_len {b : List Int} {q : SQc} (h : q.sm) : (putQcB b q).length ≤ b.length + 1099513724946 := by
  obtain ⟨s0, s1, s2⟩ := h
  have h1 := putVar_len b q.f0
  have h2 := putVar_len (putVar b q.f0) q.f1
  have h3 := raws_len (b := putVar (putVar b q.f0) q.f1 ++ q.f2 ++ q.f3) s2.1 s2.2 q.f4.length
  rw [List.take_length] at h3
  simp only [List.length_append] at h3
  unfold putQcB rawsB
  omega
theorem putQc_len {l : SLimits} {b : List Int} {q : SQc} (h : q.sm) : (putQc l b q).length ≤ b.length + 1099513724946 := by
  unfold putQc
  split
  · exact putQcB_len h
  · simp

theorem ok_laws_szByteS (a : List Int) (left : Int) (h0_ : 0 ≤ left) (h1_ : left ≤ 9223372036854775807) : RO Try.prog 76 [.one (.ints .u8 a), .one (.int .i64 left)] [(false, [.rd (.int .i64 (szB a left))])] := by
 refine RO.intro Try.func76 rfl 12 rfl (le_ok rfl) fun w Z => ?_
 refine T.bnd 0 0 rfl rfl fun hb_0_0 => ?_
 simp only [D.size, List.length_map] at hb_0_0
 refine T.seq ?_
 refine T.region ?_
 refine TL.cons rfl (Step.assign (p := (.one (.d (.int .i64 0)))) rfl rfl (lt_ok rfl) rfl) ?_
 refine TL.nil ?_
 refine T.seq ?_
 refine T.region ?_
 refine TL.cons rfl (Step.move (p := (.one (.d (.int .i64 left)))) rfl rfl (lt_ok rfl) rfl) ?_
 refine TL.cons rfl (Step.move (p := (.one (.d (.ints .u8 a)))) rfl rfl (lt_ok rfl) rfl) ?_
 refine TL.cons rfl (Step.len (e := 5) (z := 1) (d := (.ints .u8 a)) rfl rfl (lt_ok rfl) (by kernel_rfl) rfl rfl) ?_
 refine TL.cons rfl (Step.bin (r := .int .i64 (left - (a.length : Int))) rfl rfl (lt_ok rfl) rfl rfl (Bin.sub (a := left) (b := (a.length : Int)) (by first | exact wrap_ok (by first | omega | (simp; omega)) (by first | omega | (simp; omega)) | rfl))) ?_
 refine TL.cons rfl (Step.assign (p := (.one (.d (.int .i64 (left - (a.length : Int)))))) rfl rfl (lt_ok rfl) rfl) ?_
 refine TL.nil ?_
 refine T.seq ?_
 refine T.seq ?_
 refine T.region ?_
 refine TL.cons rfl (Step.move (p := (.one (.d (.int .i64 (left - (a.length : Int)))))) rfl rfl (lt_ok rfl) rfl) ?_
 refine TL.cons rfl (Step.bin rfl rfl (lt_ok rfl) rfl rfl (Bin.lss (k := .i64) (a := (left - (a.length : Int))) (b := 0))) ?_
 refine TL.nil ?_
 refine T.cond (b := decide ((left - (a.length : Int)) < 0)) rfl (fun h1 => ?_) (fun h1 => ?_)
 ·
  replace h1 := of_decide_eq_true h1
  refine T.seq ?_
  refine T.region ?_
  refine TL.cons rfl (Step.assign (p := (.one (.d (.int .i64 (-1))))) rfl rfl (lt_ok rfl) rfl) ?_
  refine TL.nil ?_
  refine T.ret ?_
  exact ⟨[(false, [.d (.int .i64 (-1))])], (.cons rfl .nil), rfl, [], (RetC.rd' (by (congr 1; unfold szB; split <;> omega)) .nil)⟩
 ·
  replace h1 := of_decide_eq_false h1
  refine T.skip ?_
  refine T.seq ?_
  refine T.region ?_
  refine TL.cons rfl (Step.move (p := (.one (.d (.int .i64 (left - (a.length : Int)))))) rfl rfl (lt_ok rfl) rfl) ?_
  refine TL.cons rfl (Step.assign (p := (.one (.d (.int .i64 (left - (a.length : Int)))))) rfl rfl (lt_ok rfl) rfl) ?_
  refine TL.nil ?_
  refine T.ret ?_
  exact ⟨[(false, [.d (.int .i64 (left - (a.length : Int)))])], (.cons rfl .nil), rfl, [], (RetC.rd' (by (congr 1; unfold szB; split <;> omega)) .nil)⟩
theorem ok_laws_szByteSS (a : List (List Int)) (left : Int) (h0_ : 0 ≤ left) (h1_ : left ≤ 9223372036854775807) : RO Try.prog 77 [.one (.bss a), .one (.int .i64 left)] [(false, [.rd (.int .i64 (szLs szB a left))])] := by
 refine RO.intro Try.func77 rfl 27 rfl (le_ok rfl) fun w Z => ?_
 refine T.bnd 0 0 rfl rfl fun hb_0_0 => ?_
 simp only [D.size, List.length_map] at hb_0_0
 refine T.seq ?_
 refine T.region ?_
 refine TL.cons rfl (Step.assign (p := (.one (.d (.int .i64 0)))) rfl rfl (lt_ok rfl) rfl) ?_
 refine TL.nil ?_
 refine T.seq ?_
 refine T.region ?_
 refine TL.cons rfl (Step.move (p := (.one (.d (.int .i64 left)))) rfl rfl (lt_ok rfl) rfl) ?_
 refine TL.cons rfl (Step.move (p := (.one (.d (.bss a)))) rfl rfl (lt_ok rfl) rfl) ?_
 refine TL.cons rfl (Step.len (e := 22) (z := 1) (d := (.bss a)) rfl rfl (lt_ok rfl) (by kernel_rfl) rfl rfl) ?_
 refine TL.cons rfl (Step.bin (r := .int .i64 (left - (a.length : Int))) rfl rfl (lt_ok rfl) rfl rfl (Bin.sub (a := left) (b := (a.length : Int)) (by first | exact wrap_ok (by first | omega | (simp; omega)) (by first | omega | (simp; omega)) | rfl))) ?_
 refine TL.cons rfl (Step.assign (p := (.one (.d (.int .i64 (left - (a.length : Int)))))) rfl rfl (lt_ok rfl) rfl) ?_
 refine TL.nil ?_
 refine T.seq ?_
 refine T.seq ?_
 refine T.region ?_
 refine TL.cons rfl (Step.move (p := (.one (.d (.int .i64 (left - (a.length : Int)))))) rfl rfl (lt_ok rfl) rfl) ?_
 refine TL.cons rfl (Step.bin rfl rfl (lt_ok rfl) rfl rfl (Bin.lss (k := .i64) (a := (left - (a.length : Int))) (b := 0))) ?_
 refine TL.nil ?_
 refine T.cond (b := decide ((left - (a.length : Int)) < 0)) rfl (fun h1 => ?_) (fun h1 => ?_)
 ·
  replace h1 := of_decide_eq_true h1
  refine T.seq ?_
  refine T.region ?_
  refine TL.cons rfl (Step.assign (p := (.one (.d (.int .i64 (-1))))) rfl rfl (lt_ok rfl) rfl) ?_
  refine TL.nil ?_
  refine T.ret ?_
  exact ⟨[(false, [.d (.int .i64 (-1))])], (.cons rfl .nil), rfl, [], (RetC.rd' (by (congr 1; first | (rw [← hx4, szL_drop (dflt := []) a i l (by omega), if_pos (by omega)]; done) | (rw [← hx4, List.drop_of_length_le (by omega)]; rfl) | (unfold szLs; rw [if_pos (by omega)]; done))) .nil)⟩
 ·
  replace h1 := of_decide_eq_false h1
  refine T.skip ?_
  refine T.seq ?_
  refine T.seq ?_
  refine T.region ?_
  refine TL.cons rfl (Step.assign (p := (.one (.d (.int .i64 0)))) rfl rfl (lt_ok rfl) rfl) ?_
  refine TL.nil ?_
  refine T.block ?_
  refine T.loop (ι := Nat × Int) (fun x => { tm := [(0, (.one (.d (.bss a)))), (5, (.one (.d (.int .i64 ((x.1) : Int))))), (1, (.one (.d (.int .i64 (x.2)))))], rows := [], boxes := [] }) (fun x => (x.1) ≤ a.length ∧ 0 ≤ (x.2) ∧ (x.2) ≤ 9223372036854775807 ∧ szL szB (a.drop (x.1)) (x.2) = szLs szB a left) (fun x => a.length - (x.1)) (0, left - (a.length : Int)) ?_ ?_ ?_
  · exact Env.le_mk ⟨rfl, by first | rfl | (simp; done) | (congr 3; omega), by first | rfl | (simp; done) | (congr 3; omega), trivial⟩ trivial trivial
  · (refine ⟨Nat.zero_le _, by omega, by omega, ?_⟩; unfold szLs; rw [if_neg (by omega), List.drop_zero])
  ·
   intro x hx
   obtain ⟨i, l⟩ := x
   try dsimp only at hx ⊢
   obtain ⟨hx1, hx2, hx3, hx4⟩ := hx
   refine T.seq ?_
   refine T.seq ?_
   refine T.region ?_
   refine TL.cons rfl (Step.move (p := (.one (.d (.int .i64 (i : Int))))) rfl rfl (lt_ok rfl) rfl) ?_
   refine TL.cons rfl (Step.move (p := (.one (.d (.bss a)))) rfl rfl (lt_ok rfl) rfl) ?_
   refine TL.cons rfl (Step.len (e := 22) (z := 1) (d := (.bss a)) rfl rfl (lt_ok rfl) (by kernel_rfl) rfl rfl) ?_
   refine TL.cons rfl (Step.bin rfl rfl (lt_ok rfl) rfl rfl (Bin.lss (k := .i64) (a := (i : Int)) (b := (a.length : Int)))) ?_
   refine TL.nil ?_
   refine T.cond (b := decide ((i : Int) < (a.length : Int))) rfl (fun h2 => ?_) (fun h2 => ?_)
   ·
    replace h2 := of_decide_eq_true h2
    refine T.skip ?_
    refine T.seq ?_
    refine T.block ?_
    refine T.seq ?_
    refine T.region ?_
    refine TL.cons rfl (Step.move (p := (.one (.d (.bss a)))) rfl rfl (lt_ok rfl) rfl) ?_
    refine TL.cons rfl (Step.move (p := (.one (.d (.int .i64 (i : Int))))) rfl rfl (lt_ok rfl) rfl) ?_
    refine TL.cons rfl (Step.index (e := 22) (z := 1) (i := (i : Int)) rfl rfl (lt_ok rfl) (by kernel_rfl) rfl rfl rfl (lt_ok rfl) rfl (by first | omega | (simp; omega)) (by simp only [D.size]; first | omega | (simp; omega))) ?_
    refine TL.cons rfl (Step.load (e := (.ints .u8 (a.getD i []))) rfl rfl (lt_ok rfl) (by kernel_rfl) rfl rfl) ?_
    refine TL.cons rfl (Step.move (p := (.one (.d (.int .i64 l)))) rfl rfl (lt_ok rfl) rfl) ?_
    refine TL.cons rfl (Step.call (f := 76) (xs := [.tmp 21, .tmp 22]) (ps := [(.one (.d (.ints .u8 (a.getD i [])))), (.one (.d (.int .i64 l)))]) false (g := .func 76) rfl rfl (lt_ok rfl) rfl (by kernel_rfl) rfl (.cons (.one (.d _)) (.cons (.one (.d _)) .nil)) (ok_laws_szByteS (a.getD i []) l (by omega) (by omega)) (.inr rfl) rfl (by simp) rfl) ?_
    refine TL.cons rfl (Step.assign (p := (.one (.d (.int .i64 (szB (a.getD i []) l))))) rfl rfl (lt_ok rfl) rfl) ?_
    refine TL.nil ?_
    refine T.seq ?_
    refine T.region ?_
    refine TL.cons rfl (Step.move (p := (.one (.d (.int .i64 (szB (a.getD i []) l))))) rfl rfl (lt_ok rfl) rfl) ?_
    refine TL.cons rfl (Step.bin rfl rfl (lt_ok rfl) rfl rfl (Bin.lss (k := .i64) (a := (szB (a.getD i []) l)) (b := 0))) ?_
    refine TL.nil ?_
    refine T.cond (b := decide ((szB (a.getD i []) l) < 0)) rfl (fun h4 => ?_) (fun h4 => ?_)
    ·
     replace h4 := of_decide_eq_true h4
     refine T.seq ?_
     refine T.region ?_
     refine TL.cons rfl (Step.assign (p := (.one (.d (.int .i64 (-1))))) rfl rfl (lt_ok rfl) rfl) ?_
     refine TL.nil ?_
     refine T.ret ?_
     exact ⟨[(false, [.d (.int .i64 (-1))])], (.cons rfl .nil), rfl, [], (RetC.rd' (by (congr 1; first | (rw [← hx4, szL_drop (dflt := []) a i l (by omega), if_pos (by omega)]; done) | (rw [← hx4, List.drop_of_length_le (by omega)]; rfl) | (unfold szLs; rw [if_pos (by omega)]; done))) .nil)⟩
    ·
     replace h4 := of_decide_eq_false h4
     have z3_le : szB (a.getD i []) l ≤ l := szB_le _ (by omega)
     refine T.skip ?_
     refine T.region ?_
     refine TL.cons rfl (Step.move (p := (.one (.d (.int .i64 (i : Int))))) rfl rfl (lt_ok rfl) rfl) ?_
     refine TL.cons rfl (Step.bin (r := .int .i64 ((i : Int) + 1)) rfl rfl (lt_ok rfl) rfl rfl (Bin.add (a := (i : Int)) (b := 1) (by first | exact wrap_ok (by first | omega | (simp; omega)) (by first | omega | (simp; omega)) | rfl))) ?_
     refine TL.cons rfl (Step.assign (p := (.one (.d (.int .i64 ((i : Int) + 1))))) rfl rfl (lt_ok rfl) rfl) ?_
     refine TL.nil ?_
     exact ⟨(i + 1, (szB (a.getD i []) l)), by (refine ⟨by omega, by omega, by omega, ?_⟩; rw [← hx4, szL_drop (dflt := []) a i l (by omega), if_neg (by omega)]), by (dsimp only; omega), Env.le_mk ⟨rfl, by first | rfl | (simp; done) | (congr 3; omega), by first | rfl | (simp; done) | (congr 3; omega), trivial⟩ trivial trivial⟩
   ·
    replace h2 := of_decide_eq_false h2
    refine T.exit ?_
    refine T.seq ?_
    refine T.region ?_
    refine TL.cons rfl (Step.move (p := (.one (.d (.int .i64 l)))) rfl rfl (lt_ok rfl) rfl) ?_
    refine TL.cons rfl (Step.assign (p := (.one (.d (.int .i64 l)))) rfl rfl (lt_ok rfl) rfl) ?_
    refine TL.nil ?_
    refine T.ret ?_
    exact ⟨[(false, [.d (.int .i64 l)])], (.cons rfl .nil), rfl, [], (RetC.rd' (by (congr 1; first | (rw [← hx4, szL_drop (dflt := []) a i l (by omega), if_pos (by omega)]; done) | (rw [← hx4, List.drop_of_length_le (by omega)]; rfl) | (unfold szLs; rw [if_pos (by omega)]; done))) .nil)⟩
theorem ok_laws_szQc (a : SQc) (left : Int) (h0_ : 0 ≤ left) (h1_ : left ≤ 9223372036854775807) : RO Try.prog 15 [.agg a.cells, .one (.int .i64 left)] [(false, [.rd (.int .i64 (a.sz left))])] := by
 refine RO.intro Try.func15 rfl 24 rfl (le_ok rfl) fun w Z => ?_
 refine T.seq ?_
 refine T.region ?_
 refine TL.cons rfl (Step.box (p := (.agg [.d (.int .i64 a.f0), .d (.int .i64 a.f1), .d (.ints .u8 a.f2), .d (.ints .u8 a.f3), .d (.bss a.f4)])) (ps := [.d (.int .i64 a.f0), .d (.int .i64 a.f1), .d (.ints .u8 a.f2), .d (.ints .u8 a.f3), .d (.bss a.f4)]) rfl rfl (lt_ok rfl) rfl rfl rfl rfl rfl) ?_
 refine TL.cons rfl (Step.assign (p := (.one (.d (.int .i64 0)))) rfl rfl (lt_ok rfl) rfl) ?_
 refine TL.nil ?_
 refine T.seq ?_
 refine T.region ?_
 refine TL.cons rfl (Step.fieldAddr (q := 0) (off := 2) (n := 1) (one := true) rfl rfl (lt_ok rfl) (by kernel_rfl) (Nat.succ_ne_zero _) rfl) ?_
 refine TL.cons rfl (Step.load_box (c := .d (.ints .u8 a.f2)) rfl rfl (lt_ok rfl) (by kernel_rfl) rfl rfl rfl) ?_
 refine TL.cons rfl (Step.move (p := (.one (.d (.int .i64 left)))) rfl rfl (lt_ok rfl) rfl) ?_
 refine TL.cons rfl (Step.call (f := 76) (xs := [.tmp 6, .tmp 7]) (ps := [(.one (.d (.ints .u8 a.f2))), (.one (.d (.int .i64 left)))]) false (g := .func 76) rfl rfl (lt_ok rfl) rfl (by kernel_rfl) rfl (.cons (.one (.d _)) (.cons (.one (.d _)) .nil)) (ok_laws_szByteS a.f2 left (by omega) (by omega)) (.inr rfl) rfl (by simp) rfl) ?_
 refine TL.cons rfl (Step.assign (p := (.one (.d (.int .i64 (szB a.f2 left))))) rfl rfl (lt_ok rfl) rfl) ?_
 refine TL.nil ?_
 refine T.seq ?_
 refine T.seq ?_
 refine T.region ?_
 refine TL.cons rfl (Step.move (p := (.one (.d (.int .i64 (szB a.f2 left))))) rfl rfl (lt_ok rfl) rfl) ?_
 refine TL.cons rfl (Step.bin rfl rfl (lt_ok rfl) rfl rfl (Bin.lss (k := .i64) (a := (szB a.f2 left)) (b := 0))) ?_
 refine TL.nil ?_
 refine T.cond (b := decide ((szB a.f2 left) < 0)) rfl (fun h2 => ?_) (fun h2 => ?_)
 ·
  replace h2 := of_decide_eq_true h2
  refine T.seq ?_
  refine T.region ?_
  refine TL.cons rfl (Step.assign (p := (.one (.d (.int .i64 (-1))))) rfl rfl (lt_ok rfl) rfl) ?_
  refine TL.nil ?_
  refine T.ret ?_
  exact ⟨[(false, [.d (.int .i64 (-1))])], (.cons rfl .nil), rfl, [], (RetC.rd' (by first | rfl | (congr 1; simp only [SQc.sz, szThen]; repeat' (split <;> try omega))) .nil)⟩
 ·
  replace h2 := of_decide_eq_false h2
  have z1_le : szB a.f2 left ≤ left := szB_le _ (by omega)
  refine T.skip ?_
  refine T.seq ?_
  refine T.region ?_
  refine TL.cons rfl (Step.fieldAddr (q := 0) (off := 3) (n := 1) (one := true) rfl rfl (lt_ok rfl) (by kernel_rfl) (Nat.succ_ne_zero _) rfl) ?_
  refine TL.cons rfl (Step.load_box (c := .d (.ints .u8 a.f3)) rfl rfl (lt_ok rfl) (by kernel_rfl) rfl rfl rfl) ?_
  refine TL.cons rfl (Step.move (p := (.one (.d (.int .i64 (szB a.f2 left))))) rfl rfl (lt_ok rfl) rfl) ?_
  refine TL.cons rfl (Step.call (f := 76) (xs := [.tmp 12, .tmp 13]) (ps := [(.one (.d (.ints .u8 a.f3))), (.one (.d (.int .i64 (szB a.f2 left))))]) false (g := .func 76) rfl rfl (lt_ok rfl) rfl (by kernel_rfl) rfl (.cons (.one (.d _)) (.cons (.one (.d _)) .nil)) (ok_laws_szByteS a.f3 (szB a.f2 left) (by omega) (by omega)) (.inr rfl) rfl (by simp) rfl) ?_
  refine TL.cons rfl (Step.assign (p := (.one (.d (.int .i64 (szB a.f3 (szB a.f2 left)))))) rfl rfl (lt_ok rfl) rfl) ?_
  refine TL.nil ?_
  refine T.seq ?_
  refine T.seq ?_
  refine T.region ?_
  refine TL.cons rfl (Step.move (p := (.one (.d (.int .i64 (szB a.f3 (szB a.f2 left)))))) rfl rfl (lt_ok rfl) rfl) ?_
  refine TL.cons rfl (Step.bin rfl rfl (lt_ok rfl) rfl rfl (Bin.lss (k := .i64) (a := (szB a.f3 (szB a.f2 left))) (b := 0))) ?_
  refine TL.nil ?_
  refine T.cond (b := decide ((szB a.f3 (szB a.f2 left)) < 0)) rfl (fun h4 => ?_) (fun h4 => ?_)
  ·
   replace h4 := of_decide_eq_true h4
   refine T.seq ?_
   refine T.region ?_
   refine TL.cons rfl (Step.assign (p := (.one (.d (.int .i64 (-1))))) rfl rfl (lt_ok rfl) rfl) ?_
   refine TL.nil ?_
   refine T.ret ?_
   exact ⟨[(false, [.d (.int .i64 (-1))])], (.cons rfl .nil), rfl, [], (RetC.rd' (by first | rfl | (congr 1; simp only [SQc.sz, szThen]; repeat' (split <;> try omega))) .nil)⟩
  ·
   replace h4 := of_decide_eq_false h4
   have z3_le : szB a.f3 (szB a.f2 left) ≤ (szB a.f2 left) := szB_le _ (by omega)
   refine T.skip ?_
   refine T.seq ?_
   refine T.region ?_
   refine TL.cons rfl (Step.fieldAddr (q := 0) (off := 4) (n := 1) (one := true) rfl rfl (lt_ok rfl) (by kernel_rfl) (Nat.succ_ne_zero _) rfl) ?_
   refine TL.cons rfl (Step.load_box (c := .d (.bss a.f4)) rfl rfl (lt_ok rfl) (by kernel_rfl) rfl rfl rfl) ?_
   refine TL.cons rfl (Step.move (p := (.one (.d (.int .i64 (szB a.f3 (szB a.f2 left)))))) rfl rfl (lt_ok rfl) rfl) ?_
   refine TL.cons rfl (Step.call (f := 77) (xs := [.tmp 18, .tmp 19]) (ps := [(.one (.d (.bss a.f4))), (.one (.d (.int .i64 (szB a.f3 (szB a.f2 left)))))]) false (g := .func 77) rfl rfl (lt_ok rfl) rfl (by kernel_rfl) rfl (.cons (.one (.d _)) (.cons (.one (.d _)) .nil)) (ok_laws_szByteSS a.f4 (szB a.f3 (szB a.f2 left)) (by omega) (by omega)) (.inr rfl) rfl (by simp) rfl) ?_
   refine TL.cons rfl (Step.assign (p := (.one (.d (.int .i64 (szLs szB a.f4 (szB a.f3 (szB a.f2 left))))))) rfl rfl (lt_ok rfl) rfl) ?_
   refine TL.nil ?_
   refine T.seq ?_
   refine T.seq ?_
   refine T.region ?_
   refine TL.cons rfl (Step.move (p := (.one (.d (.int .i64 (szLs szB a.f4 (szB a.f3 (szB a.f2 left))))))) rfl rfl (lt_ok rfl) rfl) ?_
   refine TL.cons rfl (Step.bin rfl rfl (lt_ok rfl) rfl rfl (Bin.lss (k := .i64) (a := (szLs szB a.f4 (szB a.f3 (szB a.f2 left)))) (b := 0))) ?_
   refine TL.nil ?_
   refine T.cond (b := decide ((szLs szB a.f4 (szB a.f3 (szB a.f2 left))) < 0)) rfl (fun h6 => ?_) (fun h6 => ?_)
   ·
    replace h6 := of_decide_eq_true h6
    refine T.seq ?_
    refine T.region ?_
    refine TL.cons rfl (Step.assign (p := (.one (.d (.int .i64 (-1))))) rfl rfl (lt_ok rfl) rfl) ?_
    refine TL.nil ?_
    refine T.ret ?_
    exact ⟨[(false, [.d (.int .i64 (-1))])], (.cons rfl .nil), rfl, [], (RetC.rd' (by first | rfl | (congr 1; simp only [SQc.sz, szThen]; repeat' (split <;> try omega))) .nil)⟩
   ·
    replace h6 := of_decide_eq_false h6
    have z5_le : szLs szB a.f4 (szB a.f3 (szB a.f2 left)) ≤ (szB a.f3 (szB a.f2 left)) := szLs_le (fun x l h => szB_le x h) _ (by omega)
    refine T.skip ?_
    refine T.seq ?_
    refine T.region ?_
    refine TL.cons rfl (Step.move (p := (.one (.d (.int .i64 (szLs szB a.f4 (szB a.f3 (szB a.f2 left))))))) rfl rfl (lt_ok rfl) rfl) ?_
    refine TL.cons rfl (Step.assign (p := (.one (.d (.int .i64 (szLs szB a.f4 (szB a.f3 (szB a.f2 left))))))) rfl rfl (lt_ok rfl) rfl) ?_
    refine TL.nil ?_
    refine T.ret ?_
    exact ⟨[(false, [.d (.int .i64 (szLs szB a.f4 (szB a.f3 (szB a.f2 left))))])], (.cons rfl .nil), rfl, [], (RetC.rd' (by first | rfl | (congr 1; simp only [SQc.sz, szThen]; repeat' (split <;> try omega))) .nil)⟩
theorem ok_laws_toByteS (a : List Int) (h0_ : a.length ≤ 1048576) : RO Try.prog 49 [.one (.ints .u8 a)] [(false, [.own 5 (.ints .u8 a)])] := by
 refine RO.intro Try.func49 rfl 22 rfl (le_ok rfl) fun w Z => ?_
 refine T.bnd 0 0 rfl rfl fun hb_0_0 => ?_
 simp only [D.size, List.length_map] at hb_0_0
 have h0b := h0_
 refine T.seq ?_
 refine T.region ?_
 refine TL.cons rfl (Step.assign (p := (.one (.nil))) rfl rfl (lt_ok rfl) rfl) ?_
 refine TL.nil ?_
 refine T.seq ?_
 refine T.region ?_
 refine TL.cons rfl (Step.move (p := (.one (.d (.ints .u8 a)))) rfl rfl (lt_ok rfl) rfl) ?_
 refine TL.cons rfl (Step.len (e := 5) (z := 1) (d := (.ints .u8 a)) rfl rfl (lt_ok rfl) (by kernel_rfl) rfl rfl) ?_
 refine TL.cons rfl (Step.make (e := 5) (z := 1) (by_ := 1) (n := (a.length : Int)) (zs := [.int .u8 0]) (zd := [.int .u8 0]) (d := (.ints .u8 (List.replicate a.length 0))) rfl rfl (lt_ok rfl) (by kernel_rfl) (lt_ok rfl) rfl (by first | omega | (simp; omega)) (by first | omega | (simp; omega)) (by first | omega | (simp; omega)) (by kernel_rfl) (.val rfl .nil) rfl (by simp) (by simp [D.flat, List.flatten_replicate_singleton]) (by simp [D.size]) rfl trivial) ?_
 refine TL.cons rfl (Step.assign (p := (.one (.row 7 []))) rfl rfl (lt_ok rfl) rfl) ?_
 refine TL.nil ?_
 refine T.seq ?_
 refine T.seq ?_
 refine T.region ?_
 refine TL.cons rfl (Step.assign (p := (.one (.d (.int .i64 0)))) rfl rfl (lt_ok rfl) rfl) ?_
 refine TL.nil ?_
 refine T.block ?_
 refine T.loop (ι := Nat) (fun x => { tm := [(0, (.one (.d (.ints .u8 a)))), (2, (.one (.nil))), (3, (.one (.row 7 []))), (4, (.one (.d (.int .i64 (x : Int)))))], rows := [(7, (5, (.ints .u8 (a.take x ++ List.replicate (a.length - x) 0 : List Int))))], boxes := [] }) (fun x => x ≤ a.length) (fun x => a.length - x) 0 ?_ ?_ ?_
 · exact Env.le_mk ⟨rfl, rfl, rfl, by first | rfl | exact congrArg (fun x => some (5, ((.ints .u8 x) : D))) (fill_set a 0 0 i (by omega)), trivial⟩ ⟨by first | rfl | exact congrArg (fun x => some (5, ((.ints .u8 x) : D))) (fill_set a 0 0 i (by omega)), trivial⟩ trivial
 · exact Nat.zero_le _
 ·
  intro i hx
  try dsimp only at hx ⊢
  refine T.seq ?_
  refine T.seq ?_
  refine T.region ?_
  refine TL.cons rfl (Step.move (p := (.one (.d (.int .i64 (i : Int))))) rfl rfl (lt_ok rfl) rfl) ?_
  refine TL.cons rfl (Step.move (p := (.one (.d (.ints .u8 a)))) rfl rfl (lt_ok rfl) rfl) ?_
  refine TL.cons rfl (Step.len (e := 5) (z := 1) (d := (.ints .u8 a)) rfl rfl (lt_ok rfl) (by kernel_rfl) rfl rfl) ?_
  refine TL.cons rfl (Step.bin rfl rfl (lt_ok rfl) rfl rfl (Bin.lss (k := .i64) (a := (i : Int)) (b := (a.length : Int)))) ?_
  refine TL.nil ?_
  refine T.cond (b := decide ((i : Int) < (a.length : Int))) rfl (fun h1 => ?_) (fun h1 => ?_)
  ·
   replace h1 := of_decide_eq_true h1
   refine T.skip ?_
   refine T.seq ?_
   refine T.block ?_
   refine T.region ?_
   refine TL.cons rfl (Step.move (p := (.one (.row 7 []))) rfl rfl (lt_ok rfl) rfl) ?_
   refine TL.cons rfl (Step.move (p := (.one (.d (.int .i64 (i : Int))))) rfl rfl (lt_ok rfl) rfl) ?_
   refine TL.cons rfl (Step.move (p := (.one (.d (.ints .u8 a)))) rfl rfl (lt_ok rfl) rfl) ?_
   refine TL.cons rfl (Step.move (p := (.one (.d (.int .i64 (i : Int))))) rfl rfl (lt_ok rfl) rfl) ?_
   refine TL.cons rfl (Step.index (e := 5) (z := 1) (i := (i : Int)) rfl rfl (lt_ok rfl) (by kernel_rfl) rfl rfl rfl (lt_ok rfl) rfl (by first | omega | (simp; omega)) (by simp only [D.size]; first | omega | (simp; omega))) ?_
   refine TL.cons rfl (Step.load (e := (.int .u8 (a.getD i 0))) rfl rfl (lt_ok rfl) (by kernel_rfl) rfl rfl) ?_
   refine TL.cons rfl (Step.index_row (e := 5) (z := 1) (i := (i : Int)) rfl rfl (lt_ok rfl) (by kernel_rfl) rfl rfl rfl rfl (lt_ok rfl) rfl (by first | omega | (simp; omega)) (by simp only [D.at_, D.cell, D.size]; first | omega | (simp; omega))) ?_
   refine TL.cons rfl (Step.store_row (n := 1) (p := (.one (.d (.int .u8 (a.getD i 0))))) (ps := [.d (.int .u8 (a.getD i 0))]) (es := [(.int .u8 (a.getD i 0))]) (ss := []) (d1 := (.ints .u8 ((a.take i ++ List.replicate (a.length - i) 0 : List Int).set i (a.getD i 0)))) (d' := (.ints .u8 ((a.take i ++ List.replicate (a.length - i) 0 : List Int).set i (a.getD i 0)))) rfl rfl (by kernel_rfl) rfl rfl rfl rfl rfl rfl (.val rfl .nil) (by simp) (Putd.one rfl trivial rfl (by simp only [D.at_, D.size, List.length_set, upTo_length]; first | omega | (simp; omega)) (lt_ok rfl)) rfl) ?_
   refine TL.nil ?_
   refine T.region ?_
   refine TL.cons rfl (Step.move (p := (.one (.d (.int .i64 (i : Int))))) rfl rfl (lt_ok rfl) rfl) ?_
   refine TL.cons rfl (Step.bin (r := .int .i64 ((i : Int) + 1)) rfl rfl (lt_ok rfl) rfl rfl (Bin.add (a := (i : Int)) (b := 1) (by first | exact wrap_ok (by first | omega | (simp; omega)) (by first | omega | (simp; omega)) | rfl))) ?_
   refine TL.cons rfl (Step.assign (p := (.one (.d (.int .i64 ((i : Int) + 1))))) rfl rfl (lt_ok rfl) rfl) ?_
   refine TL.nil ?_
   exact ⟨i + 1, by omega, by omega, Env.le_mk ⟨rfl, rfl, rfl, by first | rfl | exact congrArg (fun x => some (5, ((.ints .u8 x) : D))) (fill_set a 0 0 i (by omega)), trivial⟩ ⟨by first | rfl | exact congrArg (fun x => some (5, ((.ints .u8 x) : D))) (fill_set a 0 0 i (by omega)), trivial⟩ trivial⟩
  ·
   replace h1 := of_decide_eq_false h1
   refine T.exit ?_
   refine T.seq ?_
   refine T.region ?_
   refine TL.cons rfl (Step.move (p := (.one (.row 7 []))) rfl rfl (lt_ok rfl) rfl) ?_
   refine TL.cons rfl (Step.assign (p := (.one (.row 7 []))) rfl rfl (lt_ok rfl) rfl) ?_
   refine TL.nil ?_
   refine T.ret ?_
   exact ⟨[(false, [.row 7 []])], (.cons rfl .nil), rfl, [7], (RetC.own' rfl (by first | rfl | (congr 1; rw [fill_all' _ _ _ (by omega)]) | (rw [fill_all' _ _ _ (by omega)])) rfl .nil)⟩
theorem ok_laws_toByteSS (a : List (List Int)) (h0_ : a.length ≤ 1048576 ∧ ∀ y ∈ a, y.length ≤ 1048576) : RO Try.prog 80 [.one (.bss a)] [(false, [.own 22 (.bss a)])] := by
 refine RO.intro Try.func80 rfl 23 rfl (le_ok rfl) fun w Z => ?_
 refine T.bnd 0 0 rfl rfl fun hb_0_0 => ?_
 simp only [D.size, List.length_map] at hb_0_0
 have h0b := h0_.1
 refine T.seq ?_
 refine T.region ?_
 refine TL.cons rfl (Step.assign (p := (.one (.nil))) rfl rfl (lt_ok rfl) rfl) ?_
 refine TL.nil ?_
 refine T.seq ?_
 refine T.region ?_
 refine TL.cons rfl (Step.move (p := (.one (.d (.bss a)))) rfl rfl (lt_ok rfl) rfl) ?_
 refine TL.cons rfl (Step.len (e := 22) (z := 1) (d := (.bss a)) rfl rfl (lt_ok rfl) (by kernel_rfl) rfl rfl) ?_
 refine TL.cons rfl (Step.make (e := 22) (z := 1) (by_ := 24) (n := (a.length : Int)) (zs := [.slice none 0 0]) (zd := [.ints .u8 []]) (d := (.bss (List.replicate a.length []))) rfl rfl (lt_ok rfl) (by kernel_rfl) (lt_ok rfl) rfl (by first | omega | (simp; omega)) (by first | omega | (simp; omega)) (by first | omega | (simp; omega)) (by kernel_rfl) (.empty rfl rfl trivial .nil) rfl (by simp) (by simp [D.flat, List.flatten_replicate_singleton]) (by simp [D.size]) rfl trivial) ?_
 refine TL.cons rfl (Step.assign (p := (.one (.row 7 []))) rfl rfl (lt_ok rfl) rfl) ?_
 refine TL.nil ?_
 refine T.seq ?_
 refine T.seq ?_
 refine T.region ?_
 refine TL.cons rfl (Step.assign (p := (.one (.d (.int .i64 0)))) rfl rfl (lt_ok rfl) rfl) ?_
 refine TL.nil ?_
 refine T.block ?_
 refine T.loop (ι := Nat) (fun x => { tm := [(0, (.one (.d (.bss a)))), (2, (.one (.nil))), (3, (.one (.row 7 []))), (4, (.one (.d (.int .i64 (x : Int)))))], rows := [(7, (22, (.bss (a.take x ++ List.replicate (a.length - x) [] : List (List Int)))))], boxes := [] }) (fun x => x ≤ a.length) (fun x => a.length - x) 0 ?_ ?_ ?_
 · exact Env.le_mk ⟨rfl, rfl, rfl, by first | rfl | exact congrArg (fun x => some (22, ((.bss x) : D))) (fill_set a [] [] i (by omega)), trivial⟩ ⟨by first | rfl | exact congrArg (fun x => some (22, ((.bss x) : D))) (fill_set a [] [] i (by omega)), trivial⟩ trivial
 · exact Nat.zero_le _
 ·
  intro i hx
  try dsimp only at hx ⊢
  refine T.seq ?_
  refine T.seq ?_
  refine T.region ?_
  refine TL.cons rfl (Step.move (p := (.one (.d (.int .i64 (i : Int))))) rfl rfl (lt_ok rfl) rfl) ?_
  refine TL.cons rfl (Step.move (p := (.one (.d (.bss a)))) rfl rfl (lt_ok rfl) rfl) ?_
  refine TL.cons rfl (Step.len (e := 22) (z := 1) (d := (.bss a)) rfl rfl (lt_ok rfl) (by kernel_rfl) rfl rfl) ?_
  refine TL.cons rfl (Step.bin rfl rfl (lt_ok rfl) rfl rfl (Bin.lss (k := .i64) (a := (i : Int)) (b := (a.length : Int)))) ?_
  refine TL.nil ?_
  refine T.cond (b := decide ((i : Int) < (a.length : Int))) rfl (fun h1 => ?_) (fun h1 => ?_)
  ·
   replace h1 := of_decide_eq_true h1
   refine T.skip ?_
   refine T.seq ?_
   refine T.block ?_
   refine T.region ?_
   refine TL.cons rfl (Step.move (p := (.one (.row 7 []))) rfl rfl (lt_ok rfl) rfl) ?_
   refine TL.cons rfl (Step.move (p := (.one (.d (.int .i64 (i : Int))))) rfl rfl (lt_ok rfl) rfl) ?_
   refine TL.cons rfl (Step.move (p := (.one (.d (.bss a)))) rfl rfl (lt_ok rfl) rfl) ?_
   refine TL.cons rfl (Step.move (p := (.one (.d (.int .i64 (i : Int))))) rfl rfl (lt_ok rfl) rfl) ?_
   refine TL.cons rfl (Step.index (e := 22) (z := 1) (i := (i : Int)) rfl rfl (lt_ok rfl) (by kernel_rfl) rfl rfl rfl (lt_ok rfl) rfl (by first | omega | (simp; omega)) (by simp only [D.size]; first | omega | (simp; omega))) ?_
   refine TL.cons rfl (Step.load (e := (.ints .u8 (a.getD i []))) rfl rfl (lt_ok rfl) (by kernel_rfl) rfl rfl) ?_
   refine TL.cons rfl (Step.call (f := 49) (xs := [.tmp 19]) (ps := [(.one (.d (.ints .u8 (a.getD i []))))]) false (g := .func 49) rfl rfl (lt_ok rfl) rfl (by kernel_rfl) rfl (.cons (.one (.d _)) .nil) (ok_laws_toByteS (a.getD i []) (by first | omega | assumption | exact mem_getD h0_.2 (by omega))) (.inr rfl) rfl (by simp) rfl) ?_
   refine TL.cons rfl (Step.index_row (e := 22) (z := 1) (i := (i : Int)) rfl rfl (lt_ok rfl) (by kernel_rfl) rfl rfl rfl rfl (lt_ok rfl) rfl (by first | omega | (simp; omega)) (by simp only [D.at_, D.cell, D.size]; first | omega | (simp; omega))) ?_
   refine TL.cons rfl (Step.store_row (n := 1) (p := (.one (.row 1020 []))) (ps := [.row 1020 []]) (es := [(.ints .u8 (a.getD i []))]) (ss := [1020]) (d1 := (.bss ((a.take i ++ List.replicate (a.length - i) [] : List (List Int)).set i (a.getD i [])))) (d' := (.bss ((a.take i ++ List.replicate (a.length - i) [] : List (List Int)).set i (a.getD i [])))) rfl rfl (by kernel_rfl) rfl rfl rfl rfl rfl rfl (.row rfl (by simp) .nil) (by simp) (Putd.one rfl trivial rfl (by simp only [D.at_, D.size, List.length_set, upTo_length]; first | omega | (simp; omega)) (lt_ok rfl)) rfl) ?_
   refine TL.nil ?_
   refine T.region ?_
   refine TL.cons rfl (Step.move (p := (.one (.d (.int .i64 (i : Int))))) rfl rfl (lt_ok rfl) rfl) ?_
   refine TL.cons rfl (Step.bin (r := .int .i64 ((i : Int) + 1)) rfl rfl (lt_ok rfl) rfl rfl (Bin.add (a := (i : Int)) (b := 1) (by first | exact wrap_ok (by first | omega | (simp; omega)) (by first | omega | (simp; omega)) | rfl))) ?_
   refine TL.cons rfl (Step.assign (p := (.one (.d (.int .i64 ((i : Int) + 1))))) rfl rfl (lt_ok rfl) rfl) ?_
   refine TL.nil ?_
   exact ⟨i + 1, by omega, by omega, Env.le_mk ⟨rfl, rfl, rfl, by first | rfl | exact congrArg (fun x => some (22, ((.bss x) : D))) (fill_set a [] [] i (by omega)), trivial⟩ ⟨by first | rfl | exact congrArg (fun x => some (22, ((.bss x) : D))) (fill_set a [] [] i (by omega)), trivial⟩ trivial⟩
  ·
   replace h1 := of_decide_eq_false h1
   refine T.exit ?_
   refine T.seq ?_
   refine T.region ?_
   refine TL.cons rfl (Step.move (p := (.one (.row 7 []))) rfl rfl (lt_ok rfl) rfl) ?_
   refine TL.cons rfl (Step.assign (p := (.one (.row 7 []))) rfl rfl (lt_ok rfl) rfl) ?_
   refine TL.nil ?_
   refine T.ret ?_
   exact ⟨[(false, [.row 7 []])], (.cons rfl .nil), rfl, [7], (RetC.own' rfl (by first | rfl | (congr 1; rw [fill_all' _ _ _ (by omega)]) | (rw [fill_all' _ _ _ (by omega)])) rfl .nil)⟩
theorem ok_laws_toQc (a : SQc) (h0_ : a.sm) : RO Try.prog 17 [.agg a.cells] [(true, [.rd (.int .i64 a.f0), .rd (.int .i64 a.f1), .own 5 (.ints .u8 a.f2), .own 5 (.ints .u8 a.f3), .own 22 (.bss a.f4)])] := by
 refine RO.intro Try.func17 rfl 23 rfl (le_ok rfl) fun w Z => ?_
 obtain ⟨s0, s1, s2⟩ := h0_
 refine T.seq ?_
 refine T.region ?_
 refine TL.cons rfl (Step.box (p := (.agg [.d (.int .i64 a.f0), .d (.int .i64 a.f1), .d (.ints .u8 a.f2), .d (.ints .u8 a.f3), .d (.bss a.f4)])) (ps := [.d (.int .i64 a.f0), .d (.int .i64 a.f1), .d (.ints .u8 a.f2), .d (.ints .u8 a.f3), .d (.bss a.f4)]) rfl rfl (lt_ok rfl) rfl rfl rfl rfl rfl) ?_
 refine TL.cons rfl (Step.alloc (cs := [.int .i64 0, .int .i64 0, .slice none 0 0, .slice none 0 0, .slice none 0 0]) (ps := [.d (.int .i64 0), .d (.int .i64 0), .nil, .nil, .nil]) rfl rfl (lt_ok rfl) (by kernel_rfl) rfl rfl rfl rfl) ?_
 refine TL.nil ?_
 refine T.seq ?_
 refine T.region ?_
 refine TL.cons rfl (Step.alloc (cs := [.int .i64 0, .int .i64 0, .slice none 0 0, .slice none 0 0, .slice none 0 0]) (ps := [.d (.int .i64 0), .d (.int .i64 0), .nil, .nil, .nil]) rfl rfl (lt_ok rfl) (by kernel_rfl) rfl rfl rfl rfl) ?_
 refine TL.nil ?_
 refine T.seq ?_
 refine T.region ?_
 refine TL.cons rfl (Step.fieldAddr (q := 0) (off := 0) (n := 1) (one := true) rfl rfl (lt_ok rfl) (by kernel_rfl) (Nat.succ_ne_zero _) rfl) ?_
 refine TL.cons rfl (Step.load_box (c := .d (.int .i64 a.f0)) rfl rfl (lt_ok rfl) (by kernel_rfl) rfl rfl rfl) ?_
 refine TL.cons rfl (Step.fieldAddr (q := 0) (off := 0) (n := 1) (one := true) rfl rfl (lt_ok rfl) (by kernel_rfl) (Nat.succ_ne_zero _) rfl) ?_
 refine TL.cons rfl (Step.store_box (n := 1) (p := (.one (.d (.int .i64 a.f0)))) (qs := [.d (.int .i64 a.f0)]) (ps' := [.d (.int .i64 a.f0), .d (.int .i64 0), .nil, .nil, .nil]) rfl rfl (by kernel_rfl) rfl rfl rfl rfl rfl rfl (le_ok rfl) rfl) ?_
 refine TL.nil ?_
 refine T.seq ?_
 refine T.region ?_
 refine TL.cons rfl (Step.fieldAddr (q := 0) (off := 1) (n := 1) (one := true) rfl rfl (lt_ok rfl) (by kernel_rfl) (Nat.succ_ne_zero _) rfl) ?_
 refine TL.cons rfl (Step.load_box (c := .d (.int .i64 a.f1)) rfl rfl (lt_ok rfl) (by kernel_rfl) rfl rfl rfl) ?_
 refine TL.cons rfl (Step.fieldAddr (q := 0) (off := 1) (n := 1) (one := true) rfl rfl (lt_ok rfl) (by kernel_rfl) (Nat.succ_ne_zero _) rfl) ?_
 refine TL.cons rfl (Step.store_box (n := 1) (p := (.one (.d (.int .i64 a.f1)))) (qs := [.d (.int .i64 a.f1)]) (ps' := [.d (.int .i64 a.f0), .d (.int .i64 a.f1), .nil, .nil, .nil]) rfl rfl (by kernel_rfl) rfl rfl rfl rfl rfl rfl (le_ok rfl) rfl) ?_
 refine TL.nil ?_
 refine T.seq ?_
 refine T.region ?_
 refine TL.cons rfl (Step.fieldAddr (q := 0) (off := 2) (n := 1) (one := true) rfl rfl (lt_ok rfl) (by kernel_rfl) (Nat.succ_ne_zero _) rfl) ?_
 refine TL.cons rfl (Step.load_box (c := .d (.ints .u8 a.f2)) rfl rfl (lt_ok rfl) (by kernel_rfl) rfl rfl rfl) ?_
 refine TL.cons rfl (Step.call (f := 49) (xs := [.tmp 11]) (ps := [(.one (.d (.ints .u8 a.f2)))]) false (g := .func 49) rfl rfl (lt_ok rfl) rfl (by kernel_rfl) rfl (.cons (.one (.d _)) .nil) (ok_laws_toByteS a.f2 (by first | omega | assumption | exact mem_getD h0_.2 (by omega))) (.inr rfl) rfl (by simp) rfl) ?_
 refine TL.cons rfl (Step.fieldAddr (q := 0) (off := 2) (n := 1) (one := true) rfl rfl (lt_ok rfl) (by kernel_rfl) (Nat.succ_ne_zero _) rfl) ?_
 refine TL.cons rfl (Step.store_box (n := 1) (p := (.one (.row 1012 []))) (qs := [.row 1012 []]) (ps' := [.d (.int .i64 a.f0), .d (.int .i64 a.f1), .row 1012 [], .nil, .nil]) rfl rfl (by kernel_rfl) rfl rfl rfl rfl rfl rfl (le_ok rfl) rfl) ?_
 refine TL.nil ?_
 refine T.seq ?_
 refine T.region ?_
 refine TL.cons rfl (Step.fieldAddr (q := 0) (off := 3) (n := 1) (one := true) rfl rfl (lt_ok rfl) (by kernel_rfl) (Nat.succ_ne_zero _) rfl) ?_
 refine TL.cons rfl (Step.load_box (c := .d (.ints .u8 a.f3)) rfl rfl (lt_ok rfl) (by kernel_rfl) rfl rfl rfl) ?_
 refine TL.cons rfl (Step.call (f := 49) (xs := [.tmp 15]) (ps := [(.one (.d (.ints .u8 a.f3)))]) false (g := .func 49) rfl rfl (lt_ok rfl) rfl (by kernel_rfl) rfl (.cons (.one (.d _)) .nil) (ok_laws_toByteS a.f3 (by first | omega | assumption | exact mem_getD h0_.2 (by omega))) (.inr rfl) rfl (by simp) rfl) ?_
 refine TL.cons rfl (Step.fieldAddr (q := 0) (off := 3) (n := 1) (one := true) rfl rfl (lt_ok rfl) (by kernel_rfl) (Nat.succ_ne_zero _) rfl) ?_
 refine TL.cons rfl (Step.store_box (n := 1) (p := (.one (.row 1016 []))) (qs := [.row 1016 []]) (ps' := [.d (.int .i64 a.f0), .d (.int .i64 a.f1), .row 1012 [], .row 1016 [], .nil]) rfl rfl (by kernel_rfl) rfl rfl rfl rfl rfl rfl (le_ok rfl) rfl) ?_
 refine TL.nil ?_
 refine T.seq ?_
 refine T.region ?_
 refine TL.cons rfl (Step.fieldAddr (q := 0) (off := 4) (n := 1) (one := true) rfl rfl (lt_ok rfl) (by kernel_rfl) (Nat.succ_ne_zero _) rfl) ?_
 refine TL.cons rfl (Step.load_box (c := .d (.bss a.f4)) rfl rfl (lt_ok rfl) (by kernel_rfl) rfl rfl rfl) ?_
 refine TL.cons rfl (Step.call (f := 80) (xs := [.tmp 19]) (ps := [(.one (.d (.bss a.f4)))]) false (g := .func 80) rfl rfl (lt_ok rfl) rfl (by kernel_rfl) rfl (.cons (.one (.d _)) .nil) (ok_laws_toByteSS a.f4 (by first | assumption | exact ⟨‹_›, ‹_›⟩ | exact mem_getD h0_.2 (by omega))) (.inr rfl) rfl (by simp) rfl) ?_
 refine TL.cons rfl (Step.fieldAddr (q := 0) (off := 4) (n := 1) (one := true) rfl rfl (lt_ok rfl) (by kernel_rfl) (Nat.succ_ne_zero _) rfl) ?_
 refine TL.cons rfl (Step.store_box (n := 1) (p := (.one (.row 1020 []))) (qs := [.row 1020 []]) (ps' := [.d (.int .i64 a.f0), .d (.int .i64 a.f1), .row 1012 [], .row 1016 [], .row 1020 []]) rfl rfl (by kernel_rfl) rfl rfl rfl rfl rfl rfl (le_ok rfl) rfl) ?_
 refine TL.nil ?_
 refine T.seq ?_
 refine T.region ?_
 refine TL.cons rfl (Step.load_box_agg (n := 5) (qs := [.d (.int .i64 a.f0), .d (.int .i64 a.f1), .row 1012 [], .row 1016 [], .row 1020 []]) rfl rfl (lt_ok rfl) (by kernel_rfl) rfl rfl rfl rfl) ?_
 refine TL.cons rfl (Step.store_box (n := 5) (p := (.agg [.d (.int .i64 a.f0), .d (.int .i64 a.f1), .row 1012 [], .row 1016 [], .row 1020 []])) (qs := [.d (.int .i64 a.f0), .d (.int .i64 a.f1), .row 1012 [], .row 1016 [], .row 1020 []]) (ps' := [.d (.int .i64 a.f0), .d (.int .i64 a.f1), .row 1012 [], .row 1016 [], .row 1020 []]) rfl rfl (by kernel_rfl) rfl rfl rfl rfl rfl rfl (le_ok rfl) rfl) ?_
 refine TL.nil ?_
 refine T.ret ?_
 exact ⟨[(true, [.d (.int .i64 a.f0), .d (.int .i64 a.f1), .row 1012 [], .row 1016 [], .row 1020 []])], (.cons rfl .nil), rfl, [1012, 1016, 1020], (RetC.rd' (by rfl) (RetC.rd' (by rfl) (RetC.own' rfl (by rfl) rfl (RetC.own' rfl (by rfl) rfl (RetC.own' rfl (by rfl) rfl .nil)))))⟩
theorem ok_laws_eqByteS (a : List Int) (b : List Int) : RO Try.prog 29 [.one (.ints .u8 a), .one (.ints .u8 b)] [(false, [.rd (.bool (decide (a = b)))])] := by
 refine RO.intro Try.func29 rfl 26 rfl (le_ok rfl) fun w Z => ?_
 refine T.bnd 0 0 rfl rfl fun hb_0_0 => ?_
 simp only [D.size, List.length_map] at hb_0_0
 refine T.bnd 1 0 rfl rfl fun hb_1_0 => ?_
 simp only [D.size, List.length_map] at hb_1_0
 refine T.seq ?_
 refine T.region ?_
 refine TL.cons rfl (Step.assign (p := (.one (.d (.bool false)))) rfl rfl (lt_ok rfl) rfl) ?_
 refine TL.nil ?_
 refine T.seq ?_
 refine T.seq ?_
 refine T.region ?_
 refine TL.cons rfl (Step.move (p := (.one (.d (.ints .u8 a)))) rfl rfl (lt_ok rfl) rfl) ?_
 refine TL.cons rfl (Step.len (e := 5) (z := 1) (d := (.ints .u8 a)) rfl rfl (lt_ok rfl) (by kernel_rfl) rfl rfl) ?_
 refine TL.cons rfl (Step.move (p := (.one (.d (.ints .u8 b)))) rfl rfl (lt_ok rfl) rfl) ?_
 refine TL.cons rfl (Step.len (e := 5) (z := 1) (d := (.ints .u8 b)) rfl rfl (lt_ok rfl) (by kernel_rfl) rfl rfl) ?_
 refine TL.cons rfl (Step.bin rfl rfl (lt_ok rfl) rfl rfl (Bin.neq (k := .i64) (a := (a.length : Int)) (b := (b.length : Int)))) ?_
 refine TL.nil ?_
 refine T.cond (b := decide ((a.length : Int) ≠ (b.length : Int))) rfl (fun h1 => ?_) (fun h1 => ?_)
 ·
  replace h1 := of_decide_eq_true h1
  refine T.seq ?_
  refine T.region ?_
  refine TL.cons rfl (Step.assign (p := (.one (.d (.bool false)))) rfl rfl (lt_ok rfl) rfl) ?_
  refine TL.nil ?_
  refine T.ret ?_
  exact ⟨[(false, [.d (.bool false)])], (.cons rfl .nil), rfl, [], (RetC.rd' (by (congr 1; symm; first | (apply decide_eq_false; rintro rfl; first | exact absurd rfl ‹¬ _ = _› | exact absurd rfl (of_decide_eq_false (by assumption)) | contradiction | simp_all) | (apply decide_eq_true; exact take_all hx2 (by omega) hx3))) .nil)⟩
 ·
  replace h1 := of_decide_eq_false h1
  refine T.skip ?_
  refine T.seq ?_
  refine T.seq ?_
  refine T.region ?_
  refine TL.cons rfl (Step.assign (p := (.one (.d (.int .i64 0)))) rfl rfl (lt_ok rfl) rfl) ?_
  refine TL.nil ?_
  refine T.block ?_
  refine T.loop (ι := Nat) (fun x => { tm := [(0, (.one (.d (.ints .u8 a)))), (1, (.one (.d (.ints .u8 b)))), (5, (.one (.d (.int .i64 (x : Int)))))], rows := [], boxes := [] }) (fun x => x ≤ a.length ∧ a.length = b.length ∧ a.take x = b.take x) (fun x => a.length - x) 0 ?_ ?_ ?_
  · exact Env.le_mk ⟨rfl, rfl, by first | rfl | (simp; done) | (congr 3; omega), trivial⟩ trivial trivial
  · (refine ⟨Nat.zero_le _, by omega, by simp⟩)
  ·
   intro i hx
   try dsimp only at hx ⊢
   obtain ⟨hx1, hx2, hx3⟩ := hx
   refine T.seq ?_
   refine T.seq ?_
   refine T.region ?_
   refine TL.cons rfl (Step.move (p := (.one (.d (.int .i64 (i : Int))))) rfl rfl (lt_ok rfl) rfl) ?_
   refine TL.cons rfl (Step.move (p := (.one (.d (.ints .u8 a)))) rfl rfl (lt_ok rfl) rfl) ?_
   refine TL.cons rfl (Step.len (e := 5) (z := 1) (d := (.ints .u8 a)) rfl rfl (lt_ok rfl) (by kernel_rfl) rfl rfl) ?_
   refine TL.cons rfl (Step.bin rfl rfl (lt_ok rfl) rfl rfl (Bin.lss (k := .i64) (a := (i : Int)) (b := (a.length : Int)))) ?_
   refine TL.nil ?_
   refine T.cond (b := decide ((i : Int) < (a.length : Int))) rfl (fun h2 => ?_) (fun h2 => ?_)
   ·
    replace h2 := of_decide_eq_true h2
    refine T.skip ?_
    refine T.seq ?_
    refine T.block ?_
    refine T.seq ?_
    refine T.draw [⟨17, (.one (.d (.ints .u8 a))), []⟩, ⟨18, (.one (.d (.int .i64 (i : Int)))), []⟩, ⟨19, (.one (.eptr (.ints .u8 a) i 0)), []⟩, ⟨20, (.one (.d (.int .u8 (a.getD i 0)))), []⟩, ⟨21, (.one (.d (.ints .u8 b))), []⟩, ⟨22, (.one (.d (.int .i64 (i : Int)))), []⟩, ⟨23, (.one (.eptr (.ints .u8 b) i 0)), []⟩, ⟨24, (.one (.d (.int .u8 (b.getD i 0)))), []⟩, ⟨25, (.one (.d (.bool (decide ((a.getD i 0) ≠ (b.getD i 0)))))), []⟩] (by kernel_rfl) (by kernel_rfl) ?_ ?_
    ·
     refine .cons (fun E h => by have g0 := h.get 0 (by decide); exact OpStep.plain rfl (Step.move (p := (.one (.d (.ints .u8 a)))) (t := 17) rfl rfl (by exact lt_ok rfl) (show Env.ev E (.tmp 0) = _ from g0.trans rfl))) ?_
     refine .cons (fun E h => by have g5 := h.get 5 (by decide); exact OpStep.plain rfl (Step.move (p := (.one (.d (.int .i64 (i : Int))))) (t := 18) rfl rfl (by exact lt_ok rfl) (show Env.ev E (.tmp 5) = _ from g5.trans rfl))) ?_
     refine .cons (fun E h => by have g17 := h.get 17 (by decide); have g18 := h.get 18 (by decide); exact OpStep.plain rfl (Step.index (e := 5) (z := 1) (i := (i : Int)) (t := 19) rfl rfl (by exact lt_ok rfl) (by kernel_rfl) (show Env.ev E (.tmp 17) = _ from g17.trans rfl) rfl rfl (lt_ok rfl) (show Env.ev E (.tmp 18) = _ from g18.trans rfl) (by first | omega | (simp; omega)) (by simp only [D.size]; first | omega | (simp; omega)))) ?_
     refine .cons (fun E h => by have g19 := h.get 19 (by decide); exact OpStep.plain rfl (Step.load (e := (.int .u8 (a.getD i 0))) (t := 20) rfl rfl (by exact lt_ok rfl) (by kernel_rfl) (show Env.ev E (.tmp 19) = _ from g19.trans rfl) rfl)) ?_
     refine .cons (fun E h => by have g1 := h.get 1 (by decide); exact OpStep.plain rfl (Step.move (p := (.one (.d (.ints .u8 b)))) (t := 21) rfl rfl (by exact lt_ok rfl) (show Env.ev E (.tmp 1) = _ from g1.trans rfl))) ?_
     refine .cons (fun E h => by have g5 := h.get 5 (by decide); exact OpStep.plain rfl (Step.move (p := (.one (.d (.int .i64 (i : Int))))) (t := 22) rfl rfl (by exact lt_ok rfl) (show Env.ev E (.tmp 5) = _ from g5.trans rfl))) ?_
     refine .cons (fun E h => by have g21 := h.get 21 (by decide); have g22 := h.get 22 (by decide); exact OpStep.plain rfl (Step.index (e := 5) (z := 1) (i := (i : Int)) (t := 23) rfl rfl (by exact lt_ok rfl) (by kernel_rfl) (show Env.ev E (.tmp 21) = _ from g21.trans rfl) rfl rfl (lt_ok rfl) (show Env.ev E (.tmp 22) = _ from g22.trans rfl) (by first | omega | (simp; omega)) (by simp only [D.size]; first | omega | (simp; omega)))) ?_
     refine .cons (fun E h => by have g23 := h.get 23 (by decide); exact OpStep.plain rfl (Step.load (e := (.int .u8 (b.getD i 0))) (t := 24) rfl rfl (by exact lt_ok rfl) (by kernel_rfl) (show Env.ev E (.tmp 23) = _ from g23.trans rfl) rfl)) ?_
     refine .cons (fun E h => by have g20 := h.get 20 (by decide); have g24 := h.get 24 (by decide); exact OpStep.plain rfl (Step.bin (t := 25) rfl rfl (by exact lt_ok rfl) (show Env.ev E (.tmp 20) = _ from g20.trans rfl) (show Env.ev E (.tmp 24) = _ from g24.trans rfl) (Bin.neq (k := .u8) (a := (a.getD i 0)) (b := (b.getD i 0))))) ?_
     exact .nil _ _
    refine TL.nil ?_
    refine T.cond (b := decide ((a.getD i 0) ≠ (b.getD i 0))) rfl (fun h3 => ?_) (fun h3 => ?_)
    ·
     replace h3 := of_decide_eq_true h3
     refine T.seq ?_
     refine T.region ?_
     refine TL.cons rfl (Step.assign (p := (.one (.d (.bool false)))) rfl rfl (lt_ok rfl) rfl) ?_
     refine TL.nil ?_
     refine T.ret ?_
     exact ⟨[(false, [.d (.bool false)])], (.cons rfl .nil), rfl, [], (RetC.rd' (by (congr 1; symm; first | (apply decide_eq_false; rintro rfl; first | exact absurd rfl ‹¬ _ = _› | exact absurd rfl (of_decide_eq_false (by assumption)) | contradiction | simp_all) | (apply decide_eq_true; exact take_all hx2 (by omega) hx3))) .nil)⟩
    ·
     replace h3 := of_decide_eq_false h3
     refine T.skip ?_
     refine T.region ?_
     refine TL.cons rfl (Step.move (p := (.one (.d (.int .i64 (i : Int))))) rfl rfl (lt_ok rfl) rfl) ?_
     refine TL.cons rfl (Step.bin (r := .int .i64 ((i : Int) + 1)) rfl rfl (lt_ok rfl) rfl rfl (Bin.add (a := (i : Int)) (b := 1) (by first | exact wrap_ok (by first | omega | (simp; omega)) (by first | omega | (simp; omega)) | rfl))) ?_
     refine TL.cons rfl (Step.assign (p := (.one (.d (.int .i64 ((i : Int) + 1))))) rfl rfl (lt_ok rfl) rfl) ?_
     refine TL.nil ?_
     exact ⟨i + 1, by (refine ⟨by omega, hx2, take_step (d := 0) hx2 (by omega) hx3 (by first | assumption | exact Decidable.not_not.1 (by assumption) | omega)⟩), by omega, Env.le_mk ⟨rfl, rfl, by first | rfl | (simp; done) | (congr 3; omega), trivial⟩ trivial trivial⟩
   ·
    replace h2 := of_decide_eq_false h2
    refine T.exit ?_
    refine T.seq ?_
    refine T.region ?_
    refine TL.cons rfl (Step.assign (p := (.one (.d (.bool true)))) rfl rfl (lt_ok rfl) rfl) ?_
    refine TL.nil ?_
    refine T.ret ?_
    exact ⟨[(false, [.d (.bool true)])], (.cons rfl .nil), rfl, [], (RetC.rd' (by (congr 1; symm; first | (apply decide_eq_false; rintro rfl; first | exact absurd rfl ‹¬ _ = _› | exact absurd rfl (of_decide_eq_false (by assumption)) | contradiction | simp_all) | (apply decide_eq_true; exact take_all hx2 (by omega) hx3))) .nil)⟩
theorem ok_laws_eqByteSS (a : List (List Int)) (b : List (List Int)) : RO Try.prog 84 [.one (.bss a), .one (.bss b)] [(false, [.rd (.bool (decide (a = b)))])] := by
 refine RO.intro Try.func84 rfl 27 rfl (le_ok rfl) fun w Z => ?_
 refine T.bnd 0 0 rfl rfl fun hb_0_0 => ?_
 simp only [D.size, List.length_map] at hb_0_0
 refine T.bnd 1 0 rfl rfl fun hb_1_0 => ?_
 simp only [D.size, List.length_map] at hb_1_0
 refine T.seq ?_
 refine T.region ?_
 refine TL.cons rfl (Step.assign (p := (.one (.d (.bool false)))) rfl rfl (lt_ok rfl) rfl) ?_
 refine TL.nil ?_
 refine T.seq ?_
 refine T.seq ?_
 refine T.region ?_
 refine TL.cons rfl (Step.move (p := (.one (.d (.bss a)))) rfl rfl (lt_ok rfl) rfl) ?_
 refine TL.cons rfl (Step.len (e := 22) (z := 1) (d := (.bss a)) rfl rfl (lt_ok rfl) (by kernel_rfl) rfl rfl) ?_
 refine TL.cons rfl (Step.move (p := (.one (.d (.bss b)))) rfl rfl (lt_ok rfl) rfl) ?_
 refine TL.cons rfl (Step.len (e := 22) (z := 1) (d := (.bss b)) rfl rfl (lt_ok rfl) (by kernel_rfl) rfl rfl) ?_
 refine TL.cons rfl (Step.bin rfl rfl (lt_ok rfl) rfl rfl (Bin.neq (k := .i64) (a := (a.length : Int)) (b := (b.length : Int)))) ?_
 refine TL.nil ?_
 refine T.cond (b := decide ((a.length : Int) ≠ (b.length : Int))) rfl (fun h1 => ?_) (fun h1 => ?_)
 ·
  replace h1 := of_decide_eq_true h1
  refine T.seq ?_
  refine T.region ?_
  refine TL.cons rfl (Step.assign (p := (.one (.d (.bool false)))) rfl rfl (lt_ok rfl) rfl) ?_
  refine TL.nil ?_
  refine T.ret ?_
  exact ⟨[(false, [.d (.bool false)])], (.cons rfl .nil), rfl, [], (RetC.rd' (by (congr 1; symm; first | (apply decide_eq_false; rintro rfl; first | exact absurd rfl ‹¬ _ = _› | exact absurd rfl (of_decide_eq_false (by assumption)) | contradiction | simp_all) | (apply decide_eq_true; exact take_all hx2 (by omega) hx3))) .nil)⟩
 ·
  replace h1 := of_decide_eq_false h1
  refine T.skip ?_
  refine T.seq ?_
  refine T.seq ?_
  refine T.region ?_
  refine TL.cons rfl (Step.assign (p := (.one (.d (.int .i64 0)))) rfl rfl (lt_ok rfl) rfl) ?_
  refine TL.nil ?_
  refine T.block ?_
  refine T.loop (ι := Nat) (fun x => { tm := [(0, (.one (.d (.bss a)))), (1, (.one (.d (.bss b)))), (5, (.one (.d (.int .i64 (x : Int)))))], rows := [], boxes := [] }) (fun x => x ≤ a.length ∧ a.length = b.length ∧ a.take x = b.take x) (fun x => a.length - x) 0 ?_ ?_ ?_
  · exact Env.le_mk ⟨rfl, rfl, by first | rfl | (simp; done) | (congr 3; omega), trivial⟩ trivial trivial
  · (refine ⟨Nat.zero_le _, by omega, by simp⟩)
  ·
   intro i hx
   try dsimp only at hx ⊢
   obtain ⟨hx1, hx2, hx3⟩ := hx
   refine T.seq ?_
   refine T.seq ?_
   refine T.region ?_
   refine TL.cons rfl (Step.move (p := (.one (.d (.int .i64 (i : Int))))) rfl rfl (lt_ok rfl) rfl) ?_
   refine TL.cons rfl (Step.move (p := (.one (.d (.bss a)))) rfl rfl (lt_ok rfl) rfl) ?_
   refine TL.cons rfl (Step.len (e := 22) (z := 1) (d := (.bss a)) rfl rfl (lt_ok rfl) (by kernel_rfl) rfl rfl) ?_
   refine TL.cons rfl (Step.bin rfl rfl (lt_ok rfl) rfl rfl (Bin.lss (k := .i64) (a := (i : Int)) (b := (a.length : Int)))) ?_
   refine TL.nil ?_
   refine T.cond (b := decide ((i : Int) < (a.length : Int))) rfl (fun h2 => ?_) (fun h2 => ?_)
   ·
    replace h2 := of_decide_eq_true h2
    refine T.skip ?_
    refine T.seq ?_
    refine T.block ?_
    refine T.seq ?_
    refine T.draw [⟨17, (.one (.d (.bss a))), []⟩, ⟨18, (.one (.d (.int .i64 (i : Int)))), []⟩, ⟨19, (.one (.eptr (.bss a) i 0)), []⟩, ⟨20, (.one (.d (.ints .u8 (a.getD i [])))), []⟩, ⟨21, (.one (.d (.bss b))), []⟩, ⟨22, (.one (.d (.int .i64 (i : Int)))), []⟩, ⟨23, (.one (.eptr (.bss b) i 0)), []⟩, ⟨24, (.one (.d (.ints .u8 (b.getD i [])))), []⟩, ⟨25, (.one (.d (.bool (decide ((a.getD i []) = (b.getD i [])))))), []⟩, ⟨26, (.one (.d (.bool (!(decide ((a.getD i []) = (b.getD i []))))))), []⟩] (by kernel_rfl) (by kernel_rfl) ?_ ?_
    ·
     refine .cons (fun E h => by have g0 := h.get 0 (by decide); exact OpStep.plain rfl (Step.move (p := (.one (.d (.bss a)))) (t := 17) rfl rfl (by exact lt_ok rfl) (show Env.ev E (.tmp 0) = _ from g0.trans rfl))) ?_
     refine .cons (fun E h => by have g5 := h.get 5 (by decide); exact OpStep.plain rfl (Step.move (p := (.one (.d (.int .i64 (i : Int))))) (t := 18) rfl rfl (by exact lt_ok rfl) (show Env.ev E (.tmp 5) = _ from g5.trans rfl))) ?_
     refine .cons (fun E h => by have g17 := h.get 17 (by decide); have g18 := h.get 18 (by decide); exact OpStep.plain rfl (Step.index (e := 22) (z := 1) (i := (i : Int)) (t := 19) rfl rfl (by exact lt_ok rfl) (by kernel_rfl) (show Env.ev E (.tmp 17) = _ from g17.trans rfl) rfl rfl (lt_ok rfl) (show Env.ev E (.tmp 18) = _ from g18.trans rfl) (by first | omega | (simp; omega)) (by simp only [D.size]; first | omega | (simp; omega)))) ?_
     refine .cons (fun E h => by have g19 := h.get 19 (by decide); exact OpStep.plain rfl (Step.load (e := (.ints .u8 (a.getD i []))) (t := 20) rfl rfl (by exact lt_ok rfl) (by kernel_rfl) (show Env.ev E (.tmp 19) = _ from g19.trans rfl) rfl)) ?_
     refine .cons (fun E h => by have g1 := h.get 1 (by decide); exact OpStep.plain rfl (Step.move (p := (.one (.d (.bss b)))) (t := 21) rfl rfl (by exact lt_ok rfl) (show Env.ev E (.tmp 1) = _ from g1.trans rfl))) ?_
     refine .cons (fun E h => by have g5 := h.get 5 (by decide); exact OpStep.plain rfl (Step.move (p := (.one (.d (.int .i64 (i : Int))))) (t := 22) rfl rfl (by exact lt_ok rfl) (show Env.ev E (.tmp 5) = _ from g5.trans rfl))) ?_
     refine .cons (fun E h => by have g21 := h.get 21 (by decide); have g22 := h.get 22 (by decide); exact OpStep.plain rfl (Step.index (e := 22) (z := 1) (i := (i : Int)) (t := 23) rfl rfl (by exact lt_ok rfl) (by kernel_rfl) (show Env.ev E (.tmp 21) = _ from g21.trans rfl) rfl rfl (lt_ok rfl) (show Env.ev E (.tmp 22) = _ from g22.trans rfl) (by first | omega | (simp; omega)) (by simp only [D.size]; first | omega | (simp; omega)))) ?_
     refine .cons (fun E h => by have g23 := h.get 23 (by decide); exact OpStep.plain rfl (Step.load (e := (.ints .u8 (b.getD i []))) (t := 24) rfl rfl (by exact lt_ok rfl) (by kernel_rfl) (show Env.ev E (.tmp 23) = _ from g23.trans rfl) rfl)) ?_
     refine .cons (fun E h => by have g20 := h.get 20 (by decide); have g24 := h.get 24 (by decide); exact OpStep.plain rfl (Step.call (f := 29) (xs := [.tmp 20, .tmp 24]) (ps := [(.one (.d (.ints .u8 (a.getD i [])))), (.one (.d (.ints .u8 (b.getD i []))))]) false (g := .func 29) (t := 25) rfl rfl (by exact lt_ok rfl) rfl (by kernel_rfl) (evs_cons (show Env.ev E (.tmp 20) = _ from g20.trans rfl) (evs_cons (show Env.ev E (.tmp 24) = _ from g24.trans rfl) (rfl))) (.cons (.one (.d _)) (.cons (.one (.d _)) .nil)) (ok_laws_eqByteS (a.getD i []) (b.getD i [])) (.inr rfl) (At.freshRows h rfl) (by simp) rfl)) ?_
     refine .cons (fun E h => by have g25 := h.get 25 (by decide); exact OpStep.plain rfl (Step.not (b := (decide ((a.getD i []) = (b.getD i [])))) (t := 26) rfl rfl (by exact lt_ok rfl) (show Env.ev E (.tmp 25) = _ from g25.trans rfl))) ?_
     exact .nil _ _
    refine TL.nil ?_
    refine T.cond (b := !(decide ((a.getD i []) = (b.getD i [])))) rfl (fun h3 => ?_) (fun h3 => ?_)
    ·
     replace h3 : (decide ((a.getD i []) = (b.getD i []))) = false := by simpa only [Bool.not_eq_true', Bool.not_eq_false'] using h3
     replace h3 := of_decide_eq_false h3
     refine T.seq ?_
     refine T.region ?_
     refine TL.cons rfl (Step.assign (p := (.one (.d (.bool false)))) rfl rfl (lt_ok rfl) rfl) ?_
     refine TL.nil ?_
     refine T.ret ?_
     exact ⟨[(false, [.d (.bool false)])], (.cons rfl .nil), rfl, [], (RetC.rd' (by (congr 1; symm; first | (apply decide_eq_false; rintro rfl; first | exact absurd rfl ‹¬ _ = _› | exact absurd rfl (of_decide_eq_false (by assumption)) | contradiction | simp_all) | (apply decide_eq_true; exact take_all hx2 (by omega) hx3))) .nil)⟩
    ·
     replace h3 : (decide ((a.getD i []) = (b.getD i []))) = true := by simpa only [Bool.not_eq_true', Bool.not_eq_false'] using h3
     replace h3 := of_decide_eq_true h3
     refine T.skip ?_
     refine T.region ?_
     refine TL.cons rfl (Step.move (p := (.one (.d (.int .i64 (i : Int))))) rfl rfl (lt_ok rfl) rfl) ?_
     refine TL.cons rfl (Step.bin (r := .int .i64 ((i : Int) + 1)) rfl rfl (lt_ok rfl) rfl rfl (Bin.add (a := (i : Int)) (b := 1) (by first | exact wrap_ok (by first | omega | (simp; omega)) (by first | omega | (simp; omega)) | rfl))) ?_
     refine TL.cons rfl (Step.assign (p := (.one (.d (.int .i64 ((i : Int) + 1))))) rfl rfl (lt_ok rfl) rfl) ?_
     refine TL.nil ?_
     exact ⟨i + 1, by (refine ⟨by omega, hx2, take_step (d := []) hx2 (by omega) hx3 (by first | assumption | exact Decidable.not_not.1 (by assumption) | omega)⟩), by omega, Env.le_mk ⟨rfl, rfl, by first | rfl | (simp; done) | (congr 3; omega), trivial⟩ trivial trivial⟩
   ·
    replace h2 := of_decide_eq_false h2
    refine T.exit ?_
    refine T.seq ?_
    refine T.region ?_
    refine TL.cons rfl (Step.assign (p := (.one (.d (.bool true)))) rfl rfl (lt_ok rfl) rfl) ?_
    refine TL.nil ?_
    refine T.ret ?_
    exact ⟨[(false, [.d (.bool true)])], (.cons rfl .nil), rfl, [], (RetC.rd' (by (congr 1; symm; first | (apply decide_eq_false; rintro rfl; first | exact absurd rfl ‹¬ _ = _› | exact absurd rfl (of_decide_eq_false (by assumption)) | contradiction | simp_all) | (apply decide_eq_true; exact take_all hx2 (by omega) hx3))) .nil)⟩
theorem ok_laws_eqQc (a : SQc) (b : SQc) : RO Try.prog 20 [.agg a.cells, .agg b.cells] [(false, [.rd (.bool (decide (a = b)))])] := by
 refine RO.intro Try.func20 rfl 33 rfl (le_ok rfl) fun w Z => ?_
 refine T.seq ?_
 refine T.region ?_
 refine TL.cons rfl (Step.box (p := (.agg [.d (.int .i64 a.f0), .d (.int .i64 a.f1), .d (.ints .u8 a.f2), .d (.ints .u8 a.f3), .d (.bss a.f4)])) (ps := [.d (.int .i64 a.f0), .d (.int .i64 a.f1), .d (.ints .u8 a.f2), .d (.ints .u8 a.f3), .d (.bss a.f4)]) rfl rfl (lt_ok rfl) rfl rfl rfl rfl rfl) ?_
 refine TL.cons rfl (Step.box (p := (.agg [.d (.int .i64 b.f0), .d (.int .i64 b.f1), .d (.ints .u8 b.f2), .d (.ints .u8 b.f3), .d (.bss b.f4)])) (ps := [.d (.int .i64 b.f0), .d (.int .i64 b.f1), .d (.ints .u8 b.f2), .d (.ints .u8 b.f3), .d (.bss b.f4)]) rfl rfl (lt_ok rfl) rfl rfl rfl rfl rfl) ?_
 refine TL.cons rfl (Step.assign (p := (.one (.d (.bool false)))) rfl rfl (lt_ok rfl) rfl) ?_
 refine TL.nil ?_
 refine T.seq ?_
 refine T.seq ?_
 refine T.region ?_
 refine TL.cons rfl (Step.fieldAddr (q := 0) (off := 0) (n := 1) (one := true) rfl rfl (lt_ok rfl) (by kernel_rfl) (Nat.succ_ne_zero _) rfl) ?_
 refine TL.cons rfl (Step.load_box (c := .d (.int .i64 a.f0)) rfl rfl (lt_ok rfl) (by kernel_rfl) rfl rfl rfl) ?_
 refine TL.cons rfl (Step.fieldAddr (q := 0) (off := 0) (n := 1) (one := true) rfl rfl (lt_ok rfl) (by kernel_rfl) (Nat.succ_ne_zero _) rfl) ?_
 refine TL.cons rfl (Step.load_box (c := .d (.int .i64 b.f0)) rfl rfl (lt_ok rfl) (by kernel_rfl) rfl rfl rfl) ?_
 refine TL.cons rfl (Step.bin rfl rfl (lt_ok rfl) rfl rfl (Bin.neq (k := .i64) (a := a.f0) (b := b.f0))) ?_
 refine TL.nil ?_
 refine T.cond (b := decide (a.f0 ≠ b.f0)) rfl (fun h1 => ?_) (fun h1 => ?_)
 ·
  replace h1 := of_decide_eq_true h1
  refine T.seq ?_
  refine T.region ?_
  refine TL.cons rfl (Step.assign (p := (.one (.d (.bool false)))) rfl rfl (lt_ok rfl) rfl) ?_
  refine TL.nil ?_
  refine T.ret ?_
  exact ⟨[(false, [.d (.bool false)])], (.cons rfl .nil), rfl, [], (RetC.rd' (by (congr 1; symm; first | (apply decide_eq_false; rintro rfl; first | exact absurd rfl ‹¬ _ = _› | contradiction) | (apply decide_eq_true; apply SQc.ext <;> first | assumption | exact Decidable.not_not.1 (by assumption)))) .nil)⟩
 ·
  replace h1 := of_decide_eq_false h1
  refine T.skip ?_
  refine T.seq ?_
  refine T.seq ?_
  refine T.region ?_
  refine TL.cons rfl (Step.fieldAddr (q := 0) (off := 1) (n := 1) (one := true) rfl rfl (lt_ok rfl) (by kernel_rfl) (Nat.succ_ne_zero _) rfl) ?_
  refine TL.cons rfl (Step.load_box (c := .d (.int .i64 a.f1)) rfl rfl (lt_ok rfl) (by kernel_rfl) rfl rfl rfl) ?_
  refine TL.cons rfl (Step.fieldAddr (q := 0) (off := 1) (n := 1) (one := true) rfl rfl (lt_ok rfl) (by kernel_rfl) (Nat.succ_ne_zero _) rfl) ?_
  refine TL.cons rfl (Step.load_box (c := .d (.int .i64 b.f1)) rfl rfl (lt_ok rfl) (by kernel_rfl) rfl rfl rfl) ?_
  refine TL.cons rfl (Step.bin rfl rfl (lt_ok rfl) rfl rfl (Bin.neq (k := .i64) (a := a.f1) (b := b.f1))) ?_
  refine TL.nil ?_
  refine T.cond (b := decide (a.f1 ≠ b.f1)) rfl (fun h2 => ?_) (fun h2 => ?_)
  ·
   replace h2 := of_decide_eq_true h2
   refine T.seq ?_
   refine T.region ?_
   refine TL.cons rfl (Step.assign (p := (.one (.d (.bool false)))) rfl rfl (lt_ok rfl) rfl) ?_
   refine TL.nil ?_
   refine T.ret ?_
   exact ⟨[(false, [.d (.bool false)])], (.cons rfl .nil), rfl, [], (RetC.rd' (by (congr 1; symm; first | (apply decide_eq_false; rintro rfl; first | exact absurd rfl ‹¬ _ = _› | contradiction) | (apply decide_eq_true; apply SQc.ext <;> first | assumption | exact Decidable.not_not.1 (by assumption)))) .nil)⟩
  ·
   replace h2 := of_decide_eq_false h2
   refine T.skip ?_
   refine T.seq ?_
   refine T.seq ?_
   refine T.region ?_
   refine TL.cons rfl (Step.fieldAddr (q := 0) (off := 2) (n := 1) (one := true) rfl rfl (lt_ok rfl) (by kernel_rfl) (Nat.succ_ne_zero _) rfl) ?_
   refine TL.cons rfl (Step.load_box (c := .d (.ints .u8 a.f2)) rfl rfl (lt_ok rfl) (by kernel_rfl) rfl rfl rfl) ?_
   refine TL.cons rfl (Step.fieldAddr (q := 0) (off := 2) (n := 1) (one := true) rfl rfl (lt_ok rfl) (by kernel_rfl) (Nat.succ_ne_zero _) rfl) ?_
   refine TL.cons rfl (Step.load_box (c := .d (.ints .u8 b.f2)) rfl rfl (lt_ok rfl) (by kernel_rfl) rfl rfl rfl) ?_
   refine TL.cons rfl (Step.call (f := 29) (xs := [.tmp 16, .tmp 18]) (ps := [(.one (.d (.ints .u8 a.f2))), (.one (.d (.ints .u8 b.f2)))]) false (g := .func 29) rfl rfl (lt_ok rfl) rfl (by kernel_rfl) rfl (.cons (.one (.d _)) (.cons (.one (.d _)) .nil)) (ok_laws_eqByteS a.f2 b.f2) (.inr rfl) rfl (by simp) rfl) ?_
   refine TL.cons rfl (Step.not (b := (decide (a.f2 = b.f2))) rfl rfl (lt_ok rfl) rfl) ?_
   refine TL.nil ?_
   refine T.cond (b := !(decide (a.f2 = b.f2))) rfl (fun h3 => ?_) (fun h3 => ?_)
   ·
    replace h3 : (decide (a.f2 = b.f2)) = false := by simpa only [Bool.not_eq_true', Bool.not_eq_false'] using h3
    replace h3 := of_decide_eq_false h3
    refine T.seq ?_
    refine T.region ?_
    refine TL.cons rfl (Step.assign (p := (.one (.d (.bool false)))) rfl rfl (lt_ok rfl) rfl) ?_
    refine TL.nil ?_
    refine T.ret ?_
    exact ⟨[(false, [.d (.bool false)])], (.cons rfl .nil), rfl, [], (RetC.rd' (by (congr 1; symm; first | (apply decide_eq_false; rintro rfl; first | exact absurd rfl ‹¬ _ = _› | contradiction) | (apply decide_eq_true; apply SQc.ext <;> first | assumption | exact Decidable.not_not.1 (by assumption)))) .nil)⟩
   ·
    replace h3 : (decide (a.f2 = b.f2)) = true := by simpa only [Bool.not_eq_true', Bool.not_eq_false'] using h3
    replace h3 := of_decide_eq_true h3
    refine T.skip ?_
    refine T.seq ?_
    refine T.seq ?_
    refine T.region ?_
    refine TL.cons rfl (Step.fieldAddr (q := 0) (off := 3) (n := 1) (one := true) rfl rfl (lt_ok rfl) (by kernel_rfl) (Nat.succ_ne_zero _) rfl) ?_
    refine TL.cons rfl (Step.load_box (c := .d (.ints .u8 a.f3)) rfl rfl (lt_ok rfl) (by kernel_rfl) rfl rfl rfl) ?_
    refine TL.cons rfl (Step.fieldAddr (q := 0) (off := 3) (n := 1) (one := true) rfl rfl (lt_ok rfl) (by kernel_rfl) (Nat.succ_ne_zero _) rfl) ?_
    refine TL.cons rfl (Step.load_box (c := .d (.ints .u8 b.f3)) rfl rfl (lt_ok rfl) (by kernel_rfl) rfl rfl rfl) ?_
    refine TL.cons rfl (Step.call (f := 29) (xs := [.tmp 22, .tmp 24]) (ps := [(.one (.d (.ints .u8 a.f3))), (.one (.d (.ints .u8 b.f3)))]) false (g := .func 29) rfl rfl (lt_ok rfl) rfl (by kernel_rfl) rfl (.cons (.one (.d _)) (.cons (.one (.d _)) .nil)) (ok_laws_eqByteS a.f3 b.f3) (.inr rfl) rfl (by simp) rfl) ?_
    refine TL.cons rfl (Step.not (b := (decide (a.f3 = b.f3))) rfl rfl (lt_ok rfl) rfl) ?_
    refine TL.nil ?_
    refine T.cond (b := !(decide (a.f3 = b.f3))) rfl (fun h4 => ?_) (fun h4 => ?_)
    ·
     replace h4 : (decide (a.f3 = b.f3)) = false := by simpa only [Bool.not_eq_true', Bool.not_eq_false'] using h4
     replace h4 := of_decide_eq_false h4
     refine T.seq ?_
     refine T.region ?_
     refine TL.cons rfl (Step.assign (p := (.one (.d (.bool false)))) rfl rfl (lt_ok rfl) rfl) ?_
     refine TL.nil ?_
     refine T.ret ?_
     exact ⟨[(false, [.d (.bool false)])], (.cons rfl .nil), rfl, [], (RetC.rd' (by (congr 1; symm; first | (apply decide_eq_false; rintro rfl; first | exact absurd rfl ‹¬ _ = _› | contradiction) | (apply decide_eq_true; apply SQc.ext <;> first | assumption | exact Decidable.not_not.1 (by assumption)))) .nil)⟩
    ·
     replace h4 : (decide (a.f3 = b.f3)) = true := by simpa only [Bool.not_eq_true', Bool.not_eq_false'] using h4
     replace h4 := of_decide_eq_true h4
     refine T.skip ?_
     refine T.seq ?_
     refine T.seq ?_
     refine T.region ?_
     refine TL.cons rfl (Step.fieldAddr (q := 0) (off := 4) (n := 1) (one := true) rfl rfl (lt_ok rfl) (by kernel_rfl) (Nat.succ_ne_zero _) rfl) ?_
     refine TL.cons rfl (Step.load_box (c := .d (.bss a.f4)) rfl rfl (lt_ok rfl) (by kernel_rfl) rfl rfl rfl) ?_
     refine TL.cons rfl (Step.fieldAddr (q := 0) (off := 4) (n := 1) (one := true) rfl rfl (lt_ok rfl) (by kernel_rfl) (Nat.succ_ne_zero _) rfl) ?_
     refine TL.cons rfl (Step.load_box (c := .d (.bss b.f4)) rfl rfl (lt_ok rfl) (by kernel_rfl) rfl rfl rfl) ?_
     refine TL.cons rfl (Step.call (f := 84) (xs := [.tmp 28, .tmp 30]) (ps := [(.one (.d (.bss a.f4))), (.one (.d (.bss b.f4)))]) false (g := .func 84) rfl rfl (lt_ok rfl) rfl (by kernel_rfl) rfl (.cons (.one (.d _)) (.cons (.one (.d _)) .nil)) (ok_laws_eqByteSS a.f4 b.f4) (.inr rfl) rfl (by simp) rfl) ?_
     refine TL.cons rfl (Step.not (b := (decide (a.f4 = b.f4))) rfl rfl (lt_ok rfl) rfl) ?_
     refine TL.nil ?_
     refine T.cond (b := !(decide (a.f4 = b.f4))) rfl (fun h5 => ?_) (fun h5 => ?_)
     ·
      replace h5 : (decide (a.f4 = b.f4)) = false := by simpa only [Bool.not_eq_true', Bool.not_eq_false'] using h5
      replace h5 := of_decide_eq_false h5
      refine T.seq ?_
      refine T.region ?_
      refine TL.cons rfl (Step.assign (p := (.one (.d (.bool false)))) rfl rfl (lt_ok rfl) rfl) ?_
      refine TL.nil ?_
      refine T.ret ?_
      exact ⟨[(false, [.d (.bool false)])], (.cons rfl .nil), rfl, [], (RetC.rd' (by (congr 1; symm; first | (apply decide_eq_false; rintro rfl; first | exact absurd rfl ‹¬ _ = _› | contradiction) | (apply decide_eq_true; apply SQc.ext <;> first | assumption | exact Decidable.not_not.1 (by assumption)))) .nil)⟩
     ·
      replace h5 : (decide (a.f4 = b.f4)) = true := by simpa only [Bool.not_eq_true', Bool.not_eq_false'] using h5
      replace h5 := of_decide_eq_true h5
      refine T.skip ?_
      refine T.seq ?_
      refine T.region ?_
      refine TL.cons rfl (Step.assign (p := (.one (.d (.bool true)))) rfl rfl (lt_ok rfl) rfl) ?_
      refine TL.nil ?_
      refine T.ret ?_
      exact ⟨[(false, [.d (.bool true)])], (.cons rfl .nil), rfl, [], (RetC.rd' (by (congr 1; symm; first | (apply decide_eq_false; rintro rfl; first | exact absurd rfl ‹¬ _ = _› | contradiction) | (apply decide_eq_true; apply SQc.ext <;> first | assumption | exact Decidable.not_not.1 (by assumption)))) .nil)⟩
theorem ok_laws_markByteS (a : List Int) (k : Int) (h0_ : 0 ≤ k) (h1_ : k + (a.length : Int) ≤ 4611686018427387904) : MK Try.prog 32 [.one (.mk (.ints .u8 a) (.ints .u8 (mkB a k))), .one (.rd (.int .i64 k))] [(false, [.rd (.int .i64 (k + (a.length : Int)))])] := by
 refine MK.intro Try.func32 rfl 20 rfl (le_ok rfl) (le_ok rfl) rfl fun w Z IX pin Ts hp => ?_
 refine T.bndRow 900 rfl fun hb_900 => ?_
 simp only [D.size, List.length_map] at hb_900
 refine T.seq ?_
 refine T.region ?_
 refine TL.cons rfl (Step.assign (p := (.one (.d (.int .i64 0)))) rfl rfl (lt_ok rfl) rfl) ?_
 refine TL.nil ?_
 refine T.seq ?_
 refine T.seq ?_
 refine T.region ?_
 refine TL.cons rfl (Step.assign (p := (.one (.d (.int .i64 0)))) rfl rfl (lt_ok rfl) rfl) ?_
 refine TL.nil ?_
 refine T.block ?_
 refine T.loop (ι := Nat) (fun x => { tm := [(0, (.one (.row 900 []))), (4, (.one (.d (.int .i64 0)))), (5, (.one (.d (.int .i64 (x : Int))))), (1, (.one (.d (.int .i64 (k + (x : Int))))))], rows := [(900, ((Ts 0), (.ints .u8 (upTo (fun _ => 1) (fun _ k => k % 256) a k x))))], boxes := [] }) (fun x => x ≤ a.length) (fun x => a.length - x) 0 ?_ ?_ ?_
 · exact Env.le_mk ⟨rfl, rfl, by first | exact congrArg (fun x => some (Ts 0, D.ints .u8 x)) (upTo_set (df := 0) (by omega) (by simp only [cntL_one_take a i (by omega)])) | exact congrArg (fun x => some (Ts 0, D.ints .u8 x)) (upTo_zero _ _).symm | rfl | (refine congrArg (fun n => PV.one (.d (.int .i64 n))) ?_; first | omega | (simp; done) | (simp [cntL]; done)), by first | exact congrArg (fun x => some (Ts 0, D.ints .u8 x)) (upTo_set (df := 0) (by omega) (by simp only [cntL_one_take a i (by omega)])) | exact congrArg (fun x => some (Ts 0, D.ints .u8 x)) (upTo_zero _ _).symm | rfl | (refine congrArg (fun n => PV.one (.d (.int .i64 n))) ?_; first | omega | (simp; done) | (simp [cntL]; done)), trivial⟩ ⟨by first | exact congrArg (fun x => some (Ts 0, D.ints .u8 x)) (upTo_set (df := 0) (by omega) (by simp only [cntL_one_take a i (by omega)])) | exact congrArg (fun x => some (Ts 0, D.ints .u8 x)) (upTo_zero _ _).symm | rfl | (refine congrArg (fun n => PV.one (.d (.int .i64 n))) ?_; first | omega | (simp; done) | (simp [cntL]; done)), trivial⟩ trivial
 · exact Nat.zero_le _
 ·
  intro i hx
  try dsimp only at hx ⊢
  refine T.seq ?_
  refine T.seq ?_
  refine T.region ?_
  refine TL.cons rfl (Step.move (p := (.one (.d (.int .i64 (i : Int))))) rfl rfl (lt_ok rfl) rfl) ?_
  refine TL.cons rfl (Step.move (p := (.one (.row 900 []))) rfl rfl (lt_ok rfl) rfl) ?_
  refine TL.cons rfl (Step.len' (e := 5) (z := 1) (d := (.ints .u8 (upTo (fun _ => 1) (fun _ k => k % 256) a k i))) (n := a.length) rfl rfl (lt_ok rfl) (by kernel_rfl) rfl rfl (by simp [D.size, upTo_length])) ?_
  refine TL.cons rfl (Step.bin rfl rfl (lt_ok rfl) rfl rfl (Bin.lss (k := .i64) (a := (i : Int)) (b := (a.length : Int)))) ?_
  refine TL.nil ?_
  refine T.cond (b := decide ((i : Int) < (a.length : Int))) rfl (fun h1 => ?_) (fun h1 => ?_)
  ·
   replace h1 := of_decide_eq_true h1
   refine T.skip ?_
   refine T.seq ?_
   refine T.block ?_
   refine T.seq ?_
   refine T.region ?_
   refine TL.cons rfl (Step.move (p := (.one (.row 900 []))) rfl rfl (lt_ok rfl) rfl) ?_
   refine TL.cons rfl (Step.move (p := (.one (.d (.int .i64 (i : Int))))) rfl rfl (lt_ok rfl) rfl) ?_
   refine TL.cons rfl (Step.move (p := (.one (.d (.int .i64 (k + (i : Int)))))) rfl rfl (lt_ok rfl) rfl) ?_
   refine TL.cons rfl (Step.conv (c := ((k + (i : Int)) % 256)) rfl rfl (lt_ok rfl) (by kernel_rfl) (by kernel_rfl) rfl (wrap_byte _)) ?_
   refine TL.cons rfl (Step.index_row (d := (.ints .u8 (upTo (fun _ => 1) (fun _ k => k % 256) a k i))) (e := 5) (z := 1) (i := (i : Int)) rfl rfl (lt_ok rfl) (by kernel_rfl) rfl rfl rfl rfl (lt_ok rfl) rfl (by first | omega | (simp; omega)) (by simp only [D.at_, D.cell, D.size, List.length_set, List.length_map, upTo_length]; first | omega | (simp; omega))) ?_
   refine TL.cons rfl (Step.store_row (n := 1) (p := (.one (.d (.int .u8 ((k + (i : Int)) % 256))))) (ps := [.d (.int .u8 ((k + (i : Int)) % 256))]) (es := [(.int .u8 ((k + (i : Int)) % 256))]) (ss := []) (d1 := (.ints .u8 ((upTo (fun _ => 1) (fun _ k => k % 256) a k i).set i ((k + (i : Int)) % 256)))) (d' := (.ints .u8 ((upTo (fun _ => 1) (fun _ k => k % 256) a k i).set i ((k + (i : Int)) % 256)))) rfl rfl (by kernel_rfl) rfl rfl rfl rfl rfl rfl (.val rfl .nil) (by simp) (Putd.one rfl trivial rfl (by simp only [D.at_, D.size, List.length_set, upTo_length]; first | omega | (simp; omega)) (lt_ok rfl)) rfl) ?_
   refine TL.nil ?_
   refine T.region ?_
   refine TL.cons rfl (Step.move (p := (.one (.d (.int .i64 (k + (i : Int)))))) rfl rfl (lt_ok rfl) rfl) ?_
   refine TL.cons rfl (Step.bin (r := .int .i64 ((k + (i : Int)) + 1)) rfl rfl (lt_ok rfl) rfl rfl (Bin.add (a := (k + (i : Int))) (b := 1) (by first | exact wrap_ok (by first | omega | (simp; omega)) (by first | omega | (simp; omega)) | rfl))) ?_
   refine TL.cons rfl (Step.assign (p := (.one (.d (.int .i64 ((k + (i : Int)) + 1))))) rfl rfl (lt_ok rfl) rfl) ?_
   refine TL.nil ?_
   refine T.region ?_
   refine TL.cons rfl (Step.move (p := (.one (.d (.int .i64 (i : Int))))) rfl rfl (lt_ok rfl) rfl) ?_
   refine TL.cons rfl (Step.bin (r := .int .i64 ((i : Int) + 1)) rfl rfl (lt_ok rfl) rfl rfl (Bin.add (a := (i : Int)) (b := 1) (by first | exact wrap_ok (by first | omega | (simp; omega)) (by first | omega | (simp; omega)) | rfl))) ?_
   refine TL.cons rfl (Step.assign (p := (.one (.d (.int .i64 ((i : Int) + 1))))) rfl rfl (lt_ok rfl) rfl) ?_
   refine TL.nil ?_
   exact ⟨i + 1, by omega, by first | omega | (dsimp only; omega), Env.le_mk ⟨rfl, rfl, by first | exact congrArg (fun x => some (Ts 0, D.ints .u8 x)) (upTo_set (df := 0) (by omega) (by simp only [cntL_one_take a i (by omega)])) | exact congrArg (fun x => some (Ts 0, D.ints .u8 x)) (upTo_zero _ _).symm | rfl | (refine congrArg (fun n => PV.one (.d (.int .i64 n))) ?_; first | omega | (simp; done) | (simp [cntL]; done)), by first | exact congrArg (fun x => some (Ts 0, D.ints .u8 x)) (upTo_set (df := 0) (by omega) (by simp only [cntL_one_take a i (by omega)])) | exact congrArg (fun x => some (Ts 0, D.ints .u8 x)) (upTo_zero _ _).symm | rfl | (refine congrArg (fun n => PV.one (.d (.int .i64 n))) ?_; first | omega | (simp; done) | (simp [cntL]; done)), trivial⟩ ⟨by first | exact congrArg (fun x => some (Ts 0, D.ints .u8 x)) (upTo_set (df := 0) (by omega) (by simp only [cntL_one_take a i (by omega)])) | exact congrArg (fun x => some (Ts 0, D.ints .u8 x)) (upTo_zero _ _).symm | rfl | (refine congrArg (fun n => PV.one (.d (.int .i64 n))) ?_; first | omega | (simp; done) | (simp [cntL]; done)), trivial⟩ trivial⟩
  ·
   replace h1 := of_decide_eq_false h1
   refine T.exit ?_
   refine T.seq ?_
   refine T.region ?_
   refine TL.cons rfl (Step.move (p := (.one (.d (.int .i64 (k + (i : Int)))))) rfl rfl (lt_ok rfl) rfl) ?_
   refine TL.cons rfl (Step.assign (p := (.one (.d (.int .i64 (k + (i : Int)))))) rfl rfl (lt_ok rfl) rfl) ?_
   refine TL.nil ?_
   refine T.ret ?_
   exact ⟨⟨⟨[(false, [.d (.int .i64 (k + (i : Int)))])], (.cons rfl .nil), rfl, [], (RetC.rd' (by (congr 1; omega)) .nil)⟩, rfl⟩, (.mk' (by exact congrArg (fun x => some (Ts 0, D.ints .u8 x)) (upTo_all (by omega))) (.rd .nil'))⟩
theorem ok_laws_markByteSS (a : List (List Int)) (k : Int) (h0_ : 0 ≤ k) (h1_ : k + cntL (fun x : List Int => (x.length : Int)) a ≤ 4611686018427387904) : MK Try.prog 85 [.one (.mk (.bss a) (.bss (mkBs a k))), .one (.rd (.int .i64 k))] [(false, [.rd (.int .i64 (k + cntL (fun x : List Int => (x.length : Int)) a))])] := by
 refine MK.intro Try.func85 rfl 19 rfl (le_ok rfl) (le_ok rfl) rfl fun w Z IX pin Ts hp => ?_
 refine T.bndRow 900 rfl fun hb_900 => ?_
 simp only [D.size, List.length_map] at hb_900
 refine T.seq ?_
 refine T.region ?_
 refine TL.cons rfl (Step.assign (p := (.one (.d (.int .i64 0)))) rfl rfl (lt_ok rfl) rfl) ?_
 refine TL.nil ?_
 refine T.seq ?_
 refine T.seq ?_
 refine T.region ?_
 refine TL.cons rfl (Step.assign (p := (.one (.d (.int .i64 0)))) rfl rfl (lt_ok rfl) rfl) ?_
 refine TL.nil ?_
 refine T.block ?_
 refine T.loop (ι := Nat) (fun x => { tm := [(0, (.one (.row 900 []))), (4, (.one (.d (.int .i64 0)))), (5, (.one (.d (.int .i64 (x : Int))))), (1, (.one (.d (.int .i64 (k + cntL (fun x : List Int => (x.length : Int)) (a.take x))))))], rows := [(900, ((Ts 0), (.bss ((upTo (fun x : List Int => (x.length : Int)) mkB a k x).set x (a.getD x [])))))], boxes := [] }) (fun x => x ≤ a.length) (fun x => a.length - x) 0 ?_ ?_ ?_
 · exact Env.le_mk ⟨rfl, rfl, by first | exact congrArg (fun x => some (Ts 0, D.bss x)) (upTo_next (df := []) (by omega) rfl) | exact congrArg (fun x => some (Ts 0, D.bss x)) (upTo_first a k []) | rfl | (refine congrArg (fun n => PV.one (.d (.int .i64 n))) ?_; first | omega | (simp; done) | (simp [cntL]; done)), by first | exact congrArg (fun x => some (Ts 0, D.bss x)) (upTo_next (df := []) (by omega) rfl) | exact congrArg (fun x => some (Ts 0, D.bss x)) (upTo_first a k []) | rfl | (refine congrArg (fun n => PV.one (.d (.int .i64 n))) ?_; first | omega | (simp; done) | (simp [cntL]; done)), trivial⟩ ⟨by first | exact congrArg (fun x => some (Ts 0, D.bss x)) (upTo_next (df := []) (by omega) rfl) | exact congrArg (fun x => some (Ts 0, D.bss x)) (upTo_first a k []) | rfl | (refine congrArg (fun n => PV.one (.d (.int .i64 n))) ?_; first | omega | (simp; done) | (simp [cntL]; done)), trivial⟩ trivial
 · exact Nat.zero_le _
 ·
  intro i hx
  try dsimp only at hx ⊢
  refine T.seq ?_
  refine T.seq ?_
  refine T.region ?_
  refine TL.cons rfl (Step.move (p := (.one (.d (.int .i64 (i : Int))))) rfl rfl (lt_ok rfl) rfl) ?_
  refine TL.cons rfl (Step.move (p := (.one (.row 900 []))) rfl rfl (lt_ok rfl) rfl) ?_
  refine TL.cons rfl (Step.len' (e := 22) (z := 1) (d := (.bss ((upTo (fun x : List Int => (x.length : Int)) mkB a k i).set i (a.getD i [])))) (n := a.length) rfl rfl (lt_ok rfl) (by kernel_rfl) rfl rfl (by simp [D.size, upTo_length])) ?_
  refine TL.cons rfl (Step.bin rfl rfl (lt_ok rfl) rfl rfl (Bin.lss (k := .i64) (a := (i : Int)) (b := (a.length : Int)))) ?_
  refine TL.nil ?_
  refine T.cond (b := decide ((i : Int) < (a.length : Int))) rfl (fun h1 => ?_) (fun h1 => ?_)
  ·
   replace h1 := of_decide_eq_true h1
   have hc1 := cntL_take_le (cnt := (fun x : List Int => (x.length : Int))) (fun x => by omega) a (i + 1)
   have hc2 := cntL_take_succ (cnt := (fun x : List Int => (x.length : Int))) (i := i) [] (show i < a.length by omega)
   have hc3 := cntL_nonneg (cnt := (fun x : List Int => (x.length : Int))) (fun x => by omega) (a.take i)
   try dsimp only at hc2
   refine T.skip ?_
   refine T.seq ?_
   refine T.block ?_
   refine T.region ?_
   refine TL.cons rfl (Step.move (p := (.one (.row 900 []))) rfl rfl (lt_ok rfl) rfl) ?_
   refine TL.cons rfl (Step.move (p := (.one (.d (.int .i64 (i : Int))))) rfl rfl (lt_ok rfl) rfl) ?_
   refine TL.cons rfl (Step.index_row (d := (.bss ((upTo (fun x : List Int => (x.length : Int)) mkB a k i).set i (a.getD i [])))) (e := 22) (z := 1) (i := (i : Int)) rfl rfl (lt_ok rfl) (by kernel_rfl) rfl rfl rfl rfl (lt_ok rfl) rfl (by first | omega | (simp; omega)) (by simp only [D.at_, D.cell, D.size, List.length_set, List.length_map, upTo_length]; first | omega | (simp; omega))) ?_
   refine TL.cons rfl (Step.load_row (d := (.bss ((upTo (fun x : List Int => (x.length : Int)) mkB a k i).set i (a.getD i [])))) (c := .row 900 [(i, 0)]) rfl rfl (lt_ok rfl) (by kernel_rfl) rfl rfl (ofRow_sl (cell_set_bss (by simp only [upTo_length]; first | omega | (simp; omega))) rfl)) ?_
   refine TL.cons rfl (Step.move (p := (.one (.d (.int .i64 (k + cntL (fun x : List Int => (x.length : Int)) (a.take i)))))) rfl rfl (lt_ok rfl) rfl) ?_
   refine TL.cons rfl (Step.callM (f := 32) (xs := [.tmp 15, .tmp 16]) (ps := [(.one (.row 900 [(i, 0)])), (.one (.d (.int .i64 (k + cntL (fun x : List Int => (x.length : Int)) (a.take i)))))]) (args := [.one (.mk (.ints .u8 (a.getD i [])) (.ints .u8 (mkB (a.getD i []) (k + cntL (fun x : List Int => (x.length : Int)) (a.take i))))), .one (.rd (.int .i64 (k + cntL (fun x : List Int => (x.length : Int)) (a.take i))))]) (js := [(900, (.bss ((upTo (fun x : List Int => (x.length : Int)) mkB a k i).set i (mkB (a.getD i []) (k + cntL (fun x : List Int => (x.length : Int)) (a.take i))))))]) (x := (.int .i64 ((k + cntL (fun x : List Int => (x.length : Int)) (a.take i)) + ((a.getD i []).length : Int)))) (g := .func 32) rfl rfl (lt_ok rfl) rfl (by kernel_rfl) rfl rfl (.row (T := (Ts 0)) (d := (.bss ((upTo (fun x : List Int => (x.length : Int)) mkB a k i).set i (a.getD i [])))) (e' := (.ints .u8 (mkB (a.getD i []) (k + cntL (fun x : List Int => (x.length : Int)) (a.take i))))) (d' := (.bss ((upTo (fun x : List Int => (x.length : Int)) mkB a k i).set i (mkB (a.getD i []) (k + cntL (fun x : List Int => (x.length : Int)) (a.take i)))))) rfl (cell_set_bss (by simp only [upTo_length]; first | omega | (simp; omega))) rfl putAt_bss2 rfl (by simp [D.size]) rfl rfl (.d .nil)) (ok_laws_markByteS (a.getD i []) (k + cntL (fun x : List Int => (x.length : Int)) (a.take i)) (by omega) (by first | omega | (have := (by assumption); omega))) rfl) ?_
   refine TL.cons rfl (Step.assign (p := (.one (.d (.int .i64 ((k + cntL (fun x : List Int => (x.length : Int)) (a.take i)) + ((a.getD i []).length : Int)))))) rfl rfl (lt_ok rfl) rfl) ?_
   refine TL.nil ?_
   refine T.region ?_
   refine TL.cons rfl (Step.move (p := (.one (.d (.int .i64 (i : Int))))) rfl rfl (lt_ok rfl) rfl) ?_
   refine TL.cons rfl (Step.bin (r := .int .i64 ((i : Int) + 1)) rfl rfl (lt_ok rfl) rfl rfl (Bin.add (a := (i : Int)) (b := 1) (by first | exact wrap_ok (by first | omega | (simp; omega)) (by first | omega | (simp; omega)) | rfl))) ?_
   refine TL.cons rfl (Step.assign (p := (.one (.d (.int .i64 ((i : Int) + 1))))) rfl rfl (lt_ok rfl) rfl) ?_
   refine TL.nil ?_
   exact ⟨i + 1, by omega, by first | omega | (dsimp only; omega), Env.le_mk ⟨rfl, rfl, by first | exact congrArg (fun x => some (Ts 0, D.bss x)) (upTo_next (df := []) (by omega) rfl) | exact congrArg (fun x => some (Ts 0, D.bss x)) (upTo_first a k []) | rfl | (refine congrArg (fun n => PV.one (.d (.int .i64 n))) ?_; first | omega | (simp; done) | (simp [cntL]; done)), by first | exact congrArg (fun x => some (Ts 0, D.bss x)) (upTo_next (df := []) (by omega) rfl) | exact congrArg (fun x => some (Ts 0, D.bss x)) (upTo_first a k []) | rfl | (refine congrArg (fun n => PV.one (.d (.int .i64 n))) ?_; first | omega | (simp; done) | (simp [cntL]; done)), trivial⟩ ⟨by first | exact congrArg (fun x => some (Ts 0, D.bss x)) (upTo_next (df := []) (by omega) rfl) | exact congrArg (fun x => some (Ts 0, D.bss x)) (upTo_first a k []) | rfl | (refine congrArg (fun n => PV.one (.d (.int .i64 n))) ?_; first | omega | (simp; done) | (simp [cntL]; done)), trivial⟩ trivial⟩
  ·
   replace h1 := of_decide_eq_false h1
   refine T.exit ?_
   refine T.seq ?_
   refine T.region ?_
   refine TL.cons rfl (Step.move (p := (.one (.d (.int .i64 (k + cntL (fun x : List Int => (x.length : Int)) (a.take i)))))) rfl rfl (lt_ok rfl) rfl) ?_
   refine TL.cons rfl (Step.assign (p := (.one (.d (.int .i64 (k + cntL (fun x : List Int => (x.length : Int)) (a.take i)))))) rfl rfl (lt_ok rfl) rfl) ?_
   refine TL.nil ?_
   refine T.ret ?_
   exact ⟨⟨⟨[(false, [.d (.int .i64 (k + cntL (fun x : List Int => (x.length : Int)) (a.take i)))])], (.cons rfl .nil), rfl, [], (RetC.rd' (by (congr 1; rw [cntL_all (by omega)])) .nil)⟩, rfl⟩, (.mk' (by exact congrArg (fun x => some (Ts 0, D.bss x)) (upTo_end (by omega))) (.rd .nil'))⟩
theorem ok_laws_markQc (a : SQc) (k : Int) (h0_ : 0 ≤ k) (h1_ : k + a.cm ≤ 4611686018427387904) : MK Try.prog 21 [.agg [.rd (.int .i64 a.f0), .rd (.int .i64 a.f1), .mk (.ints .u8 a.f2) (.ints .u8 (mkB a.f2 k)), .mk (.ints .u8 a.f3) (.ints .u8 (mkB a.f3 (k + (a.f2.length : Int)))), .mk (.bss a.f4) (.bss (mkBs a.f4 ((k + (a.f2.length : Int)) + (a.f3.length : Int))))], .one (.rd (.int .i64 k))] [(false, [.rd (.int .i64 (k + a.cm))])] := by
 refine MK.intro Try.func21 rfl 18 rfl (le_ok rfl) (le_ok rfl) rfl fun w Z IX pin Ts hp => ?_
 have n4 := cntBs_nonneg a.f4
 simp only [SQc.cm] at h1_
 refine T.seq ?_
 refine T.region ?_
 refine TL.cons rfl (Step.box (p := (.agg [.d (.int .i64 a.f0), .d (.int .i64 a.f1), .row 902 [], .row 903 [], .row 904 []])) (ps := [.d (.int .i64 a.f0), .d (.int .i64 a.f1), .row 902 [], .row 903 [], .row 904 []]) rfl rfl (lt_ok rfl) rfl rfl rfl rfl rfl) ?_
 refine TL.cons rfl (Step.assign (p := (.one (.d (.int .i64 0)))) rfl rfl (lt_ok rfl) rfl) ?_
 refine TL.nil ?_
 refine T.seq ?_
 refine T.region ?_
 refine TL.cons rfl (Step.fieldAddr (q := 0) (off := 2) (n := 1) (one := true) rfl rfl (lt_ok rfl) (by kernel_rfl) (Nat.succ_ne_zero _) rfl) ?_
 refine TL.cons rfl (Step.load_box (c := .row 902 []) rfl rfl (lt_ok rfl) (by kernel_rfl) rfl rfl rfl) ?_
 refine TL.cons rfl (Step.move (p := (.one (.d (.int .i64 k)))) rfl rfl (lt_ok rfl) rfl) ?_
 refine TL.cons rfl (Step.callM (f := 32) (xs := [.tmp 6, .tmp 7]) (ps := [(.one (.row 902 [])), (.one (.d (.int .i64 k)))]) (args := [.one (.mk (.ints .u8 a.f2) (.ints .u8 (mkB a.f2 k))), .one (.rd (.int .i64 k))]) (js := [(902, (.ints .u8 (mkB a.f2 k)))]) (x := (.int .i64 (k + (a.f2.length : Int)))) (g := .func 32) rfl rfl (lt_ok rfl) rfl (by kernel_rfl) rfl rfl (.row (T := (Ts 2)) (d := (.ints .u8 a.f2)) (e' := (.ints .u8 (mkB a.f2 k))) (d' := (.ints .u8 (mkB a.f2 k))) rfl rfl rfl rfl rfl (by simp [D.size, mkL_length]) rfl rfl (.d .nil)) (ok_laws_markByteS a.f2 k (by omega) (by first | omega | (have := (by assumption); omega))) rfl) ?_
 refine TL.cons rfl (Step.assign (p := (.one (.d (.int .i64 (k + (a.f2.length : Int)))))) rfl rfl (lt_ok rfl) rfl) ?_
 refine TL.nil ?_
 refine T.seq ?_
 refine T.region ?_
 refine TL.cons rfl (Step.fieldAddr (q := 0) (off := 3) (n := 1) (one := true) rfl rfl (lt_ok rfl) (by kernel_rfl) (Nat.succ_ne_zero _) rfl) ?_
 refine TL.cons rfl (Step.load_box (c := .row 903 []) rfl rfl (lt_ok rfl) (by kernel_rfl) rfl rfl rfl) ?_
 refine TL.cons rfl (Step.move (p := (.one (.d (.int .i64 (k + (a.f2.length : Int)))))) rfl rfl (lt_ok rfl) rfl) ?_
 refine TL.cons rfl (Step.callM (f := 32) (xs := [.tmp 10, .tmp 11]) (ps := [(.one (.row 903 [])), (.one (.d (.int .i64 (k + (a.f2.length : Int)))))]) (args := [.one (.mk (.ints .u8 a.f3) (.ints .u8 (mkB a.f3 (k + (a.f2.length : Int))))), .one (.rd (.int .i64 (k + (a.f2.length : Int))))]) (js := [(903, (.ints .u8 (mkB a.f3 (k + (a.f2.length : Int)))))]) (x := (.int .i64 ((k + (a.f2.length : Int)) + (a.f3.length : Int)))) (g := .func 32) rfl rfl (lt_ok rfl) rfl (by kernel_rfl) rfl rfl (.row (T := (Ts 3)) (d := (.ints .u8 a.f3)) (e' := (.ints .u8 (mkB a.f3 (k + (a.f2.length : Int))))) (d' := (.ints .u8 (mkB a.f3 (k + (a.f2.length : Int))))) rfl rfl rfl rfl rfl (by simp [D.size, mkL_length]) rfl rfl (.d .nil)) (ok_laws_markByteS a.f3 (k + (a.f2.length : Int)) (by omega) (by first | omega | (have := (by assumption); omega))) rfl) ?_
 refine TL.cons rfl (Step.assign (p := (.one (.d (.int .i64 ((k + (a.f2.length : Int)) + (a.f3.length : Int)))))) rfl rfl (lt_ok rfl) rfl) ?_
 refine TL.nil ?_
 refine T.seq ?_
 refine T.region ?_
 refine TL.cons rfl (Step.fieldAddr (q := 0) (off := 4) (n := 1) (one := true) rfl rfl (lt_ok rfl) (by kernel_rfl) (Nat.succ_ne_zero _) rfl) ?_
 refine TL.cons rfl (Step.load_box (c := .row 904 []) rfl rfl (lt_ok rfl) (by kernel_rfl) rfl rfl rfl) ?_
 refine TL.cons rfl (Step.move (p := (.one (.d (.int .i64 ((k + (a.f2.length : Int)) + (a.f3.length : Int)))))) rfl rfl (lt_ok rfl) rfl) ?_
 have nn1 := cntBs_nonneg a.f4
 refine TL.cons rfl (Step.callM (f := 85) (xs := [.tmp 14, .tmp 15]) (ps := [(.one (.row 904 [])), (.one (.d (.int .i64 ((k + (a.f2.length : Int)) + (a.f3.length : Int)))))]) (args := [.one (.mk (.bss a.f4) (.bss (mkBs a.f4 ((k + (a.f2.length : Int)) + (a.f3.length : Int))))), .one (.rd (.int .i64 ((k + (a.f2.length : Int)) + (a.f3.length : Int))))]) (js := [(904, (.bss (mkBs a.f4 ((k + (a.f2.length : Int)) + (a.f3.length : Int)))))]) (x := (.int .i64 (((k + (a.f2.length : Int)) + (a.f3.length : Int)) + cntL (fun x : List Int => (x.length : Int)) a.f4))) (g := .func 85) rfl rfl (lt_ok rfl) rfl (by kernel_rfl) rfl rfl (.row (T := (Ts 4)) (d := (.bss a.f4)) (e' := (.bss (mkBs a.f4 ((k + (a.f2.length : Int)) + (a.f3.length : Int))))) (d' := (.bss (mkBs a.f4 ((k + (a.f2.length : Int)) + (a.f3.length : Int))))) rfl rfl rfl rfl rfl (by simp [D.size, mkL_length]) rfl rfl (.d .nil)) (ok_laws_markByteSS a.f4 ((k + (a.f2.length : Int)) + (a.f3.length : Int)) (by omega) (by first | omega | (have := cntBs_le (xs := a.f4) (by assumption); omega))) rfl) ?_
 refine TL.cons rfl (Step.assign (p := (.one (.d (.int .i64 (((k + (a.f2.length : Int)) + (a.f3.length : Int)) + cntL (fun x : List Int => (x.length : Int)) a.f4))))) rfl rfl (lt_ok rfl) rfl) ?_
 refine TL.nil ?_
 refine T.seq ?_
 refine T.region ?_
 refine TL.cons rfl (Step.move (p := (.one (.d (.int .i64 (((k + (a.f2.length : Int)) + (a.f3.length : Int)) + cntL (fun x : List Int => (x.length : Int)) a.f4))))) rfl rfl (lt_ok rfl) rfl) ?_
 refine TL.cons rfl (Step.assign (p := (.one (.d (.int .i64 (((k + (a.f2.length : Int)) + (a.f3.length : Int)) + cntL (fun x : List Int => (x.length : Int)) a.f4))))) rfl rfl (lt_ok rfl) rfl) ?_
 refine TL.nil ?_
 refine T.ret ?_
 exact ⟨⟨⟨[(false, [.d (.int .i64 (((k + (a.f2.length : Int)) + (a.f3.length : Int)) + cntL (fun x : List Int => (x.length : Int)) a.f4))])], (.cons rfl .nil), rfl, [], (RetC.rd' (by first | rfl | (congr 1; simp only [SQc.cm]; omega)) .nil)⟩, rfl⟩, (.rd (.rd (.mk' (by rfl) (.mk' (by rfl) (.mk' (by rfl) (.rd .nil'))))))⟩
theorem ok_laws_toLimits (a : SLimits) : RO Try.prog 26 [.agg a.cells] [(true, [.rd (.int .i64 a.f0), .rd (.int .i64 a.f1), .rd (.int .i64 a.f2), .rd (.int .i64 a.f3), .rd (.int .i64 a.f4)])] := by
 refine RO.intro Try.func26 rfl 20 rfl (le_ok rfl) fun w Z => ?_
 refine T.seq ?_
 refine T.region ?_
 refine TL.cons rfl (Step.box (p := (.agg [.d (.int .i64 a.f0), .d (.int .i64 a.f1), .d (.int .i64 a.f2), .d (.int .i64 a.f3), .d (.int .i64 a.f4)])) (ps := [.d (.int .i64 a.f0), .d (.int .i64 a.f1), .d (.int .i64 a.f2), .d (.int .i64 a.f3), .d (.int .i64 a.f4)]) rfl rfl (lt_ok rfl) rfl rfl rfl rfl rfl) ?_
 refine TL.cons rfl (Step.alloc (cs := [.int .i64 0, .int .i64 0, .int .i64 0, .int .i64 0, .int .i64 0]) (ps := [.d (.int .i64 0), .d (.int .i64 0), .d (.int .i64 0), .d (.int .i64 0), .d (.int .i64 0)]) rfl rfl (lt_ok rfl) (by kernel_rfl) rfl rfl rfl rfl) ?_
 refine TL.nil ?_
 refine T.seq ?_
 refine T.region ?_
 refine TL.cons rfl (Step.alloc (cs := [.int .i64 0, .int .i64 0, .int .i64 0, .int .i64 0, .int .i64 0]) (ps := [.d (.int .i64 0), .d (.int .i64 0), .d (.int .i64 0), .d (.int .i64 0), .d (.int .i64 0)]) rfl rfl (lt_ok rfl) (by kernel_rfl) rfl rfl rfl rfl) ?_
 refine TL.nil ?_
 refine T.seq ?_
 refine T.region ?_
 refine TL.cons rfl (Step.fieldAddr (q := 0) (off := 0) (n := 1) (one := true) rfl rfl (lt_ok rfl) (by kernel_rfl) (Nat.succ_ne_zero _) rfl) ?_
 refine TL.cons rfl (Step.load_box (c := .d (.int .i64 a.f0)) rfl rfl (lt_ok rfl) (by kernel_rfl) rfl rfl rfl) ?_
 refine TL.cons rfl (Step.fieldAddr (q := 0) (off := 0) (n := 1) (one := true) rfl rfl (lt_ok rfl) (by kernel_rfl) (Nat.succ_ne_zero _) rfl) ?_
 refine TL.cons rfl (Step.store_box (n := 1) (p := (.one (.d (.int .i64 a.f0)))) (qs := [.d (.int .i64 a.f0)]) (ps' := [.d (.int .i64 a.f0), .d (.int .i64 0), .d (.int .i64 0), .d (.int .i64 0), .d (.int .i64 0)]) rfl rfl (by kernel_rfl) rfl rfl rfl rfl rfl rfl (le_ok rfl) rfl) ?_
 refine TL.nil ?_
 refine T.seq ?_
 refine T.region ?_
 refine TL.cons rfl (Step.fieldAddr (q := 0) (off := 1) (n := 1) (one := true) rfl rfl (lt_ok rfl) (by kernel_rfl) (Nat.succ_ne_zero _) rfl) ?_
 refine TL.cons rfl (Step.load_box (c := .d (.int .i64 a.f1)) rfl rfl (lt_ok rfl) (by kernel_rfl) rfl rfl rfl) ?_
 refine TL.cons rfl (Step.fieldAddr (q := 0) (off := 1) (n := 1) (one := true) rfl rfl (lt_ok rfl) (by kernel_rfl) (Nat.succ_ne_zero _) rfl) ?_
 refine TL.cons rfl (Step.store_box (n := 1) (p := (.one (.d (.int .i64 a.f1)))) (qs := [.d (.int .i64 a.f1)]) (ps' := [.d (.int .i64 a.f0), .d (.int .i64 a.f1), .d (.int .i64 0), .d (.int .i64 0), .d (.int .i64 0)]) rfl rfl (by kernel_rfl) rfl rfl rfl rfl rfl rfl (le_ok rfl) rfl) ?_
 refine TL.nil ?_
 refine T.seq ?_
 refine T.region ?_
 refine TL.cons rfl (Step.fieldAddr (q := 0) (off := 2) (n := 1) (one := true) rfl rfl (lt_ok rfl) (by kernel_rfl) (Nat.succ_ne_zero _) rfl) ?_
 refine TL.cons rfl (Step.load_box (c := .d (.int .i64 a.f2)) rfl rfl (lt_ok rfl) (by kernel_rfl) rfl rfl rfl) ?_
 refine TL.cons rfl (Step.fieldAddr (q := 0) (off := 2) (n := 1) (one := true) rfl rfl (lt_ok rfl) (by kernel_rfl) (Nat.succ_ne_zero _) rfl) ?_
 refine TL.cons rfl (Step.store_box (n := 1) (p := (.one (.d (.int .i64 a.f2)))) (qs := [.d (.int .i64 a.f2)]) (ps' := [.d (.int .i64 a.f0), .d (.int .i64 a.f1), .d (.int .i64 a.f2), .d (.int .i64 0), .d (.int .i64 0)]) rfl rfl (by kernel_rfl) rfl rfl rfl rfl rfl rfl (le_ok rfl) rfl) ?_
 refine TL.nil ?_
 refine T.seq ?_
 refine T.region ?_
 refine TL.cons rfl (Step.fieldAddr (q := 0) (off := 3) (n := 1) (one := true) rfl rfl (lt_ok rfl) (by kernel_rfl) (Nat.succ_ne_zero _) rfl) ?_
 refine TL.cons rfl (Step.load_box (c := .d (.int .i64 a.f3)) rfl rfl (lt_ok rfl) (by kernel_rfl) rfl rfl rfl) ?_
 refine TL.cons rfl (Step.fieldAddr (q := 0) (off := 3) (n := 1) (one := true) rfl rfl (lt_ok rfl) (by kernel_rfl) (Nat.succ_ne_zero _) rfl) ?_
 refine TL.cons rfl (Step.store_box (n := 1) (p := (.one (.d (.int .i64 a.f3)))) (qs := [.d (.int .i64 a.f3)]) (ps' := [.d (.int .i64 a.f0), .d (.int .i64 a.f1), .d (.int .i64 a.f2), .d (.int .i64 a.f3), .d (.int .i64 0)]) rfl rfl (by kernel_rfl) rfl rfl rfl rfl rfl rfl (le_ok rfl) rfl) ?_
 refine TL.nil ?_
 refine T.seq ?_
 refine T.region ?_
 refine TL.cons rfl (Step.fieldAddr (q := 0) (off := 4) (n := 1) (one := true) rfl rfl (lt_ok rfl) (by kernel_rfl) (Nat.succ_ne_zero _) rfl) ?_
 refine TL.cons rfl (Step.load_box (c := .d (.int .i64 a.f4)) rfl rfl (lt_ok rfl) (by kernel_rfl) rfl rfl rfl) ?_
 refine TL.cons rfl (Step.fieldAddr (q := 0) (off := 4) (n := 1) (one := true) rfl rfl (lt_ok rfl) (by kernel_rfl) (Nat.succ_ne_zero _) rfl) ?_
 refine TL.cons rfl (Step.store_box (n := 1) (p := (.one (.d (.int .i64 a.f4)))) (qs := [.d (.int .i64 a.f4)]) (ps' := [.d (.int .i64 a.f0), .d (.int .i64 a.f1), .d (.int .i64 a.f2), .d (.int .i64 a.f3), .d (.int .i64 a.f4)]) rfl rfl (by kernel_rfl) rfl rfl rfl rfl rfl rfl (le_ok rfl) rfl) ?_
 refine TL.nil ?_
 refine T.seq ?_
 refine T.region ?_
 refine TL.cons rfl (Step.load_box_agg (n := 5) (qs := [.d (.int .i64 a.f0), .d (.int .i64 a.f1), .d (.int .i64 a.f2), .d (.int .i64 a.f3), .d (.int .i64 a.f4)]) rfl rfl (lt_ok rfl) (by kernel_rfl) rfl rfl rfl rfl) ?_
 refine TL.cons rfl (Step.store_box (n := 5) (p := (.agg [.d (.int .i64 a.f0), .d (.int .i64 a.f1), .d (.int .i64 a.f2), .d (.int .i64 a.f3), .d (.int .i64 a.f4)])) (qs := [.d (.int .i64 a.f0), .d (.int .i64 a.f1), .d (.int .i64 a.f2), .d (.int .i64 a.f3), .d (.int .i64 a.f4)]) (ps' := [.d (.int .i64 a.f0), .d (.int .i64 a.f1), .d (.int .i64 a.f2), .d (.int .i64 a.f3), .d (.int .i64 a.f4)]) rfl rfl (by kernel_rfl) rfl rfl rfl rfl rfl rfl (le_ok rfl) rfl) ?_
 refine TL.nil ?_
 refine T.ret ?_
 exact ⟨[(true, [.d (.int .i64 a.f0), .d (.int .i64 a.f1), .d (.int .i64 a.f2), .d (.int .i64 a.f3), .d (.int .i64 a.f4)])], (.cons rfl .nil), rfl, [], (RetC.rd' (by rfl) (RetC.rd' (by rfl) (RetC.rd' (by rfl) (RetC.rd' (by rfl) (RetC.rd' (by rfl) .nil)))))⟩
theorem ok_laws_heldByteS (a : List Int) (b : List Int) (k : Int) (h0_ : 0 ≤ k) (h1_ : k + (a.length : Int) ≤ 4611686018427387904) (h2_ : b = mkB a k) : RO Try.prog 33 [.one (.ints .u8 b), .one (.int .i64 k)] [(false, [.rd (.int .i64 (k + (a.length : Int)))])] := by
 refine RO.intro Try.func33 rfl 22 rfl (le_ok rfl) fun w Z => ?_
 refine T.bnd 0 0 rfl rfl fun hb_0_0 => ?_
 simp only [D.size, List.length_map] at hb_0_0
 have hl_ : b.length = a.length := by rw [h2_, mkL_length]
 have hg_ : ∀ i, i < a.length → b.getD i 0 = (k + (i : Int)) % 256 := fun i hi => by rw [h2_, mkL_getD _ _ _ _ hi]; simp only [cntL_one_take a i (by omega)]
 refine T.seq ?_
 refine T.region ?_
 refine TL.cons rfl (Step.assign (p := (.one (.d (.int .i64 0)))) rfl rfl (lt_ok rfl) rfl) ?_
 refine TL.nil ?_
 refine T.seq ?_
 refine T.seq ?_
 refine T.region ?_
 refine TL.cons rfl (Step.assign (p := (.one (.d (.int .i64 0)))) rfl rfl (lt_ok rfl) rfl) ?_
 refine TL.nil ?_
 refine T.block ?_
 refine T.loop (ι := Nat) (fun x => { tm := [(0, (.one (.d (.ints .u8 b)))), (5, (.one (.d (.int .i64 (x : Int))))), (1, (.one (.d (.int .i64 (k + (x : Int))))))], rows := [], boxes := [] }) (fun x => x ≤ a.length) (fun x => a.length - x) 0 ?_ ?_ ?_
 · exact Env.le_mk ⟨rfl, by first | rfl | (refine congrArg (fun n => PV.one (.d (.int .i64 n))) ?_; first | omega | (simp; done) | (simp [cntL]; done)), by first | rfl | (refine congrArg (fun n => PV.one (.d (.int .i64 n))) ?_; first | omega | (simp; done) | (simp [cntL]; done)), trivial⟩ trivial trivial
 · exact Nat.zero_le _
 ·
  intro i hx
  try dsimp only at hx ⊢
  refine T.seq ?_
  refine T.seq ?_
  refine T.region ?_
  refine TL.cons rfl (Step.move (p := (.one (.d (.int .i64 (i : Int))))) rfl rfl (lt_ok rfl) rfl) ?_
  refine TL.cons rfl (Step.move (p := (.one (.d (.ints .u8 b)))) rfl rfl (lt_ok rfl) rfl) ?_
  refine TL.cons rfl (Step.len (e := 5) (z := 1) (d := (.ints .u8 b)) rfl rfl (lt_ok rfl) (by kernel_rfl) rfl rfl) ?_
  refine TL.cons rfl (Step.bin rfl rfl (lt_ok rfl) rfl rfl (Bin.lss (k := .i64) (a := (i : Int)) (b := (b.length : Int)))) ?_
  refine TL.nil ?_
  refine T.cond (b := decide ((i : Int) < (b.length : Int))) rfl (fun h1 => ?_) (fun h1 => ?_)
  ·
   replace h1 := of_decide_eq_true h1
   refine T.skip ?_
   refine T.seq ?_
   refine T.block ?_
   refine T.seq ?_
   refine T.seq ?_
   refine T.region ?_
   refine TL.cons rfl (Step.move (p := (.one (.d (.ints .u8 b)))) rfl rfl (lt_ok rfl) rfl) ?_
   refine TL.cons rfl (Step.move (p := (.one (.d (.int .i64 (i : Int))))) rfl rfl (lt_ok rfl) rfl) ?_
   refine TL.cons rfl (Step.index (e := 5) (z := 1) (i := (i : Int)) rfl rfl (lt_ok rfl) (by kernel_rfl) rfl rfl rfl (lt_ok rfl) rfl (by first | omega | (simp; omega)) (by simp only [D.size]; first | omega | (simp; omega))) ?_
   refine TL.cons rfl (Step.load (e := (.int .u8 (b.getD i 0))) rfl rfl (lt_ok rfl) (by kernel_rfl) rfl rfl) ?_
   refine TL.cons rfl (Step.move (p := (.one (.d (.int .i64 (k + (i : Int)))))) rfl rfl (lt_ok rfl) rfl) ?_
   refine TL.cons rfl (Step.conv (c := ((k + (i : Int)) % 256)) rfl rfl (lt_ok rfl) (by kernel_rfl) (by kernel_rfl) rfl (wrap_byte _)) ?_
   refine TL.cons rfl (Step.bin rfl rfl (lt_ok rfl) rfl rfl (Bin.neq (k := .u8) (a := (b.getD i 0)) (b := ((k + (i : Int)) % 256)))) ?_
   refine TL.nil ?_
   refine T.cond (b := decide ((b.getD i 0) ≠ ((k + (i : Int)) % 256))) rfl (fun h2 => ?_) (fun h2 => ?_)
   ·
    replace h2 := of_decide_eq_true h2
    refine T.seq ?_
    refine T.region ?_
    refine TL.cons rfl (Step.assign (p := (.one (.d (.int .i64 (-1))))) rfl rfl (lt_ok rfl) rfl) ?_
    refine TL.nil ?_
    refine T.ret ?_
    exact ⟨[(false, [.d (.int .i64 (-1))])], (.cons rfl .nil), rfl, [], (RetC.rd' (by first | (congr 1; omega) | (exfalso; have := hg_ i (by omega); omega)) .nil)⟩
   ·
    replace h2 := of_decide_eq_false h2
    refine T.skip ?_
    refine T.region ?_
    refine TL.cons rfl (Step.move (p := (.one (.d (.int .i64 (k + (i : Int)))))) rfl rfl (lt_ok rfl) rfl) ?_
    refine TL.cons rfl (Step.bin (r := .int .i64 ((k + (i : Int)) + 1)) rfl rfl (lt_ok rfl) rfl rfl (Bin.add (a := (k + (i : Int))) (b := 1) (by first | exact wrap_ok (by first | omega | (simp; omega)) (by first | omega | (simp; omega)) | rfl))) ?_
    refine TL.cons rfl (Step.assign (p := (.one (.d (.int .i64 ((k + (i : Int)) + 1))))) rfl rfl (lt_ok rfl) rfl) ?_
    refine TL.nil ?_
    refine T.region ?_
    refine TL.cons rfl (Step.move (p := (.one (.d (.int .i64 (i : Int))))) rfl rfl (lt_ok rfl) rfl) ?_
    refine TL.cons rfl (Step.bin (r := .int .i64 ((i : Int) + 1)) rfl rfl (lt_ok rfl) rfl rfl (Bin.add (a := (i : Int)) (b := 1) (by first | exact wrap_ok (by first | omega | (simp; omega)) (by first | omega | (simp; omega)) | rfl))) ?_
    refine TL.cons rfl (Step.assign (p := (.one (.d (.int .i64 ((i : Int) + 1))))) rfl rfl (lt_ok rfl) rfl) ?_
    refine TL.nil ?_
    exact ⟨i + 1, by omega, by first | omega | (dsimp only; omega), Env.le_mk ⟨rfl, by first | rfl | (refine congrArg (fun n => PV.one (.d (.int .i64 n))) ?_; first | omega | (simp; done) | (simp [cntL]; done)), by first | rfl | (refine congrArg (fun n => PV.one (.d (.int .i64 n))) ?_; first | omega | (simp; done) | (simp [cntL]; done)), trivial⟩ trivial trivial⟩
  ·
   replace h1 := of_decide_eq_false h1
   refine T.exit ?_
   refine T.seq ?_
   refine T.region ?_
   refine TL.cons rfl (Step.move (p := (.one (.d (.int .i64 (k + (i : Int)))))) rfl rfl (lt_ok rfl) rfl) ?_
   refine TL.cons rfl (Step.assign (p := (.one (.d (.int .i64 (k + (i : Int)))))) rfl rfl (lt_ok rfl) rfl) ?_
   refine TL.nil ?_
   refine T.ret ?_
   exact ⟨[(false, [.d (.int .i64 (k + (i : Int)))])], (.cons rfl .nil), rfl, [], (RetC.rd' (by first | (congr 1; omega) | (exfalso; have := hg_ i (by omega); omega)) .nil)⟩
theorem ok_spec_l01In (n : Int) (lo : Int) (hi : Int) : RO Try.prog 138 [.one (.int .i64 n), .one (.int .i64 lo), .one (.int .i64 hi)] [(false, [.rd (.bool (decide (lo ≤ n ∧ n ≤ hi)))])] := by
 refine RO.intro Try.func138 rfl 15 rfl (le_ok rfl) fun w Z => ?_
 refine T.seq ?_
 refine T.region ?_
 refine TL.cons rfl (Step.assign (p := (.one (.d (.bool false)))) rfl rfl (lt_ok rfl) rfl) ?_
 refine TL.nil ?_
 refine T.seq ?_
 refine T.region ?_
 refine TL.cons rfl (Step.move (p := (.one (.d (.int .i64 n)))) rfl rfl (lt_ok rfl) rfl) ?_
 refine TL.cons rfl (Step.move (p := (.one (.d (.int .i64 lo)))) rfl rfl (lt_ok rfl) rfl) ?_
 refine TL.cons rfl (Step.bin rfl rfl (lt_ok rfl) rfl rfl (Bin.geq (k := .i64) (a := n) (b := lo))) ?_
 refine TL.cons rfl (Step.move (p := (.one (.d (.bool (decide (lo ≤ n)))))) rfl rfl (lt_ok rfl) rfl) ?_
 rcases Bool.eq_false_or_eq_true (decide (lo ≤ n)) with hb1 | hb1
 ·
  refine TL.known 10 hb1 rfl ?_
  refine TL.gyes 10 rfl rfl (lt_ok rfl) rfl (Step.move (p := (.one (.d (.int .i64 n)))) rfl rfl (lt_ok rfl) rfl) ?_
  refine TL.gyes 10 rfl rfl (lt_ok rfl) rfl (Step.move (p := (.one (.d (.int .i64 hi)))) rfl rfl (lt_ok rfl) rfl) ?_
  refine TL.gyes 10 rfl rfl (lt_ok rfl) rfl (Step.bin rfl rfl (lt_ok rfl) rfl rfl (Bin.leq (k := .i64) (a := n) (b := hi))) ?_
  refine TL.cons rfl (Step.pick (b := true) (p := (.one (.d (.bool (decide (n ≤ hi)))))) rfl rfl (lt_ok rfl) rfl rfl) ?_
  refine TL.cons rfl (Step.assign (p := (.one (.d (.bool (decide (n ≤ hi)))))) rfl rfl (lt_ok rfl) rfl) ?_
  refine TL.nil ?_
  refine T.ret ?_
  exact ⟨[(false, [.d (.bool (decide (n ≤ hi)))])], (.cons rfl .nil), rfl, [], (RetC.rd' (by first | (congr 1; simp_all; done) | (congr 1; simp_all; omega)) .nil)⟩
 ·
  refine TL.known 10 hb1 rfl ?_
  refine TL.gno 10 rfl rfl (lt_ok rfl) rfl rfl rfl (lt_ok rfl) ?_
  refine TL.gno 10 rfl rfl (lt_ok rfl) rfl rfl rfl (lt_ok rfl) ?_
  refine TL.gno 10 rfl rfl (lt_ok rfl) rfl rfl rfl (lt_ok rfl) ?_
  refine TL.cons rfl (Step.pick (b := false) (p := (.one (.d (.bool false)))) rfl rfl (lt_ok rfl) rfl rfl) ?_
  refine TL.cons rfl (Step.assign (p := (.one (.d (.bool false)))) rfl rfl (lt_ok rfl) rfl) ?_
  refine TL.nil ?_
  refine T.ret ?_
  exact ⟨[(false, [.d (.bool false)])], (.cons rfl .nil), rfl, [], (RetC.rd' (by first | (congr 1; simp_all; done) | (congr 1; simp_all; omega)) .nil)⟩
theorem ok_spec_l02Signers (n : Int) : RO Try.prog 141 [.one (.int .i64 n)] [(false, [.rd (.bool (decide (1 ≤ n ∧ n ≤ 10)))])] := by
 refine RO.intro Try.func141 rfl 5 rfl (le_ok rfl) fun w Z => ?_
 refine T.seq ?_
 refine T.region ?_
 refine TL.cons rfl (Step.assign (p := (.one (.d (.bool false)))) rfl rfl (lt_ok rfl) rfl) ?_
 refine TL.nil ?_
 refine T.seq ?_
 refine T.region ?_
 refine TL.cons rfl (Step.move (p := (.one (.d (.int .i64 n)))) rfl rfl (lt_ok rfl) rfl) ?_
 refine TL.cons rfl (Step.call (f := 138) (xs := [.tmp 3, .const (.int .i64 1), .const (.int .i64 10)]) (ps := [(.one (.d (.int .i64 n))), (.one (.d (.int .i64 1))), (.one (.d (.int .i64 10)))]) false (g := .func 138) rfl rfl (lt_ok rfl) rfl (by kernel_rfl) rfl (.cons (.one (.d _)) (.cons (.one (.d _)) (.cons (.one (.d _)) .nil))) (ok_spec_l01In n 1 10) (.inr rfl) rfl (by simp) rfl) ?_
 refine TL.cons rfl (Step.assign (p := (.one (.d (.bool (decide (1 ≤ n ∧ n ≤ 10)))))) rfl rfl (lt_ok rfl) rfl) ?_
 refine TL.nil ?_
 refine T.ret ?_
 exact ⟨[(false, [.d (.bool (decide (1 ≤ n ∧ n ≤ 10)))])], (.cons rfl .nil), rfl, [], (RetC.rd' (by rfl) .nil)⟩
theorem ok_spec_LimitsOk (l : SLimits) : RO Try.prog 94 [.agg l.cells] [(false, [.rd (.bool (limOk l))])] := by
 refine RO.intro Try.func94 rfl 26 rfl (le_ok rfl) fun w Z => ?_
 refine T.seq ?_
 refine T.region ?_
 refine TL.cons rfl (Step.box (p := (.agg [.d (.int .i64 l.f0), .d (.int .i64 l.f1), .d (.int .i64 l.f2), .d (.int .i64 l.f3), .d (.int .i64 l.f4)])) (ps := [.d (.int .i64 l.f0), .d (.int .i64 l.f1), .d (.int .i64 l.f2), .d (.int .i64 l.f3), .d (.int .i64 l.f4)]) rfl rfl (lt_ok rfl) rfl rfl rfl rfl rfl) ?_
 refine TL.cons rfl (Step.assign (p := (.one (.d (.bool false)))) rfl rfl (lt_ok rfl) rfl) ?_
 refine TL.nil ?_
 refine T.seq ?_
 refine T.region ?_
 refine TL.cons rfl (Step.fieldAddr (q := 0) (off := 0) (n := 1) (one := true) rfl rfl (lt_ok rfl) (by kernel_rfl) (Nat.succ_ne_zero _) rfl) ?_
 refine TL.cons rfl (Step.load_box (c := .d (.int .i64 l.f0)) rfl rfl (lt_ok rfl) (by kernel_rfl) rfl rfl rfl) ?_
 refine TL.cons rfl (Step.call (f := 141) (xs := [.tmp 4]) (ps := [(.one (.d (.int .i64 l.f0)))]) false (g := .func 141) rfl rfl (lt_ok rfl) rfl (by kernel_rfl) rfl (.cons (.one (.d _)) .nil) (ok_spec_l02Signers l.f0) (.inr rfl) rfl (by simp) rfl) ?_
 refine TL.cons rfl (Step.move (p := (.one (.d (.bool (decide (1 ≤ l.f0 ∧ l.f0 ≤ 10)))))) rfl rfl (lt_ok rfl) rfl) ?_
 rcases Bool.eq_false_or_eq_true (decide (1 ≤ l.f0 ∧ l.f0 ≤ 10)) with hb1 | hb1
 ·
  refine TL.known 6 hb1 rfl ?_
  refine TL.gyes 6 rfl rfl (lt_ok rfl) rfl (Step.fieldAddr (q := 0) (off := 1) (n := 1) (one := true) rfl rfl (lt_ok rfl) (by kernel_rfl) (Nat.succ_ne_zero _) rfl) ?_
  refine TL.gyes 6 rfl rfl (lt_ok rfl) rfl (Step.load_box (c := .d (.int .i64 l.f1)) rfl rfl (lt_ok rfl) (by kernel_rfl) rfl rfl rfl) ?_
  refine TL.gyes 6 rfl rfl (lt_ok rfl) rfl (Step.call (f := 138) (xs := [.tmp 8, .const (.int .i64 0), .const (.int .i64 40)]) (ps := [(.one (.d (.int .i64 l.f1))), (.one (.d (.int .i64 0))), (.one (.d (.int .i64 40)))]) false (g := .func 138) rfl rfl (lt_ok rfl) rfl (by kernel_rfl) rfl (.cons (.one (.d _)) (.cons (.one (.d _)) (.cons (.one (.d _)) .nil))) (ok_spec_l01In l.f1 0 40) (.inr rfl) rfl (by simp) rfl) ?_
  refine TL.cons rfl (Step.pick (b := true) (p := (.one (.d (.bool (decide (0 ≤ l.f1 ∧ l.f1 ≤ 40)))))) rfl rfl (lt_ok rfl) rfl rfl) ?_
  refine TL.cons rfl (Step.move (p := (.one (.d (.bool (decide (0 ≤ l.f1 ∧ l.f1 ≤ 40)))))) rfl rfl (lt_ok rfl) rfl) ?_
  rcases Bool.eq_false_or_eq_true (decide (0 ≤ l.f1 ∧ l.f1 ≤ 40)) with hb2 | hb2
  ·
   refine TL.known 11 hb2 rfl ?_
   refine TL.gyes 11 rfl rfl (lt_ok rfl) rfl (Step.fieldAddr (q := 0) (off := 2) (n := 1) (one := true) rfl rfl (lt_ok rfl) (by kernel_rfl) (Nat.succ_ne_zero _) rfl) ?_
   refine TL.gyes 11 rfl rfl (lt_ok rfl) rfl (Step.load_box (c := .d (.int .i64 l.f2)) rfl rfl (lt_ok rfl) (by kernel_rfl) rfl rfl rfl) ?_
   refine TL.gyes 11 rfl rfl (lt_ok rfl) rfl (Step.call (f := 138) (xs := [.tmp 13, .const (.int .i64 0), .const (.int .i64 8)]) (ps := [(.one (.d (.int .i64 l.f2))), (.one (.d (.int .i64 0))), (.one (.d (.int .i64 8)))]) false (g := .func 138) rfl rfl (lt_ok rfl) rfl (by kernel_rfl) rfl (.cons (.one (.d _)) (.cons (.one (.d _)) (.cons (.one (.d _)) .nil))) (ok_spec_l01In l.f2 0 8) (.inr rfl) rfl (by simp) rfl) ?_
   refine TL.cons rfl (Step.pick (b := true) (p := (.one (.d (.bool (decide (0 ≤ l.f2 ∧ l.f2 ≤ 8)))))) rfl rfl (lt_ok rfl) rfl rfl) ?_
   refine TL.cons rfl (Step.move (p := (.one (.d (.bool (decide (0 ≤ l.f2 ∧ l.f2 ≤ 8)))))) rfl rfl (lt_ok rfl) rfl) ?_
   rcases Bool.eq_false_or_eq_true (decide (0 ≤ l.f2 ∧ l.f2 ≤ 8)) with hb3 | hb3
   ·
    refine TL.known 16 hb3 rfl ?_
    refine TL.gyes 16 rfl rfl (lt_ok rfl) rfl (Step.fieldAddr (q := 0) (off := 3) (n := 1) (one := true) rfl rfl (lt_ok rfl) (by kernel_rfl) (Nat.succ_ne_zero _) rfl) ?_
    refine TL.gyes 16 rfl rfl (lt_ok rfl) rfl (Step.load_box (c := .d (.int .i64 l.f3)) rfl rfl (lt_ok rfl) (by kernel_rfl) rfl rfl rfl) ?_
    refine TL.gyes 16 rfl rfl (lt_ok rfl) rfl (Step.call (f := 138) (xs := [.tmp 18, .const (.int .i64 1), .const (.int .i64 4000)]) (ps := [(.one (.d (.int .i64 l.f3))), (.one (.d (.int .i64 1))), (.one (.d (.int .i64 4000)))]) false (g := .func 138) rfl rfl (lt_ok rfl) rfl (by kernel_rfl) rfl (.cons (.one (.d _)) (.cons (.one (.d _)) (.cons (.one (.d _)) .nil))) (ok_spec_l01In l.f3 1 4000) (.inr rfl) rfl (by simp) rfl) ?_
    refine TL.cons rfl (Step.pick (b := true) (p := (.one (.d (.bool (decide (1 ≤ l.f3 ∧ l.f3 ≤ 4000)))))) rfl rfl (lt_ok rfl) rfl rfl) ?_
    refine TL.cons rfl (Step.move (p := (.one (.d (.bool (decide (1 ≤ l.f3 ∧ l.f3 ≤ 4000)))))) rfl rfl (lt_ok rfl) rfl) ?_
    rcases Bool.eq_false_or_eq_true (decide (1 ≤ l.f3 ∧ l.f3 ≤ 4000)) with hb4 | hb4
    ·
     refine TL.known 21 hb4 rfl ?_
     refine TL.gyes 21 rfl rfl (lt_ok rfl) rfl (Step.fieldAddr (q := 0) (off := 4) (n := 1) (one := true) rfl rfl (lt_ok rfl) (by kernel_rfl) (Nat.succ_ne_zero _) rfl) ?_
     refine TL.gyes 21 rfl rfl (lt_ok rfl) rfl (Step.load_box (c := .d (.int .i64 l.f4)) rfl rfl (lt_ok rfl) (by kernel_rfl) rfl rfl rfl) ?_
     refine TL.gyes 21 rfl rfl (lt_ok rfl) rfl (Step.call (f := 138) (xs := [.tmp 23, .const (.int .i64 3), .const (.int .i64 5)]) (ps := [(.one (.d (.int .i64 l.f4))), (.one (.d (.int .i64 3))), (.one (.d (.int .i64 5)))]) false (g := .func 138) rfl rfl (lt_ok rfl) rfl (by kernel_rfl) rfl (.cons (.one (.d _)) (.cons (.one (.d _)) (.cons (.one (.d _)) .nil))) (ok_spec_l01In l.f4 3 5) (.inr rfl) rfl (by simp) rfl) ?_
     refine TL.cons rfl (Step.pick (b := true) (p := (.one (.d (.bool (decide (3 ≤ l.f4 ∧ l.f4 ≤ 5)))))) rfl rfl (lt_ok rfl) rfl rfl) ?_
     refine TL.cons rfl (Step.assign (p := (.one (.d (.bool (decide (3 ≤ l.f4 ∧ l.f4 ≤ 5)))))) rfl rfl (lt_ok rfl) rfl) ?_
     refine TL.nil ?_
     refine T.ret ?_
     exact ⟨[(false, [.d (.bool (decide (3 ≤ l.f4 ∧ l.f4 ≤ 5)))])], (.cons rfl .nil), rfl, [], (RetC.rd' (by first | rfl | (congr 1; symm; simp only [limOk, *, Bool.and_true, Bool.true_and, Bool.and_false, Bool.false_and, decide_true, decide_false, and_true, true_and, and_self, and_false, false_and, Bool.and_self, not_true, not_false, Bool.not_true, Bool.not_false, ge_iff_le, gt_iff_lt, if_true, if_false, Bool.false_eq_true, ite_true, ite_false, reduceIte]; done) | (congr 1; symm; simp_all [limOk]; done) | (congr 1; symm; simp_all [limOk]; omega)) .nil)⟩
    ·
     refine TL.known 21 hb4 rfl ?_
     refine TL.gno 21 rfl rfl (lt_ok rfl) rfl rfl rfl (lt_ok rfl) ?_
     refine TL.gno 21 rfl rfl (lt_ok rfl) rfl rfl rfl (lt_ok rfl) ?_
     refine TL.gno 21 rfl rfl (lt_ok rfl) rfl rfl rfl (lt_ok rfl) ?_
     refine TL.cons rfl (Step.pick (b := false) (p := (.one (.d (.bool false)))) rfl rfl (lt_ok rfl) rfl rfl) ?_
     refine TL.cons rfl (Step.assign (p := (.one (.d (.bool false)))) rfl rfl (lt_ok rfl) rfl) ?_
     refine TL.nil ?_
     refine T.ret ?_
     exact ⟨[(false, [.d (.bool false)])], (.cons rfl .nil), rfl, [], (RetC.rd' (by first | rfl | (congr 1; symm; simp only [limOk, *, Bool.and_true, Bool.true_and, Bool.and_false, Bool.false_and, decide_true, decide_false, and_true, true_and, and_self, and_false, false_and, Bool.and_self, not_true, not_false, Bool.not_true, Bool.not_false, ge_iff_le, gt_iff_lt, if_true, if_false, Bool.false_eq_true, ite_true, ite_false, reduceIte]; done) | (congr 1; symm; simp_all [limOk]; done) | (congr 1; symm; simp_all [limOk]; omega)) .nil)⟩
   ·
    refine TL.known 16 hb3 rfl ?_
    refine TL.gno 16 rfl rfl (lt_ok rfl) rfl rfl rfl (lt_ok rfl) ?_
    refine TL.gno 16 rfl rfl (lt_ok rfl) rfl rfl rfl (lt_ok rfl) ?_
    refine TL.gno 16 rfl rfl (lt_ok rfl) rfl rfl rfl (lt_ok rfl) ?_
    refine TL.cons rfl (Step.pick (b := false) (p := (.one (.d (.bool false)))) rfl rfl (lt_ok rfl) rfl rfl) ?_
    refine TL.cons rfl (Step.move (p := (.one (.d (.bool false)))) rfl rfl (lt_ok rfl) rfl) ?_
    refine TL.gno 21 rfl rfl (lt_ok rfl) rfl rfl rfl (lt_ok rfl) ?_
    refine TL.gno 21 rfl rfl (lt_ok rfl) rfl rfl rfl (lt_ok rfl) ?_
    refine TL.gno 21 rfl rfl (lt_ok rfl) rfl rfl rfl (lt_ok rfl) ?_
    refine TL.cons rfl (Step.pick (b := false) (p := (.one (.d (.bool false)))) rfl rfl (lt_ok rfl) rfl rfl) ?_
    refine TL.cons rfl (Step.assign (p := (.one (.d (.bool false)))) rfl rfl (lt_ok rfl) rfl) ?_
    refine TL.nil ?_
    refine T.ret ?_
    exact ⟨[(false, [.d (.bool false)])], (.cons rfl .nil), rfl, [], (RetC.rd' (by first | rfl | (congr 1; symm; simp only [limOk, *, Bool.and_true, Bool.true_and, Bool.and_false, Bool.false_and, decide_true, decide_false, and_true, true_and, and_self, and_false, false_and, Bool.and_self, not_true, not_false, Bool.not_true, Bool.not_false, ge_iff_le, gt_iff_lt, if_true, if_false, Bool.false_eq_true, ite_true, ite_false, reduceIte]; done) | (congr 1; symm; simp_all [limOk]; done) | (congr 1; symm; simp_all [limOk]; omega)) .nil)⟩
  ·
   refine TL.known 11 hb2 rfl ?_
   refine TL.gno 11 rfl rfl (lt_ok rfl) rfl rfl rfl (lt_ok rfl) ?_
   refine TL.gno 11 rfl rfl (lt_ok rfl) rfl rfl rfl (lt_ok rfl) ?_
   refine TL.gno 11 rfl rfl (lt_ok rfl) rfl rfl rfl (lt_ok rfl) ?_
   refine TL.cons rfl (Step.pick (b := false) (p := (.one (.d (.bool false)))) rfl rfl (lt_ok rfl) rfl rfl) ?_
   refine TL.cons rfl (Step.move (p := (.one (.d (.bool false)))) rfl rfl (lt_ok rfl) rfl) ?_
   refine TL.gno 16 rfl rfl (lt_ok rfl) rfl rfl rfl (lt_ok rfl) ?_
   refine TL.gno 16 rfl rfl (lt_ok rfl) rfl rfl rfl (lt_ok rfl) ?_
   refine TL.gno 16 rfl rfl (lt_ok rfl) rfl rfl rfl (lt_ok rfl) ?_
   refine TL.cons rfl (Step.pick (b := false) (p := (.one (.d (.bool false)))) rfl rfl (lt_ok rfl) rfl rfl) ?_
   refine TL.cons rfl (Step.move (p := (.one (.d (.bool false)))) rfl rfl (lt_ok rfl) rfl) ?_
   refine TL.gno 21 rfl rfl (lt_ok rfl) rfl rfl rfl (lt_ok rfl) ?_
   refine TL.gno 21 rfl rfl (lt_ok rfl) rfl rfl rfl (lt_ok rfl) ?_
   refine TL.gno 21 rfl rfl (lt_ok rfl) rfl rfl rfl (lt_ok rfl) ?_
   refine TL.cons rfl (Step.pick (b := false) (p := (.one (.d (.bool false)))) rfl rfl (lt_ok rfl) rfl rfl) ?_
   refine TL.cons rfl (Step.assign (p := (.one (.d (.bool false)))) rfl rfl (lt_ok rfl) rfl) ?_
   refine TL.nil ?_
   refine T.ret ?_
   exact ⟨[(false, [.d (.bool false)])], (.cons rfl .nil), rfl, [], (RetC.rd' (by first | rfl | (congr 1; symm; simp only [limOk, *, Bool.and_true, Bool.true_and, Bool.and_false, Bool.false_and, decide_true, decide_false, and_true, true_and, and_self, and_false, false_and, Bool.and_self, not_true, not_false, Bool.not_true, Bool.not_false, ge_iff_le, gt_iff_lt, if_true, if_false, Bool.false_eq_true, ite_true, ite_false, reduceIte]; done) | (congr 1; symm; simp_all [limOk]; done) | (congr 1; symm; simp_all [limOk]; omega)) .nil)⟩
 ·
  refine TL.known 6 hb1 rfl ?_
  refine TL.gno 6 rfl rfl (lt_ok rfl) rfl rfl rfl (lt_ok rfl) ?_
  refine TL.gno 6 rfl rfl (lt_ok rfl) rfl rfl rfl (lt_ok rfl) ?_
  refine TL.gno 6 rfl rfl (lt_ok rfl) rfl rfl rfl (lt_ok rfl) ?_
  refine TL.cons rfl (Step.pick (b := false) (p := (.one (.d (.bool false)))) rfl rfl (lt_ok rfl) rfl rfl) ?_
  refine TL.cons rfl (Step.move (p := (.one (.d (.bool false)))) rfl rfl (lt_ok rfl) rfl) ?_
  refine TL.gno 11 rfl rfl (lt_ok rfl) rfl rfl rfl (lt_ok rfl) ?_
  refine TL.gno 11 rfl rfl (lt_ok rfl) rfl rfl rfl (lt_ok rfl) ?_
  refine TL.gno 11 rfl rfl (lt_ok rfl) rfl rfl rfl (lt_ok rfl) ?_
  refine TL.cons rfl (Step.pick (b := false) (p := (.one (.d (.bool false)))) rfl rfl (lt_ok rfl) rfl rfl) ?_
  refine TL.cons rfl (Step.move (p := (.one (.d (.bool false)))) rfl rfl (lt_ok rfl) rfl) ?_
  refine TL.gno 16 rfl rfl (lt_ok rfl) rfl rfl rfl (lt_ok rfl) ?_
  refine TL.gno 16 rfl rfl (lt_ok rfl) rfl rfl rfl (lt_ok rfl) ?_
  refine TL.gno 16 rfl rfl (lt_ok rfl) rfl rfl rfl (lt_ok rfl) ?_
  refine TL.cons rfl (Step.pick (b := false) (p := (.one (.d (.bool false)))) rfl rfl (lt_ok rfl) rfl rfl) ?_
  refine TL.cons rfl (Step.move (p := (.one (.d (.bool false)))) rfl rfl (lt_ok rfl) rfl) ?_
  refine TL.gno 21 rfl rfl (lt_ok rfl) rfl rfl rfl (lt_ok rfl) ?_
  refine TL.gno 21 rfl rfl (lt_ok rfl) rfl rfl rfl (lt_ok rfl) ?_
  refine TL.gno 21 rfl rfl (lt_ok rfl) rfl rfl rfl (lt_ok rfl) ?_
  refine TL.cons rfl (Step.pick (b := false) (p := (.one (.d (.bool false)))) rfl rfl (lt_ok rfl) rfl rfl) ?_
  refine TL.cons rfl (Step.assign (p := (.one (.d (.bool false)))) rfl rfl (lt_ok rfl) rfl) ?_
  refine TL.nil ?_
  refine T.ret ?_
  exact ⟨[(false, [.d (.bool false)])], (.cons rfl .nil), rfl, [], (RetC.rd' (by first | rfl | (congr 1; symm; simp only [limOk, *, Bool.and_true, Bool.true_and, Bool.and_false, Bool.false_and, decide_true, decide_false, and_true, true_and, and_self, and_false, false_and, Bool.and_self, not_true, not_false, Bool.not_true, Bool.not_false, ge_iff_le, gt_iff_lt, if_true, if_false, Bool.false_eq_true, ite_true, ite_false, reduceIte]; done) | (congr 1; symm; simp_all [limOk]; done) | (congr 1; symm; simp_all [limOk]; omega)) .nil)⟩
theorem ok_spec_l01Num (n : Int) : RO Try.prog 137 [.one (.int .i64 n)] [(false, [.rd (.bool (decide (0 ≤ n ∧ n ≤ 1152921504606846975)))])] := by
 refine RO.intro Try.func137 rfl 5 rfl (le_ok rfl) fun w Z => ?_
 refine T.seq ?_
 refine T.region ?_
 refine TL.cons rfl (Step.assign (p := (.one (.d (.bool false)))) rfl rfl (lt_ok rfl) rfl) ?_
 refine TL.nil ?_
 refine T.seq ?_
 refine T.region ?_
 refine TL.cons rfl (Step.move (p := (.one (.d (.int .i64 n)))) rfl rfl (lt_ok rfl) rfl) ?_
 refine TL.cons rfl (Step.call (f := 138) (xs := [.tmp 3, .const (.int .i64 0), .const (.int .i64 1152921504606846975)]) (ps := [(.one (.d (.int .i64 n))), (.one (.d (.int .i64 0))), (.one (.d (.int .i64 1152921504606846975)))]) false (g := .func 138) rfl rfl (lt_ok rfl) rfl (by kernel_rfl) rfl (.cons (.one (.d _)) (.cons (.one (.d _)) (.cons (.one (.d _)) .nil))) (ok_spec_l01In n 0 1152921504606846975) (.inr rfl) rfl (by simp) rfl) ?_
 refine TL.cons rfl (Step.assign (p := (.one (.d (.bool (decide (0 ≤ n ∧ n ≤ 1152921504606846975)))))) rfl rfl (lt_ok rfl) rfl) ?_
 refine TL.nil ?_
 refine T.ret ?_
 exact ⟨[(false, [.d (.bool (decide (0 ≤ n ∧ n ≤ 1152921504606846975)))])], (.cons rfl .nil), rfl, [], (RetC.rd' (by rfl) .nil)⟩
theorem ok_spec_l07Hash (h : List Int) : RO Try.prog 139 [.one (.ints .u8 h)] [(false, [.rd (.bool (decide ((h.length : Int) = 32)))])] := by
 refine RO.intro Try.func139 rfl 6 rfl (le_ok rfl) fun w Z => ?_
 refine T.bnd 0 0 rfl rfl fun hb_0_0 => ?_
 simp only [D.size, List.length_map] at hb_0_0
 refine T.seq ?_
 refine T.region ?_
 refine TL.cons rfl (Step.assign (p := (.one (.d (.bool false)))) rfl rfl (lt_ok rfl) rfl) ?_
 refine TL.nil ?_
 refine T.seq ?_
 refine T.region ?_
 refine TL.cons rfl (Step.move (p := (.one (.d (.ints .u8 h)))) rfl rfl (lt_ok rfl) rfl) ?_
 refine TL.cons rfl (Step.len (e := 5) (z := 1) (d := (.ints .u8 h)) rfl rfl (lt_ok rfl) (by kernel_rfl) rfl rfl) ?_
 refine TL.cons rfl (Step.bin rfl rfl (lt_ok rfl) rfl rfl (Bin.eql (k := .i64) (a := (h.length : Int)) (b := 32))) ?_
 refine TL.cons rfl (Step.assign (p := (.one (.d (.bool (decide ((h.length : Int) = 32)))))) rfl rfl (lt_ok rfl) rfl) ?_
 refine TL.nil ?_
 refine T.ret ?_
 exact ⟨[(false, [.d (.bool (decide ((h.length : Int) = 32)))])], (.cons rfl .nil), rfl, [], (RetC.rd' (by rfl) .nil)⟩
theorem ok_spec_BitsHas (b : List Int) (i : Int) (h0_ : U8s b) (h1_ : b.length ≤ 17592186044416) (h2_ : i ≤ 9223372036854775807) : RO Try.prog 133 [.one (.ints .u8 b), .one (.int .i64 i)] [(false, [.rd (.bool (bitHas b i))])] := by
 refine RO.intro Try.func133 rfl 27 rfl (le_ok rfl) fun w Z => ?_
 refine T.bnd 0 0 rfl rfl fun hb_0_0 => ?_
 simp only [D.size, List.length_map] at hb_0_0
 have hu_ := getD_u8 h0_ (i / 8).toNat
 have hp_ := div_pow_bd hu_.1 hu_.2 (i % 8).toNat
 refine T.seq ?_
 refine T.region ?_
 refine TL.cons rfl (Step.assign (p := (.one (.d (.bool false)))) rfl rfl (lt_ok rfl) rfl) ?_
 refine TL.nil ?_
 refine T.seq ?_
 refine T.region ?_
 refine TL.cons rfl (Step.move (p := (.one (.d (.int .i64 i)))) rfl rfl (lt_ok rfl) rfl) ?_
 refine TL.cons rfl (Step.bin rfl rfl (lt_ok rfl) rfl rfl (Bin.geq (k := .i64) (a := i) (b := 0))) ?_
 refine TL.cons rfl (Step.move (p := (.one (.d (.bool (decide (0 ≤ i)))))) rfl rfl (lt_ok rfl) rfl) ?_
 rcases Bool.eq_false_or_eq_true (decide (0 ≤ i)) with hb1 | hb1
 ·
  refine TL.known 7 hb1 rfl ?_
  have hb1' := hb1
  replace hb1' := of_decide_eq_true hb1'
  refine TL.gyes 7 rfl rfl (lt_ok rfl) rfl (Step.move (p := (.one (.d (.int .i64 i)))) rfl rfl (lt_ok rfl) rfl) ?_
  refine TL.gyes 7 rfl rfl (lt_ok rfl) rfl (Step.bin (r := .int .i64 (i / 8)) rfl rfl (lt_ok rfl) rfl rfl (Bin.quo (k := .i64) (a := i) (b := 8) (by decide) (by rw [Int.tdiv_eq_ediv_of_nonneg (by first | omega | exact hp_.1 | exact hp_.2 | (simp; omega))]; exact wrap_ok (by first | omega | exact hp_.1 | exact hp_.2 | (simp; omega)) (by first | omega | exact hp_.1 | exact hp_.2 | (simp; omega))))) ?_
  refine TL.gyes 7 rfl rfl (lt_ok rfl) rfl (Step.move (p := (.one (.d (.ints .u8 b)))) rfl rfl (lt_ok rfl) rfl) ?_
  refine TL.gyes 7 rfl rfl (lt_ok rfl) rfl (Step.len (e := 5) (z := 1) (d := (.ints .u8 b)) rfl rfl (lt_ok rfl) (by kernel_rfl) rfl rfl) ?_
  refine TL.gyes 7 rfl rfl (lt_ok rfl) rfl (Step.bin rfl rfl (lt_ok rfl) rfl rfl (Bin.lss (k := .i64) (a := (i / 8)) (b := (b.length : Int)))) ?_
  refine TL.cons rfl (Step.pick (b := true) (p := (.one (.d (.bool (decide ((i / 8) < (b.length : Int))))))) rfl rfl (lt_ok rfl) rfl rfl) ?_
  refine TL.cons rfl (Step.move (p := (.one (.d (.bool (decide ((i / 8) < (b.length : Int))))))) rfl rfl (lt_ok rfl) rfl) ?_
  rcases Bool.eq_false_or_eq_true (decide ((i / 8) < (b.length : Int))) with hb2 | hb2
  ·
   refine TL.known 14 hb2 rfl ?_
   have hb2' := hb2
   replace hb2' := of_decide_eq_true hb2'
   refine TL.gyes 14 rfl rfl (lt_ok rfl) rfl (Step.move (p := (.one (.d (.ints .u8 b)))) rfl rfl (lt_ok rfl) rfl) ?_
   refine TL.gyes 14 rfl rfl (lt_ok rfl) rfl (Step.move (p := (.one (.d (.int .i64 i)))) rfl rfl (lt_ok rfl) rfl) ?_
   refine TL.gyes 14 rfl rfl (lt_ok rfl) rfl (Step.bin (r := .int .i64 (i / 8)) rfl rfl (lt_ok rfl) rfl rfl (Bin.quo (k := .i64) (a := i) (b := 8) (by decide) (by rw [Int.tdiv_eq_ediv_of_nonneg (by first | omega | exact hp_.1 | exact hp_.2 | (simp; omega))]; exact wrap_ok (by first | omega | exact hp_.1 | exact hp_.2 | (simp; omega)) (by first | omega | exact hp_.1 | exact hp_.2 | (simp; omega))))) ?_
   refine TL.gyes 14 rfl rfl (lt_ok rfl) rfl (Step.index (e := 5) (z := 1) (i := (i / 8)) rfl rfl (lt_ok rfl) (by kernel_rfl) rfl rfl rfl (lt_ok rfl) rfl (by first | omega | exact hp_.1 | exact hp_.2 | (simp; omega)) (by simp only [D.size]; first | omega | exact hp_.1 | exact hp_.2 | (simp; omega))) ?_
   refine TL.gyes 14 rfl rfl (lt_ok rfl) rfl (Step.load (e := (.int .u8 (b.getD (i / 8).toNat 0))) rfl rfl (lt_ok rfl) (by kernel_rfl) rfl rfl) ?_
   refine TL.gyes 14 rfl rfl (lt_ok rfl) rfl (Step.conv (c := (b.getD (i / 8).toNat 0)) rfl rfl (lt_ok rfl) (by kernel_rfl) (by kernel_rfl) rfl (wrap_ok (by first | omega | exact hp_.1 | exact hp_.2 | (simp; omega)) (by first | omega | exact hp_.1 | exact hp_.2 | (simp; omega)))) ?_
   refine TL.gyes 14 rfl rfl (lt_ok rfl) rfl (Step.move (p := (.one (.d (.int .i64 i)))) rfl rfl (lt_ok rfl) rfl) ?_
   refine TL.gyes 14 rfl rfl (lt_ok rfl) rfl (Step.bin (r := .int .i64 (i % 8)) rfl rfl (lt_ok rfl) rfl rfl (Bin.rem (k := .i64) (a := i) (b := 8) (by decide) (Int.tmod_eq_emod_of_nonneg (by first | omega | exact hp_.1 | exact hp_.2 | (simp; omega))))) ?_
   refine TL.gyes 14 rfl rfl (lt_ok rfl) rfl (Step.bin (r := .int .i64 ((b.getD (i / 8).toNat 0) / 2 ^ ((i % 8)).toNat)) rfl rfl (lt_ok rfl) rfl rfl (Bin.shr (k := .i64) (k' := .i64) (a := (b.getD (i / 8).toNat 0)) (b := (i % 8)) (by first | omega | exact hp_.1 | exact hp_.2 | (simp; omega)) (shr_ok (by first | omega | exact hp_.1 | exact hp_.2 | (simp; omega)) (by show _ < ((64 : Nat) : Int); first | omega | exact hp_.1 | exact hp_.2 | (simp; omega))))) ?_
   refine TL.gyes 14 rfl rfl (lt_ok rfl) rfl (Step.bin (r := .int .i64 (((b.getD (i / 8).toNat 0) / 2 ^ ((i % 8)).toNat) % 2)) rfl rfl (lt_ok rfl) rfl rfl (Bin.rem (k := .i64) (a := ((b.getD (i / 8).toNat 0) / 2 ^ ((i % 8)).toNat)) (b := 2) (by decide) (Int.tmod_eq_emod_of_nonneg (by first | omega | exact hp_.1 | exact hp_.2 | (simp; omega))))) ?_
   refine TL.gyes 14 rfl rfl (lt_ok rfl) rfl (Step.bin rfl rfl (lt_ok rfl) rfl rfl (Bin.eql (k := .i64) (a := (((b.getD (i / 8).toNat 0) / 2 ^ ((i % 8)).toNat) % 2)) (b := 1))) ?_
   refine TL.cons rfl (Step.pick (b := true) (p := (.one (.d (.bool (decide ((((b.getD (i / 8).toNat 0) / 2 ^ ((i % 8)).toNat) % 2) = 1)))))) rfl rfl (lt_ok rfl) rfl rfl) ?_
   refine TL.cons rfl (Step.assign (p := (.one (.d (.bool (decide ((((b.getD (i / 8).toNat 0) / 2 ^ ((i % 8)).toNat) % 2) = 1)))))) rfl rfl (lt_ok rfl) rfl) ?_
   refine TL.nil ?_
   refine T.ret ?_
   exact ⟨[(false, [.d (.bool (decide ((((b.getD (i / 8).toNat 0) / 2 ^ ((i % 8)).toNat) % 2) = 1)))])], (.cons rfl .nil), rfl, [], (RetC.rd' (by (congr 1; symm; unfold bitHas; first | (rw [decide_eq_false (p := 0 ≤ i) (by omega)]; rfl) | (rw [decide_eq_true (p := 0 ≤ i) (by omega), decide_eq_false (p := i / 8 < (b.length : Int)) (by omega)]; rfl) | (rw [decide_eq_true (p := 0 ≤ i) (by omega), decide_eq_true (p := i / 8 < (b.length : Int)) (by omega)]; rfl) | (by_cases hi_ : 0 ≤ i; (rw [decide_eq_true (p := 0 ≤ i) (by omega), decide_eq_false (p := i / 8 < (b.length : Int)) (by omega)]; rfl); (rw [decide_eq_false (p := 0 ≤ i) hi_]; rfl)))) .nil)⟩
  ·
   refine TL.known 14 hb2 rfl ?_
   have hb2' := hb2
   replace hb2' := of_decide_eq_false hb2'
   refine TL.gno 14 rfl rfl (lt_ok rfl) rfl rfl rfl (lt_ok rfl) ?_
   refine TL.gno 14 rfl rfl (lt_ok rfl) rfl rfl rfl (lt_ok rfl) ?_
   refine TL.gno 14 rfl rfl (lt_ok rfl) rfl rfl rfl (lt_ok rfl) ?_
   refine TL.gno 14 rfl rfl (lt_ok rfl) rfl rfl rfl (lt_ok rfl) ?_
   refine TL.gno 14 rfl rfl (lt_ok rfl) rfl rfl rfl (lt_ok rfl) ?_
   refine TL.gno 14 rfl rfl (lt_ok rfl) rfl rfl rfl (lt_ok rfl) ?_
   refine TL.gno 14 rfl rfl (lt_ok rfl) rfl rfl rfl (lt_ok rfl) ?_
   refine TL.gno 14 rfl rfl (lt_ok rfl) rfl rfl rfl (lt_ok rfl) ?_
   refine TL.gno 14 rfl rfl (lt_ok rfl) rfl rfl rfl (lt_ok rfl) ?_
   refine TL.gno 14 rfl rfl (lt_ok rfl) rfl rfl rfl (lt_ok rfl) ?_
   refine TL.gno 14 rfl rfl (lt_ok rfl) rfl rfl rfl (lt_ok rfl) ?_
   refine TL.cons rfl (Step.pick (b := false) (p := (.one (.d (.bool false)))) rfl rfl (lt_ok rfl) rfl rfl) ?_
   refine TL.cons rfl (Step.assign (p := (.one (.d (.bool false)))) rfl rfl (lt_ok rfl) rfl) ?_
   refine TL.nil ?_
   refine T.ret ?_
   exact ⟨[(false, [.d (.bool false)])], (.cons rfl .nil), rfl, [], (RetC.rd' (by (congr 1; symm; unfold bitHas; first | (rw [decide_eq_false (p := 0 ≤ i) (by omega)]; rfl) | (rw [decide_eq_true (p := 0 ≤ i) (by omega), decide_eq_false (p := i / 8 < (b.length : Int)) (by omega)]; rfl) | (rw [decide_eq_true (p := 0 ≤ i) (by omega), decide_eq_true (p := i / 8 < (b.length : Int)) (by omega)]; rfl) | (by_cases hi_ : 0 ≤ i; (rw [decide_eq_true (p := 0 ≤ i) (by omega), decide_eq_false (p := i / 8 < (b.length : Int)) (by omega)]; rfl); (rw [decide_eq_false (p := 0 ≤ i) hi_]; rfl)))) .nil)⟩
 ·
  refine TL.known 7 hb1 rfl ?_
  have hb1' := hb1
  replace hb1' := of_decide_eq_false hb1'
  refine TL.gno 7 rfl rfl (lt_ok rfl) rfl rfl rfl (lt_ok rfl) ?_
  refine TL.gno 7 rfl rfl (lt_ok rfl) rfl rfl rfl (lt_ok rfl) ?_
  refine TL.gno 7 rfl rfl (lt_ok rfl) rfl rfl rfl (lt_ok rfl) ?_
  refine TL.gno 7 rfl rfl (lt_ok rfl) rfl rfl rfl (lt_ok rfl) ?_
  refine TL.gno 7 rfl rfl (lt_ok rfl) rfl rfl rfl (lt_ok rfl) ?_
  refine TL.cons rfl (Step.pick (b := false) (p := (.one (.d (.bool false)))) rfl rfl (lt_ok rfl) rfl rfl) ?_
  refine TL.cons rfl (Step.move (p := (.one (.d (.bool false)))) rfl rfl (lt_ok rfl) rfl) ?_
  refine TL.gno 14 rfl rfl (lt_ok rfl) rfl rfl rfl (lt_ok rfl) ?_
  refine TL.gno 14 rfl rfl (lt_ok rfl) rfl rfl rfl (lt_ok rfl) ?_
  refine TL.gno 14 rfl rfl (lt_ok rfl) rfl rfl rfl (lt_ok rfl) ?_
  refine TL.gno 14 rfl rfl (lt_ok rfl) rfl rfl rfl (lt_ok rfl) ?_
  refine TL.gno 14 rfl rfl (lt_ok rfl) rfl rfl rfl (lt_ok rfl) ?_
  refine TL.gno 14 rfl rfl (lt_ok rfl) rfl rfl rfl (lt_ok rfl) ?_
  refine TL.gno 14 rfl rfl (lt_ok rfl) rfl rfl rfl (lt_ok rfl) ?_
  refine TL.gno 14 rfl rfl (lt_ok rfl) rfl rfl rfl (lt_ok rfl) ?_
  refine TL.gno 14 rfl rfl (lt_ok rfl) rfl rfl rfl (lt_ok rfl) ?_
  refine TL.gno 14 rfl rfl (lt_ok rfl) rfl rfl rfl (lt_ok rfl) ?_
  refine TL.gno 14 rfl rfl (lt_ok rfl) rfl rfl rfl (lt_ok rfl) ?_
  refine TL.cons rfl (Step.pick (b := false) (p := (.one (.d (.bool false)))) rfl rfl (lt_ok rfl) rfl rfl) ?_
  refine TL.cons rfl (Step.assign (p := (.one (.d (.bool false)))) rfl rfl (lt_ok rfl) rfl) ?_
  refine TL.nil ?_
  refine T.ret ?_
  exact ⟨[(false, [.d (.bool false)])], (.cons rfl .nil), rfl, [], (RetC.rd' (by (congr 1; symm; unfold bitHas; first | (rw [decide_eq_false (p := 0 ≤ i) (by omega)]; rfl) | (rw [decide_eq_true (p := 0 ≤ i) (by omega), decide_eq_false (p := i / 8 < (b.length : Int)) (by omega)]; rfl) | (rw [decide_eq_true (p := 0 ≤ i) (by omega), decide_eq_true (p := i / 8 < (b.length : Int)) (by omega)]; rfl) | (by_cases hi_ : 0 ≤ i; (rw [decide_eq_true (p := 0 ≤ i) (by omega), decide_eq_false (p := i / 8 < (b.length : Int)) (by omega)]; rfl); (rw [decide_eq_false (p := 0 ≤ i) hi_]; rfl)))) .nil)⟩
theorem ok_spec_BitsList (b : List Int) (h0_ : U8s b) (h1_ : b.length ≤ 1099511627776) : RO Try.prog 78 [.one (.ints .u8 b)] [(false, [.own 3 (.ints .i64 (bitList b))])] := by
 refine RO.intro Try.func78 rfl 21 rfl (le_ok rfl) fun w Z => ?_
 refine T.bnd 0 0 rfl rfl fun hb_0_0 => ?_
 simp only [D.size, List.length_map] at hb_0_0
 refine T.seq ?_
 refine T.region ?_
 refine TL.cons rfl (Step.assign (p := (.one (.nil))) rfl rfl (lt_ok rfl) rfl) ?_
 refine TL.nil ?_
 refine T.seq ?_
 refine T.region ?_
 refine TL.cons rfl (Step.lit (e := 3) (z := 1) (by_ := 8) (xs := []) (pss := []) (es := []) (ss := []) (d := (.ints .i64 [])) rfl rfl (lt_ok rfl) (by kernel_rfl) rfl rfl .nil (by simp) (le_ok rfl) (le_ok rfl) rfl .nil rfl (by simp) (by simp) rfl trivial rfl rfl) ?_
 refine TL.cons rfl (Step.assign (p := (.one (.row 5 []))) rfl rfl (lt_ok rfl) rfl) ?_
 refine TL.nil ?_
 refine T.seq ?_
 refine T.seq ?_
 refine T.region ?_
 refine TL.cons rfl (Step.assign (p := (.one (.d (.int .i64 0)))) rfl rfl (lt_ok rfl) rfl) ?_
 refine TL.nil ?_
 refine T.block ?_
 refine T.loop (ι := Nat × (List Int)) (fun x => { tm := [(0, (.one (.d (.ints .u8 b)))), (2, (.one (.nil))), (4, (.one (.d (.int .i64 ((x.1) : Int))))), (3, (.one (.row 5 [])))], rows := [(5, (3, (.ints .i64 (x.2))))], boxes := [] }) (fun x => (x.1) ≤ 8 * b.length ∧ (x.2) ++ bitsGo b (8 * b.length - (x.1)) (x.1) = bitList b ∧ (x.2).length ≤ (x.1)) (fun x => 8 * b.length - (x.1)) (0, []) ?_ ?_ ?_
 · exact Env.le_mk ⟨rfl, rfl, by first | rfl | (refine congrArg (fun x => some (_, D.ints .i64 x)) ?_; rfl) | (refine congrArg (fun n => PV.one (.d (.int .i64 n))) ?_; first | omega | (simp; done)), rfl, trivial⟩ ⟨by first | rfl | (refine congrArg (fun x => some (_, D.ints .i64 x)) ?_; rfl) | (refine congrArg (fun n => PV.one (.d (.int .i64 n))) ?_; first | omega | (simp; done)), trivial⟩ trivial
 · (dsimp only; refine ⟨Nat.zero_le _, rfl, Nat.zero_le _⟩)
 ·
  intro x hx
  obtain ⟨i, o⟩ := x
  try dsimp only at hx ⊢
  obtain ⟨hx1, hx2, hx3⟩ := hx
  refine T.seq ?_
  refine T.seq ?_
  refine T.region ?_
  refine TL.cons rfl (Step.move (p := (.one (.d (.int .i64 (i : Int))))) rfl rfl (lt_ok rfl) rfl) ?_
  refine TL.cons rfl (Step.move (p := (.one (.d (.ints .u8 b)))) rfl rfl (lt_ok rfl) rfl) ?_
  refine TL.cons rfl (Step.len (e := 5) (z := 1) (d := (.ints .u8 b)) rfl rfl (lt_ok rfl) (by kernel_rfl) rfl rfl) ?_
  refine TL.cons rfl (Step.bin (r := .int .i64 (8 * (b.length : Int))) rfl rfl (lt_ok rfl) rfl rfl (Bin.mul (a := 8) (b := (b.length : Int)) (by first | exact wrap_ok (by first | omega | (simp; omega)) (by first | omega | (simp; omega)) | rfl))) ?_
  refine TL.cons rfl (Step.bin rfl rfl (lt_ok rfl) rfl rfl (Bin.lss (k := .i64) (a := (i : Int)) (b := (8 * (b.length : Int))))) ?_
  refine TL.nil ?_
  refine T.cond (b := decide ((i : Int) < (8 * (b.length : Int)))) rfl (fun h1 => ?_) (fun h1 => ?_)
  ·
   replace h1 := of_decide_eq_true h1
   refine T.skip ?_
   refine T.seq ?_
   refine T.block ?_
   refine T.seq ?_
   refine T.region ?_
   refine TL.cons rfl (Step.move (p := (.one (.d (.ints .u8 b)))) rfl rfl (lt_ok rfl) rfl) ?_
   refine TL.cons rfl (Step.move (p := (.one (.d (.int .i64 (i : Int))))) rfl rfl (lt_ok rfl) rfl) ?_
   refine TL.cons rfl (Step.call (f := 133) (xs := [.tmp 13, .tmp 14]) (ps := [(.one (.d (.ints .u8 b))), (.one (.d (.int .i64 (i : Int))))]) false (g := .func 133) rfl rfl (lt_ok rfl) rfl (by kernel_rfl) rfl (.cons (.one (.d _)) (.cons (.one (.d _)) .nil)) (ok_spec_BitsHas b (i : Int) (by assumption) (by first | omega | assumption | (simp only [List.length_append] at *; omega)) (by first | omega | assumption | (simp only [List.length_append] at *; omega))) (.inr rfl) rfl (by simp) rfl) ?_
   refine TL.nil ?_
   refine T.cond (b := bitHas b (i : Int)) rfl (fun h2 => ?_) (fun h2 => ?_)
   ·
    refine T.region ?_
    refine TL.cons rfl (Step.move (p := (.one (.row 5 []))) rfl rfl (lt_ok rfl) rfl) ?_
    refine TL.cons rfl (Step.move (p := (.one (.d (.int .i64 (i : Int))))) rfl rfl (lt_ok rfl) rfl) ?_
    refine TL.cons rfl (Step.lit (e := 3) (z := 1) (by_ := 8) (xs := [.tmp 17]) (pss := [[.d (.int .i64 (i : Int))]]) (es := [(.int .i64 (i : Int))]) (ss := []) (d := (.ints .i64 [(i : Int)])) rfl rfl (lt_ok rfl) (by kernel_rfl) rfl rfl (.cons rfl .nil) (by simp) (le_ok rfl) (le_ok rfl) rfl (.val rfl .nil) rfl (by simp) (by simp) rfl trivial rfl rfl) ?_
    refine TL.cons rfl (Step.append (e := 3) (z := 1) (by_ := 8) (d := (.ints .i64 o)) (dy := (.ints .i64 [(i : Int)])) (d' := (.ints .i64 (o ++ [(i : Int)]))) (ss := []) rfl rfl (lt_ok rfl) (by kernel_rfl) rfl rfl rfl (lt_ok rfl) rfl (.copy rfl rfl rfl (by simp [D.flat, D.val])) (by simp) rfl (by simp only [D.size, List.length_map]; first | omega | (simp; omega) | (simp only [List.length_append] at *; omega)) (by simp only [D.size, List.length_map]; first | omega | (simp; omega) | (simp only [List.length_append] at *; omega)) (by simp)) ?_
    refine TL.cons rfl (Step.assign (p := (.one (.row 5 []))) rfl rfl (lt_ok rfl) rfl) ?_
    refine TL.nil ?_
    refine T.region ?_
    refine TL.cons rfl (Step.move (p := (.one (.d (.int .i64 (i : Int))))) rfl rfl (lt_ok rfl) rfl) ?_
    refine TL.cons rfl (Step.bin (r := .int .i64 ((i : Int) + 1)) rfl rfl (lt_ok rfl) rfl rfl (Bin.add (a := (i : Int)) (b := 1) (by first | exact wrap_ok (by first | omega | (simp; omega)) (by first | omega | (simp; omega)) | rfl))) ?_
    refine TL.cons rfl (Step.assign (p := (.one (.d (.int .i64 ((i : Int) + 1))))) rfl rfl (lt_ok rfl) rfl) ?_
    refine TL.nil ?_
    exact ⟨(i + 1, o ++ [(i : Int)]), by (refine ⟨by omega, ?_, by simp only [List.length_append, List.length_cons, List.length_nil]; omega⟩; rw [← hx2, bitsGo_next b (n := 8 * b.length) (i := i) (by omega)]; first | (rw [if_pos (by assumption)]; simp only [List.append_assoc]; done) | (rw [if_neg (by simp [*])]; rfl)), by (dsimp only; omega), Env.le_mk ⟨rfl, rfl, by first | rfl | (refine congrArg (fun x => some (_, D.ints .i64 x)) ?_; rfl) | (refine congrArg (fun n => PV.one (.d (.int .i64 n))) ?_; first | omega | (simp; done)), rfl, trivial⟩ ⟨by first | rfl | (refine congrArg (fun x => some (_, D.ints .i64 x)) ?_; rfl) | (refine congrArg (fun n => PV.one (.d (.int .i64 n))) ?_; first | omega | (simp; done)), trivial⟩ trivial⟩
   ·
    refine T.skip ?_
    refine T.region ?_
    refine TL.cons rfl (Step.move (p := (.one (.d (.int .i64 (i : Int))))) rfl rfl (lt_ok rfl) rfl) ?_
    refine TL.cons rfl (Step.bin (r := .int .i64 ((i : Int) + 1)) rfl rfl (lt_ok rfl) rfl rfl (Bin.add (a := (i : Int)) (b := 1) (by first | exact wrap_ok (by first | omega | (simp; omega)) (by first | omega | (simp; omega)) | rfl))) ?_
    refine TL.cons rfl (Step.assign (p := (.one (.d (.int .i64 ((i : Int) + 1))))) rfl rfl (lt_ok rfl) rfl) ?_
    refine TL.nil ?_
    exact ⟨(i + 1, o), by (refine ⟨by omega, ?_, by simp only [List.length_append, List.length_cons, List.length_nil]; omega⟩; rw [← hx2, bitsGo_next b (n := 8 * b.length) (i := i) (by omega)]; first | (rw [if_pos (by assumption)]; simp only [List.append_assoc]; done) | (rw [if_neg (by simp [*])]; rfl)), by (dsimp only; omega), Env.le_mk ⟨rfl, rfl, by first | rfl | (refine congrArg (fun x => some (_, D.ints .i64 x)) ?_; rfl) | (refine congrArg (fun n => PV.one (.d (.int .i64 n))) ?_; first | omega | (simp; done)), rfl, trivial⟩ ⟨rfl, trivial⟩ trivial⟩
  ·
   replace h1 := of_decide_eq_false h1
   refine T.exit ?_
   refine T.seq ?_
   refine T.region ?_
   refine TL.cons rfl (Step.move (p := (.one (.row 5 []))) rfl rfl (lt_ok rfl) rfl) ?_
   refine TL.cons rfl (Step.assign (p := (.one (.row 5 []))) rfl rfl (lt_ok rfl) rfl) ?_
   refine TL.nil ?_
   refine T.ret ?_
   exact ⟨[(false, [.row 5 []])], (.cons rfl .nil), rfl, [5], (RetC.own' rfl (by (congr 1; rw [← hx2, bitsGo_end b (by omega), List.append_nil])) rfl .nil)⟩
theorem ok_spec_BitsSize (n : Int) (h0_ : n ≤ 9223372036854775807) : RO Try.prog 173 [.one (.int .i64 n)] [(false, [.rd (.int .i64 (bitsSize n))])] := by
 refine RO.intro Try.func173 rfl 9 rfl (le_ok rfl) fun w Z => ?_
 refine T.seq ?_
 refine T.region ?_
 refine TL.cons rfl (Step.assign (p := (.one (.d (.int .i64 0)))) rfl rfl (lt_ok rfl) rfl) ?_
 refine TL.nil ?_
 refine T.seq ?_
 refine T.seq ?_
 refine T.region ?_
 refine TL.cons rfl (Step.move (p := (.one (.d (.int .i64 n)))) rfl rfl (lt_ok rfl) rfl) ?_
 refine TL.cons rfl (Step.bin rfl rfl (lt_ok rfl) rfl rfl (Bin.lss (k := .i64) (a := n) (b := 1))) ?_
 refine TL.nil ?_
 refine T.cond (b := decide (n < 1)) rfl (fun h1 => ?_) (fun h1 => ?_)
 ·
  replace h1 := of_decide_eq_true h1
  refine T.seq ?_
  refine T.region ?_
  refine TL.cons rfl (Step.assign (p := (.one (.d (.int .i64 0)))) rfl rfl (lt_ok rfl) rfl) ?_
  refine TL.nil ?_
  refine T.ret ?_
  exact ⟨[(false, [.d (.int .i64 0)])], (.cons rfl .nil), rfl, [], (RetC.rd' (by (congr 1; unfold bitsSize; first | rw [if_pos (by omega)] | (rw [if_neg (by omega)]; done) | (rw [if_neg (by omega)]; omega))) .nil)⟩
 ·
  replace h1 := of_decide_eq_false h1
  refine T.skip ?_
  refine T.seq ?_
  refine T.region ?_
  refine TL.cons rfl (Step.move (p := (.one (.d (.int .i64 n)))) rfl rfl (lt_ok rfl) rfl) ?_
  refine TL.cons rfl (Step.bin (r := .int .i64 (n - 1)) rfl rfl (lt_ok rfl) rfl rfl (Bin.sub (a := n) (b := 1) (by first | exact wrap_ok (by first | omega | (simp; omega)) (by first | omega | (simp; omega)) | rfl))) ?_
  refine TL.cons rfl (Step.bin (r := .int .i64 ((n - 1) / 8)) rfl rfl (lt_ok rfl) rfl rfl (Bin.quo (k := .i64) (a := (n - 1)) (b := 8) (by decide) (by rw [Int.tdiv_eq_ediv_of_nonneg (by first | omega | (simp; omega))]; exact wrap_ok (by first | omega | (simp; omega)) (by first | omega | (simp; omega))))) ?_
  refine TL.cons rfl (Step.bin (r := .int .i64 (((n - 1) / 8) + 1)) rfl rfl (lt_ok rfl) rfl rfl (Bin.add (a := ((n - 1) / 8)) (b := 1) (by first | exact wrap_ok (by first | omega | (simp; omega)) (by first | omega | (simp; omega)) | rfl))) ?_
  refine TL.cons rfl (Step.assign (p := (.one (.d (.int .i64 (((n - 1) / 8) + 1))))) rfl rfl (lt_ok rfl) rfl) ?_
  refine TL.nil ?_
  refine T.ret ?_
  exact ⟨[(false, [.d (.int .i64 (((n - 1) / 8) + 1))])], (.cons rfl .nil), rfl, [], (RetC.rd' (by (congr 1; unfold bitsSize; first | rw [if_pos (by omega)] | (rw [if_neg (by omega)]; done) | (rw [if_neg (by omega)]; omega))) .nil)⟩
theorem ok_spec_BitsOk (b : List Int) (n : Int) (h0_ : U8s b) (h1_ : b.length ≤ 1099511627776) : RO Try.prog 150 [.one (.ints .u8 b), .one (.int .i64 n)] [(false, [.rd (.bool (bitsOk b n))])] := by
 refine RO.intro Try.func150 rfl 31 rfl (le_ok rfl) fun w Z => ?_
 refine T.bnd 0 0 rfl rfl fun hb_0_0 => ?_
 simp only [D.size, List.length_map] at hb_0_0
 refine T.seq ?_
 refine T.region ?_
 refine TL.cons rfl (Step.assign (p := (.one (.d (.bool false)))) rfl rfl (lt_ok rfl) rfl) ?_
 refine TL.nil ?_
 refine T.seq ?_
 refine T.seq ?_
 refine T.region ?_
 refine TL.cons rfl (Step.move (p := (.one (.d (.int .i64 n)))) rfl rfl (lt_ok rfl) rfl) ?_
 refine TL.cons rfl (Step.call (f := 141) (xs := [.tmp 6]) (ps := [(.one (.d (.int .i64 n)))]) false (g := .func 141) rfl rfl (lt_ok rfl) rfl (by kernel_rfl) rfl (.cons (.one (.d _)) .nil) (ok_spec_l02Signers n) (.inr rfl) rfl (by simp) rfl) ?_
 refine TL.cons rfl (Step.not (b := (decide (1 ≤ n ∧ n ≤ 10))) rfl rfl (lt_ok rfl) rfl) ?_
 refine TL.cons rfl (Step.move (p := (.one (.d (.bool (!(decide (1 ≤ n ∧ n ≤ 10))))))) rfl rfl (lt_ok rfl) rfl) ?_
 rcases Bool.eq_false_or_eq_true (!(decide (1 ≤ n ∧ n ≤ 10))) with hb1 | hb1
 ·
  refine TL.known 9 hb1 rfl ?_
  have hb1' := hb1
  replace hb1' : (decide (1 ≤ n ∧ n ≤ 10)) = false := by simpa only [Bool.not_eq_true', Bool.not_eq_false'] using hb1'
  replace hb1' := of_decide_eq_false hb1'
  refine TL.gno 9 rfl rfl (lt_ok rfl) rfl rfl rfl (lt_ok rfl) ?_
  refine TL.gno 9 rfl rfl (lt_ok rfl) rfl rfl rfl (lt_ok rfl) ?_
  refine TL.gno 9 rfl rfl (lt_ok rfl) rfl rfl rfl (lt_ok rfl) ?_
  refine TL.gno 9 rfl rfl (lt_ok rfl) rfl rfl rfl (lt_ok rfl) ?_
  refine TL.gno 9 rfl rfl (lt_ok rfl) rfl rfl rfl (lt_ok rfl) ?_
  refine TL.cons rfl (Step.pick (b := true) (p := (.one (.d (.bool true)))) rfl rfl (lt_ok rfl) rfl rfl) ?_
  refine TL.nil ?_
  refine T.cond (b := true) rfl (fun h2_ => ?_) (fun h2_ => absurd h2_ (by simp))
  refine T.seq ?_
  refine T.region ?_
  refine TL.cons rfl (Step.assign (p := (.one (.d (.bool false)))) rfl rfl (lt_ok rfl) rfl) ?_
  refine TL.nil ?_
  refine T.ret ?_
  exact ⟨[(false, [.d (.bool false)])], (.cons rfl .nil), rfl, [], (RetC.rd' (by first | (congr 1; symm; unfold bitsOk; rw [bits_last (by omega), decide_eq_true (p := (1 ≤ n ∧ n ≤ 10)) (by omega), decide_eq_true (p := ((b.length : Int) = bitsSize n)) (by omega)]; rfl) | (congr 1; symm; simp only [bitsOk, *, Bool.and_true, Bool.true_and, Bool.and_false, Bool.false_and, decide_true, decide_false, and_true, true_and, and_self, and_false, false_and, Bool.and_self, not_true, not_false, Bool.not_true, Bool.not_false, ge_iff_le, gt_iff_lt, if_true, if_false, Bool.false_eq_true, ite_true, ite_false, reduceIte]; done) | (congr 1; symm; unfold bitsOk; rw [decide_eq_false (p := (1 ≤ n ∧ n ≤ 10)) (by omega)]; rfl) | (congr 1; symm; unfold bitsOk; rw [decide_eq_false (p := ((b.length : Int) = bitsSize n)) (by omega)]; simp; done) | (congr 1; symm; unfold bitsOk; rw [all_no (i := i) (by omega) (by omega)]; simp; done) | (congr 1; symm; unfold bitsOk; rw [List.take_of_length_le (by omega)] at hx2; rw [hx2, decide_eq_true (p := (1 ≤ n ∧ n ≤ 10)) (by omega), decide_eq_true (p := ((b.length : Int) = bitsSize n)) (by omega)]; rfl) | (congr 1; unfold bitsOk; rw [bits_last (by omega), decide_eq_true (p := (1 ≤ n ∧ n ≤ 10)) (by omega), decide_eq_true (p := ((b.length : Int) = bitsSize n)) (by omega)]; simp only [Bool.true_and]; rfl) | (congr 1; symm; unfold bitsOk; rw [List.eq_nil_of_length_eq_zero (l := bitList b) (by omega), decide_eq_true (p := (1 ≤ n ∧ n ≤ 10)) (by omega), decide_eq_true (p := ((b.length : Int) = bitsSize n)) (by omega)]; rfl)) .nil)⟩
 ·
  refine TL.known 9 hb1 rfl ?_
  have hb1' := hb1
  replace hb1' : (decide (1 ≤ n ∧ n ≤ 10)) = true := by simpa only [Bool.not_eq_true', Bool.not_eq_false'] using hb1'
  replace hb1' := of_decide_eq_true hb1'
  refine TL.gyes 9 rfl rfl (lt_ok rfl) rfl (Step.move (p := (.one (.d (.ints .u8 b)))) rfl rfl (lt_ok rfl) rfl) ?_
  refine TL.gyes 9 rfl rfl (lt_ok rfl) rfl (Step.len (e := 5) (z := 1) (d := (.ints .u8 b)) rfl rfl (lt_ok rfl) (by kernel_rfl) rfl rfl) ?_
  refine TL.gyes 9 rfl rfl (lt_ok rfl) rfl (Step.move (p := (.one (.d (.int .i64 n)))) rfl rfl (lt_ok rfl) rfl) ?_
  refine TL.gyes 9 rfl rfl (lt_ok rfl) rfl (Step.call (f := 173) (xs := [.tmp 12]) (ps := [(.one (.d (.int .i64 n)))]) false (g := .func 173) rfl rfl (lt_ok rfl) rfl (by kernel_rfl) rfl (.cons (.one (.d _)) .nil) (ok_spec_BitsSize n (by first | omega | assumption | (simp only [List.length_append] at *; omega))) (.inr rfl) rfl (by simp) rfl) ?_
  refine TL.gyes 9 rfl rfl (lt_ok rfl) rfl (Step.bin rfl rfl (lt_ok rfl) rfl rfl (Bin.neq (k := .i64) (a := (b.length : Int)) (b := (bitsSize n)))) ?_
  refine TL.cons rfl (Step.pick (b := false) (p := (.one (.d (.bool (decide ((b.length : Int) ≠ (bitsSize n))))))) rfl rfl (lt_ok rfl) rfl rfl) ?_
  refine TL.nil ?_
  refine T.cond (b := decide ((b.length : Int) ≠ (bitsSize n))) rfl (fun h3 => ?_) (fun h3 => ?_)
  ·
   replace h3 := of_decide_eq_true h3
   refine T.seq ?_
   refine T.region ?_
   refine TL.cons rfl (Step.assign (p := (.one (.d (.bool false)))) rfl rfl (lt_ok rfl) rfl) ?_
   refine TL.nil ?_
   refine T.ret ?_
   exact ⟨[(false, [.d (.bool false)])], (.cons rfl .nil), rfl, [], (RetC.rd' (by first | (congr 1; symm; unfold bitsOk; rw [bits_last (by omega), decide_eq_true (p := (1 ≤ n ∧ n ≤ 10)) (by omega), decide_eq_true (p := ((b.length : Int) = bitsSize n)) (by omega)]; rfl) | (congr 1; symm; simp only [bitsOk, *, Bool.and_true, Bool.true_and, Bool.and_false, Bool.false_and, decide_true, decide_false, and_true, true_and, and_self, and_false, false_and, Bool.and_self, not_true, not_false, Bool.not_true, Bool.not_false, ge_iff_le, gt_iff_lt, if_true, if_false, Bool.false_eq_true, ite_true, ite_false, reduceIte]; done) | (congr 1; symm; unfold bitsOk; rw [decide_eq_false (p := (1 ≤ n ∧ n ≤ 10)) (by omega)]; rfl) | (congr 1; symm; unfold bitsOk; rw [decide_eq_false (p := ((b.length : Int) = bitsSize n)) (by omega)]; simp; done) | (congr 1; symm; unfold bitsOk; rw [all_no (i := i) (by omega) (by omega)]; simp; done) | (congr 1; symm; unfold bitsOk; rw [List.take_of_length_le (by omega)] at hx2; rw [hx2, decide_eq_true (p := (1 ≤ n ∧ n ≤ 10)) (by omega), decide_eq_true (p := ((b.length : Int) = bitsSize n)) (by omega)]; rfl) | (congr 1; unfold bitsOk; rw [bits_last (by omega), decide_eq_true (p := (1 ≤ n ∧ n ≤ 10)) (by omega), decide_eq_true (p := ((b.length : Int) = bitsSize n)) (by omega)]; simp only [Bool.true_and]; rfl) | (congr 1; symm; unfold bitsOk; rw [List.eq_nil_of_length_eq_zero (l := bitList b) (by omega), decide_eq_true (p := (1 ≤ n ∧ n ≤ 10)) (by omega), decide_eq_true (p := ((b.length : Int) = bitsSize n)) (by omega)]; rfl)) .nil)⟩
  ·
   replace h3 := of_decide_eq_false h3
   refine T.skip ?_
   refine T.seq ?_
   refine T.region ?_
   refine TL.cons rfl (Step.move (p := (.one (.d (.ints .u8 b)))) rfl rfl (lt_ok rfl) rfl) ?_
   have nn4 := bitList_len b
   refine TL.cons rfl (Step.call (f := 78) (xs := [.tmp 16]) (ps := [(.one (.d (.ints .u8 b)))]) false (g := .func 78) rfl rfl (lt_ok rfl) rfl (by kernel_rfl) rfl (.cons (.one (.d _)) .nil) (ok_spec_BitsList b (by assumption) (by first | omega | assumption | (simp only [List.length_append] at *; omega))) (.inr rfl) rfl (by simp) rfl) ?_
   refine TL.cons rfl (Step.assign (p := (.one (.row 1017 []))) rfl rfl (lt_ok rfl) rfl) ?_
   refine TL.nil ?_
   refine T.seq ?_
   refine T.region ?_
   refine TL.cons rfl (Step.move (p := (.one (.row 1017 []))) rfl rfl (lt_ok rfl) rfl) ?_
   refine TL.cons rfl (Step.len (e := 3) (z := 1) (d := (.ints .i64 (bitList b))) rfl rfl (lt_ok rfl) (by kernel_rfl) rfl rfl) ?_
   refine TL.cons rfl (Step.bin rfl rfl (lt_ok rfl) rfl rfl (Bin.eql (k := .i64) (a := ((bitList b).length : Int)) (b := 0))) ?_
   refine TL.cons rfl (Step.move (p := (.one (.d (.bool (decide (((bitList b).length : Int) = 0)))))) rfl rfl (lt_ok rfl) rfl) ?_
   rcases Bool.eq_false_or_eq_true (decide (((bitList b).length : Int) = 0)) with hb5 | hb5
   ·
    refine TL.known 21 hb5 rfl ?_
    have hb5' := hb5
    replace hb5' := of_decide_eq_true hb5'
    refine TL.gno 21 rfl rfl (lt_ok rfl) rfl rfl rfl (lt_ok rfl) ?_
    refine TL.gno 21 rfl rfl (lt_ok rfl) rfl rfl rfl (lt_ok rfl) ?_
    refine TL.gno 21 rfl rfl (lt_ok rfl) rfl rfl rfl (lt_ok rfl) ?_
    refine TL.gno 21 rfl rfl (lt_ok rfl) rfl rfl rfl (lt_ok rfl) ?_
    refine TL.gno 21 rfl rfl (lt_ok rfl) rfl rfl rfl (lt_ok rfl) ?_
    refine TL.gno 21 rfl rfl (lt_ok rfl) rfl rfl rfl (lt_ok rfl) ?_
    refine TL.gno 21 rfl rfl (lt_ok rfl) rfl rfl rfl (lt_ok rfl) ?_
    refine TL.gno 21 rfl rfl (lt_ok rfl) rfl rfl rfl (lt_ok rfl) ?_
    refine TL.cons rfl (Step.pick (b := true) (p := (.one (.d (.bool true)))) rfl rfl (lt_ok rfl) rfl rfl) ?_
    refine TL.cons rfl (Step.assign (p := (.one (.d (.bool true)))) rfl rfl (lt_ok rfl) rfl) ?_
    refine TL.nil ?_
    refine T.ret ?_
    exact ⟨[(false, [.d (.bool true)])], (.cons rfl .nil), rfl, [], (RetC.rd' (by first | (congr 1; symm; unfold bitsOk; rw [bits_last (by omega), decide_eq_true (p := (1 ≤ n ∧ n ≤ 10)) (by omega), decide_eq_true (p := ((b.length : Int) = bitsSize n)) (by omega)]; rfl) | (congr 1; symm; simp only [bitsOk, *, Bool.and_true, Bool.true_and, Bool.and_false, Bool.false_and, decide_true, decide_false, and_true, true_and, and_self, and_false, false_and, Bool.and_self, not_true, not_false, Bool.not_true, Bool.not_false, ge_iff_le, gt_iff_lt, if_true, if_false, Bool.false_eq_true, ite_true, ite_false, reduceIte]; done) | (congr 1; symm; unfold bitsOk; rw [decide_eq_false (p := (1 ≤ n ∧ n ≤ 10)) (by omega)]; rfl) | (congr 1; symm; unfold bitsOk; rw [decide_eq_false (p := ((b.length : Int) = bitsSize n)) (by omega)]; simp; done) | (congr 1; symm; unfold bitsOk; rw [all_no (i := i) (by omega) (by omega)]; simp; done) | (congr 1; symm; unfold bitsOk; rw [List.take_of_length_le (by omega)] at hx2; rw [hx2, decide_eq_true (p := (1 ≤ n ∧ n ≤ 10)) (by omega), decide_eq_true (p := ((b.length : Int) = bitsSize n)) (by omega)]; rfl) | (congr 1; unfold bitsOk; rw [bits_last (by omega), decide_eq_true (p := (1 ≤ n ∧ n ≤ 10)) (by omega), decide_eq_true (p := ((b.length : Int) = bitsSize n)) (by omega)]; simp only [Bool.true_and]; rfl) | (congr 1; symm; unfold bitsOk; rw [List.eq_nil_of_length_eq_zero (l := bitList b) (by omega), decide_eq_true (p := (1 ≤ n ∧ n ≤ 10)) (by omega), decide_eq_true (p := ((b.length : Int) = bitsSize n)) (by omega)]; rfl)) .nil)⟩
   ·
    refine TL.known 21 hb5 rfl ?_
    have hb5' := hb5
    replace hb5' := of_decide_eq_false hb5'
    refine TL.gyes 21 rfl rfl (lt_ok rfl) rfl (Step.move (p := (.one (.row 1017 []))) rfl rfl (lt_ok rfl) rfl) ?_
    refine TL.gyes 21 rfl rfl (lt_ok rfl) rfl (Step.move (p := (.one (.row 1017 []))) rfl rfl (lt_ok rfl) rfl) ?_
    refine TL.gyes 21 rfl rfl (lt_ok rfl) rfl (Step.len (e := 3) (z := 1) (d := (.ints .i64 (bitList b))) rfl rfl (lt_ok rfl) (by kernel_rfl) rfl rfl) ?_
    refine TL.gyes 21 rfl rfl (lt_ok rfl) rfl (Step.bin (r := .int .i64 (((bitList b).length : Int) - 1)) rfl rfl (lt_ok rfl) rfl rfl (Bin.sub (a := ((bitList b).length : Int)) (b := 1) (by first | exact wrap_ok (by first | omega | (simp; omega)) (by first | omega | (simp; omega)) | rfl))) ?_
    refine TL.gyes 21 rfl rfl (lt_ok rfl) rfl (Step.index_row (e := 3) (z := 1) (i := (((bitList b).length : Int) - 1)) rfl rfl (lt_ok rfl) (by kernel_rfl) rfl rfl rfl rfl (lt_ok rfl) rfl (by first | omega | (simp; omega)) (by simp only [D.at_, D.cell, D.size]; first | omega | (simp; omega))) ?_
    refine TL.gyes 21 rfl rfl (lt_ok rfl) rfl (Step.load_row (c := .d (.int .i64 ((bitList b).getD (((bitList b).length : Int) - 1).toNat 0))) rfl rfl (lt_ok rfl) (by kernel_rfl) rfl rfl rfl) ?_
    refine TL.gyes 21 rfl rfl (lt_ok rfl) rfl (Step.move (p := (.one (.d (.int .i64 n)))) rfl rfl (lt_ok rfl) rfl) ?_
    refine TL.gyes 21 rfl rfl (lt_ok rfl) rfl (Step.bin rfl rfl (lt_ok rfl) rfl rfl (Bin.lss (k := .i64) (a := ((bitList b).getD (((bitList b).length : Int) - 1).toNat 0)) (b := n))) ?_
    refine TL.cons rfl (Step.pick (b := false) (p := (.one (.d (.bool (decide (((bitList b).getD (((bitList b).length : Int) - 1).toNat 0) < n)))))) rfl rfl (lt_ok rfl) rfl rfl) ?_
    refine TL.cons rfl (Step.assign (p := (.one (.d (.bool (decide (((bitList b).getD (((bitList b).length : Int) - 1).toNat 0) < n)))))) rfl rfl (lt_ok rfl) rfl) ?_
    refine TL.nil ?_
    refine T.ret ?_
    exact ⟨[(false, [.d (.bool (decide (((bitList b).getD (((bitList b).length : Int) - 1).toNat 0) < n)))])], (.cons rfl .nil), rfl, [], (RetC.rd' (by first | (congr 1; symm; unfold bitsOk; rw [bits_last (by omega), decide_eq_true (p := (1 ≤ n ∧ n ≤ 10)) (by omega), decide_eq_true (p := ((b.length : Int) = bitsSize n)) (by omega)]; rfl) | (congr 1; symm; simp only [bitsOk, *, Bool.and_true, Bool.true_and, Bool.and_false, Bool.false_and, decide_true, decide_false, and_true, true_and, and_self, and_false, false_and, Bool.and_self, not_true, not_false, Bool.not_true, Bool.not_false, ge_iff_le, gt_iff_lt, if_true, if_false, Bool.false_eq_true, ite_true, ite_false, reduceIte]; done) | (congr 1; symm; unfold bitsOk; rw [decide_eq_false (p := (1 ≤ n ∧ n ≤ 10)) (by omega)]; rfl) | (congr 1; symm; unfold bitsOk; rw [decide_eq_false (p := ((b.length : Int) = bitsSize n)) (by omega)]; simp; done) | (congr 1; symm; unfold bitsOk; rw [all_no (i := i) (by omega) (by omega)]; simp; done) | (congr 1; symm; unfold bitsOk; rw [List.take_of_length_le (by omega)] at hx2; rw [hx2, decide_eq_true (p := (1 ≤ n ∧ n ≤ 10)) (by omega), decide_eq_true (p := ((b.length : Int) = bitsSize n)) (by omega)]; rfl) | (congr 1; unfold bitsOk; rw [bits_last (by omega), decide_eq_true (p := (1 ≤ n ∧ n ≤ 10)) (by omega), decide_eq_true (p := ((b.length : Int) = bitsSize n)) (by omega)]; simp only [Bool.true_and]; rfl) | (congr 1; symm; unfold bitsOk; rw [List.eq_nil_of_length_eq_zero (l := bitList b) (by omega), decide_eq_true (p := (1 ≤ n ∧ n ≤ 10)) (by omega), decide_eq_true (p := ((b.length : Int) = bitsSize n)) (by omega)]; rfl)) .nil)⟩
theorem ok_spec_BitsCount (b : List Int) (h0_ : U8s b) (h1_ : b.length ≤ 1099511627776) : RO Try.prog 151 [.one (.ints .u8 b)] [(false, [.rd (.int .i64 ((bitList b).length : Int))])] := by
 refine RO.intro Try.func151 rfl 6 rfl (le_ok rfl) fun w Z => ?_
 refine T.bnd 0 0 rfl rfl fun hb_0_0 => ?_
 simp only [D.size, List.length_map] at hb_0_0
 refine T.seq ?_
 refine T.region ?_
 refine TL.cons rfl (Step.assign (p := (.one (.d (.int .i64 0)))) rfl rfl (lt_ok rfl) rfl) ?_
 refine TL.nil ?_
 refine T.seq ?_
 refine T.region ?_
 refine TL.cons rfl (Step.move (p := (.one (.d (.ints .u8 b)))) rfl rfl (lt_ok rfl) rfl) ?_
 have nn1 := bitList_len b
 refine TL.cons rfl (Step.call (f := 78) (xs := [.tmp 3]) (ps := [(.one (.d (.ints .u8 b)))]) false (g := .func 78) rfl rfl (lt_ok rfl) rfl (by kernel_rfl) rfl (.cons (.one (.d _)) .nil) (ok_spec_BitsList b (by assumption) (by first | omega | assumption | (simp only [List.length_append] at *; omega))) (.inr rfl) rfl (by simp) rfl) ?_
 refine TL.cons rfl (Step.len (e := 3) (z := 1) (d := (.ints .i64 (bitList b))) rfl rfl (lt_ok rfl) (by kernel_rfl) rfl rfl) ?_
 refine TL.cons rfl (Step.assign (p := (.one (.d (.int .i64 ((bitList b).length : Int))))) rfl rfl (lt_ok rfl) rfl) ?_
 refine TL.nil ?_
 refine T.ret ?_
 exact ⟨[(false, [.d (.int .i64 ((bitList b).length : Int))])], (.cons rfl .nil), rfl, [], (RetC.rd' (by rfl) .nil)⟩
theorem ok_spec_l08Hashes (l : List (List Int)) : RO Try.prog 152 [.one (.bss l)] [(false, [.rd (.bool (hashes l))])] := by
 refine RO.intro Try.func152 rfl 15 rfl (le_ok rfl) fun w Z => ?_
 refine T.bnd 0 0 rfl rfl fun hb_0_0 => ?_
 simp only [D.size, List.length_map] at hb_0_0
 refine T.seq ?_
 refine T.region ?_
 refine TL.cons rfl (Step.assign (p := (.one (.d (.bool false)))) rfl rfl (lt_ok rfl) rfl) ?_
 refine TL.nil ?_
 refine T.seq ?_
 refine T.seq ?_
 refine T.region ?_
 refine TL.cons rfl (Step.move (p := (.one (.d (.bss l)))) rfl rfl (lt_ok rfl) rfl) ?_
 refine TL.cons rfl (Step.len (e := 22) (z := 1) (d := (.bss l)) rfl rfl (lt_ok rfl) (by kernel_rfl) rfl rfl) ?_
 refine TL.cons rfl (Step.move (p := (.one (.d (.int .i64 0)))) rfl rfl (lt_ok rfl) rfl) ?_
 refine TL.nil ?_
 refine T.block ?_
 refine T.loop (ι := Nat) (fun x => { tm := [(5, (.one (.d (.bss l)))), (6, (.one (.d (.int .i64 (l.length : Int))))), (7, (.one (.d (.int .i64 (x : Int)))))], rows := [], boxes := [] }) (fun x => x ≤ l.length ∧ hashes (l.take x) = true) (fun x => l.length - x) 0 ?_ ?_ ?_
 · exact Env.le_mk ⟨rfl, rfl, by first | rfl | (simp; done) | (congr 3; omega), trivial⟩ trivial trivial
 · (refine ⟨Nat.zero_le _, by rw [List.take_zero]; rfl⟩)
 ·
  intro i hx
  try dsimp only at hx ⊢
  obtain ⟨hx1, hx2⟩ := hx
  refine T.seq ?_
  refine T.region ?_
  refine TL.cons rfl (Step.bin rfl rfl (lt_ok rfl) rfl rfl (Bin.lss (k := .i64) (a := (i : Int)) (b := (l.length : Int)))) ?_
  refine TL.nil ?_
  refine T.seq ?_
  refine T.cond (b := decide ((i : Int) < (l.length : Int))) rfl (fun h1 => ?_) (fun h1 => ?_)
  ·
   replace h1 := of_decide_eq_true h1
   refine T.skip ?_
   refine T.seq ?_
   refine T.block ?_
   refine T.seq ?_
   refine T.region ?_
   refine TL.cons rfl (Step.index (e := 22) (z := 1) (i := (i : Int)) rfl rfl (lt_ok rfl) (by kernel_rfl) rfl rfl rfl (lt_ok rfl) rfl (by first | omega | (simp; omega)) (by simp only [D.size]; first | omega | (simp; omega))) ?_
   refine TL.cons rfl (Step.load (e := (.ints .u8 (l.getD i []))) rfl rfl (lt_ok rfl) (by kernel_rfl) rfl rfl) ?_
   refine TL.cons rfl (Step.assign (p := (.one (.d (.ints .u8 (l.getD i []))))) rfl rfl (lt_ok rfl) rfl) ?_
   refine TL.nil ?_
   refine T.seq ?_
   refine T.region ?_
   refine TL.cons rfl (Step.move (p := (.one (.d (.ints .u8 (l.getD i []))))) rfl rfl (lt_ok rfl) rfl) ?_
   refine TL.cons rfl (Step.call (f := 139) (xs := [.tmp 11]) (ps := [(.one (.d (.ints .u8 (l.getD i []))))]) false (g := .func 139) rfl rfl (lt_ok rfl) rfl (by kernel_rfl) rfl (.cons (.one (.d _)) .nil) (ok_spec_l07Hash (l.getD i [])) (.inr rfl) rfl (by simp) rfl) ?_
   refine TL.cons rfl (Step.not (b := (decide (((l.getD i []).length : Int) = 32))) rfl rfl (lt_ok rfl) rfl) ?_
   refine TL.nil ?_
   refine T.cond (b := !(decide (((l.getD i []).length : Int) = 32))) rfl (fun h2 => ?_) (fun h2 => ?_)
   ·
    replace h2 : (decide (((l.getD i []).length : Int) = 32)) = false := by simpa only [Bool.not_eq_true', Bool.not_eq_false'] using h2
    replace h2 := of_decide_eq_false h2
    refine T.seq ?_
    refine T.region ?_
    refine TL.cons rfl (Step.assign (p := (.one (.d (.bool false)))) rfl rfl (lt_ok rfl) rfl) ?_
    refine TL.nil ?_
    refine T.ret ?_
    exact ⟨[(false, [.d (.bool false)])], (.cons rfl .nil), rfl, [], (RetC.rd' (by (congr 1; symm; first | (exact hashes_no (i := i) (by omega) (by omega)) | (rw [List.take_of_length_le (by omega)] at hx2; exact hx2))) .nil)⟩
   ·
    replace h2 : (decide (((l.getD i []).length : Int) = 32)) = true := by simpa only [Bool.not_eq_true', Bool.not_eq_false'] using h2
    replace h2 := of_decide_eq_true h2
    refine T.skip ?_
    refine T.region ?_
    refine TL.cons rfl (Step.bin (r := .int .i64 ((i : Int) + 1)) rfl rfl (lt_ok rfl) rfl rfl (Bin.add (a := (i : Int)) (b := 1) (by first | exact wrap_ok (by first | omega | (simp; omega)) (by first | omega | (simp; omega)) | rfl))) ?_
    refine TL.cons rfl (Step.move (p := (.one (.d (.int .i64 ((i : Int) + 1))))) rfl rfl (lt_ok rfl) rfl) ?_
    refine TL.nil ?_
    exact ⟨i + 1, by (refine ⟨by omega, hashes_step (by omega) hx2 (by omega)⟩), by first | omega | (dsimp only; omega), Env.le_mk ⟨rfl, rfl, by first | rfl | (simp; done) | (congr 3; omega), trivial⟩ trivial trivial⟩
  ·
   replace h1 := of_decide_eq_false h1
   refine T.exit ?_
   refine T.seq ?_
   refine T.region ?_
   refine TL.cons rfl (Step.assign (p := (.one (.d (.bool true)))) rfl rfl (lt_ok rfl) rfl) ?_
   refine TL.nil ?_
   refine T.ret ?_
   exact ⟨[(false, [.d (.bool true)])], (.cons rfl .nil), rfl, [], (RetC.rd' (by (congr 1; symm; first | (exact hashes_no (i := i) (by omega) (by omega)) | (rw [List.take_of_length_le (by omega)] at hx2; exact hx2))) .nil)⟩
theorem ok_spec_QcOk (l : SLimits) (q : SQc) (h0_ : q.ok) (h1_ : q.sm) : RO Try.prog 95 [.agg l.cells, .agg q.cells] [(false, [.rd (.bool (qcOk l q))])] := by
 refine RO.intro Try.func95 rfl 43 rfl (le_ok rfl) fun w Z => ?_
 obtain ⟨o0, o1, o2, o3, o4⟩ := h0_
 obtain ⟨s0, s1, s2⟩ := h1_
 refine T.seq ?_
 refine T.region ?_
 refine TL.cons rfl (Step.box (p := (.agg [.d (.int .i64 l.f0), .d (.int .i64 l.f1), .d (.int .i64 l.f2), .d (.int .i64 l.f3), .d (.int .i64 l.f4)])) (ps := [.d (.int .i64 l.f0), .d (.int .i64 l.f1), .d (.int .i64 l.f2), .d (.int .i64 l.f3), .d (.int .i64 l.f4)]) rfl rfl (lt_ok rfl) rfl rfl rfl rfl rfl) ?_
 refine TL.cons rfl (Step.box (p := (.agg [.d (.int .i64 q.f0), .d (.int .i64 q.f1), .d (.ints .u8 q.f2), .d (.ints .u8 q.f3), .d (.bss q.f4)])) (ps := [.d (.int .i64 q.f0), .d (.int .i64 q.f1), .d (.ints .u8 q.f2), .d (.ints .u8 q.f3), .d (.bss q.f4)]) rfl rfl (lt_ok rfl) rfl rfl rfl rfl rfl) ?_
 refine TL.cons rfl (Step.assign (p := (.one (.d (.bool false)))) rfl rfl (lt_ok rfl) rfl) ?_
 refine TL.nil ?_
 refine T.seq ?_
 rcases Bool.eq_false_or_eq_true (limOk l) with hb1 | hb1
 ·
  rcases Bool.eq_false_or_eq_true (decide (0 ≤ q.f0 ∧ q.f0 ≤ 1152921504606846975)) with hb2 | hb2
  ·
   rcases Bool.eq_false_or_eq_true (decide (0 ≤ q.f1 ∧ q.f1 ≤ 1152921504606846975)) with hb3 | hb3
   ·
    rcases Bool.eq_false_or_eq_true (decide ((q.f2.length : Int) = 32)) with hb4 | hb4
    ·
     rcases Bool.eq_false_or_eq_true (bitsOk q.f3 l.f0) with hb5 | hb5
     ·
      have nn6 := bitList_len q.f3
      rcases Bool.eq_false_or_eq_true (decide ((q.f4.length : Int) = ((bitList q.f3).length : Int))) with hb7 | hb7
      ·
       have nn8 := bitList_len q.f3
       refine T.draw [⟨5, (.agg [.d (.int .i64 l.f0), .d (.int .i64 l.f1), .d (.int .i64 l.f2), .d (.int .i64 l.f3), .d (.int .i64 l.f4)]), []⟩, ⟨6, (.one (.d (.bool true))), []⟩, ⟨7, (.one (.d (.bool true))), []⟩, ⟨8, (.one (.ptr 3 0)), []⟩, ⟨9, (.one (.d (.int .i64 q.f0))), []⟩, ⟨10, (.one (.d (.bool true))), []⟩, ⟨11, (.one (.d (.bool true))), []⟩, ⟨12, (.one (.d (.bool true))), []⟩, ⟨13, (.one (.ptr 3 1)), []⟩, ⟨14, (.one (.d (.int .i64 q.f1))), []⟩, ⟨15, (.one (.d (.bool true))), []⟩, ⟨16, (.one (.d (.bool true))), []⟩, ⟨17, (.one (.d (.bool true))), []⟩, ⟨18, (.one (.ptr 3 2)), []⟩, ⟨19, (.one (.d (.ints .u8 q.f2))), []⟩, ⟨20, (.one (.d (.bool true))), []⟩, ⟨21, (.one (.d (.bool true))), []⟩, ⟨22, (.one (.d (.bool true))), []⟩, ⟨23, (.one (.ptr 3 3)), []⟩, ⟨24, (.one (.d (.ints .u8 q.f3))), []⟩, ⟨25, (.one (.ptr 2 0)), []⟩, ⟨26, (.one (.d (.int .i64 l.f0))), []⟩, ⟨27, (.one (.d (.bool true))), []⟩, ⟨28, (.one (.d (.bool true))), []⟩, ⟨29, (.one (.d (.bool true))), []⟩, ⟨30, (.one (.ptr 3 4)), []⟩, ⟨31, (.one (.d (.bss q.f4))), []⟩, ⟨32, (.one (.d (.int .i64 (q.f4.length : Int)))), []⟩, ⟨33, (.one (.ptr 3 3)), []⟩, ⟨34, (.one (.d (.ints .u8 q.f3))), []⟩, ⟨35, (.one (.d (.int .i64 ((bitList q.f3).length : Int)))), []⟩, ⟨36, (.one (.d (.bool true))), []⟩, ⟨37, (.one (.d (.bool true))), []⟩, ⟨38, (.one (.d (.bool true))), []⟩, ⟨39, (.one (.ptr 3 4)), []⟩, ⟨40, (.one (.d (.bss q.f4))), []⟩, ⟨41, (.one (.d (.bool (hashes q.f4)))), []⟩, ⟨42, (.one (.d (.bool (hashes q.f4)))), []⟩, ⟨4, (.one (.d (.bool (hashes q.f4)))), []⟩] (by kernel_rfl) (by kernel_rfl) ?_ ?_
       ·
        refine .cons (fun E h => by have g2 := h.get 2 (by decide); exact OpStep.plain rfl (Step.load_box_agg (n := 5) (qs := [.d (.int .i64 l.f0), .d (.int .i64 l.f1), .d (.int .i64 l.f2), .d (.int .i64 l.f3), .d (.int .i64 l.f4)]) (t := 5) rfl rfl (by exact lt_ok rfl) (by kernel_rfl) (show Env.ev E (.tmp 2) = _ from g2.trans rfl) (by exact h.box rfl) rfl rfl)) ?_
        refine .cons (fun E h => by have g5 := h.get 5 (by decide); exact OpStep.plain rfl (Step.to (E1 := E.set 6 (.one (.d (.bool (limOk l))))) (congrArg (fun b_ => E.set 6 (.one (.d (.bool b_)))) hb1) (Step.call (f := 94) (xs := [.tmp 5]) (ps := [(.agg [.d (.int .i64 l.f0), .d (.int .i64 l.f1), .d (.int .i64 l.f2), .d (.int .i64 l.f3), .d (.int .i64 l.f4)])]) false (g := .func 94) (t := 6) rfl rfl (by exact lt_ok rfl) rfl (by kernel_rfl) (evs_cons (show Env.ev E (.tmp 5) = _ from g5.trans rfl) (rfl)) (.cons (.agg (.cons (.d _) (.cons (.d _) (.cons (.d _) (.cons (.d _) (.cons (.d _) .nil)))))) .nil) (ok_spec_LimitsOk l) (.inr rfl) (At.freshRows h rfl) (by simp) rfl))) ?_
        refine .cons (fun E h => by have g6 := h.get 6 (by decide); exact OpStep.plain rfl (Step.move (p := (.one (.d (.bool true)))) (t := 7) rfl rfl (by exact lt_ok rfl) (show Env.ev E (.tmp 6) = _ from g6.trans rfl))) ?_
        refine .cons (fun E h => by have g3 := h.get 3 (by decide); have g7 := h.get 7 (by decide); exact OpStep.yes (t := 7) rfl rfl (lt_ok rfl) (g7.trans rfl) (Step.fieldAddr (q := 0) (off := 0) (n := 1) (one := true) (t := 8) rfl rfl (by exact lt_ok rfl) (by kernel_rfl) (Nat.succ_ne_zero _) (show Env.ev E (.tmp 3) = _ from g3.trans rfl))) ?_
        refine .cons (fun E h => by have g7 := h.get 7 (by decide); have g8 := h.get 8 (by decide); exact OpStep.yes (t := 7) rfl rfl (lt_ok rfl) (g7.trans rfl) (Step.load_box (c := .d (.int .i64 q.f0)) (t := 9) rfl rfl (by exact lt_ok rfl) (by kernel_rfl) (show Env.ev E (.tmp 8) = _ from g8.trans rfl) (by exact h.box rfl) rfl)) ?_
        refine .cons (fun E h => by have g7 := h.get 7 (by decide); have g9 := h.get 9 (by decide); exact OpStep.yes (t := 7) rfl rfl (lt_ok rfl) (g7.trans rfl) (Step.to (E1 := E.set 10 (.one (.d (.bool (decide (0 ≤ q.f0 ∧ q.f0 ≤ 1152921504606846975)))))) (congrArg (fun b_ => E.set 10 (.one (.d (.bool b_)))) hb2) (Step.call (f := 137) (xs := [.tmp 9]) (ps := [(.one (.d (.int .i64 q.f0)))]) false (g := .func 137) (t := 10) rfl rfl (by exact lt_ok rfl) rfl (by kernel_rfl) (evs_cons (show Env.ev E (.tmp 9) = _ from g9.trans rfl) (rfl)) (.cons (.one (.d _)) .nil) (ok_spec_l01Num q.f0) (.inr rfl) (At.freshRows h rfl) (by simp) rfl))) ?_
        refine .cons (fun E h => by have g7 := h.get 7 (by decide); have g10 := h.get 10 (by decide); exact OpStep.plain rfl (Step.pick (b := true) (p := (.one (.d (.bool true)))) (t := 11) rfl rfl (by exact lt_ok rfl) (show Env.ev E (.tmp 7) = _ from g7.trans rfl) (show Env.ev E (.tmp 10) = _ from g10.trans rfl))) ?_
        refine .cons (fun E h => by have g11 := h.get 11 (by decide); exact OpStep.plain rfl (Step.move (p := (.one (.d (.bool true)))) (t := 12) rfl rfl (by exact lt_ok rfl) (show Env.ev E (.tmp 11) = _ from g11.trans rfl))) ?_
        refine .cons (fun E h => by have g3 := h.get 3 (by decide); have g12 := h.get 12 (by decide); exact OpStep.yes (t := 12) rfl rfl (lt_ok rfl) (g12.trans rfl) (Step.fieldAddr (q := 0) (off := 1) (n := 1) (one := true) (t := 13) rfl rfl (by exact lt_ok rfl) (by kernel_rfl) (Nat.succ_ne_zero _) (show Env.ev E (.tmp 3) = _ from g3.trans rfl))) ?_
        refine .cons (fun E h => by have g12 := h.get 12 (by decide); have g13 := h.get 13 (by decide); exact OpStep.yes (t := 12) rfl rfl (lt_ok rfl) (g12.trans rfl) (Step.load_box (c := .d (.int .i64 q.f1)) (t := 14) rfl rfl (by exact lt_ok rfl) (by kernel_rfl) (show Env.ev E (.tmp 13) = _ from g13.trans rfl) (by exact h.box rfl) rfl)) ?_
        refine .cons (fun E h => by have g12 := h.get 12 (by decide); have g14 := h.get 14 (by decide); exact OpStep.yes (t := 12) rfl rfl (lt_ok rfl) (g12.trans rfl) (Step.to (E1 := E.set 15 (.one (.d (.bool (decide (0 ≤ q.f1 ∧ q.f1 ≤ 1152921504606846975)))))) (congrArg (fun b_ => E.set 15 (.one (.d (.bool b_)))) hb3) (Step.call (f := 137) (xs := [.tmp 14]) (ps := [(.one (.d (.int .i64 q.f1)))]) false (g := .func 137) (t := 15) rfl rfl (by exact lt_ok rfl) rfl (by kernel_rfl) (evs_cons (show Env.ev E (.tmp 14) = _ from g14.trans rfl) (rfl)) (.cons (.one (.d _)) .nil) (ok_spec_l01Num q.f1) (.inr rfl) (At.freshRows h rfl) (by simp) rfl))) ?_
        refine .cons (fun E h => by have g12 := h.get 12 (by decide); have g15 := h.get 15 (by decide); exact OpStep.plain rfl (Step.pick (b := true) (p := (.one (.d (.bool true)))) (t := 16) rfl rfl (by exact lt_ok rfl) (show Env.ev E (.tmp 12) = _ from g12.trans rfl) (show Env.ev E (.tmp 15) = _ from g15.trans rfl))) ?_
        refine .cons (fun E h => by have g16 := h.get 16 (by decide); exact OpStep.plain rfl (Step.move (p := (.one (.d (.bool true)))) (t := 17) rfl rfl (by exact lt_ok rfl) (show Env.ev E (.tmp 16) = _ from g16.trans rfl))) ?_
        refine .cons (fun E h => by have g3 := h.get 3 (by decide); have g17 := h.get 17 (by decide); exact OpStep.yes (t := 17) rfl rfl (lt_ok rfl) (g17.trans rfl) (Step.fieldAddr (q := 0) (off := 2) (n := 1) (one := true) (t := 18) rfl rfl (by exact lt_ok rfl) (by kernel_rfl) (Nat.succ_ne_zero _) (show Env.ev E (.tmp 3) = _ from g3.trans rfl))) ?_
        refine .cons (fun E h => by have g17 := h.get 17 (by decide); have g18 := h.get 18 (by decide); exact OpStep.yes (t := 17) rfl rfl (lt_ok rfl) (g17.trans rfl) (Step.load_box (c := .d (.ints .u8 q.f2)) (t := 19) rfl rfl (by exact lt_ok rfl) (by kernel_rfl) (show Env.ev E (.tmp 18) = _ from g18.trans rfl) (by exact h.box rfl) rfl)) ?_
        refine .cons (fun E h => by have g17 := h.get 17 (by decide); have g19 := h.get 19 (by decide); exact OpStep.yes (t := 17) rfl rfl (lt_ok rfl) (g17.trans rfl) (Step.to (E1 := E.set 20 (.one (.d (.bool (decide ((q.f2.length : Int) = 32)))))) (congrArg (fun b_ => E.set 20 (.one (.d (.bool b_)))) hb4) (Step.call (f := 139) (xs := [.tmp 19]) (ps := [(.one (.d (.ints .u8 q.f2)))]) false (g := .func 139) (t := 20) rfl rfl (by exact lt_ok rfl) rfl (by kernel_rfl) (evs_cons (show Env.ev E (.tmp 19) = _ from g19.trans rfl) (rfl)) (.cons (.one (.d _)) .nil) (ok_spec_l07Hash q.f2) (.inr rfl) (At.freshRows h rfl) (by simp) rfl))) ?_
        refine .cons (fun E h => by have g17 := h.get 17 (by decide); have g20 := h.get 20 (by decide); exact OpStep.plain rfl (Step.pick (b := true) (p := (.one (.d (.bool true)))) (t := 21) rfl rfl (by exact lt_ok rfl) (show Env.ev E (.tmp 17) = _ from g17.trans rfl) (show Env.ev E (.tmp 20) = _ from g20.trans rfl))) ?_
        refine .cons (fun E h => by have g21 := h.get 21 (by decide); exact OpStep.plain rfl (Step.move (p := (.one (.d (.bool true)))) (t := 22) rfl rfl (by exact lt_ok rfl) (show Env.ev E (.tmp 21) = _ from g21.trans rfl))) ?_
        refine .cons (fun E h => by have g3 := h.get 3 (by decide); have g22 := h.get 22 (by decide); exact OpStep.yes (t := 22) rfl rfl (lt_ok rfl) (g22.trans rfl) (Step.fieldAddr (q := 0) (off := 3) (n := 1) (one := true) (t := 23) rfl rfl (by exact lt_ok rfl) (by kernel_rfl) (Nat.succ_ne_zero _) (show Env.ev E (.tmp 3) = _ from g3.trans rfl))) ?_
        refine .cons (fun E h => by have g22 := h.get 22 (by decide); have g23 := h.get 23 (by decide); exact OpStep.yes (t := 22) rfl rfl (lt_ok rfl) (g22.trans rfl) (Step.load_box (c := .d (.ints .u8 q.f3)) (t := 24) rfl rfl (by exact lt_ok rfl) (by kernel_rfl) (show Env.ev E (.tmp 23) = _ from g23.trans rfl) (by exact h.box rfl) rfl)) ?_
        refine .cons (fun E h => by have g2 := h.get 2 (by decide); have g22 := h.get 22 (by decide); exact OpStep.yes (t := 22) rfl rfl (lt_ok rfl) (g22.trans rfl) (Step.fieldAddr (q := 0) (off := 0) (n := 1) (one := true) (t := 25) rfl rfl (by exact lt_ok rfl) (by kernel_rfl) (Nat.succ_ne_zero _) (show Env.ev E (.tmp 2) = _ from g2.trans rfl))) ?_
        refine .cons (fun E h => by have g22 := h.get 22 (by decide); have g25 := h.get 25 (by decide); exact OpStep.yes (t := 22) rfl rfl (lt_ok rfl) (g22.trans rfl) (Step.load_box (c := .d (.int .i64 l.f0)) (t := 26) rfl rfl (by exact lt_ok rfl) (by kernel_rfl) (show Env.ev E (.tmp 25) = _ from g25.trans rfl) (by exact h.box rfl) rfl)) ?_
        refine .cons (fun E h => by have g22 := h.get 22 (by decide); have g24 := h.get 24 (by decide); have g26 := h.get 26 (by decide); exact OpStep.yes (t := 22) rfl rfl (lt_ok rfl) (g22.trans rfl) (Step.to (E1 := E.set 27 (.one (.d (.bool (bitsOk q.f3 l.f0))))) (congrArg (fun b_ => E.set 27 (.one (.d (.bool b_)))) hb5) (Step.call (f := 150) (xs := [.tmp 24, .tmp 26]) (ps := [(.one (.d (.ints .u8 q.f3))), (.one (.d (.int .i64 l.f0)))]) false (g := .func 150) (t := 27) rfl rfl (by exact lt_ok rfl) rfl (by kernel_rfl) (evs_cons (show Env.ev E (.tmp 24) = _ from g24.trans rfl) (evs_cons (show Env.ev E (.tmp 26) = _ from g26.trans rfl) (rfl))) (.cons (.one (.d _)) (.cons (.one (.d _)) .nil)) (ok_spec_BitsOk q.f3 l.f0 (by assumption) (by first | omega | assumption | (simp only [List.length_append] at *; omega))) (.inr rfl) (At.freshRows h rfl) (by simp) rfl))) ?_
        refine .cons (fun E h => by have g22 := h.get 22 (by decide); have g27 := h.get 27 (by decide); exact OpStep.plain rfl (Step.pick (b := true) (p := (.one (.d (.bool true)))) (t := 28) rfl rfl (by exact lt_ok rfl) (show Env.ev E (.tmp 22) = _ from g22.trans rfl) (show Env.ev E (.tmp 27) = _ from g27.trans rfl))) ?_
        refine .cons (fun E h => by have g28 := h.get 28 (by decide); exact OpStep.plain rfl (Step.move (p := (.one (.d (.bool true)))) (t := 29) rfl rfl (by exact lt_ok rfl) (show Env.ev E (.tmp 28) = _ from g28.trans rfl))) ?_
        refine .cons (fun E h => by have g3 := h.get 3 (by decide); have g29 := h.get 29 (by decide); exact OpStep.yes (t := 29) rfl rfl (lt_ok rfl) (g29.trans rfl) (Step.fieldAddr (q := 0) (off := 4) (n := 1) (one := true) (t := 30) rfl rfl (by exact lt_ok rfl) (by kernel_rfl) (Nat.succ_ne_zero _) (show Env.ev E (.tmp 3) = _ from g3.trans rfl))) ?_
        refine .cons (fun E h => by have g29 := h.get 29 (by decide); have g30 := h.get 30 (by decide); exact OpStep.yes (t := 29) rfl rfl (lt_ok rfl) (g29.trans rfl) (Step.load_box (c := .d (.bss q.f4)) (t := 31) rfl rfl (by exact lt_ok rfl) (by kernel_rfl) (show Env.ev E (.tmp 30) = _ from g30.trans rfl) (by exact h.box rfl) rfl)) ?_
        refine .cons (fun E h => by have g29 := h.get 29 (by decide); have g31 := h.get 31 (by decide); exact OpStep.yes (t := 29) rfl rfl (lt_ok rfl) (g29.trans rfl) (Step.len (e := 22) (z := 1) (d := (.bss q.f4)) (t := 32) rfl rfl (by exact lt_ok rfl) (by kernel_rfl) (show Env.ev E (.tmp 31) = _ from g31.trans rfl) rfl)) ?_
        refine .cons (fun E h => by have g3 := h.get 3 (by decide); have g29 := h.get 29 (by decide); exact OpStep.yes (t := 29) rfl rfl (lt_ok rfl) (g29.trans rfl) (Step.fieldAddr (q := 0) (off := 3) (n := 1) (one := true) (t := 33) rfl rfl (by exact lt_ok rfl) (by kernel_rfl) (Nat.succ_ne_zero _) (show Env.ev E (.tmp 3) = _ from g3.trans rfl))) ?_
        refine .cons (fun E h => by have g29 := h.get 29 (by decide); have g33 := h.get 33 (by decide); exact OpStep.yes (t := 29) rfl rfl (lt_ok rfl) (g29.trans rfl) (Step.load_box (c := .d (.ints .u8 q.f3)) (t := 34) rfl rfl (by exact lt_ok rfl) (by kernel_rfl) (show Env.ev E (.tmp 33) = _ from g33.trans rfl) (by exact h.box rfl) rfl)) ?_
        refine .cons (fun E h => by have g29 := h.get 29 (by decide); have g34 := h.get 34 (by decide); exact OpStep.yes (t := 29) rfl rfl (lt_ok rfl) (g29.trans rfl) (Step.call (f := 151) (xs := [.tmp 34]) (ps := [(.one (.d (.ints .u8 q.f3)))]) false (g := .func 151) (t := 35) rfl rfl (by exact lt_ok rfl) rfl (by kernel_rfl) (evs_cons (show Env.ev E (.tmp 34) = _ from g34.trans rfl) (rfl)) (.cons (.one (.d _)) .nil) (ok_spec_BitsCount q.f3 (by assumption) (by first | omega | assumption | (simp only [List.length_append] at *; omega))) (.inr rfl) (At.freshRows h rfl) (by simp) rfl)) ?_
        refine .cons (fun E h => by have g29 := h.get 29 (by decide); have g32 := h.get 32 (by decide); have g35 := h.get 35 (by decide); exact OpStep.yes (t := 29) rfl rfl (lt_ok rfl) (g29.trans rfl) (Step.to (E1 := E.set 36 (.one (.d (.bool (decide ((q.f4.length : Int) = ((bitList q.f3).length : Int))))))) (congrArg (fun b_ => E.set 36 (.one (.d (.bool b_)))) hb7) (Step.bin (t := 36) rfl rfl (by exact lt_ok rfl) (show Env.ev E (.tmp 32) = _ from g32.trans rfl) (show Env.ev E (.tmp 35) = _ from g35.trans rfl) (Bin.eql (k := .i64) (a := (q.f4.length : Int)) (b := ((bitList q.f3).length : Int)))))) ?_
        refine .cons (fun E h => by have g29 := h.get 29 (by decide); have g36 := h.get 36 (by decide); exact OpStep.plain rfl (Step.pick (b := true) (p := (.one (.d (.bool true)))) (t := 37) rfl rfl (by exact lt_ok rfl) (show Env.ev E (.tmp 29) = _ from g29.trans rfl) (show Env.ev E (.tmp 36) = _ from g36.trans rfl))) ?_
        refine .cons (fun E h => by have g37 := h.get 37 (by decide); exact OpStep.plain rfl (Step.move (p := (.one (.d (.bool true)))) (t := 38) rfl rfl (by exact lt_ok rfl) (show Env.ev E (.tmp 37) = _ from g37.trans rfl))) ?_
        refine .cons (fun E h => by have g3 := h.get 3 (by decide); have g38 := h.get 38 (by decide); exact OpStep.yes (t := 38) rfl rfl (lt_ok rfl) (g38.trans rfl) (Step.fieldAddr (q := 0) (off := 4) (n := 1) (one := true) (t := 39) rfl rfl (by exact lt_ok rfl) (by kernel_rfl) (Nat.succ_ne_zero _) (show Env.ev E (.tmp 3) = _ from g3.trans rfl))) ?_
        refine .cons (fun E h => by have g38 := h.get 38 (by decide); have g39 := h.get 39 (by decide); exact OpStep.yes (t := 38) rfl rfl (lt_ok rfl) (g38.trans rfl) (Step.load_box (c := .d (.bss q.f4)) (t := 40) rfl rfl (by exact lt_ok rfl) (by kernel_rfl) (show Env.ev E (.tmp 39) = _ from g39.trans rfl) (by exact h.box rfl) rfl)) ?_
        refine .cons (fun E h => by have g38 := h.get 38 (by decide); have g40 := h.get 40 (by decide); exact OpStep.yes (t := 38) rfl rfl (lt_ok rfl) (g38.trans rfl) (Step.call (f := 152) (xs := [.tmp 40]) (ps := [(.one (.d (.bss q.f4)))]) false (g := .func 152) (t := 41) rfl rfl (by exact lt_ok rfl) rfl (by kernel_rfl) (evs_cons (show Env.ev E (.tmp 40) = _ from g40.trans rfl) (rfl)) (.cons (.one (.d _)) .nil) (ok_spec_l08Hashes q.f4) (.inr rfl) (At.freshRows h rfl) (by simp) rfl)) ?_
        refine .cons (fun E h => by have g38 := h.get 38 (by decide); have g41 := h.get 41 (by decide); exact OpStep.plain rfl (Step.pick (b := true) (p := (.one (.d (.bool (hashes q.f4))))) (t := 42) rfl rfl (by exact lt_ok rfl) (show Env.ev E (.tmp 38) = _ from g38.trans rfl) (show Env.ev E (.tmp 41) = _ from g41.trans rfl))) ?_
        refine .cons (fun E h => by have g42 := h.get 42 (by decide); exact OpStep.plain rfl (Step.assign (p := (.one (.d (.bool (hashes q.f4))))) (t := 4) rfl rfl (by exact lt_ok rfl) (show Env.ev E (.tmp 42) = _ from g42.trans rfl))) ?_
        exact .nil _ _
       refine TL.nil ?_
       refine T.ret ?_
       exact ⟨[(false, [.d (.bool (hashes q.f4))])], (.cons rfl .nil), rfl, [], (RetC.rd' (by first | rfl | (congr 1; symm; simp only [qcOk, hashes, List.all_cons, List.all_nil, *, Bool.and_true, Bool.true_and, Bool.and_false, Bool.false_and, decide_true, decide_false, and_true, true_and, and_self, and_false, false_and, Bool.and_self, not_true, not_false, Bool.not_true, Bool.not_false, ge_iff_le, gt_iff_lt, if_true, if_false, Bool.false_eq_true, ite_true, ite_false, reduceIte]; done) | (congr 1; symm; simp_all [qcOk, hashes, List.all_cons, List.all_nil]; done) | (congr 1; symm; simp_all [qcOk, hashes, List.all_cons, List.all_nil]; omega)) .nil)⟩
      ·
       have nn9 := bitList_len q.f3
       refine T.draw [⟨5, (.agg [.d (.int .i64 l.f0), .d (.int .i64 l.f1), .d (.int .i64 l.f2), .d (.int .i64 l.f3), .d (.int .i64 l.f4)]), []⟩, ⟨6, (.one (.d (.bool true))), []⟩, ⟨7, (.one (.d (.bool true))), []⟩, ⟨8, (.one (.ptr 3 0)), []⟩, ⟨9, (.one (.d (.int .i64 q.f0))), []⟩, ⟨10, (.one (.d (.bool true))), []⟩, ⟨11, (.one (.d (.bool true))), []⟩, ⟨12, (.one (.d (.bool true))), []⟩, ⟨13, (.one (.ptr 3 1)), []⟩, ⟨14, (.one (.d (.int .i64 q.f1))), []⟩, ⟨15, (.one (.d (.bool true))), []⟩, ⟨16, (.one (.d (.bool true))), []⟩, ⟨17, (.one (.d (.bool true))), []⟩, ⟨18, (.one (.ptr 3 2)), []⟩, ⟨19, (.one (.d (.ints .u8 q.f2))), []⟩, ⟨20, (.one (.d (.bool true))), []⟩, ⟨21, (.one (.d (.bool true))), []⟩, ⟨22, (.one (.d (.bool true))), []⟩, ⟨23, (.one (.ptr 3 3)), []⟩, ⟨24, (.one (.d (.ints .u8 q.f3))), []⟩, ⟨25, (.one (.ptr 2 0)), []⟩, ⟨26, (.one (.d (.int .i64 l.f0))), []⟩, ⟨27, (.one (.d (.bool true))), []⟩, ⟨28, (.one (.d (.bool true))), []⟩, ⟨29, (.one (.d (.bool true))), []⟩, ⟨30, (.one (.ptr 3 4)), []⟩, ⟨31, (.one (.d (.bss q.f4))), []⟩, ⟨32, (.one (.d (.int .i64 (q.f4.length : Int)))), []⟩, ⟨33, (.one (.ptr 3 3)), []⟩, ⟨34, (.one (.d (.ints .u8 q.f3))), []⟩, ⟨35, (.one (.d (.int .i64 ((bitList q.f3).length : Int)))), []⟩, ⟨36, (.one (.d (.bool false))), []⟩, ⟨37, (.one (.d (.bool false))), []⟩, ⟨38, (.one (.d (.bool false))), []⟩, ⟨39, (.one (.und)), []⟩, ⟨40, (.one (.und)), []⟩, ⟨41, (.one (.und)), []⟩, ⟨42, (.one (.d (.bool false))), []⟩, ⟨4, (.one (.d (.bool false))), []⟩] (by kernel_rfl) (by kernel_rfl) ?_ ?_
       ·
        refine .cons (fun E h => by have g2 := h.get 2 (by decide); exact OpStep.plain rfl (Step.load_box_agg (n := 5) (qs := [.d (.int .i64 l.f0), .d (.int .i64 l.f1), .d (.int .i64 l.f2), .d (.int .i64 l.f3), .d (.int .i64 l.f4)]) (t := 5) rfl rfl (by exact lt_ok rfl) (by kernel_rfl) (show Env.ev E (.tmp 2) = _ from g2.trans rfl) (by exact h.box rfl) rfl rfl)) ?_
        refine .cons (fun E h => by have g5 := h.get 5 (by decide); exact OpStep.plain rfl (Step.to (E1 := E.set 6 (.one (.d (.bool (limOk l))))) (congrArg (fun b_ => E.set 6 (.one (.d (.bool b_)))) hb1) (Step.call (f := 94) (xs := [.tmp 5]) (ps := [(.agg [.d (.int .i64 l.f0), .d (.int .i64 l.f1), .d (.int .i64 l.f2), .d (.int .i64 l.f3), .d (.int .i64 l.f4)])]) false (g := .func 94) (t := 6) rfl rfl (by exact lt_ok rfl) rfl (by kernel_rfl) (evs_cons (show Env.ev E (.tmp 5) = _ from g5.trans rfl) (rfl)) (.cons (.agg (.cons (.d _) (.cons (.d _) (.cons (.d _) (.cons (.d _) (.cons (.d _) .nil)))))) .nil) (ok_spec_LimitsOk l) (.inr rfl) (At.freshRows h rfl) (by simp) rfl))) ?_
        refine .cons (fun E h => by have g6 := h.get 6 (by decide); exact OpStep.plain rfl (Step.move (p := (.one (.d (.bool true)))) (t := 7) rfl rfl (by exact lt_ok rfl) (show Env.ev E (.tmp 6) = _ from g6.trans rfl))) ?_
        refine .cons (fun E h => by have g3 := h.get 3 (by decide); have g7 := h.get 7 (by decide); exact OpStep.yes (t := 7) rfl rfl (lt_ok rfl) (g7.trans rfl) (Step.fieldAddr (q := 0) (off := 0) (n := 1) (one := true) (t := 8) rfl rfl (by exact lt_ok rfl) (by kernel_rfl) (Nat.succ_ne_zero _) (show Env.ev E (.tmp 3) = _ from g3.trans rfl))) ?_
        refine .cons (fun E h => by have g7 := h.get 7 (by decide); have g8 := h.get 8 (by decide); exact OpStep.yes (t := 7) rfl rfl (lt_ok rfl) (g7.trans rfl) (Step.load_box (c := .d (.int .i64 q.f0)) (t := 9) rfl rfl (by exact lt_ok rfl) (by kernel_rfl) (show Env.ev E (.tmp 8) = _ from g8.trans rfl) (by exact h.box rfl) rfl)) ?_
        refine .cons (fun E h => by have g7 := h.get 7 (by decide); have g9 := h.get 9 (by decide); exact OpStep.yes (t := 7) rfl rfl (lt_ok rfl) (g7.trans rfl) (Step.to (E1 := E.set 10 (.one (.d (.bool (decide (0 ≤ q.f0 ∧ q.f0 ≤ 1152921504606846975)))))) (congrArg (fun b_ => E.set 10 (.one (.d (.bool b_)))) hb2) (Step.call (f := 137) (xs := [.tmp 9]) (ps := [(.one (.d (.int .i64 q.f0)))]) false (g := .func 137) (t := 10) rfl rfl (by exact lt_ok rfl) rfl (by kernel_rfl) (evs_cons (show Env.ev E (.tmp 9) = _ from g9.trans rfl) (rfl)) (.cons (.one (.d _)) .nil) (ok_spec_l01Num q.f0) (.inr rfl) (At.freshRows h rfl) (by simp) rfl))) ?_
        refine .cons (fun E h => by have g7 := h.get 7 (by decide); have g10 := h.get 10 (by decide); exact OpStep.plain rfl (Step.pick (b := true) (p := (.one (.d (.bool true)))) (t := 11) rfl rfl (by exact lt_ok rfl) (show Env.ev E (.tmp 7) = _ from g7.trans rfl) (show Env.ev E (.tmp 10) = _ from g10.trans rfl))) ?_
        refine .cons (fun E h => by have g11 := h.get 11 (by decide); exact OpStep.plain rfl (Step.move (p := (.one (.d (.bool true)))) (t := 12) rfl rfl (by exact lt_ok rfl) (show Env.ev E (.tmp 11) = _ from g11.trans rfl))) ?_
        refine .cons (fun E h => by have g3 := h.get 3 (by decide); have g12 := h.get 12 (by decide); exact OpStep.yes (t := 12) rfl rfl (lt_ok rfl) (g12.trans rfl) (Step.fieldAddr (q := 0) (off := 1) (n := 1) (one := true) (t := 13) rfl rfl (by exact lt_ok rfl) (by kernel_rfl) (Nat.succ_ne_zero _) (show Env.ev E (.tmp 3) = _ from g3.trans rfl))) ?_
        refine .cons (fun E h => by have g12 := h.get 12 (by decide); have g13 := h.get 13 (by decide); exact OpStep.yes (t := 12) rfl rfl (lt_ok rfl) (g12.trans rfl) (Step.load_box (c := .d (.int .i64 q.f1)) (t := 14) rfl rfl (by exact lt_ok rfl) (by kernel_rfl) (show Env.ev E (.tmp 13) = _ from g13.trans rfl) (by exact h.box rfl) rfl)) ?_
        refine .cons (fun E h => by have g12 := h.get 12 (by decide); have g14 := h.get 14 (by decide); exact OpStep.yes (t := 12) rfl rfl (lt_ok rfl) (g12.trans rfl) (Step.to (E1 := E.set 15 (.one (.d (.bool (decide (0 ≤ q.f1 ∧ q.f1 ≤ 1152921504606846975)))))) (congrArg (fun b_ => E.set 15 (.one (.d (.bool b_)))) hb3) (Step.call (f := 137) (xs := [.tmp 14]) (ps := [(.one (.d (.int .i64 q.f1)))]) false (g := .func 137) (t := 15) rfl rfl (by exact lt_ok rfl) rfl (by kernel_rfl) (evs_cons (show Env.ev E (.tmp 14) = _ from g14.trans rfl) (rfl)) (.cons (.one (.d _)) .nil) (ok_spec_l01Num q.f1) (.inr rfl) (At.freshRows h rfl) (by simp) rfl))) ?_
        refine .cons (fun E h => by have g12 := h.get 12 (by decide); have g15 := h.get 15 (by decide); exact OpStep.plain rfl (Step.pick (b := true) (p := (.one (.d (.bool true)))) (t := 16) rfl rfl (by exact lt_ok rfl) (show Env.ev E (.tmp 12) = _ from g12.trans rfl) (show Env.ev E (.tmp 15) = _ from g15.trans rfl))) ?_
        refine .cons (fun E h => by have g16 := h.get 16 (by decide); exact OpStep.plain rfl (Step.move (p := (.one (.d (.bool true)))) (t := 17) rfl rfl (by exact lt_ok rfl) (show Env.ev E (.tmp 16) = _ from g16.trans rfl))) ?_
        refine .cons (fun E h => by have g3 := h.get 3 (by decide); have g17 := h.get 17 (by decide); exact OpStep.yes (t := 17) rfl rfl (lt_ok rfl) (g17.trans rfl) (Step.fieldAddr (q := 0) (off := 2) (n := 1) (one := true) (t := 18) rfl rfl (by exact lt_ok rfl) (by kernel_rfl) (Nat.succ_ne_zero _) (show Env.ev E (.tmp 3) = _ from g3.trans rfl))) ?_
        refine .cons (fun E h => by have g17 := h.get 17 (by decide); have g18 := h.get 18 (by decide); exact OpStep.yes (t := 17) rfl rfl (lt_ok rfl) (g17.trans rfl) (Step.load_box (c := .d (.ints .u8 q.f2)) (t := 19) rfl rfl (by exact lt_ok rfl) (by kernel_rfl) (show Env.ev E (.tmp 18) = _ from g18.trans rfl) (by exact h.box rfl) rfl)) ?_
        refine .cons (fun E h => by have g17 := h.get 17 (by decide); have g19 := h.get 19 (by decide); exact OpStep.yes (t := 17) rfl rfl (lt_ok rfl) (g17.trans rfl) (Step.to (E1 := E.set 20 (.one (.d (.bool (decide ((q.f2.length : Int) = 32)))))) (congrArg (fun b_ => E.set 20 (.one (.d (.bool b_)))) hb4) (Step.call (f := 139) (xs := [.tmp 19]) (ps := [(.one (.d (.ints .u8 q.f2)))]) false (g := .func 139) (t := 20) rfl rfl (by exact lt_ok rfl) rfl (by kernel_rfl) (evs_cons (show Env.ev E (.tmp 19) = _ from g19.trans rfl) (rfl)) (.cons (.one (.d _)) .nil) (ok_spec_l07Hash q.f2) (.inr rfl) (At.freshRows h rfl) (by simp) rfl))) ?_
        refine .cons (fun E h => by have g17 := h.get 17 (by decide); have g20 := h.get 20 (by decide); exact OpStep.plain rfl (Step.pick (b := true) (p := (.one (.d (.bool true)))) (t := 21) rfl rfl (by exact lt_ok rfl) (show Env.ev E (.tmp 17) = _ from g17.trans rfl) (show Env.ev E (.tmp 20) = _ from g20.trans rfl))) ?_
        refine .cons (fun E h => by have g21 := h.get 21 (by decide); exact OpStep.plain rfl (Step.move (p := (.one (.d (.bool true)))) (t := 22) rfl rfl (by exact lt_ok rfl) (show Env.ev E (.tmp 21) = _ from g21.trans rfl))) ?_
        refine .cons (fun E h => by have g3 := h.get 3 (by decide); have g22 := h.get 22 (by decide); exact OpStep.yes (t := 22) rfl rfl (lt_ok rfl) (g22.trans rfl) (Step.fieldAddr (q := 0) (off := 3) (n := 1) (one := true) (t := 23) rfl rfl (by exact lt_ok rfl) (by kernel_rfl) (Nat.succ_ne_zero _) (show Env.ev E (.tmp 3) = _ from g3.trans rfl))) ?_
        refine .cons (fun E h => by have g22 := h.get 22 (by decide); have g23 := h.get 23 (by decide); exact OpStep.yes (t := 22) rfl rfl (lt_ok rfl) (g22.trans rfl) (Step.load_box (c := .d (.ints .u8 q.f3)) (t := 24) rfl rfl (by exact lt_ok rfl) (by kernel_rfl) (show Env.ev E (.tmp 23) = _ from g23.trans rfl) (by exact h.box rfl) rfl)) ?_
        refine .cons (fun E h => by have g2 := h.get 2 (by decide); have g22 := h.get 22 (by decide); exact OpStep.yes (t := 22) rfl rfl (lt_ok rfl) (g22.trans rfl) (Step.fieldAddr (q := 0) (off := 0) (n := 1) (one := true) (t := 25) rfl rfl (by exact lt_ok rfl) (by kernel_rfl) (Nat.succ_ne_zero _) (show Env.ev E (.tmp 2) = _ from g2.trans rfl))) ?_
        refine .cons (fun E h => by have g22 := h.get 22 (by decide); have g25 := h.get 25 (by decide); exact OpStep.yes (t := 22) rfl rfl (lt_ok rfl) (g22.trans rfl) (Step.load_box (c := .d (.int .i64 l.f0)) (t := 26) rfl rfl (by exact lt_ok rfl) (by kernel_rfl) (show Env.ev E (.tmp 25) = _ from g25.trans rfl) (by exact h.box rfl) rfl)) ?_
        refine .cons (fun E h => by have g22 := h.get 22 (by decide); have g24 := h.get 24 (by decide); have g26 := h.get 26 (by decide); exact OpStep.yes (t := 22) rfl rfl (lt_ok rfl) (g22.trans rfl) (Step.to (E1 := E.set 27 (.one (.d (.bool (bitsOk q.f3 l.f0))))) (congrArg (fun b_ => E.set 27 (.one (.d (.bool b_)))) hb5) (Step.call (f := 150) (xs := [.tmp 24, .tmp 26]) (ps := [(.one (.d (.ints .u8 q.f3))), (.one (.d (.int .i64 l.f0)))]) false (g := .func 150) (t := 27) rfl rfl (by exact lt_ok rfl) rfl (by kernel_rfl) (evs_cons (show Env.ev E (.tmp 24) = _ from g24.trans rfl) (evs_cons (show Env.ev E (.tmp 26) = _ from g26.trans rfl) (rfl))) (.cons (.one (.d _)) (.cons (.one (.d _)) .nil)) (ok_spec_BitsOk q.f3 l.f0 (by assumption) (by first | omega | assumption | (simp only [List.length_append] at *; omega))) (.inr rfl) (At.freshRows h rfl) (by simp) rfl))) ?_
        refine .cons (fun E h => by have g22 := h.get 22 (by decide); have g27 := h.get 27 (by decide); exact OpStep.plain rfl (Step.pick (b := true) (p := (.one (.d (.bool true)))) (t := 28) rfl rfl (by exact lt_ok rfl) (show Env.ev E (.tmp 22) = _ from g22.trans rfl) (show Env.ev E (.tmp 27) = _ from g27.trans rfl))) ?_
        refine .cons (fun E h => by have g28 := h.get 28 (by decide); exact OpStep.plain rfl (Step.move (p := (.one (.d (.bool true)))) (t := 29) rfl rfl (by exact lt_ok rfl) (show Env.ev E (.tmp 28) = _ from g28.trans rfl))) ?_
        refine .cons (fun E h => by have g3 := h.get 3 (by decide); have g29 := h.get 29 (by decide); exact OpStep.yes (t := 29) rfl rfl (lt_ok rfl) (g29.trans rfl) (Step.fieldAddr (q := 0) (off := 4) (n := 1) (one := true) (t := 30) rfl rfl (by exact lt_ok rfl) (by kernel_rfl) (Nat.succ_ne_zero _) (show Env.ev E (.tmp 3) = _ from g3.trans rfl))) ?_
        refine .cons (fun E h => by have g29 := h.get 29 (by decide); have g30 := h.get 30 (by decide); exact OpStep.yes (t := 29) rfl rfl (lt_ok rfl) (g29.trans rfl) (Step.load_box (c := .d (.bss q.f4)) (t := 31) rfl rfl (by exact lt_ok rfl) (by kernel_rfl) (show Env.ev E (.tmp 30) = _ from g30.trans rfl) (by exact h.box rfl) rfl)) ?_
        refine .cons (fun E h => by have g29 := h.get 29 (by decide); have g31 := h.get 31 (by decide); exact OpStep.yes (t := 29) rfl rfl (lt_ok rfl) (g29.trans rfl) (Step.len (e := 22) (z := 1) (d := (.bss q.f4)) (t := 32) rfl rfl (by exact lt_ok rfl) (by kernel_rfl) (show Env.ev E (.tmp 31) = _ from g31.trans rfl) rfl)) ?_
        refine .cons (fun E h => by have g3 := h.get 3 (by decide); have g29 := h.get 29 (by decide); exact OpStep.yes (t := 29) rfl rfl (lt_ok rfl) (g29.trans rfl) (Step.fieldAddr (q := 0) (off := 3) (n := 1) (one := true) (t := 33) rfl rfl (by exact lt_ok rfl) (by kernel_rfl) (Nat.succ_ne_zero _) (show Env.ev E (.tmp 3) = _ from g3.trans rfl))) ?_
        refine .cons (fun E h => by have g29 := h.get 29 (by decide); have g33 := h.get 33 (by decide); exact OpStep.yes (t := 29) rfl rfl (lt_ok rfl) (g29.trans rfl) (Step.load_box (c := .d (.ints .u8 q.f3)) (t := 34) rfl rfl (by exact lt_ok rfl) (by kernel_rfl) (show Env.ev E (.tmp 33) = _ from g33.trans rfl) (by exact h.box rfl) rfl)) ?_
        refine .cons (fun E h => by have g29 := h.get 29 (by decide); have g34 := h.get 34 (by decide); exact OpStep.yes (t := 29) rfl rfl (lt_ok rfl) (g29.trans rfl) (Step.call (f := 151) (xs := [.tmp 34]) (ps := [(.one (.d (.ints .u8 q.f3)))]) false (g := .func 151) (t := 35) rfl rfl (by exact lt_ok rfl) rfl (by kernel_rfl) (evs_cons (show Env.ev E (.tmp 34) = _ from g34.trans rfl) (rfl)) (.cons (.one (.d _)) .nil) (ok_spec_BitsCount q.f3 (by assumption) (by first | omega | assumption | (simp only [List.length_append] at *; omega))) (.inr rfl) (At.freshRows h rfl) (by simp) rfl)) ?_
        refine .cons (fun E h => by have g29 := h.get 29 (by decide); have g32 := h.get 32 (by decide); have g35 := h.get 35 (by decide); exact OpStep.yes (t := 29) rfl rfl (lt_ok rfl) (g29.trans rfl) (Step.to (E1 := E.set 36 (.one (.d (.bool (decide ((q.f4.length : Int) = ((bitList q.f3).length : Int))))))) (congrArg (fun b_ => E.set 36 (.one (.d (.bool b_)))) hb7) (Step.bin (t := 36) rfl rfl (by exact lt_ok rfl) (show Env.ev E (.tmp 32) = _ from g32.trans rfl) (show Env.ev E (.tmp 35) = _ from g35.trans rfl) (Bin.eql (k := .i64) (a := (q.f4.length : Int)) (b := ((bitList q.f3).length : Int)))))) ?_
        refine .cons (fun E h => by have g29 := h.get 29 (by decide); have g36 := h.get 36 (by decide); exact OpStep.plain rfl (Step.pick (b := true) (p := (.one (.d (.bool false)))) (t := 37) rfl rfl (by exact lt_ok rfl) (show Env.ev E (.tmp 29) = _ from g29.trans rfl) (show Env.ev E (.tmp 36) = _ from g36.trans rfl))) ?_
        refine .cons (fun E h => by have g37 := h.get 37 (by decide); exact OpStep.plain rfl (Step.move (p := (.one (.d (.bool false)))) (t := 38) rfl rfl (by exact lt_ok rfl) (show Env.ev E (.tmp 37) = _ from g37.trans rfl))) ?_
        refine .cons (fun E h => OpStep.no (t := 38) rfl rfl (lt_ok rfl) ((h.get 38 (by decide)).trans rfl) (by decide) rfl (lt_ok rfl)) ?_
        refine .cons (fun E h => OpStep.no (t := 38) rfl rfl (lt_ok rfl) ((h.get 38 (by decide)).trans rfl) (by decide) rfl (lt_ok rfl)) ?_
        refine .cons (fun E h => OpStep.no (t := 38) rfl rfl (lt_ok rfl) ((h.get 38 (by decide)).trans rfl) (by decide) rfl (lt_ok rfl)) ?_
        refine .cons (fun E h => by have g38 := h.get 38 (by decide); have g41 := h.get 41 (by decide); exact OpStep.plain rfl (Step.pick (b := false) (p := (.one (.d (.bool false)))) (t := 42) rfl rfl (by exact lt_ok rfl) (show Env.ev E (.tmp 38) = _ from g38.trans rfl) rfl)) ?_
        refine .cons (fun E h => by have g42 := h.get 42 (by decide); exact OpStep.plain rfl (Step.assign (p := (.one (.d (.bool false)))) (t := 4) rfl rfl (by exact lt_ok rfl) (show Env.ev E (.tmp 42) = _ from g42.trans rfl))) ?_
        exact .nil _ _
       refine TL.nil ?_
       refine T.ret ?_
       exact ⟨[(false, [.d (.bool false)])], (.cons rfl .nil), rfl, [], (RetC.rd' (by first | rfl | (congr 1; symm; simp only [qcOk, hashes, List.all_cons, List.all_nil, *, Bool.and_true, Bool.true_and, Bool.and_false, Bool.false_and, decide_true, decide_false, and_true, true_and, and_self, and_false, false_and, Bool.and_self, not_true, not_false, Bool.not_true, Bool.not_false, ge_iff_le, gt_iff_lt, if_true, if_false, Bool.false_eq_true, ite_true, ite_false, reduceIte]; done) | (congr 1; symm; simp_all [qcOk, hashes, List.all_cons, List.all_nil]; done) | (congr 1; symm; simp_all [qcOk, hashes, List.all_cons, List.all_nil]; omega)) .nil)⟩
     ·
      refine T.draw [⟨5, (.agg [.d (.int .i64 l.f0), .d (.int .i64 l.f1), .d (.int .i64 l.f2), .d (.int .i64 l.f3), .d (.int .i64 l.f4)]), []⟩, ⟨6, (.one (.d (.bool true))), []⟩, ⟨7, (.one (.d (.bool true))), []⟩, ⟨8, (.one (.ptr 3 0)), []⟩, ⟨9, (.one (.d (.int .i64 q.f0))), []⟩, ⟨10, (.one (.d (.bool true))), []⟩, ⟨11, (.one (.d (.bool true))), []⟩, ⟨12, (.one (.d (.bool true))), []⟩, ⟨13, (.one (.ptr 3 1)), []⟩, ⟨14, (.one (.d (.int .i64 q.f1))), []⟩, ⟨15, (.one (.d (.bool true))), []⟩, ⟨16, (.one (.d (.bool true))), []⟩, ⟨17, (.one (.d (.bool true))), []⟩, ⟨18, (.one (.ptr 3 2)), []⟩, ⟨19, (.one (.d (.ints .u8 q.f2))), []⟩, ⟨20, (.one (.d (.bool true))), []⟩, ⟨21, (.one (.d (.bool true))), []⟩, ⟨22, (.one (.d (.bool true))), []⟩, ⟨23, (.one (.ptr 3 3)), []⟩, ⟨24, (.one (.d (.ints .u8 q.f3))), []⟩, ⟨25, (.one (.ptr 2 0)), []⟩, ⟨26, (.one (.d (.int .i64 l.f0))), []⟩, ⟨27, (.one (.d (.bool false))), []⟩, ⟨28, (.one (.d (.bool false))), []⟩, ⟨29, (.one (.d (.bool false))), []⟩, ⟨30, (.one (.und)), []⟩, ⟨31, (.one (.und)), []⟩, ⟨32, (.one (.und)), []⟩, ⟨33, (.one (.und)), []⟩, ⟨34, (.one (.und)), []⟩, ⟨35, (.one (.und)), []⟩, ⟨36, (.one (.und)), []⟩, ⟨37, (.one (.d (.bool false))), []⟩, ⟨38, (.one (.d (.bool false))), []⟩, ⟨39, (.one (.und)), []⟩, ⟨40, (.one (.und)), []⟩, ⟨41, (.one (.und)), []⟩, ⟨42, (.one (.d (.bool false))), []⟩, ⟨4, (.one (.d (.bool false))), []⟩] (by kernel_rfl) (by kernel_rfl) ?_ ?_
      ·
       refine .cons (fun E h => by have g2 := h.get 2 (by decide); exact OpStep.plain rfl (Step.load_box_agg (n := 5) (qs := [.d (.int .i64 l.f0), .d (.int .i64 l.f1), .d (.int .i64 l.f2), .d (.int .i64 l.f3), .d (.int .i64 l.f4)]) (t := 5) rfl rfl (by exact lt_ok rfl) (by kernel_rfl) (show Env.ev E (.tmp 2) = _ from g2.trans rfl) (by exact h.box rfl) rfl rfl)) ?_
       refine .cons (fun E h => by have g5 := h.get 5 (by decide); exact OpStep.plain rfl (Step.to (E1 := E.set 6 (.one (.d (.bool (limOk l))))) (congrArg (fun b_ => E.set 6 (.one (.d (.bool b_)))) hb1) (Step.call (f := 94) (xs := [.tmp 5]) (ps := [(.agg [.d (.int .i64 l.f0), .d (.int .i64 l.f1), .d (.int .i64 l.f2), .d (.int .i64 l.f3), .d (.int .i64 l.f4)])]) false (g := .func 94) (t := 6) rfl rfl (by exact lt_ok rfl) rfl (by kernel_rfl) (evs_cons (show Env.ev E (.tmp 5) = _ from g5.trans rfl) (rfl)) (.cons (.agg (.cons (.d _) (.cons (.d _) (.cons (.d _) (.cons (.d _) (.cons (.d _) .nil)))))) .nil) (ok_spec_LimitsOk l) (.inr rfl) (At.freshRows h rfl) (by simp) rfl))) ?_
       refine .cons (fun E h => by have g6 := h.get 6 (by decide); exact OpStep.plain rfl (Step.move (p := (.one (.d (.bool true)))) (t := 7) rfl rfl (by exact lt_ok rfl) (show Env.ev E (.tmp 6) = _ from g6.trans rfl))) ?_
       refine .cons (fun E h => by have g3 := h.get 3 (by decide); have g7 := h.get 7 (by decide); exact OpStep.yes (t := 7) rfl rfl (lt_ok rfl) (g7.trans rfl) (Step.fieldAddr (q := 0) (off := 0) (n := 1) (one := true) (t := 8) rfl rfl (by exact lt_ok rfl) (by kernel_rfl) (Nat.succ_ne_zero _) (show Env.ev E (.tmp 3) = _ from g3.trans rfl))) ?_
       refine .cons (fun E h => by have g7 := h.get 7 (by decide); have g8 := h.get 8 (by decide); exact OpStep.yes (t := 7) rfl rfl (lt_ok rfl) (g7.trans rfl) (Step.load_box (c := .d (.int .i64 q.f0)) (t := 9) rfl rfl (by exact lt_ok rfl) (by kernel_rfl) (show Env.ev E (.tmp 8) = _ from g8.trans rfl) (by exact h.box rfl) rfl)) ?_
       refine .cons (fun E h => by have g7 := h.get 7 (by decide); have g9 := h.get 9 (by decide); exact OpStep.yes (t := 7) rfl rfl (lt_ok rfl) (g7.trans rfl) (Step.to (E1 := E.set 10 (.one (.d (.bool (decide (0 ≤ q.f0 ∧ q.f0 ≤ 1152921504606846975)))))) (congrArg (fun b_ => E.set 10 (.one (.d (.bool b_)))) hb2) (Step.call (f := 137) (xs := [.tmp 9]) (ps := [(.one (.d (.int .i64 q.f0)))]) false (g := .func 137) (t := 10) rfl rfl (by exact lt_ok rfl) rfl (by kernel_rfl) (evs_cons (show Env.ev E (.tmp 9) = _ from g9.trans rfl) (rfl)) (.cons (.one (.d _)) .nil) (ok_spec_l01Num q.f0) (.inr rfl) (At.freshRows h rfl) (by simp) rfl))) ?_
       refine .cons (fun E h => by have g7 := h.get 7 (by decide); have g10 := h.get 10 (by decide); exact OpStep.plain rfl (Step.pick (b := true) (p := (.one (.d (.bool true)))) (t := 11) rfl rfl (by exact lt_ok rfl) (show Env.ev E (.tmp 7) = _ from g7.trans rfl) (show Env.ev E (.tmp 10) = _ from g10.trans rfl))) ?_
       refine .cons (fun E h => by have g11 := h.get 11 (by decide); exact OpStep.plain rfl (Step.move (p := (.one (.d (.bool true)))) (t := 12) rfl rfl (by exact lt_ok rfl) (show Env.ev E (.tmp 11) = _ from g11.trans rfl))) ?_
       refine .cons (fun E h => by have g3 := h.get 3 (by decide); have g12 := h.get 12 (by decide); exact OpStep.yes (t := 12) rfl rfl (lt_ok rfl) (g12.trans rfl) (Step.fieldAddr (q := 0) (off := 1) (n := 1) (one := true) (t := 13) rfl rfl (by exact lt_ok rfl) (by kernel_rfl) (Nat.succ_ne_zero _) (show Env.ev E (.tmp 3) = _ from g3.trans rfl))) ?_
       refine .cons (fun E h => by have g12 := h.get 12 (by decide); have g13 := h.get 13 (by decide); exact OpStep.yes (t := 12) rfl rfl (lt_ok rfl) (g12.trans rfl) (Step.load_box (c := .d (.int .i64 q.f1)) (t := 14) rfl rfl (by exact lt_ok rfl) (by kernel_rfl) (show Env.ev E (.tmp 13) = _ from g13.trans rfl) (by exact h.box rfl) rfl)) ?_
       refine .cons (fun E h => by have g12 := h.get 12 (by decide); have g14 := h.get 14 (by decide); exact OpStep.yes (t := 12) rfl rfl (lt_ok rfl) (g12.trans rfl) (Step.to (E1 := E.set 15 (.one (.d (.bool (decide (0 ≤ q.f1 ∧ q.f1 ≤ 1152921504606846975)))))) (congrArg (fun b_ => E.set 15 (.one (.d (.bool b_)))) hb3) (Step.call (f := 137) (xs := [.tmp 14]) (ps := [(.one (.d (.int .i64 q.f1)))]) false (g := .func 137) (t := 15) rfl rfl (by exact lt_ok rfl) rfl (by kernel_rfl) (evs_cons (show Env.ev E (.tmp 14) = _ from g14.trans rfl) (rfl)) (.cons (.one (.d _)) .nil) (ok_spec_l01Num q.f1) (.inr rfl) (At.freshRows h rfl) (by simp) rfl))) ?_
       refine .cons (fun E h => by have g12 := h.get 12 (by decide); have g15 := h.get 15 (by decide); exact OpStep.plain rfl (Step.pick (b := true) (p := (.one (.d (.bool true)))) (t := 16) rfl rfl (by exact lt_ok rfl) (show Env.ev E (.tmp 12) = _ from g12.trans rfl) (show Env.ev E (.tmp 15) = _ from g15.trans rfl))) ?_
       refine .cons (fun E h => by have g16 := h.get 16 (by decide); exact OpStep.plain rfl (Step.move (p := (.one (.d (.bool true)))) (t := 17) rfl rfl (by exact lt_ok rfl) (show Env.ev E (.tmp 16) = _ from g16.trans rfl))) ?_
       refine .cons (fun E h => by have g3 := h.get 3 (by decide); have g17 := h.get 17 (by decide); exact OpStep.yes (t := 17) rfl rfl (lt_ok rfl) (g17.trans rfl) (Step.fieldAddr (q := 0) (off := 2) (n := 1) (one := true) (t := 18) rfl rfl (by exact lt_ok rfl) (by kernel_rfl) (Nat.succ_ne_zero _) (show Env.ev E (.tmp 3) = _ from g3.trans rfl))) ?_
       refine .cons (fun E h => by have g17 := h.get 17 (by decide); have g18 := h.get 18 (by decide); exact OpStep.yes (t := 17) rfl rfl (lt_ok rfl) (g17.trans rfl) (Step.load_box (c := .d (.ints .u8 q.f2)) (t := 19) rfl rfl (by exact lt_ok rfl) (by kernel_rfl) (show Env.ev E (.tmp 18) = _ from g18.trans rfl) (by exact h.box rfl) rfl)) ?_
       refine .cons (fun E h => by have g17 := h.get 17 (by decide); have g19 := h.get 19 (by decide); exact OpStep.yes (t := 17) rfl rfl (lt_ok rfl) (g17.trans rfl) (Step.to (E1 := E.set 20 (.one (.d (.bool (decide ((q.f2.length : Int) = 32)))))) (congrArg (fun b_ => E.set 20 (.one (.d (.bool b_)))) hb4) (Step.call (f := 139) (xs := [.tmp 19]) (ps := [(.one (.d (.ints .u8 q.f2)))]) false (g := .func 139) (t := 20) rfl rfl (by exact lt_ok rfl) rfl (by kernel_rfl) (evs_cons (show Env.ev E (.tmp 19) = _ from g19.trans rfl) (rfl)) (.cons (.one (.d _)) .nil) (ok_spec_l07Hash q.f2) (.inr rfl) (At.freshRows h rfl) (by simp) rfl))) ?_
       refine .cons (fun E h => by have g17 := h.get 17 (by decide); have g20 := h.get 20 (by decide); exact OpStep.plain rfl (Step.pick (b := true) (p := (.one (.d (.bool true)))) (t := 21) rfl rfl (by exact lt_ok rfl) (show Env.ev E (.tmp 17) = _ from g17.trans rfl) (show Env.ev E (.tmp 20) = _ from g20.trans rfl))) ?_
       refine .cons (fun E h => by have g21 := h.get 21 (by decide); exact OpStep.plain rfl (Step.move (p := (.one (.d (.bool true)))) (t := 22) rfl rfl (by exact lt_ok rfl) (show Env.ev E (.tmp 21) = _ from g21.trans rfl))) ?_
       refine .cons (fun E h => by have g3 := h.get 3 (by decide); have g22 := h.get 22 (by decide); exact OpStep.yes (t := 22) rfl rfl (lt_ok rfl) (g22.trans rfl) (Step.fieldAddr (q := 0) (off := 3) (n := 1) (one := true) (t := 23) rfl rfl (by exact lt_ok rfl) (by kernel_rfl) (Nat.succ_ne_zero _) (show Env.ev E (.tmp 3) = _ from g3.trans rfl))) ?_
       refine .cons (fun E h => by have g22 := h.get 22 (by decide); have g23 := h.get 23 (by decide); exact OpStep.yes (t := 22) rfl rfl (lt_ok rfl) (g22.trans rfl) (Step.load_box (c := .d (.ints .u8 q.f3)) (t := 24) rfl rfl (by exact lt_ok rfl) (by kernel_rfl) (show Env.ev E (.tmp 23) = _ from g23.trans rfl) (by exact h.box rfl) rfl)) ?_
       refine .cons (fun E h => by have g2 := h.get 2 (by decide); have g22 := h.get 22 (by decide); exact OpStep.yes (t := 22) rfl rfl (lt_ok rfl) (g22.trans rfl) (Step.fieldAddr (q := 0) (off := 0) (n := 1) (one := true) (t := 25) rfl rfl (by exact lt_ok rfl) (by kernel_rfl) (Nat.succ_ne_zero _) (show Env.ev E (.tmp 2) = _ from g2.trans rfl))) ?_
       refine .cons (fun E h => by have g22 := h.get 22 (by decide); have g25 := h.get 25 (by decide); exact OpStep.yes (t := 22) rfl rfl (lt_ok rfl) (g22.trans rfl) (Step.load_box (c := .d (.int .i64 l.f0)) (t := 26) rfl rfl (by exact lt_ok rfl) (by kernel_rfl) (show Env.ev E (.tmp 25) = _ from g25.trans rfl) (by exact h.box rfl) rfl)) ?_
       refine .cons (fun E h => by have g22 := h.get 22 (by decide); have g24 := h.get 24 (by decide); have g26 := h.get 26 (by decide); exact OpStep.yes (t := 22) rfl rfl (lt_ok rfl) (g22.trans rfl) (Step.to (E1 := E.set 27 (.one (.d (.bool (bitsOk q.f3 l.f0))))) (congrArg (fun b_ => E.set 27 (.one (.d (.bool b_)))) hb5) (Step.call (f := 150) (xs := [.tmp 24, .tmp 26]) (ps := [(.one (.d (.ints .u8 q.f3))), (.one (.d (.int .i64 l.f0)))]) false (g := .func 150) (t := 27) rfl rfl (by exact lt_ok rfl) rfl (by kernel_rfl) (evs_cons (show Env.ev E (.tmp 24) = _ from g24.trans rfl) (evs_cons (show Env.ev E (.tmp 26) = _ from g26.trans rfl) (rfl))) (.cons (.one (.d _)) (.cons (.one (.d _)) .nil)) (ok_spec_BitsOk q.f3 l.f0 (by assumption) (by first | omega | assumption | (simp only [List.length_append] at *; omega))) (.inr rfl) (At.freshRows h rfl) (by simp) rfl))) ?_
       refine .cons (fun E h => by have g22 := h.get 22 (by decide); have g27 := h.get 27 (by decide); exact OpStep.plain rfl (Step.pick (b := true) (p := (.one (.d (.bool false)))) (t := 28) rfl rfl (by exact lt_ok rfl) (show Env.ev E (.tmp 22) = _ from g22.trans rfl) (show Env.ev E (.tmp 27) = _ from g27.trans rfl))) ?_
       refine .cons (fun E h => by have g28 := h.get 28 (by decide); exact OpStep.plain rfl (Step.move (p := (.one (.d (.bool false)))) (t := 29) rfl rfl (by exact lt_ok rfl) (show Env.ev E (.tmp 28) = _ from g28.trans rfl))) ?_
       refine .cons (fun E h => OpStep.no (t := 29) rfl rfl (lt_ok rfl) ((h.get 29 (by decide)).trans rfl) (by decide) rfl (lt_ok rfl)) ?_
       refine .cons (fun E h => OpStep.no (t := 29) rfl rfl (lt_ok rfl) ((h.get 29 (by decide)).trans rfl) (by decide) rfl (lt_ok rfl)) ?_
       refine .cons (fun E h => OpStep.no (t := 29) rfl rfl (lt_ok rfl) ((h.get 29 (by decide)).trans rfl) (by decide) rfl (lt_ok rfl)) ?_
       refine .cons (fun E h => OpStep.no (t := 29) rfl rfl (lt_ok rfl) ((h.get 29 (by decide)).trans rfl) (by decide) rfl (lt_ok rfl)) ?_
       refine .cons (fun E h => OpStep.no (t := 29) rfl rfl (lt_ok rfl) ((h.get 29 (by decide)).trans rfl) (by decide) rfl (lt_ok rfl)) ?_
       refine .cons (fun E h => OpStep.no (t := 29) rfl rfl (lt_ok rfl) ((h.get 29 (by decide)).trans rfl) (by decide) rfl (lt_ok rfl)) ?_
       refine .cons (fun E h => OpStep.no (t := 29) rfl rfl (lt_ok rfl) ((h.get 29 (by decide)).trans rfl) (by decide) rfl (lt_ok rfl)) ?_
       refine .cons (fun E h => by have g29 := h.get 29 (by decide); have g36 := h.get 36 (by decide); exact OpStep.plain rfl (Step.pick (b := false) (p := (.one (.d (.bool false)))) (t := 37) rfl rfl (by exact lt_ok rfl) (show Env.ev E (.tmp 29) = _ from g29.trans rfl) rfl)) ?_
       refine .cons (fun E h => by have g37 := h.get 37 (by decide); exact OpStep.plain rfl (Step.move (p := (.one (.d (.bool false)))) (t := 38) rfl rfl (by exact lt_ok rfl) (show Env.ev E (.tmp 37) = _ from g37.trans rfl))) ?_
       refine .cons (fun E h => OpStep.no (t := 38) rfl rfl (lt_ok rfl) ((h.get 38 (by decide)).trans rfl) (by decide) rfl (lt_ok rfl)) ?_
       refine .cons (fun E h => OpStep.no (t := 38) rfl rfl (lt_ok rfl) ((h.get 38 (by decide)).trans rfl) (by decide) rfl (lt_ok rfl)) ?_
       refine .cons (fun E h => OpStep.no (t := 38) rfl rfl (lt_ok rfl) ((h.get 38 (by decide)).trans rfl) (by decide) rfl (lt_ok rfl)) ?_
       refine .cons (fun E h => by have g38 := h.get 38 (by decide); have g41 := h.get 41 (by decide); exact OpStep.plain rfl (Step.pick (b := false) (p := (.one (.d (.bool false)))) (t := 42) rfl rfl (by exact lt_ok rfl) (show Env.ev E (.tmp 38) = _ from g38.trans rfl) rfl)) ?_
       refine .cons (fun E h => by have g42 := h.get 42 (by decide); exact OpStep.plain rfl (Step.assign (p := (.one (.d (.bool false)))) (t := 4) rfl rfl (by exact lt_ok rfl) (show Env.ev E (.tmp 42) = _ from g42.trans rfl))) ?_
       exact .nil _ _
      refine TL.nil ?_
      refine T.ret ?_
      exact ⟨[(false, [.d (.bool false)])], (.cons rfl .nil), rfl, [], (RetC.rd' (by first | rfl | (congr 1; symm; simp only [qcOk, hashes, List.all_cons, List.all_nil, *, Bool.and_true, Bool.true_and, Bool.and_false, Bool.false_and, decide_true, decide_false, and_true, true_and, and_self, and_false, false_and, Bool.and_self, not_true, not_false, Bool.not_true, Bool.not_false, ge_iff_le, gt_iff_lt, if_true, if_false, Bool.false_eq_true, ite_true, ite_false, reduceIte]; done) | (congr 1; symm; simp_all [qcOk, hashes, List.all_cons, List.all_nil]; done) | (congr 1; symm; simp_all [qcOk, hashes, List.all_cons, List.all_nil]; omega)) .nil)⟩
    ·
     refine T.draw [⟨5, (.agg [.d (.int .i64 l.f0), .d (.int .i64 l.f1), .d (.int .i64 l.f2), .d (.int .i64 l.f3), .d (.int .i64 l.f4)]), []⟩, ⟨6, (.one (.d (.bool true))), []⟩, ⟨7, (.one (.d (.bool true))), []⟩, ⟨8, (.one (.ptr 3 0)), []⟩, ⟨9, (.one (.d (.int .i64 q.f0))), []⟩, ⟨10, (.one (.d (.bool true))), []⟩, ⟨11, (.one (.d (.bool true))), []⟩, ⟨12, (.one (.d (.bool true))), []⟩, ⟨13, (.one (.ptr 3 1)), []⟩, ⟨14, (.one (.d (.int .i64 q.f1))), []⟩, ⟨15, (.one (.d (.bool true))), []⟩, ⟨16, (.one (.d (.bool true))), []⟩, ⟨17, (.one (.d (.bool true))), []⟩, ⟨18, (.one (.ptr 3 2)), []⟩, ⟨19, (.one (.d (.ints .u8 q.f2))), []⟩, ⟨20, (.one (.d (.bool false))), []⟩, ⟨21, (.one (.d (.bool false))), []⟩, ⟨22, (.one (.d (.bool false))), []⟩, ⟨23, (.one (.und)), []⟩, ⟨24, (.one (.und)), []⟩, ⟨25, (.one (.und)), []⟩, ⟨26, (.one (.und)), []⟩, ⟨27, (.one (.und)), []⟩, ⟨28, (.one (.d (.bool false))), []⟩, ⟨29, (.one (.d (.bool false))), []⟩, ⟨30, (.one (.und)), []⟩, ⟨31, (.one (.und)), []⟩, ⟨32, (.one (.und)), []⟩, ⟨33, (.one (.und)), []⟩, ⟨34, (.one (.und)), []⟩, ⟨35, (.one (.und)), []⟩, ⟨36, (.one (.und)), []⟩, ⟨37, (.one (.d (.bool false))), []⟩, ⟨38, (.one (.d (.bool false))), []⟩, ⟨39, (.one (.und)), []⟩, ⟨40, (.one (.und)), []⟩, ⟨41, (.one (.und)), []⟩, ⟨42, (.one (.d (.bool false))), []⟩, ⟨4, (.one (.d (.bool false))), []⟩] (by kernel_rfl) (by kernel_rfl) ?_ ?_
     ·
      refine .cons (fun E h => by have g2 := h.get 2 (by decide); exact OpStep.plain rfl (Step.load_box_agg (n := 5) (qs := [.d (.int .i64 l.f0), .d (.int .i64 l.f1), .d (.int .i64 l.f2), .d (.int .i64 l.f3), .d (.int .i64 l.f4)]) (t := 5) rfl rfl (by exact lt_ok rfl) (by kernel_rfl) (show Env.ev E (.tmp 2) = _ from g2.trans rfl) (by exact h.box rfl) rfl rfl)) ?_
      refine .cons (fun E h => by have g5 := h.get 5 (by decide); exact OpStep.plain rfl (Step.to (E1 := E.set 6 (.one (.d (.bool (limOk l))))) (congrArg (fun b_ => E.set 6 (.one (.d (.bool b_)))) hb1) (Step.call (f := 94) (xs := [.tmp 5]) (ps := [(.agg [.d (.int .i64 l.f0), .d (.int .i64 l.f1), .d (.int .i64 l.f2), .d (.int .i64 l.f3), .d (.int .i64 l.f4)])]) false (g := .func 94) (t := 6) rfl rfl (by exact lt_ok rfl) rfl (by kernel_rfl) (evs_cons (show Env.ev E (.tmp 5) = _ from g5.trans rfl) (rfl)) (.cons (.agg (.cons (.d _) (.cons (.d _) (.cons (.d _) (.cons (.d _) (.cons (.d _) .nil)))))) .nil) (ok_spec_LimitsOk l) (.inr rfl) (At.freshRows h rfl) (by simp) rfl))) ?_
      refine .cons (fun E h => by have g6 := h.get 6 (by decide); exact OpStep.plain rfl (Step.move (p := (.one (.d (.bool true)))) (t := 7) rfl rfl (by exact lt_ok rfl) (show Env.ev E (.tmp 6) = _ from g6.trans rfl))) ?_
      refine .cons (fun E h => by have g3 := h.get 3 (by decide); have g7 := h.get 7 (by decide); exact OpStep.yes (t := 7) rfl rfl (lt_ok rfl) (g7.trans rfl) (Step.fieldAddr (q := 0) (off := 0) (n := 1) (one := true) (t := 8) rfl rfl (by exact lt_ok rfl) (by kernel_rfl) (Nat.succ_ne_zero _) (show Env.ev E (.tmp 3) = _ from g3.trans rfl))) ?_
      refine .cons (fun E h => by have g7 := h.get 7 (by decide); have g8 := h.get 8 (by decide); exact OpStep.yes (t := 7) rfl rfl (lt_ok rfl) (g7.trans rfl) (Step.load_box (c := .d (.int .i64 q.f0)) (t := 9) rfl rfl (by exact lt_ok rfl) (by kernel_rfl) (show Env.ev E (.tmp 8) = _ from g8.trans rfl) (by exact h.box rfl) rfl)) ?_
      refine .cons (fun E h => by have g7 := h.get 7 (by decide); have g9 := h.get 9 (by decide); exact OpStep.yes (t := 7) rfl rfl (lt_ok rfl) (g7.trans rfl) (Step.to (E1 := E.set 10 (.one (.d (.bool (decide (0 ≤ q.f0 ∧ q.f0 ≤ 1152921504606846975)))))) (congrArg (fun b_ => E.set 10 (.one (.d (.bool b_)))) hb2) (Step.call (f := 137) (xs := [.tmp 9]) (ps := [(.one (.d (.int .i64 q.f0)))]) false (g := .func 137) (t := 10) rfl rfl (by exact lt_ok rfl) rfl (by kernel_rfl) (evs_cons (show Env.ev E (.tmp 9) = _ from g9.trans rfl) (rfl)) (.cons (.one (.d _)) .nil) (ok_spec_l01Num q.f0) (.inr rfl) (At.freshRows h rfl) (by simp) rfl))) ?_
      refine .cons (fun E h => by have g7 := h.get 7 (by decide); have g10 := h.get 10 (by decide); exact OpStep.plain rfl (Step.pick (b := true) (p := (.one (.d (.bool true)))) (t := 11) rfl rfl (by exact lt_ok rfl) (show Env.ev E (.tmp 7) = _ from g7.trans rfl) (show Env.ev E (.tmp 10) = _ from g10.trans rfl))) ?_
      refine .cons (fun E h => by have g11 := h.get 11 (by decide); exact OpStep.plain rfl (Step.move (p := (.one (.d (.bool true)))) (t := 12) rfl rfl (by exact lt_ok rfl) (show Env.ev E (.tmp 11) = _ from g11.trans rfl))) ?_
      refine .cons (fun E h => by have g3 := h.get 3 (by decide); have g12 := h.get 12 (by decide); exact OpStep.yes (t := 12) rfl rfl (lt_ok rfl) (g12.trans rfl) (Step.fieldAddr (q := 0) (off := 1) (n := 1) (one := true) (t := 13) rfl rfl (by exact lt_ok rfl) (by kernel_rfl) (Nat.succ_ne_zero _) (show Env.ev E (.tmp 3) = _ from g3.trans rfl))) ?_
      refine .cons (fun E h => by have g12 := h.get 12 (by decide); have g13 := h.get 13 (by decide); exact OpStep.yes (t := 12) rfl rfl (lt_ok rfl) (g12.trans rfl) (Step.load_box (c := .d (.int .i64 q.f1)) (t := 14) rfl rfl (by exact lt_ok rfl) (by kernel_rfl) (show Env.ev E (.tmp 13) = _ from g13.trans rfl) (by exact h.box rfl) rfl)) ?_
      refine .cons (fun E h => by have g12 := h.get 12 (by decide); have g14 := h.get 14 (by decide); exact OpStep.yes (t := 12) rfl rfl (lt_ok rfl) (g12.trans rfl) (Step.to (E1 := E.set 15 (.one (.d (.bool (decide (0 ≤ q.f1 ∧ q.f1 ≤ 1152921504606846975)))))) (congrArg (fun b_ => E.set 15 (.one (.d (.bool b_)))) hb3) (Step.call (f := 137) (xs := [.tmp 14]) (ps := [(.one (.d (.int .i64 q.f1)))]) false (g := .func 137) (t := 15) rfl rfl (by exact lt_ok rfl) rfl (by kernel_rfl) (evs_cons (show Env.ev E (.tmp 14) = _ from g14.trans rfl) (rfl)) (.cons (.one (.d _)) .nil) (ok_spec_l01Num q.f1) (.inr rfl) (At.freshRows h rfl) (by simp) rfl))) ?_
      refine .cons (fun E h => by have g12 := h.get 12 (by decide); have g15 := h.get 15 (by decide); exact OpStep.plain rfl (Step.pick (b := true) (p := (.one (.d (.bool true)))) (t := 16) rfl rfl (by exact lt_ok rfl) (show Env.ev E (.tmp 12) = _ from g12.trans rfl) (show Env.ev E (.tmp 15) = _ from g15.trans rfl))) ?_
      refine .cons (fun E h => by have g16 := h.get 16 (by decide); exact OpStep.plain rfl (Step.move (p := (.one (.d (.bool true)))) (t := 17) rfl rfl (by exact lt_ok rfl) (show Env.ev E (.tmp 16) = _ from g16.trans rfl))) ?_
      refine .cons (fun E h => by have g3 := h.get 3 (by decide); have g17 := h.get 17 (by decide); exact OpStep.yes (t := 17) rfl rfl (lt_ok rfl) (g17.trans rfl) (Step.fieldAddr (q := 0) (off := 2) (n := 1) (one := true) (t := 18) rfl rfl (by exact lt_ok rfl) (by kernel_rfl) (Nat.succ_ne_zero _) (show Env.ev E (.tmp 3) = _ from g3.trans rfl))) ?_
      refine .cons (fun E h => by have g17 := h.get 17 (by decide); have g18 := h.get 18 (by decide); exact OpStep.yes (t := 17) rfl rfl (lt_ok rfl) (g17.trans rfl) (Step.load_box (c := .d (.ints .u8 q.f2)) (t := 19) rfl rfl (by exact lt_ok rfl) (by kernel_rfl) (show Env.ev E (.tmp 18) = _ from g18.trans rfl) (by exact h.box rfl) rfl)) ?_
      refine .cons (fun E h => by have g17 := h.get 17 (by decide); have g19 := h.get 19 (by decide); exact OpStep.yes (t := 17) rfl rfl (lt_ok rfl) (g17.trans rfl) (Step.to (E1 := E.set 20 (.one (.d (.bool (decide ((q.f2.length : Int) = 32)))))) (congrArg (fun b_ => E.set 20 (.one (.d (.bool b_)))) hb4) (Step.call (f := 139) (xs := [.tmp 19]) (ps := [(.one (.d (.ints .u8 q.f2)))]) false (g := .func 139) (t := 20) rfl rfl (by exact lt_ok rfl) rfl (by kernel_rfl) (evs_cons (show Env.ev E (.tmp 19) = _ from g19.trans rfl) (rfl)) (.cons (.one (.d _)) .nil) (ok_spec_l07Hash q.f2) (.inr rfl) (At.freshRows h rfl) (by simp) rfl))) ?_
      refine .cons (fun E h => by have g17 := h.get 17 (by decide); have g20 := h.get 20 (by decide); exact OpStep.plain rfl (Step.pick (b := true) (p := (.one (.d (.bool false)))) (t := 21) rfl rfl (by exact lt_ok rfl) (show Env.ev E (.tmp 17) = _ from g17.trans rfl) (show Env.ev E (.tmp 20) = _ from g20.trans rfl))) ?_
      refine .cons (fun E h => by have g21 := h.get 21 (by decide); exact OpStep.plain rfl (Step.move (p := (.one (.d (.bool false)))) (t := 22) rfl rfl (by exact lt_ok rfl) (show Env.ev E (.tmp 21) = _ from g21.trans rfl))) ?_
      refine .cons (fun E h => OpStep.no (t := 22) rfl rfl (lt_ok rfl) ((h.get 22 (by decide)).trans rfl) (by decide) rfl (lt_ok rfl)) ?_
      refine .cons (fun E h => OpStep.no (t := 22) rfl rfl (lt_ok rfl) ((h.get 22 (by decide)).trans rfl) (by decide) rfl (lt_ok rfl)) ?_
      refine .cons (fun E h => OpStep.no (t := 22) rfl rfl (lt_ok rfl) ((h.get 22 (by decide)).trans rfl) (by decide) rfl (lt_ok rfl)) ?_
      refine .cons (fun E h => OpStep.no (t := 22) rfl rfl (lt_ok rfl) ((h.get 22 (by decide)).trans rfl) (by decide) rfl (lt_ok rfl)) ?_
      refine .cons (fun E h => OpStep.no (t := 22) rfl rfl (lt_ok rfl) ((h.get 22 (by decide)).trans rfl) (by decide) rfl (lt_ok rfl)) ?_
      refine .cons (fun E h => by have g22 := h.get 22 (by decide); have g27 := h.get 27 (by decide); exact OpStep.plain rfl (Step.pick (b := false) (p := (.one (.d (.bool false)))) (t := 28) rfl rfl (by exact lt_ok rfl) (show Env.ev E (.tmp 22) = _ from g22.trans rfl) rfl)) ?_
      refine .cons (fun E h => by have g28 := h.get 28 (by decide); exact OpStep.plain rfl (Step.move (p := (.one (.d (.bool false)))) (t := 29) rfl rfl (by exact lt_ok rfl) (show Env.ev E (.tmp 28) = _ from g28.trans rfl))) ?_
      refine .cons (fun E h => OpStep.no (t := 29) rfl rfl (lt_ok rfl) ((h.get 29 (by decide)).trans rfl) (by decide) rfl (lt_ok rfl)) ?_
      refine .cons (fun E h => OpStep.no (t := 29) rfl rfl (lt_ok rfl) ((h.get 29 (by decide)).trans rfl) (by decide) rfl (lt_ok rfl)) ?_
      refine .cons (fun E h => OpStep.no (t := 29) rfl rfl (lt_ok rfl) ((h.get 29 (by decide)).trans rfl) (by decide) rfl (lt_ok rfl)) ?_
      refine .cons (fun E h => OpStep.no (t := 29) rfl rfl (lt_ok rfl) ((h.get 29 (by decide)).trans rfl) (by decide) rfl (lt_ok rfl)) ?_
      refine .cons (fun E h => OpStep.no (t := 29) rfl rfl (lt_ok rfl) ((h.get 29 (by decide)).trans rfl) (by decide) rfl (lt_ok rfl)) ?_
      refine .cons (fun E h => OpStep.no (t := 29) rfl rfl (lt_ok rfl) ((h.get 29 (by decide)).trans rfl) (by decide) rfl (lt_ok rfl)) ?_
      refine .cons (fun E h => OpStep.no (t := 29) rfl rfl (lt_ok rfl) ((h.get 29 (by decide)).trans rfl) (by decide) rfl (lt_ok rfl)) ?_
      refine .cons (fun E h => by have g29 := h.get 29 (by decide); have g36 := h.get 36 (by decide); exact OpStep.plain rfl (Step.pick (b := false) (p := (.one (.d (.bool false)))) (t := 37) rfl rfl (by exact lt_ok rfl) (show Env.ev E (.tmp 29) = _ from g29.trans rfl) rfl)) ?_
      refine .cons (fun E h => by have g37 := h.get 37 (by decide); exact OpStep.plain rfl (Step.move (p := (.one (.d (.bool false)))) (t := 38) rfl rfl (by exact lt_ok rfl) (show Env.ev E (.tmp 37) = _ from g37.trans rfl))) ?_
      refine .cons (fun E h => OpStep.no (t := 38) rfl rfl (lt_ok rfl) ((h.get 38 (by decide)).trans rfl) (by decide) rfl (lt_ok rfl)) ?_
      refine .cons (fun E h => OpStep.no (t := 38) rfl rfl (lt_ok rfl) ((h.get 38 (by decide)).trans rfl) (by decide) rfl (lt_ok rfl)) ?_
      refine .cons (fun E h => OpStep.no (t := 38) rfl rfl (lt_ok rfl) ((h.get 38 (by decide)).trans rfl) (by decide) rfl (lt_ok rfl)) ?_
      refine .cons (fun E h => by have g38 := h.get 38 (by decide); have g41 := h.get 41 (by decide); exact OpStep.plain rfl (Step.pick (b := false) (p := (.one (.d (.bool false)))) (t := 42) rfl rfl (by exact lt_ok rfl) (show Env.ev E (.tmp 38) = _ from g38.trans rfl) rfl)) ?_
      refine .cons (fun E h => by have g42 := h.get 42 (by decide); exact OpStep.plain rfl (Step.assign (p := (.one (.d (.bool false)))) (t := 4) rfl rfl (by exact lt_ok rfl) (show Env.ev E (.tmp 42) = _ from g42.trans rfl))) ?_
      exact .nil _ _
     refine TL.nil ?_
     refine T.ret ?_
     exact ⟨[(false, [.d (.bool false)])], (.cons rfl .nil), rfl, [], (RetC.rd' (by first | rfl | (congr 1; symm; simp only [qcOk, hashes, List.all_cons, List.all_nil, *, Bool.and_true, Bool.true_and, Bool.and_false, Bool.false_and, decide_true, decide_false, and_true, true_and, and_self, and_false, false_and, Bool.and_self, not_true, not_false, Bool.not_true, Bool.not_false, ge_iff_le, gt_iff_lt, if_true, if_false, Bool.false_eq_true, ite_true, ite_false, reduceIte]; done) | (congr 1; symm; simp_all [qcOk, hashes, List.all_cons, List.all_nil]; done) | (congr 1; symm; simp_all [qcOk, hashes, List.all_cons, List.all_nil]; omega)) .nil)⟩
   ·
    refine T.draw [⟨5, (.agg [.d (.int .i64 l.f0), .d (.int .i64 l.f1), .d (.int .i64 l.f2), .d (.int .i64 l.f3), .d (.int .i64 l.f4)]), []⟩, ⟨6, (.one (.d (.bool true))), []⟩, ⟨7, (.one (.d (.bool true))), []⟩, ⟨8, (.one (.ptr 3 0)), []⟩, ⟨9, (.one (.d (.int .i64 q.f0))), []⟩, ⟨10, (.one (.d (.bool true))), []⟩, ⟨11, (.one (.d (.bool true))), []⟩, ⟨12, (.one (.d (.bool true))), []⟩, ⟨13, (.one (.ptr 3 1)), []⟩, ⟨14, (.one (.d (.int .i64 q.f1))), []⟩, ⟨15, (.one (.d (.bool false))), []⟩, ⟨16, (.one (.d (.bool false))), []⟩, ⟨17, (.one (.d (.bool false))), []⟩, ⟨18, (.one (.und)), []⟩, ⟨19, (.one (.und)), []⟩, ⟨20, (.one (.und)), []⟩, ⟨21, (.one (.d (.bool false))), []⟩, ⟨22, (.one (.d (.bool false))), []⟩, ⟨23, (.one (.und)), []⟩, ⟨24, (.one (.und)), []⟩, ⟨25, (.one (.und)), []⟩, ⟨26, (.one (.und)), []⟩, ⟨27, (.one (.und)), []⟩, ⟨28, (.one (.d (.bool false))), []⟩, ⟨29, (.one (.d (.bool false))), []⟩, ⟨30, (.one (.und)), []⟩, ⟨31, (.one (.und)), []⟩, ⟨32, (.one (.und)), []⟩, ⟨33, (.one (.und)), []⟩, ⟨34, (.one (.und)), []⟩, ⟨35, (.one (.und)), []⟩, ⟨36, (.one (.und)), []⟩, ⟨37, (.one (.d (.bool false))), []⟩, ⟨38, (.one (.d (.bool false))), []⟩, ⟨39, (.one (.und)), []⟩, ⟨40, (.one (.und)), []⟩, ⟨41, (.one (.und)), []⟩, ⟨42, (.one (.d (.bool false))), []⟩, ⟨4, (.one (.d (.bool false))), []⟩] (by kernel_rfl) (by kernel_rfl) ?_ ?_
    ·
     refine .cons (fun E h => by have g2 := h.get 2 (by decide); exact OpStep.plain rfl (Step.load_box_agg (n := 5) (qs := [.d (.int .i64 l.f0), .d (.int .i64 l.f1), .d (.int .i64 l.f2), .d (.int .i64 l.f3), .d (.int .i64 l.f4)]) (t := 5) rfl rfl (by exact lt_ok rfl) (by kernel_rfl) (show Env.ev E (.tmp 2) = _ from g2.trans rfl) (by exact h.box rfl) rfl rfl)) ?_
     refine .cons (fun E h => by have g5 := h.get 5 (by decide); exact OpStep.plain rfl (Step.to (E1 := E.set 6 (.one (.d (.bool (limOk l))))) (congrArg (fun b_ => E.set 6 (.one (.d (.bool b_)))) hb1) (Step.call (f := 94) (xs := [.tmp 5]) (ps := [(.agg [.d (.int .i64 l.f0), .d (.int .i64 l.f1), .d (.int .i64 l.f2), .d (.int .i64 l.f3), .d (.int .i64 l.f4)])]) false (g := .func 94) (t := 6) rfl rfl (by exact lt_ok rfl) rfl (by kernel_rfl) (evs_cons (show Env.ev E (.tmp 5) = _ from g5.trans rfl) (rfl)) (.cons (.agg (.cons (.d _) (.cons (.d _) (.cons (.d _) (.cons (.d _) (.cons (.d _) .nil)))))) .nil) (ok_spec_LimitsOk l) (.inr rfl) (At.freshRows h rfl) (by simp) rfl))) ?_
     refine .cons (fun E h => by have g6 := h.get 6 (by decide); exact OpStep.plain rfl (Step.move (p := (.one (.d (.bool true)))) (t := 7) rfl rfl (by exact lt_ok rfl) (show Env.ev E (.tmp 6) = _ from g6.trans rfl))) ?_
     refine .cons (fun E h => by have g3 := h.get 3 (by decide); have g7 := h.get 7 (by decide); exact OpStep.yes (t := 7) rfl rfl (lt_ok rfl) (g7.trans rfl) (Step.fieldAddr (q := 0) (off := 0) (n := 1) (one := true) (t := 8) rfl rfl (by exact lt_ok rfl) (by kernel_rfl) (Nat.succ_ne_zero _) (show Env.ev E (.tmp 3) = _ from g3.trans rfl))) ?_
     refine .cons (fun E h => by have g7 := h.get 7 (by decide); have g8 := h.get 8 (by decide); exact OpStep.yes (t := 7) rfl rfl (lt_ok rfl) (g7.trans rfl) (Step.load_box (c := .d (.int .i64 q.f0)) (t := 9) rfl rfl (by exact lt_ok rfl) (by kernel_rfl) (show Env.ev E (.tmp 8) = _ from g8.trans rfl) (by exact h.box rfl) rfl)) ?_
     refine .cons (fun E h => by have g7 := h.get 7 (by decide); have g9 := h.get 9 (by decide); exact OpStep.yes (t := 7) rfl rfl (lt_ok rfl) (g7.trans rfl) (Step.to (E1 := E.set 10 (.one (.d (.bool (decide (0 ≤ q.f0 ∧ q.f0 ≤ 1152921504606846975)))))) (congrArg (fun b_ => E.set 10 (.one (.d (.bool b_)))) hb2) (Step.call (f := 137) (xs := [.tmp 9]) (ps := [(.one (.d (.int .i64 q.f0)))]) false (g := .func 137) (t := 10) rfl rfl (by exact lt_ok rfl) rfl (by kernel_rfl) (evs_cons (show Env.ev E (.tmp 9) = _ from g9.trans rfl) (rfl)) (.cons (.one (.d _)) .nil) (ok_spec_l01Num q.f0) (.inr rfl) (At.freshRows h rfl) (by simp) rfl))) ?_
     refine .cons (fun E h => by have g7 := h.get 7 (by decide); have g10 := h.get 10 (by decide); exact OpStep.plain rfl (Step.pick (b := true) (p := (.one (.d (.bool true)))) (t := 11) rfl rfl (by exact lt_ok rfl) (show Env.ev E (.tmp 7) = _ from g7.trans rfl) (show Env.ev E (.tmp 10) = _ from g10.trans rfl))) ?_
     refine .cons (fun E h => by have g11 := h.get 11 (by decide); exact OpStep.plain rfl (Step.move (p := (.one (.d (.bool true)))) (t := 12) rfl rfl (by exact lt_ok rfl) (show Env.ev E (.tmp 11) = _ from g11.trans rfl))) ?_
     refine .cons (fun E h => by have g3 := h.get 3 (by decide); have g12 := h.get 12 (by decide); exact OpStep.yes (t := 12) rfl rfl (lt_ok rfl) (g12.trans rfl) (Step.fieldAddr (q := 0) (off := 1) (n := 1) (one := true) (t := 13) rfl rfl (by exact lt_ok rfl) (by kernel_rfl) (Nat.succ_ne_zero _) (show Env.ev E (.tmp 3) = _ from g3.trans rfl))) ?_
     refine .cons (fun E h => by have g12 := h.get 12 (by decide); have g13 := h.get 13 (by decide); exact OpStep.yes (t := 12) rfl rfl (lt_ok rfl) (g12.trans rfl) (Step.load_box (c := .d (.int .i64 q.f1)) (t := 14) rfl rfl (by exact lt_ok rfl) (by kernel_rfl) (show Env.ev E (.tmp 13) = _ from g13.trans rfl) (by exact h.box rfl) rfl)) ?_
     refine .cons (fun E h => by have g12 := h.get 12 (by decide); have g14 := h.get 14 (by decide); exact OpStep.yes (t := 12) rfl rfl (lt_ok rfl) (g12.trans rfl) (Step.to (E1 := E.set 15 (.one (.d (.bool (decide (0 ≤ q.f1 ∧ q.f1 ≤ 1152921504606846975)))))) (congrArg (fun b_ => E.set 15 (.one (.d (.bool b_)))) hb3) (Step.call (f := 137) (xs := [.tmp 14]) (ps := [(.one (.d (.int .i64 q.f1)))]) false (g := .func 137) (t := 15) rfl rfl (by exact lt_ok rfl) rfl (by kernel_rfl) (evs_cons (show Env.ev E (.tmp 14) = _ from g14.trans rfl) (rfl)) (.cons (.one (.d _)) .nil) (ok_spec_l01Num q.f1) (.inr rfl) (At.freshRows h rfl) (by simp) rfl))) ?_
     refine .cons (fun E h => by have g12 := h.get 12 (by decide); have g15 := h.get 15 (by decide); exact OpStep.plain rfl (Step.pick (b := true) (p := (.one (.d (.bool false)))) (t := 16) rfl rfl (by exact lt_ok rfl) (show Env.ev E (.tmp 12) = _ from g12.trans rfl) (show Env.ev E (.tmp 15) = _ from g15.trans rfl))) ?_
     refine .cons (fun E h => by have g16 := h.get 16 (by decide); exact OpStep.plain rfl (Step.move (p := (.one (.d (.bool false)))) (t := 17) rfl rfl (by exact lt_ok rfl) (show Env.ev E (.tmp 16) = _ from g16.trans rfl))) ?_
     refine .cons (fun E h => OpStep.no (t := 17) rfl rfl (lt_ok rfl) ((h.get 17 (by decide)).trans rfl) (by decide) rfl (lt_ok rfl)) ?_
     refine .cons (fun E h => OpStep.no (t := 17) rfl rfl (lt_ok rfl) ((h.get 17 (by decide)).trans rfl) (by decide) rfl (lt_ok rfl)) ?_
     refine .cons (fun E h => OpStep.no (t := 17) rfl rfl (lt_ok rfl) ((h.get 17 (by decide)).trans rfl) (by decide) rfl (lt_ok rfl)) ?_
     refine .cons (fun E h => by have g17 := h.get 17 (by decide); have g20 := h.get 20 (by decide); exact OpStep.plain rfl (Step.pick (b := false) (p := (.one (.d (.bool false)))) (t := 21) rfl rfl (by exact lt_ok rfl) (show Env.ev E (.tmp 17) = _ from g17.trans rfl) rfl)) ?_
     refine .cons (fun E h => by have g21 := h.get 21 (by decide); exact OpStep.plain rfl (Step.move (p := (.one (.d (.bool false)))) (t := 22) rfl rfl (by exact lt_ok rfl) (show Env.ev E (.tmp 21) = _ from g21.trans rfl))) ?_
     refine .cons (fun E h => OpStep.no (t := 22) rfl rfl (lt_ok rfl) ((h.get 22 (by decide)).trans rfl) (by decide) rfl (lt_ok rfl)) ?_
     refine .cons (fun E h => OpStep.no (t := 22) rfl rfl (lt_ok rfl) ((h.get 22 (by decide)).trans rfl) (by decide) rfl (lt_ok rfl)) ?_
     refine .cons (fun E h => OpStep.no (t := 22) rfl rfl (lt_ok rfl) ((h.get 22 (by decide)).trans rfl) (by decide) rfl (lt_ok rfl)) ?_
     refine .cons (fun E h => OpStep.no (t := 22) rfl rfl (lt_ok rfl) ((h.get 22 (by decide)).trans rfl) (by decide) rfl (lt_ok rfl)) ?_
     refine .cons (fun E h => OpStep.no (t := 22) rfl rfl (lt_ok rfl) ((h.get 22 (by decide)).trans rfl) (by decide) rfl (lt_ok rfl)) ?_
     refine .cons (fun E h => by have g22 := h.get 22 (by decide); have g27 := h.get 27 (by decide); exact OpStep.plain rfl (Step.pick (b := false) (p := (.one (.d (.bool false)))) (t := 28) rfl rfl (by exact lt_ok rfl) (show Env.ev E (.tmp 22) = _ from g22.trans rfl) rfl)) ?_
     refine .cons (fun E h => by have g28 := h.get 28 (by decide); exact OpStep.plain rfl (Step.move (p := (.one (.d (.bool false)))) (t := 29) rfl rfl (by exact lt_ok rfl) (show Env.ev E (.tmp 28) = _ from g28.trans rfl))) ?_
     refine .cons (fun E h => OpStep.no (t := 29) rfl rfl (lt_ok rfl) ((h.get 29 (by decide)).trans rfl) (by decide) rfl (lt_ok rfl)) ?_
     refine .cons (fun E h => OpStep.no (t := 29) rfl rfl (lt_ok rfl) ((h.get 29 (by decide)).trans rfl) (by decide) rfl (lt_ok rfl)) ?_
     refine .cons (fun E h => OpStep.no (t := 29) rfl rfl (lt_ok rfl) ((h.get 29 (by decide)).trans rfl) (by decide) rfl (lt_ok rfl)) ?_
     refine .cons (fun E h => OpStep.no (t := 29) rfl rfl (lt_ok rfl) ((h.get 29 (by decide)).trans rfl) (by decide) rfl (lt_ok rfl)) ?_
     refine .cons (fun E h => OpStep.no (t := 29) rfl rfl (lt_ok rfl) ((h.get 29 (by decide)).trans rfl) (by decide) rfl (lt_ok rfl)) ?_
     refine .cons (fun E h => OpStep.no (t := 29) rfl rfl (lt_ok rfl) ((h.get 29 (by decide)).trans rfl) (by decide) rfl (lt_ok rfl)) ?_
     refine .cons (fun E h => OpStep.no (t := 29) rfl rfl (lt_ok rfl) ((h.get 29 (by decide)).trans rfl) (by decide) rfl (lt_ok rfl)) ?_
     refine .cons (fun E h => by have g29 := h.get 29 (by decide); have g36 := h.get 36 (by decide); exact OpStep.plain rfl (Step.pick (b := false) (p := (.one (.d (.bool false)))) (t := 37) rfl rfl (by exact lt_ok rfl) (show Env.ev E (.tmp 29) = _ from g29.trans rfl) rfl)) ?_
     refine .cons (fun E h => by have g37 := h.get 37 (by decide); exact OpStep.plain rfl (Step.move (p := (.one (.d (.bool false)))) (t := 38) rfl rfl (by exact lt_ok rfl) (show Env.ev E (.tmp 37) = _ from g37.trans rfl))) ?_
     refine .cons (fun E h => OpStep.no (t := 38) rfl rfl (lt_ok rfl) ((h.get 38 (by decide)).trans rfl) (by decide) rfl (lt_ok rfl)) ?_
     refine .cons (fun E h => OpStep.no (t := 38) rfl rfl (lt_ok rfl) ((h.get 38 (by decide)).trans rfl) (by decide) rfl (lt_ok rfl)) ?_
     refine .cons (fun E h => OpStep.no (t := 38) rfl rfl (lt_ok rfl) ((h.get 38 (by decide)).trans rfl) (by decide) rfl (lt_ok rfl)) ?_
     refine .cons (fun E h => by have g38 := h.get 38 (by decide); have g41 := h.get 41 (by decide); exact OpStep.plain rfl (Step.pick (b := false) (p := (.one (.d (.bool false)))) (t := 42) rfl rfl (by exact lt_ok rfl) (show Env.ev E (.tmp 38) = _ from g38.trans rfl) rfl)) ?_
     refine .cons (fun E h => by have g42 := h.get 42 (by decide); exact OpStep.plain rfl (Step.assign (p := (.one (.d (.bool false)))) (t := 4) rfl rfl (by exact lt_ok rfl) (show Env.ev E (.tmp 42) = _ from g42.trans rfl))) ?_
     exact .nil _ _
    refine TL.nil ?_
    refine T.ret ?_
    exact ⟨[(false, [.d (.bool false)])], (.cons rfl .nil), rfl, [], (RetC.rd' (by first | rfl | (congr 1; symm; simp only [qcOk, hashes, List.all_cons, List.all_nil, *, Bool.and_true, Bool.true_and, Bool.and_false, Bool.false_and, decide_true, decide_false, and_true, true_and, and_self, and_false, false_and, Bool.and_self, not_true, not_false, Bool.not_true, Bool.not_false, ge_iff_le, gt_iff_lt, if_true, if_false, Bool.false_eq_true, ite_true, ite_false, reduceIte]; done) | (congr 1; symm; simp_all [qcOk, hashes, List.all_cons, List.all_nil]; done) | (congr 1; symm; simp_all [qcOk, hashes, List.all_cons, List.all_nil]; omega)) .nil)⟩
  ·
   refine T.draw [⟨5, (.agg [.d (.int .i64 l.f0), .d (.int .i64 l.f1), .d (.int .i64 l.f2), .d (.int .i64 l.f3), .d (.int .i64 l.f4)]), []⟩, ⟨6, (.one (.d (.bool true))), []⟩, ⟨7, (.one (.d (.bool true))), []⟩, ⟨8, (.one (.ptr 3 0)), []⟩, ⟨9, (.one (.d (.int .i64 q.f0))), []⟩, ⟨10, (.one (.d (.bool false))), []⟩, ⟨11, (.one (.d (.bool false))), []⟩, ⟨12, (.one (.d (.bool false))), []⟩, ⟨13, (.one (.und)), []⟩, ⟨14, (.one (.und)), []⟩, ⟨15, (.one (.und)), []⟩, ⟨16, (.one (.d (.bool false))), []⟩, ⟨17, (.one (.d (.bool false))), []⟩, ⟨18, (.one (.und)), []⟩, ⟨19, (.one (.und)), []⟩, ⟨20, (.one (.und)), []⟩, ⟨21, (.one (.d (.bool false))), []⟩, ⟨22, (.one (.d (.bool false))), []⟩, ⟨23, (.one (.und)), []⟩, ⟨24, (.one (.und)), []⟩, ⟨25, (.one (.und)), []⟩, ⟨26, (.one (.und)), []⟩, ⟨27, (.one (.und)), []⟩, ⟨28, (.one (.d (.bool false))), []⟩, ⟨29, (.one (.d (.bool false))), []⟩, ⟨30, (.one (.und)), []⟩, ⟨31, (.one (.und)), []⟩, ⟨32, (.one (.und)), []⟩, ⟨33, (.one (.und)), []⟩, ⟨34, (.one (.und)), []⟩, ⟨35, (.one (.und)), []⟩, ⟨36, (.one (.und)), []⟩, ⟨37, (.one (.d (.bool false))), []⟩, ⟨38, (.one (.d (.bool false))), []⟩, ⟨39, (.one (.und)), []⟩, ⟨40, (.one (.und)), []⟩, ⟨41, (.one (.und)), []⟩, ⟨42, (.one (.d (.bool false))), []⟩, ⟨4, (.one (.d (.bool false))), []⟩] (by kernel_rfl) (by kernel_rfl) ?_ ?_
   ·
    refine .cons (fun E h => by have g2 := h.get 2 (by decide); exact OpStep.plain rfl (Step.load_box_agg (n := 5) (qs := [.d (.int .i64 l.f0), .d (.int .i64 l.f1), .d (.int .i64 l.f2), .d (.int .i64 l.f3), .d (.int .i64 l.f4)]) (t := 5) rfl rfl (by exact lt_ok rfl) (by kernel_rfl) (show Env.ev E (.tmp 2) = _ from g2.trans rfl) (by exact h.box rfl) rfl rfl)) ?_
    refine .cons (fun E h => by have g5 := h.get 5 (by decide); exact OpStep.plain rfl (Step.to (E1 := E.set 6 (.one (.d (.bool (limOk l))))) (congrArg (fun b_ => E.set 6 (.one (.d (.bool b_)))) hb1) (Step.call (f := 94) (xs := [.tmp 5]) (ps := [(.agg [.d (.int .i64 l.f0), .d (.int .i64 l.f1), .d (.int .i64 l.f2), .d (.int .i64 l.f3), .d (.int .i64 l.f4)])]) false (g := .func 94) (t := 6) rfl rfl (by exact lt_ok rfl) rfl (by kernel_rfl) (evs_cons (show Env.ev E (.tmp 5) = _ from g5.trans rfl) (rfl)) (.cons (.agg (.cons (.d _) (.cons (.d _) (.cons (.d _) (.cons (.d _) (.cons (.d _) .nil)))))) .nil) (ok_spec_LimitsOk l) (.inr rfl) (At.freshRows h rfl) (by simp) rfl))) ?_
    refine .cons (fun E h => by have g6 := h.get 6 (by decide); exact OpStep.plain rfl (Step.move (p := (.one (.d (.bool true)))) (t := 7) rfl rfl (by exact lt_ok rfl) (show Env.ev E (.tmp 6) = _ from g6.trans rfl))) ?_
    refine .cons (fun E h => by have g3 := h.get 3 (by decide); have g7 := h.get 7 (by decide); exact OpStep.yes (t := 7) rfl rfl (lt_ok rfl) (g7.trans rfl) (Step.fieldAddr (q := 0) (off := 0) (n := 1) (one := true) (t := 8) rfl rfl (by exact lt_ok rfl) (by kernel_rfl) (Nat.succ_ne_zero _) (show Env.ev E (.tmp 3) = _ from g3.trans rfl))) ?_
    refine .cons (fun E h => by have g7 := h.get 7 (by decide); have g8 := h.get 8 (by decide); exact OpStep.yes (t := 7) rfl rfl (lt_ok rfl) (g7.trans rfl) (Step.load_box (c := .d (.int .i64 q.f0)) (t := 9) rfl rfl (by exact lt_ok rfl) (by kernel_rfl) (show Env.ev E (.tmp 8) = _ from g8.trans rfl) (by exact h.box rfl) rfl)) ?_
    refine .cons (fun E h => by have g7 := h.get 7 (by decide); have g9 := h.get 9 (by decide); exact OpStep.yes (t := 7) rfl rfl (lt_ok rfl) (g7.trans rfl) (Step.to (E1 := E.set 10 (.one (.d (.bool (decide (0 ≤ q.f0 ∧ q.f0 ≤ 1152921504606846975)))))) (congrArg (fun b_ => E.set 10 (.one (.d (.bool b_)))) hb2) (Step.call (f := 137) (xs := [.tmp 9]) (ps := [(.one (.d (.int .i64 q.f0)))]) false (g := .func 137) (t := 10) rfl rfl (by exact lt_ok rfl) rfl (by kernel_rfl) (evs_cons (show Env.ev E (.tmp 9) = _ from g9.trans rfl) (rfl)) (.cons (.one (.d _)) .nil) (ok_spec_l01Num q.f0) (.inr rfl) (At.freshRows h rfl) (by simp) rfl))) ?_
    refine .cons (fun E h => by have g7 := h.get 7 (by decide); have g10 := h.get 10 (by decide); exact OpStep.plain rfl (Step.pick (b := true) (p := (.one (.d (.bool false)))) (t := 11) rfl rfl (by exact lt_ok rfl) (show Env.ev E (.tmp 7) = _ from g7.trans rfl) (show Env.ev E (.tmp 10) = _ from g10.trans rfl))) ?_
    refine .cons (fun E h => by have g11 := h.get 11 (by decide); exact OpStep.plain rfl (Step.move (p := (.one (.d (.bool false)))) (t := 12) rfl rfl (by exact lt_ok rfl) (show Env.ev E (.tmp 11) = _ from g11.trans rfl))) ?_
    refine .cons (fun E h => OpStep.no (t := 12) rfl rfl (lt_ok rfl) ((h.get 12 (by decide)).trans rfl) (by decide) rfl (lt_ok rfl)) ?_
    refine .cons (fun E h => OpStep.no (t := 12) rfl rfl (lt_ok rfl) ((h.get 12 (by decide)).trans rfl) (by decide) rfl (lt_ok rfl)) ?_
    refine .cons (fun E h => OpStep.no (t := 12) rfl rfl (lt_ok rfl) ((h.get 12 (by decide)).trans rfl) (by decide) rfl (lt_ok rfl)) ?_
    refine .cons (fun E h => by have g12 := h.get 12 (by decide); have g15 := h.get 15 (by decide); exact OpStep.plain rfl (Step.pick (b := false) (p := (.one (.d (.bool false)))) (t := 16) rfl rfl (by exact lt_ok rfl) (show Env.ev E (.tmp 12) = _ from g12.trans rfl) rfl)) ?_
    refine .cons (fun E h => by have g16 := h.get 16 (by decide); exact OpStep.plain rfl (Step.move (p := (.one (.d (.bool false)))) (t := 17) rfl rfl (by exact lt_ok rfl) (show Env.ev E (.tmp 16) = _ from g16.trans rfl))) ?_
    refine .cons (fun E h => OpStep.no (t := 17) rfl rfl (lt_ok rfl) ((h.get 17 (by decide)).trans rfl) (by decide) rfl (lt_ok rfl)) ?_
    refine .cons (fun E h => OpStep.no (t := 17) rfl rfl (lt_ok rfl) ((h.get 17 (by decide)).trans rfl) (by decide) rfl (lt_ok rfl)) ?_
    refine .cons (fun E h => OpStep.no (t := 17) rfl rfl (lt_ok rfl) ((h.get 17 (by decide)).trans rfl) (by decide) rfl (lt_ok rfl)) ?_
    refine .cons (fun E h => by have g17 := h.get 17 (by decide); have g20 := h.get 20 (by decide); exact OpStep.plain rfl (Step.pick (b := false) (p := (.one (.d (.bool false)))) (t := 21) rfl rfl (by exact lt_ok rfl) (show Env.ev E (.tmp 17) = _ from g17.trans rfl) rfl)) ?_
    refine .cons (fun E h => by have g21 := h.get 21 (by decide); exact OpStep.plain rfl (Step.move (p := (.one (.d (.bool false)))) (t := 22) rfl rfl (by exact lt_ok rfl) (show Env.ev E (.tmp 21) = _ from g21.trans rfl))) ?_
    refine .cons (fun E h => OpStep.no (t := 22) rfl rfl (lt_ok rfl) ((h.get 22 (by decide)).trans rfl) (by decide) rfl (lt_ok rfl)) ?_
    refine .cons (fun E h => OpStep.no (t := 22) rfl rfl (lt_ok rfl) ((h.get 22 (by decide)).trans rfl) (by decide) rfl (lt_ok rfl)) ?_
    refine .cons (fun E h => OpStep.no (t := 22) rfl rfl (lt_ok rfl) ((h.get 22 (by decide)).trans rfl) (by decide) rfl (lt_ok rfl)) ?_
    refine .cons (fun E h => OpStep.no (t := 22) rfl rfl (lt_ok rfl) ((h.get 22 (by decide)).trans rfl) (by decide) rfl (lt_ok rfl)) ?_
    refine .cons (fun E h => OpStep.no (t := 22) rfl rfl (lt_ok rfl) ((h.get 22 (by decide)).trans rfl) (by decide) rfl (lt_ok rfl)) ?_
    refine .cons (fun E h => by have g22 := h.get 22 (by decide); have g27 := h.get 27 (by decide); exact OpStep.plain rfl (Step.pick (b := false) (p := (.one (.d (.bool false)))) (t := 28) rfl rfl (by exact lt_ok rfl) (show Env.ev E (.tmp 22) = _ from g22.trans rfl) rfl)) ?_
    refine .cons (fun E h => by have g28 := h.get 28 (by decide); exact OpStep.plain rfl (Step.move (p := (.one (.d (.bool false)))) (t := 29) rfl rfl (by exact lt_ok rfl) (show Env.ev E (.tmp 28) = _ from g28.trans rfl))) ?_
    refine .cons (fun E h => OpStep.no (t := 29) rfl rfl (lt_ok rfl) ((h.get 29 (by decide)).trans rfl) (by decide) rfl (lt_ok rfl)) ?_
    refine .cons (fun E h => OpStep.no (t := 29) rfl rfl (lt_ok rfl) ((h.get 29 (by decide)).trans rfl) (by decide) rfl (lt_ok rfl)) ?_
    refine .cons (fun E h => OpStep.no (t := 29) rfl rfl (lt_ok rfl) ((h.get 29 (by decide)).trans rfl) (by decide) rfl (lt_ok rfl)) ?_
    refine .cons (fun E h => OpStep.no (t := 29) rfl rfl (lt_ok rfl) ((h.get 29 (by decide)).trans rfl) (by decide) rfl (lt_ok rfl)) ?_
    refine .cons (fun E h => OpStep.no (t := 29) rfl rfl (lt_ok rfl) ((h.get 29 (by decide)).trans rfl) (by decide) rfl (lt_ok rfl)) ?_
    refine .cons (fun E h => OpStep.no (t := 29) rfl rfl (lt_ok rfl) ((h.get 29 (by decide)).trans rfl) (by decide) rfl (lt_ok rfl)) ?_
    refine .cons (fun E h => OpStep.no (t := 29) rfl rfl (lt_ok rfl) ((h.get 29 (by decide)).trans rfl) (by decide) rfl (lt_ok rfl)) ?_
    refine .cons (fun E h => by have g29 := h.get 29 (by decide); have g36 := h.get 36 (by decide); exact OpStep.plain rfl (Step.pick (b := false) (p := (.one (.d (.bool false)))) (t := 37) rfl rfl (by exact lt_ok rfl) (show Env.ev E (.tmp 29) = _ from g29.trans rfl) rfl)) ?_
    refine .cons (fun E h => by have g37 := h.get 37 (by decide); exact OpStep.plain rfl (Step.move (p := (.one (.d (.bool false)))) (t := 38) rfl rfl (by exact lt_ok rfl) (show Env.ev E (.tmp 37) = _ from g37.trans rfl))) ?_
    refine .cons (fun E h => OpStep.no (t := 38) rfl rfl (lt_ok rfl) ((h.get 38 (by decide)).trans rfl) (by decide) rfl (lt_ok rfl)) ?_
    refine .cons (fun E h => OpStep.no (t := 38) rfl rfl (lt_ok rfl) ((h.get 38 (by decide)).trans rfl) (by decide) rfl (lt_ok rfl)) ?_
    refine .cons (fun E h => OpStep.no (t := 38) rfl rfl (lt_ok rfl) ((h.get 38 (by decide)).trans rfl) (by decide) rfl (lt_ok rfl)) ?_
    refine .cons (fun E h => by have g38 := h.get 38 (by decide); have g41 := h.get 41 (by decide); exact OpStep.plain rfl (Step.pick (b := false) (p := (.one (.d (.bool false)))) (t := 42) rfl rfl (by exact lt_ok rfl) (show Env.ev E (.tmp 38) = _ from g38.trans rfl) rfl)) ?_
    refine .cons (fun E h => by have g42 := h.get 42 (by decide); exact OpStep.plain rfl (Step.assign (p := (.one (.d (.bool false)))) (t := 4) rfl rfl (by exact lt_ok rfl) (show Env.ev E (.tmp 42) = _ from g42.trans rfl))) ?_
    exact .nil _ _
   refine TL.nil ?_
   refine T.ret ?_
   exact ⟨[(false, [.d (.bool false)])], (.cons rfl .nil), rfl, [], (RetC.rd' (by first | rfl | (congr 1; symm; simp only [qcOk, hashes, List.all_cons, List.all_nil, *, Bool.and_true, Bool.true_and, Bool.and_false, Bool.false_and, decide_true, decide_false, and_true, true_and, and_self, and_false, false_and, Bool.and_self, not_true, not_false, Bool.not_true, Bool.not_false, ge_iff_le, gt_iff_lt, if_true, if_false, Bool.false_eq_true, ite_true, ite_false, reduceIte]; done) | (congr 1; symm; simp_all [qcOk, hashes, List.all_cons, List.all_nil]; done) | (congr 1; symm; simp_all [qcOk, hashes, List.all_cons, List.all_nil]; omega)) .nil)⟩
 ·
  refine T.draw [⟨5, (.agg [.d (.int .i64 l.f0), .d (.int .i64 l.f1), .d (.int .i64 l.f2), .d (.int .i64 l.f3), .d (.int .i64 l.f4)]), []⟩, ⟨6, (.one (.d (.bool false))), []⟩, ⟨7, (.one (.d (.bool false))), []⟩, ⟨8, (.one (.und)), []⟩, ⟨9, (.one (.und)), []⟩, ⟨10, (.one (.und)), []⟩, ⟨11, (.one (.d (.bool false))), []⟩, ⟨12, (.one (.d (.bool false))), []⟩, ⟨13, (.one (.und)), []⟩, ⟨14, (.one (.und)), []⟩, ⟨15, (.one (.und)), []⟩, ⟨16, (.one (.d (.bool false))), []⟩, ⟨17, (.one (.d (.bool false))), []⟩, ⟨18, (.one (.und)), []⟩, ⟨19, (.one (.und)), []⟩, ⟨20, (.one (.und)), []⟩, ⟨21, (.one (.d (.bool false))), []⟩, ⟨22, (.one (.d (.bool false))), []⟩, ⟨23, (.one (.und)), []⟩, ⟨24, (.one (.und)), []⟩, ⟨25, (.one (.und)), []⟩, ⟨26, (.one (.und)), []⟩, ⟨27, (.one (.und)), []⟩, ⟨28, (.one (.d (.bool false))), []⟩, ⟨29, (.one (.d (.bool false))), []⟩, ⟨30, (.one (.und)), []⟩, ⟨31, (.one (.und)), []⟩, ⟨32, (.one (.und)), []⟩, ⟨33, (.one (.und)), []⟩, ⟨34, (.one (.und)), []⟩, ⟨35, (.one (.und)), []⟩, ⟨36, (.one (.und)), []⟩, ⟨37, (.one (.d (.bool false))), []⟩, ⟨38, (.one (.d (.bool false))), []⟩, ⟨39, (.one (.und)), []⟩, ⟨40, (.one (.und)), []⟩, ⟨41, (.one (.und)), []⟩, ⟨42, (.one (.d (.bool false))), []⟩, ⟨4, (.one (.d (.bool false))), []⟩] (by kernel_rfl) (by kernel_rfl) ?_ ?_
  ·
   refine .cons (fun E h => by have g2 := h.get 2 (by decide); exact OpStep.plain rfl (Step.load_box_agg (n := 5) (qs := [.d (.int .i64 l.f0), .d (.int .i64 l.f1), .d (.int .i64 l.f2), .d (.int .i64 l.f3), .d (.int .i64 l.f4)]) (t := 5) rfl rfl (by exact lt_ok rfl) (by kernel_rfl) (show Env.ev E (.tmp 2) = _ from g2.trans rfl) (by exact h.box rfl) rfl rfl)) ?_
   refine .cons (fun E h => by have g5 := h.get 5 (by decide); exact OpStep.plain rfl (Step.to (E1 := E.set 6 (.one (.d (.bool (limOk l))))) (congrArg (fun b_ => E.set 6 (.one (.d (.bool b_)))) hb1) (Step.call (f := 94) (xs := [.tmp 5]) (ps := [(.agg [.d (.int .i64 l.f0), .d (.int .i64 l.f1), .d (.int .i64 l.f2), .d (.int .i64 l.f3), .d (.int .i64 l.f4)])]) false (g := .func 94) (t := 6) rfl rfl (by exact lt_ok rfl) rfl (by kernel_rfl) (evs_cons (show Env.ev E (.tmp 5) = _ from g5.trans rfl) (rfl)) (.cons (.agg (.cons (.d _) (.cons (.d _) (.cons (.d _) (.cons (.d _) (.cons (.d _) .nil)))))) .nil) (ok_spec_LimitsOk l) (.inr rfl) (At.freshRows h rfl) (by simp) rfl))) ?_
   refine .cons (fun E h => by have g6 := h.get 6 (by decide); exact OpStep.plain rfl (Step.move (p := (.one (.d (.bool false)))) (t := 7) rfl rfl (by exact lt_ok rfl) (show Env.ev E (.tmp 6) = _ from g6.trans rfl))) ?_
   refine .cons (fun E h => OpStep.no (t := 7) rfl rfl (lt_ok rfl) ((h.get 7 (by decide)).trans rfl) (by decide) rfl (lt_ok rfl)) ?_
   refine .cons (fun E h => OpStep.no (t := 7) rfl rfl (lt_ok rfl) ((h.get 7 (by decide)).trans rfl) (by decide) rfl (lt_ok rfl)) ?_
   refine .cons (fun E h => OpStep.no (t := 7) rfl rfl (lt_ok rfl) ((h.get 7 (by decide)).trans rfl) (by decide) rfl (lt_ok rfl)) ?_
   refine .cons (fun E h => by have g7 := h.get 7 (by decide); have g10 := h.get 10 (by decide); exact OpStep.plain rfl (Step.pick (b := false) (p := (.one (.d (.bool false)))) (t := 11) rfl rfl (by exact lt_ok rfl) (show Env.ev E (.tmp 7) = _ from g7.trans rfl) rfl)) ?_
   refine .cons (fun E h => by have g11 := h.get 11 (by decide); exact OpStep.plain rfl (Step.move (p := (.one (.d (.bool false)))) (t := 12) rfl rfl (by exact lt_ok rfl) (show Env.ev E (.tmp 11) = _ from g11.trans rfl))) ?_
   refine .cons (fun E h => OpStep.no (t := 12) rfl rfl (lt_ok rfl) ((h.get 12 (by decide)).trans rfl) (by decide) rfl (lt_ok rfl)) ?_
   refine .cons (fun E h => OpStep.no (t := 12) rfl rfl (lt_ok rfl) ((h.get 12 (by decide)).trans rfl) (by decide) rfl (lt_ok rfl)) ?_
   refine .cons (fun E h => OpStep.no (t := 12) rfl rfl (lt_ok rfl) ((h.get 12 (by decide)).trans rfl) (by decide) rfl (lt_ok rfl)) ?_
   refine .cons (fun E h => by have g12 := h.get 12 (by decide); have g15 := h.get 15 (by decide); exact OpStep.plain rfl (Step.pick (b := false) (p := (.one (.d (.bool false)))) (t := 16) rfl rfl (by exact lt_ok rfl) (show Env.ev E (.tmp 12) = _ from g12.trans rfl) rfl)) ?_
   refine .cons (fun E h => by have g16 := h.get 16 (by decide); exact OpStep.plain rfl (Step.move (p := (.one (.d (.bool false)))) (t := 17) rfl rfl (by exact lt_ok rfl) (show Env.ev E (.tmp 16) = _ from g16.trans rfl))) ?_
   refine .cons (fun E h => OpStep.no (t := 17) rfl rfl (lt_ok rfl) ((h.get 17 (by decide)).trans rfl) (by decide) rfl (lt_ok rfl)) ?_
   refine .cons (fun E h => OpStep.no (t := 17) rfl rfl (lt_ok rfl) ((h.get 17 (by decide)).trans rfl) (by decide) rfl (lt_ok rfl)) ?_
   refine .cons (fun E h => OpStep.no (t := 17) rfl rfl (lt_ok rfl) ((h.get 17 (by decide)).trans rfl) (by decide) rfl (lt_ok rfl)) ?_
   refine .cons (fun E h => by have g17 := h.get 17 (by decide); have g20 := h.get 20 (by decide); exact OpStep.plain rfl (Step.pick (b := false) (p := (.one (.d (.bool false)))) (t := 21) rfl rfl (by exact lt_ok rfl) (show Env.ev E (.tmp 17) = _ from g17.trans rfl) rfl)) ?_
   refine .cons (fun E h => by have g21 := h.get 21 (by decide); exact OpStep.plain rfl (Step.move (p := (.one (.d (.bool false)))) (t := 22) rfl rfl (by exact lt_ok rfl) (show Env.ev E (.tmp 21) = _ from g21.trans rfl))) ?_
   refine .cons (fun E h => OpStep.no (t := 22) rfl rfl (lt_ok rfl) ((h.get 22 (by decide)).trans rfl) (by decide) rfl (lt_ok rfl)) ?_
   refine .cons (fun E h => OpStep.no (t := 22) rfl rfl (lt_ok rfl) ((h.get 22 (by decide)).trans rfl) (by decide) rfl (lt_ok rfl)) ?_
   refine .cons (fun E h => OpStep.no (t := 22) rfl rfl (lt_ok rfl) ((h.get 22 (by decide)).trans rfl) (by decide) rfl (lt_ok rfl)) ?_
   refine .cons (fun E h => OpStep.no (t := 22) rfl rfl (lt_ok rfl) ((h.get 22 (by decide)).trans rfl) (by decide) rfl (lt_ok rfl)) ?_
   refine .cons (fun E h => OpStep.no (t := 22) rfl rfl (lt_ok rfl) ((h.get 22 (by decide)).trans rfl) (by decide) rfl (lt_ok rfl)) ?_
   refine .cons (fun E h => by have g22 := h.get 22 (by decide); have g27 := h.get 27 (by decide); exact OpStep.plain rfl (Step.pick (b := false) (p := (.one (.d (.bool false)))) (t := 28) rfl rfl (by exact lt_ok rfl) (show Env.ev E (.tmp 22) = _ from g22.trans rfl) rfl)) ?_
   refine .cons (fun E h => by have g28 := h.get 28 (by decide); exact OpStep.plain rfl (Step.move (p := (.one (.d (.bool false)))) (t := 29) rfl rfl (by exact lt_ok rfl) (show Env.ev E (.tmp 28) = _ from g28.trans rfl))) ?_
   refine .cons (fun E h => OpStep.no (t := 29) rfl rfl (lt_ok rfl) ((h.get 29 (by decide)).trans rfl) (by decide) rfl (lt_ok rfl)) ?_
   refine .cons (fun E h => OpStep.no (t := 29) rfl rfl (lt_ok rfl) ((h.get 29 (by decide)).trans rfl) (by decide) rfl (lt_ok rfl)) ?_
   refine .cons (fun E h => OpStep.no (t := 29) rfl rfl (lt_ok rfl) ((h.get 29 (by decide)).trans rfl) (by decide) rfl (lt_ok rfl)) ?_
   refine .cons (fun E h => OpStep.no (t := 29) rfl rfl (lt_ok rfl) ((h.get 29 (by decide)).trans rfl) (by decide) rfl (lt_ok rfl)) ?_
   refine .cons (fun E h => OpStep.no (t := 29) rfl rfl (lt_ok rfl) ((h.get 29 (by decide)).trans rfl) (by decide) rfl (lt_ok rfl)) ?_
   refine .cons (fun E h => OpStep.no (t := 29) rfl rfl (lt_ok rfl) ((h.get 29 (by decide)).trans rfl) (by decide) rfl (lt_ok rfl)) ?_
   refine .cons (fun E h => OpStep.no (t := 29) rfl rfl (lt_ok rfl) ((h.get 29 (by decide)).trans rfl) (by decide) rfl (lt_ok rfl)) ?_
   refine .cons (fun E h => by have g29 := h.get 29 (by decide); have g36 := h.get 36 (by decide); exact OpStep.plain rfl (Step.pick (b := false) (p := (.one (.d (.bool false)))) (t := 37) rfl rfl (by exact lt_ok rfl) (show Env.ev E (.tmp 29) = _ from g29.trans rfl) rfl)) ?_
   refine .cons (fun E h => by have g37 := h.get 37 (by decide); exact OpStep.plain rfl (Step.move (p := (.one (.d (.bool false)))) (t := 38) rfl rfl (by exact lt_ok rfl) (show Env.ev E (.tmp 37) = _ from g37.trans rfl))) ?_
   refine .cons (fun E h => OpStep.no (t := 38) rfl rfl (lt_ok rfl) ((h.get 38 (by decide)).trans rfl) (by decide) rfl (lt_ok rfl)) ?_
   refine .cons (fun E h => OpStep.no (t := 38) rfl rfl (lt_ok rfl) ((h.get 38 (by decide)).trans rfl) (by decide) rfl (lt_ok rfl)) ?_
   refine .cons (fun E h => OpStep.no (t := 38) rfl rfl (lt_ok rfl) ((h.get 38 (by decide)).trans rfl) (by decide) rfl (lt_ok rfl)) ?_
   refine .cons (fun E h => by have g38 := h.get 38 (by decide); have g41 := h.get 41 (by decide); exact OpStep.plain rfl (Step.pick (b := false) (p := (.one (.d (.bool false)))) (t := 42) rfl rfl (by exact lt_ok rfl) (show Env.ev E (.tmp 38) = _ from g38.trans rfl) rfl)) ?_
   refine .cons (fun E h => by have g42 := h.get 42 (by decide); exact OpStep.plain rfl (Step.assign (p := (.one (.d (.bool false)))) (t := 4) rfl rfl (by exact lt_ok rfl) (show Env.ev E (.tmp 42) = _ from g42.trans rfl))) ?_
   exact .nil _ _
  refine TL.nil ?_
  refine T.ret ?_
  exact ⟨[(false, [.d (.bool false)])], (.cons rfl .nil), rfl, [], (RetC.rd' (by first | rfl | (congr 1; symm; simp only [qcOk, hashes, List.all_cons, List.all_nil, *, Bool.and_true, Bool.true_and, Bool.and_false, Bool.false_and, decide_true, decide_false, and_true, true_and, and_self, and_false, false_and, Bool.and_self, not_true, not_false, Bool.not_true, Bool.not_false, ge_iff_le, gt_iff_lt, if_true, if_false, Bool.false_eq_true, ite_true, ite_false, reduceIte]; done) | (congr 1; symm; simp_all [qcOk, hashes, List.all_cons, List.all_nil]; done) | (congr 1; symm; simp_all [qcOk, hashes, List.all_cons, List.all_nil]; omega)) .nil)⟩
theorem ok_spec_l01Copy (a : List Int) (h0_ : a.length ≤ 17592186044416) : RO Try.prog 79 [.one (.ints .u8 a)] [(false, [.own 5 (.ints .u8 a)])] := by
 refine RO.intro Try.func79 rfl 6 rfl (le_ok rfl) fun w Z => ?_
 refine T.bnd 0 0 rfl rfl fun hb_0_0 => ?_
 simp only [D.size, List.length_map] at hb_0_0
 refine T.seq ?_
 refine T.region ?_
 refine TL.cons rfl (Step.assign (p := (.one (.nil))) rfl rfl (lt_ok rfl) rfl) ?_
 refine TL.nil ?_
 refine T.seq ?_
 refine T.region ?_
 refine TL.cons rfl (Step.lit (e := 5) (z := 1) (by_ := 1) (xs := []) (pss := []) (es := []) (ss := []) (d := (.ints .u8 [])) rfl rfl (lt_ok rfl) (by kernel_rfl) rfl rfl .nil (by simp) (le_ok rfl) (le_ok rfl) rfl .nil rfl (by simp) (by simp) rfl trivial rfl rfl) ?_
 refine TL.cons rfl (Step.move (p := (.one (.d (.ints .u8 a)))) rfl rfl (lt_ok rfl) rfl) ?_
 refine TL.cons rfl (Step.append (e := 5) (z := 1) (by_ := 1) (d := (.ints .u8 [])) (dy := (.ints .u8 a)) (d' := (.ints .u8 ([] ++ a))) (ss := []) rfl rfl (lt_ok rfl) (by kernel_rfl) rfl rfl rfl (lt_ok rfl) rfl (.froz rfl (by simp [D.flat, D.val])) (by simp) rfl (by simp only [D.size, List.length_map]; first | omega | (simp; omega) | (simp only [List.length_append] at *; omega)) (by simp only [D.size, List.length_map]; first | omega | (simp; omega) | (simp only [List.length_append] at *; omega)) (by simp)) ?_
 refine TL.cons rfl (Step.assign (p := (.one (.row 3 []))) rfl rfl (lt_ok rfl) rfl) ?_
 refine TL.nil ?_
 refine T.ret ?_
 exact ⟨[(false, [.row 3 []])], (.cons rfl .nil), rfl, [3], (RetC.own' rfl (by rfl) rfl .nil)⟩
theorem ok_spec_PutVar (b : List Int) (n : Int) (h0_ : b.length ≤ 17592186044416) : RO Try.prog 159 [.one (.ints .u8 b), .one (.int .i64 n)] [(false, [.own 5 (.ints .u8 (putVar b n))]), (false, [.rd (.bool (decide (0 ≤ n ∧ n ≤ 1152921504606846975)))])] := by
 refine RO.intro Try.func159 rfl 28 rfl (le_ok rfl) fun w Z => ?_
 refine T.bnd 0 0 rfl rfl fun hb_0_0 => ?_
 simp only [D.size, List.length_map] at hb_0_0
 refine T.seq ?_
 refine T.region ?_
 refine TL.cons rfl (Step.assign (p := (.one (.nil))) rfl rfl (lt_ok rfl) rfl) ?_
 refine TL.cons rfl (Step.assign (p := (.one (.d (.bool false)))) rfl rfl (lt_ok rfl) rfl) ?_
 refine TL.nil ?_
 refine T.seq ?_
 refine T.seq ?_
 refine T.region ?_
 refine TL.cons rfl (Step.move (p := (.one (.d (.int .i64 n)))) rfl rfl (lt_ok rfl) rfl) ?_
 refine TL.cons rfl (Step.call (f := 137) (xs := [.tmp 7]) (ps := [(.one (.d (.int .i64 n)))]) false (g := .func 137) rfl rfl (lt_ok rfl) rfl (by kernel_rfl) rfl (.cons (.one (.d _)) .nil) (ok_spec_l01Num n) (.inr rfl) rfl (by simp) rfl) ?_
 refine TL.cons rfl (Step.not (b := (decide (0 ≤ n ∧ n ≤ 1152921504606846975))) rfl rfl (lt_ok rfl) rfl) ?_
 refine TL.nil ?_
 refine T.cond (b := !(decide (0 ≤ n ∧ n ≤ 1152921504606846975))) rfl (fun h1 => ?_) (fun h1 => ?_)
 ·
  replace h1 : (decide (0 ≤ n ∧ n ≤ 1152921504606846975)) = false := by simpa only [Bool.not_eq_true', Bool.not_eq_false'] using h1
  replace h1 := of_decide_eq_false h1
  refine T.seq ?_
  refine T.region ?_
  refine TL.cons rfl (Step.assign (p := (.one (.nil))) rfl rfl (lt_ok rfl) rfl) ?_
  refine TL.cons rfl (Step.assign (p := (.one (.d (.bool false)))) rfl rfl (lt_ok rfl) rfl) ?_
  refine TL.nil ?_
  refine T.ret ?_
  exact ⟨[(false, [.nil]), (false, [.d (.bool false)])], (.cons rfl (.cons rfl .nil)), rfl, [], (RetC.nilown' rfl (by first | rfl | (congr 1; unfold putVar; rw [if_pos (decide_eq_true (by assumption))]; rw [← hx3, varW_last (n := m) (by omega)]; done) | (show (putVar b n).length = 0; rw [putVar, if_neg (by rw [decide_eq_true_eq]; assumption)]; rfl) | (congr 1; symm; first | exact decide_eq_true ‹_› | exact decide_eq_false ‹_›)) (by first | exact trivial | exact D.wf_nil _) (RetC.rd' (by first | rfl | (congr 1; unfold putVar; rw [if_pos (decide_eq_true (by assumption))]; rw [← hx3, varW_last (n := m) (by omega)]; done) | (show (putVar b n).length = 0; rw [putVar, if_neg (by rw [decide_eq_true_eq]; assumption)]; rfl) | (congr 1; symm; first | exact decide_eq_true ‹_› | exact decide_eq_false ‹_›)) .nil))⟩
 ·
  replace h1 : (decide (0 ≤ n ∧ n ≤ 1152921504606846975)) = true := by simpa only [Bool.not_eq_true', Bool.not_eq_false'] using h1
  replace h1 := of_decide_eq_true h1
  refine T.skip ?_
  refine T.seq ?_
  refine T.region ?_
  refine TL.cons rfl (Step.move (p := (.one (.d (.ints .u8 b)))) rfl rfl (lt_ok rfl) rfl) ?_
  refine TL.cons rfl (Step.call (f := 79) (xs := [.tmp 10]) (ps := [(.one (.d (.ints .u8 b)))]) false (g := .func 79) rfl rfl (lt_ok rfl) rfl (by kernel_rfl) rfl (.cons (.one (.d _)) .nil) (ok_spec_l01Copy b (by first | omega | assumption)) (.inr rfl) rfl (by simp) rfl) ?_
  refine TL.cons rfl (Step.assign (p := (.one (.row 1011 []))) rfl rfl (lt_ok rfl) rfl) ?_
  refine TL.nil ?_
  refine T.seq ?_
  refine T.block ?_
  refine T.loop (ι := (List Int) × Int) (fun x => { tm := [(4, (.one (.nil))), (5, (.one (.d (.bool false)))), (1, (.one (.d (.int .i64 (x.2))))), (6, (.one (.row 1011 [])))], rows := [(1011, (5, (.ints .u8 (x.1))))], boxes := [] }) (fun x => 0 ≤ (x.2) ∧ (x.2) ≤ 1152921504606846975 ∧ (x.1) ++ varW (x.2) = b ++ varW n ∧ (x.1).length ≤ b.length + 9) (fun x => (x.2).toNat) (b, n) ?_ ?_ ?_
  · exact Env.le_mk ⟨rfl, rfl, by first | rfl | (refine congrArg (fun x => some (_, D.ints .u8 x)) ?_; rfl), rfl, trivial⟩ ⟨by first | rfl | (refine congrArg (fun x => some (_, D.ints .u8 x)) ?_; rfl), trivial⟩ trivial
  · (dsimp only; refine ⟨by omega, by omega, rfl, by omega⟩)
  ·
   intro x hx
   obtain ⟨o, m⟩ := x
   try dsimp only at hx ⊢
   obtain ⟨hx1, hx2, hx3, hx4⟩ := hx
   refine T.seq ?_
   refine T.seq ?_
   refine T.region ?_
   refine TL.cons rfl (Step.move (p := (.one (.d (.int .i64 m)))) rfl rfl (lt_ok rfl) rfl) ?_
   refine TL.cons rfl (Step.bin rfl rfl (lt_ok rfl) rfl rfl (Bin.gtr (k := .i64) (a := m) (b := 127))) ?_
   refine TL.nil ?_
   refine T.cond (b := decide (127 < m)) rfl (fun h2 => ?_) (fun h2 => ?_)
   ·
    replace h2 := of_decide_eq_true h2
    refine T.skip ?_
    refine T.block ?_
    refine T.seq ?_
    refine T.region ?_
    refine TL.cons rfl (Step.move (p := (.one (.row 1011 []))) rfl rfl (lt_ok rfl) rfl) ?_
    refine TL.cons rfl (Step.move (p := (.one (.d (.int .i64 m)))) rfl rfl (lt_ok rfl) rfl) ?_
    refine TL.cons rfl (Step.bin (r := .int .i64 (m % 128)) rfl rfl (lt_ok rfl) rfl rfl (Bin.rem (k := .i64) (a := m) (b := 128) (by decide) (Int.tmod_eq_emod_of_nonneg (by first | omega | (simp; omega))))) ?_
    refine TL.cons rfl (Step.bin (r := .int .i64 (128 + (m % 128))) rfl rfl (lt_ok rfl) rfl rfl (Bin.add (a := 128) (b := (m % 128)) (by first | exact wrap_ok (by first | omega | (simp; omega)) (by first | omega | (simp; omega)) | rfl))) ?_
    refine TL.cons rfl (Step.conv (c := (128 + (m % 128))) rfl rfl (lt_ok rfl) (by kernel_rfl) (by kernel_rfl) rfl (wrap_u8 (by first | omega | (simp; omega)) (by first | omega | (simp; omega)))) ?_
    refine TL.cons rfl (Step.lit (e := 5) (z := 1) (by_ := 1) (xs := [.tmp 18]) (pss := [[.d (.int .u8 (128 + (m % 128)))]]) (es := [(.int .u8 (128 + (m % 128)))]) (ss := []) (d := (.ints .u8 [128 + (m % 128)])) rfl rfl (lt_ok rfl) (by kernel_rfl) rfl rfl (.cons rfl .nil) (by simp) (le_ok rfl) (le_ok rfl) rfl (.val rfl .nil) rfl (by simp) (by simp) rfl trivial rfl rfl) ?_
    refine TL.cons rfl (Step.append (e := 5) (z := 1) (by_ := 1) (d := (.ints .u8 o)) (dy := (.ints .u8 [128 + (m % 128)])) (d' := (.ints .u8 (o ++ [128 + (m % 128)]))) (ss := []) rfl rfl (lt_ok rfl) (by kernel_rfl) rfl rfl rfl (lt_ok rfl) rfl (.copy rfl rfl rfl (by simp [D.flat, D.val])) (by simp) rfl (by simp only [D.size, List.length_map]; first | omega | (simp; omega) | (simp only [List.length_append] at *; omega)) (by simp only [D.size, List.length_map]; first | omega | (simp; omega) | (simp only [List.length_append] at *; omega)) (by simp)) ?_
    refine TL.cons rfl (Step.assign (p := (.one (.row 1011 []))) rfl rfl (lt_ok rfl) rfl) ?_
    refine TL.nil ?_
    refine T.region ?_
    refine TL.cons rfl (Step.move (p := (.one (.d (.int .i64 m)))) rfl rfl (lt_ok rfl) rfl) ?_
    refine TL.cons rfl (Step.bin (r := .int .i64 (m / 128)) rfl rfl (lt_ok rfl) rfl rfl (Bin.quo (k := .i64) (a := m) (b := 128) (by decide) (by rw [Int.tdiv_eq_ediv_of_nonneg (by first | omega | (simp; omega))]; exact wrap_ok (by first | omega | (simp; omega)) (by first | omega | (simp; omega))))) ?_
    refine TL.cons rfl (Step.assign (p := (.one (.d (.int .i64 (m / 128))))) rfl rfl (lt_ok rfl) rfl) ?_
    refine TL.nil ?_
    exact ⟨(o ++ [128 + (m % 128)], m / 128), by (refine ⟨by omega, by omega, by rw [← hx3, varW_next (n := m) (by omega)]; simp [Int.add_comm], ?_⟩; have e_ := congrArg List.length hx3; rw [varW_next (n := m) (by omega)] at e_; have := varW_len9 (n := n) (by omega); simp only [List.length_append, List.length_cons, List.length_nil] at e_ ⊢; omega), by (dsimp only; omega), Env.le_mk ⟨rfl, rfl, by first | rfl | (refine congrArg (fun x => some (_, D.ints .u8 x)) ?_; rfl), rfl, trivial⟩ ⟨by first | rfl | (refine congrArg (fun x => some (_, D.ints .u8 x)) ?_; rfl), trivial⟩ trivial⟩
   ·
    replace h2 := of_decide_eq_false h2
    refine T.exit ?_
    refine T.seq ?_
    refine T.region ?_
    refine TL.cons rfl (Step.move (p := (.one (.row 1011 []))) rfl rfl (lt_ok rfl) rfl) ?_
    refine TL.cons rfl (Step.move (p := (.one (.d (.int .i64 m)))) rfl rfl (lt_ok rfl) rfl) ?_
    refine TL.cons rfl (Step.conv (c := m) rfl rfl (lt_ok rfl) (by kernel_rfl) (by kernel_rfl) rfl (wrap_u8 (by first | omega | (simp; omega)) (by first | omega | (simp; omega)))) ?_
    refine TL.cons rfl (Step.lit (e := 5) (z := 1) (by_ := 1) (xs := [.tmp 25]) (pss := [[.d (.int .u8 m)]]) (es := [(.int .u8 m)]) (ss := []) (d := (.ints .u8 [m])) rfl rfl (lt_ok rfl) (by kernel_rfl) rfl rfl (.cons rfl .nil) (by simp) (le_ok rfl) (le_ok rfl) rfl (.val rfl .nil) rfl (by simp) (by simp) rfl trivial rfl rfl) ?_
    refine TL.cons rfl (Step.append (e := 5) (z := 1) (by_ := 1) (d := (.ints .u8 o)) (dy := (.ints .u8 [m])) (d' := (.ints .u8 (o ++ [m]))) (ss := []) rfl rfl (lt_ok rfl) (by kernel_rfl) rfl rfl rfl (lt_ok rfl) rfl (.copy rfl rfl rfl (by simp [D.flat, D.val])) (by simp) rfl (by simp only [D.size, List.length_map]; first | omega | (simp; omega) | (simp only [List.length_append] at *; omega)) (by simp only [D.size, List.length_map]; first | omega | (simp; omega) | (simp only [List.length_append] at *; omega)) (by simp)) ?_
    refine TL.cons rfl (Step.assign (p := (.one (.row 1011 []))) rfl rfl (lt_ok rfl) rfl) ?_
    refine TL.cons rfl (Step.assign (p := (.one (.d (.bool true)))) rfl rfl (lt_ok rfl) rfl) ?_
    refine TL.nil ?_
    refine T.ret ?_
    exact ⟨[(false, [.row 1011 []]), (false, [.d (.bool true)])], (.cons rfl (.cons rfl .nil)), rfl, [1011], (RetC.own' rfl (by first | rfl | (congr 1; unfold putVar; rw [if_pos (decide_eq_true (by assumption))]; rw [← hx3, varW_last (n := m) (by omega)]; done) | (show (putVar b n).length = 0; rw [putVar, if_neg (by rw [decide_eq_true_eq]; assumption)]; rfl) | (congr 1; symm; first | exact decide_eq_true ‹_› | exact decide_eq_false ‹_›)) rfl (RetC.rd' (by first | rfl | (congr 1; unfold putVar; rw [if_pos (decide_eq_true (by assumption))]; rw [← hx3, varW_last (n := m) (by omega)]; done) | (show (putVar b n).length = 0; rw [putVar, if_neg (by rw [decide_eq_true_eq]; assumption)]; rfl) | (congr 1; symm; first | exact decide_eq_true ‹_› | exact decide_eq_false ‹_›)) .nil))⟩
theorem ok_spec_l11Num (b : List Int) (n : Int) (h0_ : b.length ≤ 17592186044416) : RO Try.prog 108 [.one (.ints .u8 b), .one (.int .i64 n)] [(false, [.own 5 (.ints .u8 (putVar b n))])] := by
 refine RO.intro Try.func108 rfl 14 rfl (le_ok rfl) fun w Z => ?_
 refine T.bnd 0 0 rfl rfl fun hb_0_0 => ?_
 simp only [D.size, List.length_map] at hb_0_0
 refine T.seq ?_
 refine T.region ?_
 refine TL.cons rfl (Step.assign (p := (.one (.nil))) rfl rfl (lt_ok rfl) rfl) ?_
 refine TL.nil ?_
 refine T.seq ?_
 refine T.region ?_
 refine TL.cons rfl (Step.move (p := (.one (.d (.ints .u8 b)))) rfl rfl (lt_ok rfl) rfl) ?_
 refine TL.cons rfl (Step.move (p := (.one (.d (.int .i64 n)))) rfl rfl (lt_ok rfl) rfl) ?_
 have nn1 := putVar_len b n
 refine TL.cons rfl (Step.call (f := 159) (xs := [.tmp 8, .tmp 9]) (ps := [(.one (.d (.ints .u8 b))), (.one (.d (.int .i64 n)))]) false (g := .func 159) rfl rfl (lt_ok rfl) rfl (by kernel_rfl) rfl (.cons (.one (.d _)) (.cons (.one (.d _)) .nil)) (ok_spec_PutVar b n (by first | omega | assumption | (simp only [List.length_append] at *; omega))) (.inr rfl) rfl (by simp) rfl) ?_
 refine TL.cons rfl (Step.move (p := (.tup [(false, [.row 1010 []]), (false, [.d (.bool (decide (0 ≤ n ∧ n ≤ 1152921504606846975)))])])) rfl rfl (lt_ok rfl) rfl) ?_
 refine TL.cons rfl (Step.extract (p := (.one (.row 1010 []))) rfl rfl (lt_ok rfl) rfl rfl) ?_
 refine TL.cons rfl (Step.extract (p := (.one (.d (.bool (decide (0 ≤ n ∧ n ≤ 1152921504606846975)))))) rfl rfl (lt_ok rfl) rfl rfl) ?_
 refine TL.cons rfl (Step.assign (p := (.one (.row 1010 []))) rfl rfl (lt_ok rfl) rfl) ?_
 refine TL.cons rfl (Step.assign (p := (.one (.d (.bool (decide (0 ≤ n ∧ n ≤ 1152921504606846975)))))) rfl rfl (lt_ok rfl) rfl) ?_
 refine TL.nil ?_
 refine T.seq ?_
 refine T.region ?_
 refine TL.cons rfl (Step.move (p := (.one (.row 1010 []))) rfl rfl (lt_ok rfl) rfl) ?_
 refine TL.cons rfl (Step.assign (p := (.one (.row 1010 []))) rfl rfl (lt_ok rfl) rfl) ?_
 refine TL.nil ?_
 refine T.ret ?_
 exact ⟨[(false, [.row 1010 []])], (.cons rfl .nil), rfl, [1010], (RetC.own' rfl (by rfl) rfl .nil)⟩
end Go.Proofs.Ythaagegnobegjaa.Rf
