/- The functions that FnExactPutTc calls, each held to what it answers. Printed by a program of this session; Lean checks it. -/
import Derived.Test.YthaagegnobegjaaProg
import Derived.Test.YthaagegnobegjaaRf27
namespace Go.Proofs.Ythaagegnobegjaa.Rf
open Go.RowKit
set_option linter.unusedVariables false
set_option linter.unnecessarySimpa false
set_option linter.unusedSimpArgs false
set_option maxRecDepth 100000
set_option maxHeartbeats 4000000
@[ext] structure SEntry where
  f0 : Int
  f1 : Int
  f2 : List Int
  deriving Inhabited, DecidableEq
def SEntry.cells (x : SEntry) : List D := [(.int .i64 x.f0), (.int .i64 x.f1), (.ints .u8 x.f2)]
theorem SEntry.len (x : SEntry) : x.cells.length = 3 := rfl
def SEntry.sz (x : SEntry) (l : Int) : Int := szThen (szB x.f2 l) fun l0 => l0
def SEntry.sm (x : SEntry) : Prop := (x.f2.length ≤ 1048576)
def SEntry.ok (x : SEntry) : Prop := (I64 x.f0) ∧ (I64 x.f1) ∧ (U8s x.f2)
theorem SEntry.sz_le (x : SEntry) {l : Int} (h : 0 ≤ l) : x.sz l ≤ l := by
  unfold SEntry.sz
  exact szThen_le' (szB_le _ h) h fun l0 h0 => Int.le_refl _
theorem SEntry.sz_sm (x : SEntry) {l : Int} (h0 : 0 ≤ l) (hl : l ≤ 1048576) (h : 0 ≤ x.sz l) : x.sm := by
  unfold SEntry.sz at h
  have ⟨p0, h⟩ := szThen_nn h
  have e0 : (szB x.f2 l) ≤ l := szB_le _ h0
  have s0 := szB_sm p0 hl
  have c0 := Int.le_trans e0 hl
  exact s0
def SEntry.cm (x : SEntry) : Int := (x.f2.length : Int)
def SEntry.hm (a b : SEntry) (k : Int) : Prop := (b.f2 = mkB a.f2 k)
theorem SEntry.cm_nn (x : SEntry) : 0 ≤ x.cm := by
  unfold SEntry.cm
  omega
theorem SEntry.cm_le {x : SEntry} (h : x.sm) : x.cm ≤ 1048576 := by
  unfold SEntry.cm
  have p2 : x.f2.length ≤ 1048576 := h
  have e2 := p2
  omega
theorem SEntry.sm_df : (default : SEntry).sm := by (repeat' (first | exact Nat.zero_le _ | (intro y hy; exact absurd hy (List.not_mem_nil)) | apply And.intro))
def SEntry.ce (x : SEntry) : Int := 1 + 1 + (x.f2.length : Int)
def SEntry.me (x : SEntry) (k : Int) : SEntry := ⟨k, k + 1, mkB x.f2 ((k + 1) + 1)⟩
theorem SEntry.ce_nn (x : SEntry) : 0 ≤ x.ce := by
  unfold SEntry.ce
  omega
theorem SEntry.ce_le {x : SEntry} (h : x.sm) : x.ce ≤ 1048578 := by
  unfold SEntry.ce
  have p2 : x.f2.length ≤ 1048576 := h
  have e2 := p2
  omega
theorem SEntry.cL_le {xs : List SEntry} (h : xs.length ≤ 1048576 ∧ ∀ y ∈ xs, SEntry.sm y) : cntL SEntry.ce xs ≤ 1099513724928 := by
  have h1 := cntL_le (cnt := SEntry.ce) (n := 1048578) xs fun x hx => SEntry.ce_le (h.2 x hx)
  have h2 := h.1
  omega
@[ext] structure STc where
  f0 : Int
  f1 : List SEntry
  deriving Inhabited, DecidableEq
def STc.cells (x : STc) : List D := [(.int .i64 x.f0), (.sl 3 (x.f1.map SEntry.cells))]
theorem STc.len (x : STc) : x.cells.length = 2 := rfl
def STc.sz (x : STc) (l : Int) : Int := szThen (szLs SEntry.sz x.f1 l) fun l0 => l0
def STc.sm (x : STc) : Prop := (x.f1.length ≤ 1048576 ∧ ∀ y ∈ x.f1, SEntry.sm y)
def STc.ok (x : STc) : Prop := (I64 x.f0) ∧ (∀ y ∈ x.f1, SEntry.ok y)
theorem STc.sz_le (x : STc) {l : Int} (h : 0 ≤ l) : x.sz l ≤ l := by
  unfold STc.sz
  exact szThen_le' (szLs_le (fun x l h => SEntry.sz_le x h) _ h) h fun l0 h0 => Int.le_refl _
theorem STc.sz_sm (x : STc) {l : Int} (h0 : 0 ≤ l) (hl : l ≤ 1048576) (h : 0 ≤ x.sz l) : x.sm := by
  unfold STc.sz at h
  have ⟨p0, h⟩ := szThen_nn h
  have e0 : (szLs SEntry.sz x.f1 l) ≤ l := szLs_le (fun x l h => SEntry.sz_le x h) _ h0
  have s0 := szLs_sm (p := SEntry.sm) (fun x l h => SEntry.sz_le x h) (fun x l h h0 hl => SEntry.sz_sm x h0 hl h) p0 hl
  have c0 := Int.le_trans e0 hl
  exact s0
def STc.cm (x : STc) : Int := cntL SEntry.ce x.f1
def STc.hm (a b : STc) (k : Int) : Prop := (b.f1 = mkL SEntry.ce SEntry.me a.f1 k)
theorem STc.cm_nn (x : STc) : 0 ≤ x.cm := by
  unfold STc.cm
  have n1 := cntL_nonneg SEntry.ce_nn x.f1
  omega
theorem STc.cm_le {x : STc} (h : x.sm) : x.cm ≤ 1099513724928 := by
  unfold STc.cm
  have p1 : x.f1.length ≤ 1048576 ∧ ∀ y ∈ x.f1, SEntry.sm y := h
  have e1 := SEntry.cL_le p1
  omega
theorem STc.sm_df : (default : STc).sm := by (repeat' (first | exact Nat.zero_le _ | (intro y hy; exact absurd hy (List.not_mem_nil)) | apply And.intro))
def STc.ce (x : STc) : Int := 1 + cntL SEntry.ce x.f1
def STc.me (x : STc) (k : Int) : STc := ⟨k, mkL SEntry.ce SEntry.me x.f1 (k + 1)⟩
theorem STc.ce_nn (x : STc) : 0 ≤ x.ce := by
  unfold STc.ce
  have n1 := cntL_nonneg SEntry.ce_nn x.f1
  omega
theorem STc.ce_le {x : STc} (h : x.sm) : x.ce ≤ 1099513724929 := by
  unfold STc.ce
  have p1 : x.f1.length ≤ 1048576 ∧ ∀ y ∈ x.f1, SEntry.sm y := h
  have e1 := SEntry.cL_le p1
  omega
theorem STc.cL_le {xs : List STc} (h : xs.length ≤ 1048576 ∧ ∀ y ∈ xs, STc.sm y) : cntL STc.ce xs ≤ 1152923703631151104 := by
  have h1 := cntL_le (cnt := STc.ce) (n := 1099513724929) xs fun x hx => STc.ce_le (h.2 x hx)
  have h2 := h.1
  omega
@[ext] structure SLimits where
  f0 : Int
  f1 : Int
  f2 : Int
  f3 : Int
  f4 : Int
  deriving Inhabited, DecidableEq
def SLimits.cells (x : SLimits) : List D := [(.int .i64 x.f0), (.int .i64 x.f1), (.int .i64 x.f2), (.int .i64 x.f3), (.int .i64 x.f4)]
theorem SLimits.len (x : SLimits) : x.cells.length = 5 := rfl
def SLimits.sz (x : SLimits) (l : Int) : Int := l
def SLimits.sm (x : SLimits) : Prop := True
def SLimits.ok (x : SLimits) : Prop := (I64 x.f0) ∧ (I64 x.f1) ∧ (I64 x.f2) ∧ (I64 x.f3) ∧ (I64 x.f4)
theorem SLimits.sz_le (x : SLimits) {l : Int} (h : 0 ≤ l) : x.sz l ≤ l := by
  unfold SLimits.sz
  exact Int.le_refl _
theorem SLimits.sz_sm (x : SLimits) {l : Int} (h0 : 0 ≤ l) (hl : l ≤ 1048576) (h : 0 ≤ x.sz l) : x.sm := by
  unfold SLimits.sz at h
  exact trivial
def SLimits.cm (x : SLimits) : Int := 0
def SLimits.hm (a b : SLimits) (k : Int) : Prop := True
theorem SLimits.cm_nn (x : SLimits) : 0 ≤ x.cm := by
  unfold SLimits.cm
  omega
theorem SLimits.cm_le {x : SLimits} (h : x.sm) : x.cm ≤ 0 := by
  unfold SLimits.cm
  omega
def SLimits.ce (x : SLimits) : Int := 1 + 1 + 1 + 1 + 1
def SLimits.me (x : SLimits) (k : Int) : SLimits := ⟨k, k + 1, (k + 1) + 1, ((k + 1) + 1) + 1, (((k + 1) + 1) + 1) + 1⟩
theorem SLimits.ce_nn (x : SLimits) : 0 ≤ x.ce := by
  unfold SLimits.ce
  omega
theorem SLimits.ce_le {x : SLimits} (h : x.sm) : x.ce ≤ 5 := by
  unfold SLimits.ce
  omega
theorem SLimits.cL_le {xs : List SLimits} (h : xs.length ≤ 1048576 ∧ ∀ y ∈ xs, SLimits.sm y) : cntL SLimits.ce xs ≤ 5242880 := by
  have h1 := cntL_le (cnt := SLimits.ce) (n := 5) xs fun x hx => SLimits.ce_le (h.2 x hx)
  have h2 := h.1
  omega
def limOk (l : SLimits) : Bool := decide (1 ≤ l.f0 ∧ l.f0 ≤ 10) && decide (0 ≤ l.f1 ∧ l.f1 ≤ 40) && decide (0 ≤ l.f2 ∧ l.f2 ≤ 8) && decide (1 ≤ l.f3 ∧ l.f3 ≤ 4000) && decide (3 ≤ l.f4 ∧ l.f4 ≤ 5)
theorem limOk_n {l : SLimits} (h : limOk l = true) : 1 ≤ l.f0 ∧ l.f0 ≤ 10 := by simp [limOk] at h; omega
def hashes (l : List (List Int)) : Bool := l.all fun x => decide ((x.length : Int) = 32)
theorem hashes_step {l : List (List Int)} {i : Nat} (hi : i < l.length) (h : hashes (l.take i) = true) (hx : ((l.getD i []).length : Int) = 32) : hashes (l.take (i + 1)) = true := by
  rw [take_succ' (df := []) hi]; simp only [hashes, List.all_append, List.all_cons, List.all_nil, Bool.and_true, Bool.and_eq_true] at h ⊢; exact ⟨h, decide_eq_true hx⟩
theorem hashes_no {l : List (List Int)} {i : Nat} (hi : i < l.length) (hx : ¬ ((l.getD i []).length : Int) = 32) : hashes l = false := by
  cases h : hashes l with
  | false => rfl
  | true =>
    rw [hashes, List.all_eq_true] at h
    have := h (l.getD i []) (by rw [List.getD_eq_getElem?_getD, List.getElem?_eq_getElem hi]; exact List.getElem_mem hi)
    exact absurd (of_decide_eq_true this) hx
def varW (n : Int) : List Int := if h : n < 128 then [n] else (n % 128 + 128) :: varW (n / 128)
termination_by n.toNat
decreasing_by omega
theorem varW_last {n : Int} (h : n < 128) : varW n = [n] := by rw [varW, dif_pos h]
theorem varW_next {n : Int} (h : ¬ n < 128) : varW n = (n % 128 + 128) :: varW (n / 128) := by rw [varW, dif_neg h]
theorem varW_len : ∀ (k : Nat) (n : Int), n < 128 ^ (k + 1) → (varW n).length ≤ k + 1
  | 0, n, h => by rw [varW_last (by simpa using h)]; simp
  | k + 1, n, h => by
    by_cases h0 : n < 128
    · rw [varW_last h0]; simp
    · rw [varW_next h0, List.length_cons]
      have := varW_len k (n / 128) (by rw [Int.pow_succ] at h; omega)
      omega
theorem varW_len9 {n : Int} (h : n ≤ 1152921504606846975) : (varW n).length ≤ 9 := by
  have e : (128 : Int) ^ (8 + 1) = 9223372036854775808 := by decide
  exact varW_len 8 n (by rw [e]; omega)
def putVar (b : List Int) (n : Int) : List Int := if decide (0 ≤ n ∧ n ≤ 1152921504606846975) = true then b ++ varW n else []
theorem putVar_len (b : List Int) (n : Int) : (putVar b n).length ≤ b.length + 9 := by
  unfold putVar
  split
  · rename_i h
    have := varW_len9 (of_decide_eq_true h).2
    rw [List.length_append]; omega
  · simp
theorem foldl_take_succ {α β : Type} (g : β → α → β) (b : β) (xs : List α) (i : Nat) (df : α) (h : i < xs.length) : (xs.take (i + 1)).foldl g b = g ((xs.take i).foldl g b) (xs.getD i df) := by
  rw [take_succ' (df := df) h, List.foldl_append]; rfl
theorem foldl_len {α : Type} (g : List Int → α → List Int) (c : Nat) (p : α → Prop) (hg : ∀ b x, p x → (g b x).length ≤ b.length + c) : ∀ (xs : List α) (b : List Int), (∀ x ∈ xs, p x) → (xs.foldl g b).length ≤ b.length + xs.length * c
  | [], b, _ => by simp
  | x :: xs, b, h => by
    have h1 := foldl_len g c p hg xs (g b x) fun y hy => h y (by simp [hy])
    have h2 := hg b x (h x (by simp))
    simp only [List.foldl_cons, List.length_cons, Nat.add_mul]
    omega
theorem foldl_take_len {α : Type} (g : List Int → α → List Int) (c : Nat) (p : α → Prop) (hg : ∀ b x, p x → (g b x).length ≤ b.length + c) (xs : List α) (b : List Int) (h : ∀ x ∈ xs, p x) (i : Nat) (n : Nat) (hn : xs.length ≤ n) : ((xs.take i).foldl g b).length ≤ b.length + n * c := by
  have h1 := foldl_len g c p hg (xs.take i) b fun x hx => h x (List.mem_of_mem_take hx)
  have h2 : (xs.take i).length * c ≤ n * c := Nat.mul_le_mul_right _ (by simp; omega)
  omega
theorem foldl_all {α β : Type} (g : β → α → β) (b : β) (xs : List α) (i : Nat) (h : xs.length ≤ i) : (xs.take i).foldl g b = xs.foldl g b := by rw [List.take_of_length_le h]
def rawsB (b : List Int) (l : List (List Int)) : List Int := l.foldl (fun b x => b ++ x) b
theorem raws_len {b : List Int} {l : List (List Int)} {n : Nat} (hn : l.length ≤ n) (h : ∀ x ∈ l, x.length ≤ 1048576) (i : Nat) : ((l.take i).foldl (fun b x => b ++ x) b).length ≤ b.length + n * 1048576 :=
  foldl_take_len _ 1048576 (fun x => x.length ≤ 1048576) (fun b x hx => by simp only [List.length_append]; omega) l b h i n hn
def tcEnt (l : SLimits) (t : STc) (i : Nat) : Bool := decide (0 ≤ (t.f1.getD i default).f0 ∧ (t.f1.getD i default).f0 ≤ IntKind.i64.wrap (l.f0 - 1)) && (decide ((i : Int) ≤ 0) || decide ((t.f1.getD ((i : Int) - 1).toNat default).f0 < (t.f1.getD i default).f0)) && decide (0 ≤ (t.f1.getD i default).f1 ∧ (t.f1.getD i default).f1 ≤ IntKind.i64.wrap (t.f0 - 1)) && decide (((t.f1.getD i default).f2.length : Int) = 32)
def tcAll (l : SLimits) (t : STc) (n : Nat) : Bool := (List.range n).all (tcEnt l t)
def tcOk (l : SLimits) (t : STc) : Bool := limOk l && decide (0 ≤ t.f0 ∧ t.f0 ≤ 1152921504606846975) && decide ((t.f1.length : Int) ≤ l.f0) && tcAll l t t.f1.length
theorem tcAll_zero (l : SLimits) (t : STc) : tcAll l t 0 = true := rfl
theorem tcAll_succ (l : SLimits) (t : STc) (n : Nat) : tcAll l t (n + 1) = (tcAll l t n && tcEnt l t n) := by simp [tcAll, List.range_succ]
theorem tcAll_no {l : SLimits} {t : STc} {i n : Nat} (hi : i < n) (h : tcEnt l t i = false) : tcAll l t n = false := by
  cases hq : tcAll l t n with
  | false => rfl
  | true =>
    rw [tcAll, List.all_eq_true] at hq
    have := hq i (List.mem_range.2 hi)
    rw [h] at this; cases this
theorem tcOk_no {l : SLimits} {t : STc} {i : Nat} (hi : i < t.f1.length) (h : tcEnt l t i = false) : tcOk l t = false := by unfold tcOk; rw [tcAll_no hi h]; simp
theorem tcEnt_no {l : SLimits} {t : STc} {i : Nat} (h : ¬ ((0 ≤ (t.f1.getD i default).f0 ∧ (t.f1.getD i default).f0 ≤ IntKind.i64.wrap (l.f0 - 1)) ∧ ((i : Int) ≤ 0 ∨ (t.f1.getD ((i : Int) - 1).toNat default).f0 < (t.f1.getD i default).f0) ∧ (0 ≤ (t.f1.getD i default).f1 ∧ (t.f1.getD i default).f1 ≤ IntKind.i64.wrap (t.f0 - 1)) ∧ ((t.f1.getD i default).f2.length : Int) = 32)) : tcEnt l t i = false := by
  cases hq : tcEnt l t i with
  | false => rfl
  | true => simp only [tcEnt, Bool.and_eq_true, Bool.or_eq_true, decide_eq_true_eq] at hq; exact absurd ⟨hq.1.1.1, hq.1.1.2, hq.1.2, hq.2⟩ h
theorem tcEnt_yes {l : SLimits} {t : STc} {i : Nat} (h : (0 ≤ (t.f1.getD i default).f0 ∧ (t.f1.getD i default).f0 ≤ IntKind.i64.wrap (l.f0 - 1)) ∧ ((i : Int) ≤ 0 ∨ (t.f1.getD ((i : Int) - 1).toNat default).f0 < (t.f1.getD i default).f0) ∧ (0 ≤ (t.f1.getD i default).f1 ∧ (t.f1.getD i default).f1 ≤ IntKind.i64.wrap (t.f0 - 1)) ∧ ((t.f1.getD i default).f2.length : Int) = 32) : tcEnt l t i = true := by
  simp only [tcEnt, Bool.and_eq_true, Bool.or_eq_true, decide_eq_true_eq]; exact ⟨⟨⟨h.1, h.2.1⟩, h.2.2.1⟩, h.2.2.2⟩
def entB (b : List Int) (e : SEntry) : List Int := putVar (putVar b e.f0) e.f1 ++ e.f2
def putTcB (b : List Int) (t : STc) : List Int := t.f1.foldl entB (putVar (putVar b t.f0) (t.f1.length : Int))
def putTc (l : SLimits) (b : List Int) (t : STc) : List Int := if tcOk l t = true then putTcB b t else []
theorem entB_len (b : List Int) (e : SEntry) (h : e.f2.length ≤ 1048576) : (entB b e).length ≤ b.length + 1048594 := by
  have h1 := putVar_len b e.f0
  have h2 := putVar_len (putVar b e.f0) e.f1
  simp only [entB, List.length_append]; omega
theorem ents_len {b : List Int} {l : List SEntry} {n : Nat} (hn : l.length ≤ n) (h : ∀ x ∈ l, SEntry.sm x) (i : Nat) : ((l.take i).foldl entB b).length ≤ b.length + n * 1048594 :=
  foldl_take_len entB 1048594 (fun x => x.f2.length ≤ 1048576) (fun b x hx => entB_len b x hx) l b h i n hn
theorem putTc_len {l : SLimits} {b : List Int} {t : STc} (h : t.sm) : (putTc l b t).length ≤ b.length + 1099530502162 := by
  have h : t.f1.length ≤ 1048576 ∧ ∀ y ∈ t.f1, SEntry.sm y := h
  unfold putTc
  split
  · have h1 := putVar_len b t.f0
    have h2 := putVar_len (putVar b t.f0) (t.f1.length : Int)
    have h3 := ents_len (b := putVar (putVar b t.f0) (t.f1.length : Int)) h.1 h.2 t.f1.length
    rw [List.take_length] at h3
    unfold putTcB
    omega
  · simp
theorem ent_sm {l : List SEntry} (h : ∀ x ∈ l, SEntry.sm x) (i : Nat) : (l.getD i default).f2.length ≤ 1048576 := by
  rw [List.getD_eq_getElem?_getD]
  cases hx : l[i]? with
  | none => exact Nat.zero_le _
  | some x => exact h x (List.mem_of_getElem? hx)

theorem ok_laws_szByteS (a : List Int) (left : Int) (h0_ : 0 ≤ left) (h1_ : left ≤ 9223372036854775807) : RO Try.prog 76 [.one (.ints .u8 a), .one (.int .i64 left)] [(false, [.rd (.int .i64 (szB a left))])] := by
 refine RO.intro Try.func76 rfl 12 rfl (le_ok rfl) fun w Z => ?_
 refine T.bnd 0 0 rfl rfl fun hb_0_0 => ?_
 simp only [D.size, List.length_map] at hb_0_0
 refine T.seq ?_
 refine T.region ?_
 refine TL.cons rfl (Step.assign (p := (.one (.d (.int .i64 0)))) rfl rfl (lt_ok rfl) rfl) ?_
 refine TL.nil ?_
 refine T.seq ?_
 refine T.region ?_
 refine TL.cons rfl (Step.move (p := (.one (.d (.int .i64 left)))) rfl rfl (lt_ok rfl) rfl) ?_
 refine TL.cons rfl (Step.move (p := (.one (.d (.ints .u8 a)))) rfl rfl (lt_ok rfl) rfl) ?_
 refine TL.cons rfl (Step.len (e := 5) (z := 1) (d := (.ints .u8 a)) rfl rfl (lt_ok rfl) (by kernel_rfl) rfl rfl) ?_
 refine TL.cons rfl (Step.bin (r := .int .i64 (left - (a.length : Int))) rfl rfl (lt_ok rfl) rfl rfl (Bin.sub (a := left) (b := (a.length : Int)) (by first | exact wrap_ok (by first | omega | (simp; omega)) (by first | omega | (simp; omega)) | rfl))) ?_
 refine TL.cons rfl (Step.assign (p := (.one (.d (.int .i64 (left - (a.length : Int)))))) rfl rfl (lt_ok rfl) rfl) ?_
 refine TL.nil ?_
 refine T.seq ?_
 refine T.seq ?_
 refine T.region ?_
 refine TL.cons rfl (Step.move (p := (.one (.d (.int .i64 (left - (a.length : Int)))))) rfl rfl (lt_ok rfl) rfl) ?_
 refine TL.cons rfl (Step.bin rfl rfl (lt_ok rfl) rfl rfl (Bin.lss (k := .i64) (a := (left - (a.length : Int))) (b := 0))) ?_
 refine TL.nil ?_
 refine T.cond (b := decide ((left - (a.length : Int)) < 0)) rfl (fun h1 => ?_) (fun h1 => ?_)
 ·
  replace h1 := of_decide_eq_true h1
  refine T.seq ?_
  refine T.region ?_
  refine TL.cons rfl (Step.assign (p := (.one (.d (.int .i64 (-1))))) rfl rfl (lt_ok rfl) rfl) ?_
  refine TL.nil ?_
  refine T.ret ?_
  exact ⟨[(false, [.d (.int .i64 (-1))])], (.cons rfl .nil), rfl, [], (RetC.rd' (by (congr 1; unfold szB; split <;> omega)) .nil)⟩
 ·
  replace h1 := of_decide_eq_false h1
  refine T.skip ?_
  refine T.seq ?_
  refine T.region ?_
  refine TL.cons rfl (Step.move (p := (.one (.d (.int .i64 (left - (a.length : Int)))))) rfl rfl (lt_ok rfl) rfl) ?_
  refine TL.cons rfl (Step.assign (p := (.one (.d (.int .i64 (left - (a.length : Int)))))) rfl rfl (lt_ok rfl) rfl) ?_
  refine TL.nil ?_
  refine T.ret ?_
  exact ⟨[(false, [.d (.int .i64 (left - (a.length : Int)))])], (.cons rfl .nil), rfl, [], (RetC.rd' (by (congr 1; unfold szB; split <;> omega)) .nil)⟩
theorem ok_laws_szEntry (a : SEntry) (left : Int) (h0_ : 0 ≤ left) (h1_ : left ≤ 9223372036854775807) : RO Try.prog 136 [.agg a.cells, .one (.int .i64 left)] [(false, [.rd (.int .i64 (a.sz left))])] := by
 refine RO.intro Try.func136 rfl 12 rfl (le_ok rfl) fun w Z => ?_
 refine T.seq ?_
 refine T.region ?_
 refine TL.cons rfl (Step.box (p := (.agg [.d (.int .i64 a.f0), .d (.int .i64 a.f1), .d (.ints .u8 a.f2)])) (ps := [.d (.int .i64 a.f0), .d (.int .i64 a.f1), .d (.ints .u8 a.f2)]) rfl rfl (lt_ok rfl) rfl rfl rfl rfl rfl) ?_
 refine TL.cons rfl (Step.assign (p := (.one (.d (.int .i64 0)))) rfl rfl (lt_ok rfl) rfl) ?_
 refine TL.nil ?_
 refine T.seq ?_
 refine T.region ?_
 refine TL.cons rfl (Step.fieldAddr (q := 0) (off := 2) (n := 1) (one := true) rfl rfl (lt_ok rfl) (by kernel_rfl) (Nat.succ_ne_zero _) rfl) ?_
 refine TL.cons rfl (Step.load_box (c := .d (.ints .u8 a.f2)) rfl rfl (lt_ok rfl) (by kernel_rfl) rfl rfl rfl) ?_
 refine TL.cons rfl (Step.move (p := (.one (.d (.int .i64 left)))) rfl rfl (lt_ok rfl) rfl) ?_
 refine TL.cons rfl (Step.call (f := 76) (xs := [.tmp 6, .tmp 7]) (ps := [(.one (.d (.ints .u8 a.f2))), (.one (.d (.int .i64 left)))]) false (g := .func 76) rfl rfl (lt_ok rfl) rfl (by kernel_rfl) rfl (.cons (.one (.d _)) (.cons (.one (.d _)) .nil)) (ok_laws_szByteS a.f2 left (by omega) (by omega)) (.inr rfl) rfl (by simp) rfl) ?_
 refine TL.cons rfl (Step.assign (p := (.one (.d (.int .i64 (szB a.f2 left))))) rfl rfl (lt_ok rfl) rfl) ?_
 refine TL.nil ?_
 refine T.seq ?_
 refine T.seq ?_
 refine T.region ?_
 refine TL.cons rfl (Step.move (p := (.one (.d (.int .i64 (szB a.f2 left))))) rfl rfl (lt_ok rfl) rfl) ?_
 refine TL.cons rfl (Step.bin rfl rfl (lt_ok rfl) rfl rfl (Bin.lss (k := .i64) (a := (szB a.f2 left)) (b := 0))) ?_
 refine TL.nil ?_
 refine T.cond (b := decide ((szB a.f2 left) < 0)) rfl (fun h2 => ?_) (fun h2 => ?_)
 ·
  replace h2 := of_decide_eq_true h2
  refine T.seq ?_
  refine T.region ?_
  refine TL.cons rfl (Step.assign (p := (.one (.d (.int .i64 (-1))))) rfl rfl (lt_ok rfl) rfl) ?_
  refine TL.nil ?_
  refine T.ret ?_
  exact ⟨[(false, [.d (.int .i64 (-1))])], (.cons rfl .nil), rfl, [], (RetC.rd' (by first | rfl | (congr 1; simp only [SEntry.sz, szThen]; repeat' (split <;> try omega))) .nil)⟩
 ·
  replace h2 := of_decide_eq_false h2
  have z1_le : szB a.f2 left ≤ left := szB_le _ (by omega)
  refine T.skip ?_
  refine T.seq ?_
  refine T.region ?_
  refine TL.cons rfl (Step.move (p := (.one (.d (.int .i64 (szB a.f2 left))))) rfl rfl (lt_ok rfl) rfl) ?_
  refine TL.cons rfl (Step.assign (p := (.one (.d (.int .i64 (szB a.f2 left))))) rfl rfl (lt_ok rfl) rfl) ?_
  refine TL.nil ?_
  refine T.ret ?_
  exact ⟨[(false, [.d (.int .i64 (szB a.f2 left))])], (.cons rfl .nil), rfl, [], (RetC.rd' (by first | rfl | (congr 1; simp only [SEntry.sz, szThen]; repeat' (split <;> try omega))) .nil)⟩
theorem ok_laws_szEntryS (a : List SEntry) (left : Int) (h0_ : 0 ≤ left) (h1_ : left ≤ 9223372036854775807) : RO Try.prog 86 [.one (.sl 3 (a.map SEntry.cells)), .one (.int .i64 left)] [(false, [.rd (.int .i64 (szLs SEntry.sz a left))])] := by
 refine RO.intro Try.func86 rfl 27 rfl (le_ok rfl) fun w Z => ?_
 refine T.bnd 0 0 rfl rfl fun hb_0_0 => ?_
 simp only [D.size, List.length_map] at hb_0_0
 refine T.seq ?_
 refine T.region ?_
 refine TL.cons rfl (Step.assign (p := (.one (.d (.int .i64 0)))) rfl rfl (lt_ok rfl) rfl) ?_
 refine TL.nil ?_
 refine T.seq ?_
 refine T.region ?_
 refine TL.cons rfl (Step.move (p := (.one (.d (.int .i64 left)))) rfl rfl (lt_ok rfl) rfl) ?_
 refine TL.cons rfl (Step.move (p := (.one (.d (.sl 3 (a.map SEntry.cells))))) rfl rfl (lt_ok rfl) rfl) ?_
 refine TL.cons rfl (Step.len' (e := 162) (z := 3) (d := (.sl 3 (a.map SEntry.cells))) (n := a.length) rfl rfl (lt_ok rfl) (by kernel_rfl) rfl rfl (by simp [D.size])) ?_
 refine TL.cons rfl (Step.bin (r := .int .i64 (left - (a.length : Int))) rfl rfl (lt_ok rfl) rfl rfl (Bin.sub (a := left) (b := (a.length : Int)) (by first | exact wrap_ok (by first | omega | (simp; omega)) (by first | omega | (simp; omega)) | rfl))) ?_
 refine TL.cons rfl (Step.assign (p := (.one (.d (.int .i64 (left - (a.length : Int)))))) rfl rfl (lt_ok rfl) rfl) ?_
 refine TL.nil ?_
 refine T.seq ?_
 refine T.seq ?_
 refine T.region ?_
 refine TL.cons rfl (Step.move (p := (.one (.d (.int .i64 (left - (a.length : Int)))))) rfl rfl (lt_ok rfl) rfl) ?_
 refine TL.cons rfl (Step.bin rfl rfl (lt_ok rfl) rfl rfl (Bin.lss (k := .i64) (a := (left - (a.length : Int))) (b := 0))) ?_
 refine TL.nil ?_
 refine T.cond (b := decide ((left - (a.length : Int)) < 0)) rfl (fun h1 => ?_) (fun h1 => ?_)
 ·
  replace h1 := of_decide_eq_true h1
  refine T.seq ?_
  refine T.region ?_
  refine TL.cons rfl (Step.assign (p := (.one (.d (.int .i64 (-1))))) rfl rfl (lt_ok rfl) rfl) ?_
  refine TL.nil ?_
  refine T.ret ?_
  exact ⟨[(false, [.d (.int .i64 (-1))])], (.cons rfl .nil), rfl, [], (RetC.rd' (by (congr 1; first | (rw [← hx4, szL_drop (dflt := default) a i l (by omega), if_pos (by omega)]; done) | (rw [← hx4, List.drop_of_length_le (by omega)]; rfl) | (unfold szLs; rw [if_pos (by omega)]; done))) .nil)⟩
 ·
  replace h1 := of_decide_eq_false h1
  refine T.skip ?_
  refine T.seq ?_
  refine T.seq ?_
  refine T.region ?_
  refine TL.cons rfl (Step.assign (p := (.one (.d (.int .i64 0)))) rfl rfl (lt_ok rfl) rfl) ?_
  refine TL.nil ?_
  refine T.block ?_
  refine T.loop (ι := Nat × Int) (fun xx_ => { tm := [(0, (.one (.d (.sl 3 (a.map SEntry.cells))))), (5, (.one (.d (.int .i64 ((xx_.1) : Int))))), (1, (.one (.d (.int .i64 (xx_.2)))))], rows := [], boxes := [] }) (fun xx_ => (xx_.1) ≤ a.length ∧ 0 ≤ (xx_.2) ∧ (xx_.2) ≤ 9223372036854775807 ∧ szL SEntry.sz (a.drop (xx_.1)) (xx_.2) = szLs SEntry.sz a left) (fun xx_ => a.length - (xx_.1)) (0, left - (a.length : Int)) ?_ ?_ ?_
  · exact Env.le_mk ⟨rfl, by first | rfl | (simp; done) | (congr 3; omega), by first | rfl | (simp; done) | (congr 3; omega), trivial⟩ trivial trivial
  · (refine ⟨Nat.zero_le _, by omega, by omega, ?_⟩; unfold szLs; rw [if_neg (by omega), List.drop_zero])
  ·
   intro xx_ hx
   obtain ⟨i, l⟩ := xx_
   try dsimp only at hx ⊢
   obtain ⟨hx1, hx2, hx3, hx4⟩ := hx
   refine T.seq ?_
   refine T.seq ?_
   refine T.region ?_
   refine TL.cons rfl (Step.move (p := (.one (.d (.int .i64 (i : Int))))) rfl rfl (lt_ok rfl) rfl) ?_
   refine TL.cons rfl (Step.move (p := (.one (.d (.sl 3 (a.map SEntry.cells))))) rfl rfl (lt_ok rfl) rfl) ?_
   refine TL.cons rfl (Step.len' (e := 162) (z := 3) (d := (.sl 3 (a.map SEntry.cells))) (n := a.length) rfl rfl (lt_ok rfl) (by kernel_rfl) rfl rfl (by simp [D.size])) ?_
   refine TL.cons rfl (Step.bin rfl rfl (lt_ok rfl) rfl rfl (Bin.lss (k := .i64) (a := (i : Int)) (b := (a.length : Int)))) ?_
   refine TL.nil ?_
   refine T.cond (b := decide ((i : Int) < (a.length : Int))) rfl (fun h2 => ?_) (fun h2 => ?_)
   ·
    replace h2 := of_decide_eq_true h2
    refine T.skip ?_
    refine T.seq ?_
    refine T.block ?_
    refine T.seq ?_
    refine T.region ?_
    refine TL.cons rfl (Step.move (p := (.one (.d (.sl 3 (a.map SEntry.cells))))) rfl rfl (lt_ok rfl) rfl) ?_
    refine TL.cons rfl (Step.move (p := (.one (.d (.int .i64 (i : Int))))) rfl rfl (lt_ok rfl) rfl) ?_
    refine TL.cons rfl (Step.index (e := 162) (z := 3) (i := (i : Int)) rfl rfl (lt_ok rfl) (by kernel_rfl) rfl rfl rfl (lt_ok rfl) rfl (by first | omega | (simp; omega)) (by simp only [D.size]; first | omega | (simp; omega))) ?_
    refine TL.cons rfl (Step.load_agg (n := 3) (cs := [.d (.int .i64 (a.getD i default).f0), .d (.int .i64 (a.getD i default).f1), .d (.ints .u8 (a.getD i default).f2)]) rfl rfl (lt_ok rfl) (by kernel_rfl) rfl rfl (by simp only [List.range, List.range.loop, List.map_cons, List.map_nil]; rw [cell_map default (by first | omega | (simp; omega)), cell_map default (by first | omega | (simp; omega)), cell_map default (by first | omega | (simp; omega))]; rfl)) ?_
    refine TL.cons rfl (Step.move (p := (.one (.d (.int .i64 l)))) rfl rfl (lt_ok rfl) rfl) ?_
    refine TL.cons rfl (Step.call (f := 136) (xs := [.tmp 21, .tmp 22]) (ps := [(.agg [.d (.int .i64 (a.getD i default).f0), .d (.int .i64 (a.getD i default).f1), .d (.ints .u8 (a.getD i default).f2)]), (.one (.d (.int .i64 l)))]) false (g := .func 136) rfl rfl (lt_ok rfl) rfl (by kernel_rfl) rfl (.cons (.agg (.cons (.d _) (.cons (.d _) (.cons (.d _) .nil)))) (.cons (.one (.d _)) .nil)) (ok_laws_szEntry (a.getD i default) l (by omega) (by omega)) (.inr rfl) rfl (by simp) rfl) ?_
    refine TL.cons rfl (Step.assign (p := (.one (.d (.int .i64 ((a.getD i default).sz l))))) rfl rfl (lt_ok rfl) rfl) ?_
    refine TL.nil ?_
    refine T.seq ?_
    refine T.region ?_
    refine TL.cons rfl (Step.move (p := (.one (.d (.int .i64 ((a.getD i default).sz l))))) rfl rfl (lt_ok rfl) rfl) ?_
    refine TL.cons rfl (Step.bin rfl rfl (lt_ok rfl) rfl rfl (Bin.lss (k := .i64) (a := ((a.getD i default).sz l)) (b := 0))) ?_
    refine TL.nil ?_
    refine T.cond (b := decide (((a.getD i default).sz l) < 0)) rfl (fun h4 => ?_) (fun h4 => ?_)
    ·
     replace h4 := of_decide_eq_true h4
     refine T.seq ?_
     refine T.region ?_
     refine TL.cons rfl (Step.assign (p := (.one (.d (.int .i64 (-1))))) rfl rfl (lt_ok rfl) rfl) ?_
     refine TL.nil ?_
     refine T.ret ?_
     exact ⟨[(false, [.d (.int .i64 (-1))])], (.cons rfl .nil), rfl, [], (RetC.rd' (by (congr 1; first | (rw [← hx4, szL_drop (dflt := default) a i l (by omega), if_pos (by omega)]; done) | (rw [← hx4, List.drop_of_length_le (by omega)]; rfl) | (unfold szLs; rw [if_pos (by omega)]; done))) .nil)⟩
    ·
     replace h4 := of_decide_eq_false h4
     have z3_le : (a.getD i default).sz l ≤ l := SEntry.sz_le _ (by omega)
     refine T.skip ?_
     refine T.region ?_
     refine TL.cons rfl (Step.move (p := (.one (.d (.int .i64 (i : Int))))) rfl rfl (lt_ok rfl) rfl) ?_
     refine TL.cons rfl (Step.bin (r := .int .i64 ((i : Int) + 1)) rfl rfl (lt_ok rfl) rfl rfl (Bin.add (a := (i : Int)) (b := 1) (by first | exact wrap_ok (by first | omega | (simp; omega)) (by first | omega | (simp; omega)) | rfl))) ?_
     refine TL.cons rfl (Step.assign (p := (.one (.d (.int .i64 ((i : Int) + 1))))) rfl rfl (lt_ok rfl) rfl) ?_
     refine TL.nil ?_
     exact ⟨(i + 1, (SEntry.sz (a.getD i default) l)), by (refine ⟨by omega, by omega, by omega, ?_⟩; rw [← hx4, szL_drop (dflt := default) a i l (by omega), if_neg (by omega)]), by (dsimp only; omega), Env.le_mk ⟨rfl, by first | rfl | (simp; done) | (congr 3; omega), by first | rfl | (simp; done) | (congr 3; omega), trivial⟩ trivial trivial⟩
   ·
    replace h2 := of_decide_eq_false h2
    refine T.exit ?_
    refine T.seq ?_
    refine T.region ?_
    refine TL.cons rfl (Step.move (p := (.one (.d (.int .i64 l)))) rfl rfl (lt_ok rfl) rfl) ?_
    refine TL.cons rfl (Step.assign (p := (.one (.d (.int .i64 l)))) rfl rfl (lt_ok rfl) rfl) ?_
    refine TL.nil ?_
    refine T.ret ?_
    exact ⟨[(false, [.d (.int .i64 l)])], (.cons rfl .nil), rfl, [], (RetC.rd' (by (congr 1; first | (rw [← hx4, szL_drop (dflt := default) a i l (by omega), if_pos (by omega)]; done) | (rw [← hx4, List.drop_of_length_le (by omega)]; rfl) | (unfold szLs; rw [if_pos (by omega)]; done))) .nil)⟩
theorem ok_laws_szTc (a : STc) (left : Int) (h0_ : 0 ≤ left) (h1_ : left ≤ 9223372036854775807) : RO Try.prog 24 [.agg a.cells, .one (.int .i64 left)] [(false, [.rd (.int .i64 (a.sz left))])] := by
 refine RO.intro Try.func24 rfl 12 rfl (le_ok rfl) fun w Z => ?_
 refine T.seq ?_
 refine T.region ?_
 refine TL.cons rfl (Step.box (p := (.agg [.d (.int .i64 a.f0), .d (.sl 3 (a.f1.map SEntry.cells))])) (ps := [.d (.int .i64 a.f0), .d (.sl 3 (a.f1.map SEntry.cells))]) rfl rfl (lt_ok rfl) rfl rfl rfl rfl rfl) ?_
 refine TL.cons rfl (Step.assign (p := (.one (.d (.int .i64 0)))) rfl rfl (lt_ok rfl) rfl) ?_
 refine TL.nil ?_
 refine T.seq ?_
 refine T.region ?_
 refine TL.cons rfl (Step.fieldAddr (q := 0) (off := 1) (n := 1) (one := true) rfl rfl (lt_ok rfl) (by kernel_rfl) (Nat.succ_ne_zero _) rfl) ?_
 refine TL.cons rfl (Step.load_box (c := .d (.sl 3 (a.f1.map SEntry.cells))) rfl rfl (lt_ok rfl) (by kernel_rfl) rfl rfl rfl) ?_
 refine TL.cons rfl (Step.move (p := (.one (.d (.int .i64 left)))) rfl rfl (lt_ok rfl) rfl) ?_
 refine TL.cons rfl (Step.call (f := 86) (xs := [.tmp 6, .tmp 7]) (ps := [(.one (.d (.sl 3 (a.f1.map SEntry.cells)))), (.one (.d (.int .i64 left)))]) false (g := .func 86) rfl rfl (lt_ok rfl) rfl (by kernel_rfl) rfl (.cons (.one (.d _)) (.cons (.one (.d _)) .nil)) (ok_laws_szEntryS a.f1 left (by omega) (by omega)) (.inr rfl) rfl (by simp) rfl) ?_
 refine TL.cons rfl (Step.assign (p := (.one (.d (.int .i64 (szLs SEntry.sz a.f1 left))))) rfl rfl (lt_ok rfl) rfl) ?_
 refine TL.nil ?_
 refine T.seq ?_
 refine T.seq ?_
 refine T.region ?_
 refine TL.cons rfl (Step.move (p := (.one (.d (.int .i64 (szLs SEntry.sz a.f1 left))))) rfl rfl (lt_ok rfl) rfl) ?_
 refine TL.cons rfl (Step.bin rfl rfl (lt_ok rfl) rfl rfl (Bin.lss (k := .i64) (a := (szLs SEntry.sz a.f1 left)) (b := 0))) ?_
 refine TL.nil ?_
 refine T.cond (b := decide ((szLs SEntry.sz a.f1 left) < 0)) rfl (fun h2 => ?_) (fun h2 => ?_)
 ·
  replace h2 := of_decide_eq_true h2
  refine T.seq ?_
  refine T.region ?_
  refine TL.cons rfl (Step.assign (p := (.one (.d (.int .i64 (-1))))) rfl rfl (lt_ok rfl) rfl) ?_
  refine TL.nil ?_
  refine T.ret ?_
  exact ⟨[(false, [.d (.int .i64 (-1))])], (.cons rfl .nil), rfl, [], (RetC.rd' (by first | rfl | (congr 1; simp only [STc.sz, szThen]; repeat' (split <;> try omega))) .nil)⟩
 ·
  replace h2 := of_decide_eq_false h2
  have z1_le : szLs SEntry.sz a.f1 left ≤ left := szLs_le (fun x l h => SEntry.sz_le x h) _ (by omega)
  refine T.skip ?_
  refine T.seq ?_
  refine T.region ?_
  refine TL.cons rfl (Step.move (p := (.one (.d (.int .i64 (szLs SEntry.sz a.f1 left))))) rfl rfl (lt_ok rfl) rfl) ?_
  refine TL.cons rfl (Step.assign (p := (.one (.d (.int .i64 (szLs SEntry.sz a.f1 left))))) rfl rfl (lt_ok rfl) rfl) ?_
  refine TL.nil ?_
  refine T.ret ?_
  exact ⟨[(false, [.d (.int .i64 (szLs SEntry.sz a.f1 left))])], (.cons rfl .nil), rfl, [], (RetC.rd' (by first | rfl | (congr 1; simp only [STc.sz, szThen]; repeat' (split <;> try omega))) .nil)⟩
theorem ok_laws_toLimits (a : SLimits) : RO Try.prog 26 [.agg a.cells] [(true, [.rd (.int .i64 a.f0), .rd (.int .i64 a.f1), .rd (.int .i64 a.f2), .rd (.int .i64 a.f3), .rd (.int .i64 a.f4)])] := by
 refine RO.intro Try.func26 rfl 20 rfl (le_ok rfl) fun w Z => ?_
 refine T.seq ?_
 refine T.region ?_
 refine TL.cons rfl (Step.box (p := (.agg [.d (.int .i64 a.f0), .d (.int .i64 a.f1), .d (.int .i64 a.f2), .d (.int .i64 a.f3), .d (.int .i64 a.f4)])) (ps := [.d (.int .i64 a.f0), .d (.int .i64 a.f1), .d (.int .i64 a.f2), .d (.int .i64 a.f3), .d (.int .i64 a.f4)]) rfl rfl (lt_ok rfl) rfl rfl rfl rfl rfl) ?_
 refine TL.cons rfl (Step.alloc (cs := [.int .i64 0, .int .i64 0, .int .i64 0, .int .i64 0, .int .i64 0]) (ps := [.d (.int .i64 0), .d (.int .i64 0), .d (.int .i64 0), .d (.int .i64 0), .d (.int .i64 0)]) rfl rfl (lt_ok rfl) (by kernel_rfl) rfl rfl rfl rfl) ?_
 refine TL.nil ?_
 refine T.seq ?_
 refine T.region ?_
 refine TL.cons rfl (Step.alloc (cs := [.int .i64 0, .int .i64 0, .int .i64 0, .int .i64 0, .int .i64 0]) (ps := [.d (.int .i64 0), .d (.int .i64 0), .d (.int .i64 0), .d (.int .i64 0), .d (.int .i64 0)]) rfl rfl (lt_ok rfl) (by kernel_rfl) rfl rfl rfl rfl) ?_
 refine TL.nil ?_
 refine T.seq ?_
 refine T.region ?_
 refine TL.cons rfl (Step.fieldAddr (q := 0) (off := 0) (n := 1) (one := true) rfl rfl (lt_ok rfl) (by kernel_rfl) (Nat.succ_ne_zero _) rfl) ?_
 refine TL.cons rfl (Step.load_box (c := .d (.int .i64 a.f0)) rfl rfl (lt_ok rfl) (by kernel_rfl) rfl rfl rfl) ?_
 refine TL.cons rfl (Step.fieldAddr (q := 0) (off := 0) (n := 1) (one := true) rfl rfl (lt_ok rfl) (by kernel_rfl) (Nat.succ_ne_zero _) rfl) ?_
 refine TL.cons rfl (Step.store_box (n := 1) (p := (.one (.d (.int .i64 a.f0)))) (qs := [.d (.int .i64 a.f0)]) (ps' := [.d (.int .i64 a.f0), .d (.int .i64 0), .d (.int .i64 0), .d (.int .i64 0), .d (.int .i64 0)]) rfl rfl (by kernel_rfl) rfl rfl rfl rfl rfl rfl (le_ok rfl) rfl) ?_
 refine TL.nil ?_
 refine T.seq ?_
 refine T.region ?_
 refine TL.cons rfl (Step.fieldAddr (q := 0) (off := 1) (n := 1) (one := true) rfl rfl (lt_ok rfl) (by kernel_rfl) (Nat.succ_ne_zero _) rfl) ?_
 refine TL.cons rfl (Step.load_box (c := .d (.int .i64 a.f1)) rfl rfl (lt_ok rfl) (by kernel_rfl) rfl rfl rfl) ?_
 refine TL.cons rfl (Step.fieldAddr (q := 0) (off := 1) (n := 1) (one := true) rfl rfl (lt_ok rfl) (by kernel_rfl) (Nat.succ_ne_zero _) rfl) ?_
 refine TL.cons rfl (Step.store_box (n := 1) (p := (.one (.d (.int .i64 a.f1)))) (qs := [.d (.int .i64 a.f1)]) (ps' := [.d (.int .i64 a.f0), .d (.int .i64 a.f1), .d (.int .i64 0), .d (.int .i64 0), .d (.int .i64 0)]) rfl rfl (by kernel_rfl) rfl rfl rfl rfl rfl rfl (le_ok rfl) rfl) ?_
 refine TL.nil ?_
 refine T.seq ?_
 refine T.region ?_
 refine TL.cons rfl (Step.fieldAddr (q := 0) (off := 2) (n := 1) (one := true) rfl rfl (lt_ok rfl) (by kernel_rfl) (Nat.succ_ne_zero _) rfl) ?_
 refine TL.cons rfl (Step.load_box (c := .d (.int .i64 a.f2)) rfl rfl (lt_ok rfl) (by kernel_rfl) rfl rfl rfl) ?_
 refine TL.cons rfl (Step.fieldAddr (q := 0) (off := 2) (n := 1) (one := true) rfl rfl (lt_ok rfl) (by kernel_rfl) (Nat.succ_ne_zero _) rfl) ?_
 refine TL.cons rfl (Step.store_box (n := 1) (p := (.one (.d (.int .i64 a.f2)))) (qs := [.d (.int .i64 a.f2)]) (ps' := [.d (.int .i64 a.f0), .d (.int .i64 a.f1), .d (.int .i64 a.f2), .d (.int .i64 0), .d (.int .i64 0)]) rfl rfl (by kernel_rfl) rfl rfl rfl rfl rfl rfl (le_ok rfl) rfl) ?_
 refine TL.nil ?_
 refine T.seq ?_
 refine T.region ?_
 refine TL.cons rfl (Step.fieldAddr (q := 0) (off := 3) (n := 1) (one := true) rfl rfl (lt_ok rfl) (by kernel_rfl) (Nat.succ_ne_zero _) rfl) ?_
 refine TL.cons rfl (Step.load_box (c := .d (.int .i64 a.f3)) rfl rfl (lt_ok rfl) (by kernel_rfl) rfl rfl rfl) ?_
 refine TL.cons rfl (Step.fieldAddr (q := 0) (off := 3) (n := 1) (one := true) rfl rfl (lt_ok rfl) (by kernel_rfl) (Nat.succ_ne_zero _) rfl) ?_
 refine TL.cons rfl (Step.store_box (n := 1) (p := (.one (.d (.int .i64 a.f3)))) (qs := [.d (.int .i64 a.f3)]) (ps' := [.d (.int .i64 a.f0), .d (.int .i64 a.f1), .d (.int .i64 a.f2), .d (.int .i64 a.f3), .d (.int .i64 0)]) rfl rfl (by kernel_rfl) rfl rfl rfl rfl rfl rfl (le_ok rfl) rfl) ?_
 refine TL.nil ?_
 refine T.seq ?_
 refine T.region ?_
 refine TL.cons rfl (Step.fieldAddr (q := 0) (off := 4) (n := 1) (one := true) rfl rfl (lt_ok rfl) (by kernel_rfl) (Nat.succ_ne_zero _) rfl) ?_
 refine TL.cons rfl (Step.load_box (c := .d (.int .i64 a.f4)) rfl rfl (lt_ok rfl) (by kernel_rfl) rfl rfl rfl) ?_
 refine TL.cons rfl (Step.fieldAddr (q := 0) (off := 4) (n := 1) (one := true) rfl rfl (lt_ok rfl) (by kernel_rfl) (Nat.succ_ne_zero _) rfl) ?_
 refine TL.cons rfl (Step.store_box (n := 1) (p := (.one (.d (.int .i64 a.f4)))) (qs := [.d (.int .i64 a.f4)]) (ps' := [.d (.int .i64 a.f0), .d (.int .i64 a.f1), .d (.int .i64 a.f2), .d (.int .i64 a.f3), .d (.int .i64 a.f4)]) rfl rfl (by kernel_rfl) rfl rfl rfl rfl rfl rfl (le_ok rfl) rfl) ?_
 refine TL.nil ?_
 refine T.seq ?_
 refine T.region ?_
 refine TL.cons rfl (Step.load_box_agg (n := 5) (qs := [.d (.int .i64 a.f0), .d (.int .i64 a.f1), .d (.int .i64 a.f2), .d (.int .i64 a.f3), .d (.int .i64 a.f4)]) rfl rfl (lt_ok rfl) (by kernel_rfl) rfl rfl rfl rfl) ?_
 refine TL.cons rfl (Step.store_box (n := 5) (p := (.agg [.d (.int .i64 a.f0), .d (.int .i64 a.f1), .d (.int .i64 a.f2), .d (.int .i64 a.f3), .d (.int .i64 a.f4)])) (qs := [.d (.int .i64 a.f0), .d (.int .i64 a.f1), .d (.int .i64 a.f2), .d (.int .i64 a.f3), .d (.int .i64 a.f4)]) (ps' := [.d (.int .i64 a.f0), .d (.int .i64 a.f1), .d (.int .i64 a.f2), .d (.int .i64 a.f3), .d (.int .i64 a.f4)]) rfl rfl (by kernel_rfl) rfl rfl rfl rfl rfl rfl (le_ok rfl) rfl) ?_
 refine TL.nil ?_
 refine T.ret ?_
 exact ⟨[(true, [.d (.int .i64 a.f0), .d (.int .i64 a.f1), .d (.int .i64 a.f2), .d (.int .i64 a.f3), .d (.int .i64 a.f4)])], (.cons rfl .nil), rfl, [], (RetC.rd' (by rfl) (RetC.rd' (by rfl) (RetC.rd' (by rfl) (RetC.rd' (by rfl) (RetC.rd' (by rfl) .nil)))))⟩
theorem ok_laws_toByteS (a : List Int) (h0_ : a.length ≤ 1048576) : RO Try.prog 49 [.one (.ints .u8 a)] [(false, [.own 5 (.ints .u8 a)])] := by
 refine RO.intro Try.func49 rfl 22 rfl (le_ok rfl) fun w Z => ?_
 refine T.bnd 0 0 rfl rfl fun hb_0_0 => ?_
 simp only [D.size, List.length_map] at hb_0_0
 have h0b := h0_
 refine T.seq ?_
 refine T.region ?_
 refine TL.cons rfl (Step.assign (p := (.one (.nil))) rfl rfl (lt_ok rfl) rfl) ?_
 refine TL.nil ?_
 refine T.seq ?_
 refine T.region ?_
 refine TL.cons rfl (Step.move (p := (.one (.d (.ints .u8 a)))) rfl rfl (lt_ok rfl) rfl) ?_
 refine TL.cons rfl (Step.len (e := 5) (z := 1) (d := (.ints .u8 a)) rfl rfl (lt_ok rfl) (by kernel_rfl) rfl rfl) ?_
 refine TL.cons rfl (Step.make (e := 5) (z := 1) (by_ := 1) (n := (a.length : Int)) (zs := [.int .u8 0]) (zd := [.int .u8 0]) (d := (.ints .u8 (List.replicate a.length 0))) rfl rfl (lt_ok rfl) (by kernel_rfl) (lt_ok rfl) rfl (by first | omega | (simp; omega)) (by first | omega | (simp; omega)) (by first | omega | (simp; omega)) (by kernel_rfl) (.val rfl .nil) rfl (by simp) (by simp [D.flat, List.flatten_replicate_singleton]) (by simp [D.size]) rfl trivial) ?_
 refine TL.cons rfl (Step.assign (p := (.one (.row 7 []))) rfl rfl (lt_ok rfl) rfl) ?_
 refine TL.nil ?_
 refine T.seq ?_
 refine T.seq ?_
 refine T.region ?_
 refine TL.cons rfl (Step.assign (p := (.one (.d (.int .i64 0)))) rfl rfl (lt_ok rfl) rfl) ?_
 refine TL.nil ?_
 refine T.block ?_
 refine T.loop (ι := Nat) (fun xx_ => { tm := [(0, (.one (.d (.ints .u8 a)))), (2, (.one (.nil))), (3, (.one (.row 7 []))), (4, (.one (.d (.int .i64 (xx_ : Int)))))], rows := [(7, (5, (.ints .u8 (a.take xx_ ++ List.replicate (a.length - xx_) 0 : List Int))))], boxes := [] }) (fun xx_ => xx_ ≤ a.length) (fun xx_ => a.length - xx_) 0 ?_ ?_ ?_
 · exact Env.le_mk ⟨rfl, rfl, rfl, by first | rfl | exact congrArg (fun x => some (5, ((.ints .u8 x) : D))) (fill_set a 0 0 i (by omega)), trivial⟩ ⟨by first | rfl | exact congrArg (fun x => some (5, ((.ints .u8 x) : D))) (fill_set a 0 0 i (by omega)), trivial⟩ trivial
 · exact Nat.zero_le _
 ·
  intro i hx
  try dsimp only at hx ⊢
  refine T.seq ?_
  refine T.seq ?_
  refine T.region ?_
  refine TL.cons rfl (Step.move (p := (.one (.d (.int .i64 (i : Int))))) rfl rfl (lt_ok rfl) rfl) ?_
  refine TL.cons rfl (Step.move (p := (.one (.d (.ints .u8 a)))) rfl rfl (lt_ok rfl) rfl) ?_
  refine TL.cons rfl (Step.len (e := 5) (z := 1) (d := (.ints .u8 a)) rfl rfl (lt_ok rfl) (by kernel_rfl) rfl rfl) ?_
  refine TL.cons rfl (Step.bin rfl rfl (lt_ok rfl) rfl rfl (Bin.lss (k := .i64) (a := (i : Int)) (b := (a.length : Int)))) ?_
  refine TL.nil ?_
  refine T.cond (b := decide ((i : Int) < (a.length : Int))) rfl (fun h1 => ?_) (fun h1 => ?_)
  ·
   replace h1 := of_decide_eq_true h1
   refine T.skip ?_
   refine T.seq ?_
   refine T.block ?_
   refine T.region ?_
   refine TL.cons rfl (Step.move (p := (.one (.row 7 []))) rfl rfl (lt_ok rfl) rfl) ?_
   refine TL.cons rfl (Step.move (p := (.one (.d (.int .i64 (i : Int))))) rfl rfl (lt_ok rfl) rfl) ?_
   refine TL.cons rfl (Step.move (p := (.one (.d (.ints .u8 a)))) rfl rfl (lt_ok rfl) rfl) ?_
   refine TL.cons rfl (Step.move (p := (.one (.d (.int .i64 (i : Int))))) rfl rfl (lt_ok rfl) rfl) ?_
   refine TL.cons rfl (Step.index (e := 5) (z := 1) (i := (i : Int)) rfl rfl (lt_ok rfl) (by kernel_rfl) rfl rfl rfl (lt_ok rfl) rfl (by first | omega | (simp; omega)) (by simp only [D.size]; first | omega | (simp; omega))) ?_
   refine TL.cons rfl (Step.load (e := (.int .u8 (a.getD i 0))) rfl rfl (lt_ok rfl) (by kernel_rfl) rfl rfl) ?_
   refine TL.cons rfl (Step.index_row (e := 5) (z := 1) (i := (i : Int)) rfl rfl (lt_ok rfl) (by kernel_rfl) rfl rfl rfl rfl (lt_ok rfl) rfl (by first | omega | (simp; omega)) (by simp only [D.at_, D.cell, D.size]; first | omega | (simp; omega))) ?_
   refine TL.cons rfl (Step.store_row (n := 1) (p := (.one (.d (.int .u8 (a.getD i 0))))) (ps := [.d (.int .u8 (a.getD i 0))]) (es := [(.int .u8 (a.getD i 0))]) (ss := []) (d1 := (.ints .u8 ((a.take i ++ List.replicate (a.length - i) 0 : List Int).set i (a.getD i 0)))) (d' := (.ints .u8 ((a.take i ++ List.replicate (a.length - i) 0 : List Int).set i (a.getD i 0)))) rfl rfl (by kernel_rfl) rfl rfl rfl rfl rfl rfl (.val rfl .nil) (by simp) (Putd.one rfl trivial rfl (by simp only [D.at_, D.size, List.length_set, upTo_length]; first | omega | (simp; omega)) (lt_ok rfl)) rfl) ?_
   refine TL.nil ?_
   refine T.region ?_
   refine TL.cons rfl (Step.move (p := (.one (.d (.int .i64 (i : Int))))) rfl rfl (lt_ok rfl) rfl) ?_
   refine TL.cons rfl (Step.bin (r := .int .i64 ((i : Int) + 1)) rfl rfl (lt_ok rfl) rfl rfl (Bin.add (a := (i : Int)) (b := 1) (by first | exact wrap_ok (by first | omega | (simp; omega)) (by first | omega | (simp; omega)) | rfl))) ?_
   refine TL.cons rfl (Step.assign (p := (.one (.d (.int .i64 ((i : Int) + 1))))) rfl rfl (lt_ok rfl) rfl) ?_
   refine TL.nil ?_
   exact ⟨i + 1, by omega, by omega, Env.le_mk ⟨rfl, rfl, rfl, by first | rfl | exact congrArg (fun x => some (5, ((.ints .u8 x) : D))) (fill_set a 0 0 i (by omega)), trivial⟩ ⟨by first | rfl | exact congrArg (fun x => some (5, ((.ints .u8 x) : D))) (fill_set a 0 0 i (by omega)), trivial⟩ trivial⟩
  ·
   replace h1 := of_decide_eq_false h1
   refine T.exit ?_
   refine T.seq ?_
   refine T.region ?_
   refine TL.cons rfl (Step.move (p := (.one (.row 7 []))) rfl rfl (lt_ok rfl) rfl) ?_
   refine TL.cons rfl (Step.assign (p := (.one (.row 7 []))) rfl rfl (lt_ok rfl) rfl) ?_
   refine TL.nil ?_
   refine T.ret ?_
   exact ⟨[(false, [.row 7 []])], (.cons rfl .nil), rfl, [7], (RetC.own' rfl (by first | rfl | (congr 1; rw [fill_all' _ _ _ (by omega)]) | (rw [fill_all' _ _ _ (by omega)])) rfl .nil)⟩
theorem ok_laws_toEntry (a : SEntry) (h0_ : a.sm) : RO Try.prog 143 [.agg a.cells] [(true, [.rd (.int .i64 a.f0), .rd (.int .i64 a.f1), .own 5 (.ints .u8 a.f2)])] := by
 refine RO.intro Try.func143 rfl 15 rfl (le_ok rfl) fun w Z => ?_
 have s0 : a.f2.length ≤ 1048576 := h0_
 refine T.seq ?_
 refine T.region ?_
 refine TL.cons rfl (Step.box (p := (.agg [.d (.int .i64 a.f0), .d (.int .i64 a.f1), .d (.ints .u8 a.f2)])) (ps := [.d (.int .i64 a.f0), .d (.int .i64 a.f1), .d (.ints .u8 a.f2)]) rfl rfl (lt_ok rfl) rfl rfl rfl rfl rfl) ?_
 refine TL.cons rfl (Step.alloc (cs := [.int .i64 0, .int .i64 0, .slice none 0 0]) (ps := [.d (.int .i64 0), .d (.int .i64 0), .nil]) rfl rfl (lt_ok rfl) (by kernel_rfl) rfl rfl rfl rfl) ?_
 refine TL.nil ?_
 refine T.seq ?_
 refine T.region ?_
 refine TL.cons rfl (Step.alloc (cs := [.int .i64 0, .int .i64 0, .slice none 0 0]) (ps := [.d (.int .i64 0), .d (.int .i64 0), .nil]) rfl rfl (lt_ok rfl) (by kernel_rfl) rfl rfl rfl rfl) ?_
 refine TL.nil ?_
 refine T.seq ?_
 refine T.region ?_
 refine TL.cons rfl (Step.fieldAddr (q := 0) (off := 0) (n := 1) (one := true) rfl rfl (lt_ok rfl) (by kernel_rfl) (Nat.succ_ne_zero _) rfl) ?_
 refine TL.cons rfl (Step.load_box (c := .d (.int .i64 a.f0)) rfl rfl (lt_ok rfl) (by kernel_rfl) rfl rfl rfl) ?_
 refine TL.cons rfl (Step.fieldAddr (q := 0) (off := 0) (n := 1) (one := true) rfl rfl (lt_ok rfl) (by kernel_rfl) (Nat.succ_ne_zero _) rfl) ?_
 refine TL.cons rfl (Step.store_box (n := 1) (p := (.one (.d (.int .i64 a.f0)))) (qs := [.d (.int .i64 a.f0)]) (ps' := [.d (.int .i64 a.f0), .d (.int .i64 0), .nil]) rfl rfl (by kernel_rfl) rfl rfl rfl rfl rfl rfl (le_ok rfl) rfl) ?_
 refine TL.nil ?_
 refine T.seq ?_
 refine T.region ?_
 refine TL.cons rfl (Step.fieldAddr (q := 0) (off := 1) (n := 1) (one := true) rfl rfl (lt_ok rfl) (by kernel_rfl) (Nat.succ_ne_zero _) rfl) ?_
 refine TL.cons rfl (Step.load_box (c := .d (.int .i64 a.f1)) rfl rfl (lt_ok rfl) (by kernel_rfl) rfl rfl rfl) ?_
 refine TL.cons rfl (Step.fieldAddr (q := 0) (off := 1) (n := 1) (one := true) rfl rfl (lt_ok rfl) (by kernel_rfl) (Nat.succ_ne_zero _) rfl) ?_
 refine TL.cons rfl (Step.store_box (n := 1) (p := (.one (.d (.int .i64 a.f1)))) (qs := [.d (.int .i64 a.f1)]) (ps' := [.d (.int .i64 a.f0), .d (.int .i64 a.f1), .nil]) rfl rfl (by kernel_rfl) rfl rfl rfl rfl rfl rfl (le_ok rfl) rfl) ?_
 refine TL.nil ?_
 refine T.seq ?_
 refine T.region ?_
 refine TL.cons rfl (Step.fieldAddr (q := 0) (off := 2) (n := 1) (one := true) rfl rfl (lt_ok rfl) (by kernel_rfl) (Nat.succ_ne_zero _) rfl) ?_
 refine TL.cons rfl (Step.load_box (c := .d (.ints .u8 a.f2)) rfl rfl (lt_ok rfl) (by kernel_rfl) rfl rfl rfl) ?_
 refine TL.cons rfl (Step.call (f := 49) (xs := [.tmp 11]) (ps := [(.one (.d (.ints .u8 a.f2)))]) false (g := .func 49) rfl rfl (lt_ok rfl) rfl (by kernel_rfl) rfl (.cons (.one (.d _)) .nil) (ok_laws_toByteS a.f2 (by first | omega | assumption | exact mem_getD h0_.2 (by omega))) (.inr rfl) rfl (by simp) rfl) ?_
 refine TL.cons rfl (Step.fieldAddr (q := 0) (off := 2) (n := 1) (one := true) rfl rfl (lt_ok rfl) (by kernel_rfl) (Nat.succ_ne_zero _) rfl) ?_
 refine TL.cons rfl (Step.store_box (n := 1) (p := (.one (.row 1012 []))) (qs := [.row 1012 []]) (ps' := [.d (.int .i64 a.f0), .d (.int .i64 a.f1), .row 1012 []]) rfl rfl (by kernel_rfl) rfl rfl rfl rfl rfl rfl (le_ok rfl) rfl) ?_
 refine TL.nil ?_
 refine T.seq ?_
 refine T.region ?_
 refine TL.cons rfl (Step.load_box_agg (n := 3) (qs := [.d (.int .i64 a.f0), .d (.int .i64 a.f1), .row 1012 []]) rfl rfl (lt_ok rfl) (by kernel_rfl) rfl rfl rfl rfl) ?_
 refine TL.cons rfl (Step.store_box (n := 3) (p := (.agg [.d (.int .i64 a.f0), .d (.int .i64 a.f1), .row 1012 []])) (qs := [.d (.int .i64 a.f0), .d (.int .i64 a.f1), .row 1012 []]) (ps' := [.d (.int .i64 a.f0), .d (.int .i64 a.f1), .row 1012 []]) rfl rfl (by kernel_rfl) rfl rfl rfl rfl rfl rfl (le_ok rfl) rfl) ?_
 refine TL.nil ?_
 refine T.ret ?_
 exact ⟨[(true, [.d (.int .i64 a.f0), .d (.int .i64 a.f1), .row 1012 []])], (.cons rfl .nil), rfl, [1012], (RetC.rd' (by rfl) (RetC.rd' (by rfl) (RetC.own' rfl (by rfl) rfl .nil)))⟩
theorem ok_laws_toEntryS (a : List SEntry) (h0_ : a.length ≤ 1048576 ∧ ∀ y ∈ a, SEntry.sm y) : RO Try.prog 89 [.one (.sl 3 (a.map SEntry.cells))] [(false, [.own 121 (.sl 3 (a.map SEntry.cells))])] := by
 refine RO.intro Try.func89 rfl 23 rfl (le_ok rfl) fun w Z => ?_
 refine T.bnd 0 0 rfl rfl fun hb_0_0 => ?_
 simp only [D.size, List.length_map] at hb_0_0
 have h0b := h0_.1
 refine T.seq ?_
 refine T.region ?_
 refine TL.cons rfl (Step.assign (p := (.one (.nil))) rfl rfl (lt_ok rfl) rfl) ?_
 refine TL.nil ?_
 refine T.seq ?_
 refine T.region ?_
 refine TL.cons rfl (Step.move (p := (.one (.d (.sl 3 (a.map SEntry.cells))))) rfl rfl (lt_ok rfl) rfl) ?_
 refine TL.cons rfl (Step.len' (e := 162) (z := 3) (d := (.sl 3 (a.map SEntry.cells))) (n := a.length) rfl rfl (lt_ok rfl) (by kernel_rfl) rfl rfl (by simp [D.size])) ?_
 refine TL.cons rfl (Step.make (e := 121) (z := 3) (by_ := 40) (n := (a.length : Int)) (zs := [.int .i64 0, .int .i64 0, .slice none 0 0]) (zd := [(.int .i64 0), (.int .i64 0), (.ints .u8 [])]) (d := (.sl 3 ((List.replicate a.length default).map SEntry.cells))) rfl rfl (lt_ok rfl) (by kernel_rfl) (lt_ok rfl) rfl (by first | omega | (simp; omega)) (by first | omega | (simp; omega)) (by first | omega | (simp; omega)) (by kernel_rfl) (zeroB_ok _ _ (by kernel_rfl)) rfl (by simp) (by simp only [D.flat, List.map_replicate]; rfl) (by simp [D.size]) rfl (wf_map SEntry.len _)) ?_
 refine TL.cons rfl (Step.assign (p := (.one (.row 7 []))) rfl rfl (lt_ok rfl) rfl) ?_
 refine TL.nil ?_
 refine T.seq ?_
 refine T.seq ?_
 refine T.region ?_
 refine TL.cons rfl (Step.assign (p := (.one (.d (.int .i64 0)))) rfl rfl (lt_ok rfl) rfl) ?_
 refine TL.nil ?_
 refine T.block ?_
 refine T.loop (ι := Nat) (fun xx_ => { tm := [(0, (.one (.d (.sl 3 (a.map SEntry.cells))))), (2, (.one (.nil))), (3, (.one (.row 7 []))), (4, (.one (.d (.int .i64 (xx_ : Int)))))], rows := [(7, (121, (.sl 3 ((a.take xx_ ++ List.replicate (a.length - xx_) default : List SEntry).map SEntry.cells))))], boxes := [] }) (fun xx_ => xx_ ≤ a.length) (fun xx_ => a.length - xx_) 0 ?_ ?_ ?_
 · exact Env.le_mk ⟨rfl, rfl, rfl, by first | rfl | exact congrArg (fun x => some (121, ((.sl 3 (x.map SEntry.cells)) : D))) (fill_set a default default i (by omega)), trivial⟩ ⟨by first | rfl | exact congrArg (fun x => some (121, ((.sl 3 (x.map SEntry.cells)) : D))) (fill_set a default default i (by omega)), trivial⟩ trivial
 · exact Nat.zero_le _
 ·
  intro i hx
  try dsimp only at hx ⊢
  refine T.seq ?_
  refine T.seq ?_
  refine T.region ?_
  refine TL.cons rfl (Step.move (p := (.one (.d (.int .i64 (i : Int))))) rfl rfl (lt_ok rfl) rfl) ?_
  refine TL.cons rfl (Step.move (p := (.one (.d (.sl 3 (a.map SEntry.cells))))) rfl rfl (lt_ok rfl) rfl) ?_
  refine TL.cons rfl (Step.len' (e := 162) (z := 3) (d := (.sl 3 (a.map SEntry.cells))) (n := a.length) rfl rfl (lt_ok rfl) (by kernel_rfl) rfl rfl (by simp [D.size])) ?_
  refine TL.cons rfl (Step.bin rfl rfl (lt_ok rfl) rfl rfl (Bin.lss (k := .i64) (a := (i : Int)) (b := (a.length : Int)))) ?_
  refine TL.nil ?_
  refine T.cond (b := decide ((i : Int) < (a.length : Int))) rfl (fun h1 => ?_) (fun h1 => ?_)
  ·
   replace h1 := of_decide_eq_true h1
   refine T.skip ?_
   refine T.seq ?_
   refine T.block ?_
   refine T.region ?_
   refine TL.cons rfl (Step.move (p := (.one (.row 7 []))) rfl rfl (lt_ok rfl) rfl) ?_
   refine TL.cons rfl (Step.move (p := (.one (.d (.int .i64 (i : Int))))) rfl rfl (lt_ok rfl) rfl) ?_
   refine TL.cons rfl (Step.move (p := (.one (.d (.sl 3 (a.map SEntry.cells))))) rfl rfl (lt_ok rfl) rfl) ?_
   refine TL.cons rfl (Step.move (p := (.one (.d (.int .i64 (i : Int))))) rfl rfl (lt_ok rfl) rfl) ?_
   refine TL.cons rfl (Step.index (e := 162) (z := 3) (i := (i : Int)) rfl rfl (lt_ok rfl) (by kernel_rfl) rfl rfl rfl (lt_ok rfl) rfl (by first | omega | (simp; omega)) (by simp only [D.size]; first | omega | (simp; omega))) ?_
   refine TL.cons rfl (Step.load_agg (n := 3) (cs := [.d (.int .i64 (a.getD i default).f0), .d (.int .i64 (a.getD i default).f1), .d (.ints .u8 (a.getD i default).f2)]) rfl rfl (lt_ok rfl) (by kernel_rfl) rfl rfl (by simp only [List.range, List.range.loop, List.map_cons, List.map_nil]; rw [cell_map default (by first | omega | (simp; omega)), cell_map default (by first | omega | (simp; omega)), cell_map default (by first | omega | (simp; omega))]; rfl)) ?_
   refine TL.cons rfl (Step.call (f := 143) (xs := [.tmp 19]) (ps := [(.agg [.d (.int .i64 (a.getD i default).f0), .d (.int .i64 (a.getD i default).f1), .d (.ints .u8 (a.getD i default).f2)])]) false (g := .func 143) rfl rfl (lt_ok rfl) rfl (by kernel_rfl) rfl (.cons (.agg (.cons (.d _) (.cons (.d _) (.cons (.d _) .nil)))) .nil) (ok_laws_toEntry (a.getD i default) (by first | assumption | exact ⟨‹_›, ‹_›⟩ | (refine mem_getD (p := SEntry.sm) h0_.2 (by omega)) | exact mem_getD h0_.2 (by omega))) (.inr rfl) rfl (by simp) rfl) ?_
   refine TL.cons rfl (Step.index_row (e := 121) (z := 3) (i := (i : Int)) rfl rfl (lt_ok rfl) (by kernel_rfl) rfl rfl rfl rfl (lt_ok rfl) rfl (by first | omega | (simp; omega)) (by simp only [D.at_, D.cell, D.size]; first | omega | (simp; omega))) ?_
   refine TL.cons rfl (Step.store_row (n := 3) (p := (.agg [.d (.int .i64 (a.getD i default).f0), .d (.int .i64 (a.getD i default).f1), .row 3020 []])) (ps := [.d (.int .i64 (a.getD i default).f0), .d (.int .i64 (a.getD i default).f1), .row 3020 []]) (es := SEntry.cells (a.getD i default)) (ss := [3020]) (d1 := (.sl 3 (((a.take i ++ List.replicate (a.length - i) default : List SEntry).set i (a.getD i default)).map SEntry.cells))) (d' := (.sl 3 (((a.take i ++ List.replicate (a.length - i) default : List SEntry).set i (a.getD i default)).map SEntry.cells))) rfl rfl (by kernel_rfl) rfl rfl rfl rfl rfl rfl (.val rfl (.val rfl (.row rfl (by simp) .nil))) (by simp) (Putd.enc SEntry.len (xs := (a.take i ++ List.replicate (a.length - i) default : List SEntry)) (by simp; first | omega | (simp; omega)) (a.getD i default)) rfl) ?_
   refine TL.nil ?_
   refine T.region ?_
   refine TL.cons rfl (Step.move (p := (.one (.d (.int .i64 (i : Int))))) rfl rfl (lt_ok rfl) rfl) ?_
   refine TL.cons rfl (Step.bin (r := .int .i64 ((i : Int) + 1)) rfl rfl (lt_ok rfl) rfl rfl (Bin.add (a := (i : Int)) (b := 1) (by first | exact wrap_ok (by first | omega | (simp; omega)) (by first | omega | (simp; omega)) | rfl))) ?_
   refine TL.cons rfl (Step.assign (p := (.one (.d (.int .i64 ((i : Int) + 1))))) rfl rfl (lt_ok rfl) rfl) ?_
   refine TL.nil ?_
   exact ⟨i + 1, by omega, by omega, Env.le_mk ⟨rfl, rfl, rfl, by first | rfl | exact congrArg (fun x => some (121, ((.sl 3 (x.map SEntry.cells)) : D))) (fill_set a default default i (by omega)), trivial⟩ ⟨by first | rfl | exact congrArg (fun x => some (121, ((.sl 3 (x.map SEntry.cells)) : D))) (fill_set a default default i (by omega)), trivial⟩ trivial⟩
  ·
   replace h1 := of_decide_eq_false h1
   refine T.exit ?_
   refine T.seq ?_
   refine T.region ?_
   refine TL.cons rfl (Step.move (p := (.one (.row 7 []))) rfl rfl (lt_ok rfl) rfl) ?_
   refine TL.cons rfl (Step.assign (p := (.one (.row 7 []))) rfl rfl (lt_ok rfl) rfl) ?_
   refine TL.nil ?_
   refine T.ret ?_
   exact ⟨[(false, [.row 7 []])], (.cons rfl .nil), rfl, [7], (RetC.own' rfl (by first | rfl | (congr 1; rw [fill_all' _ _ _ (by omega)]) | (rw [fill_all' _ _ _ (by omega)])) rfl .nil)⟩
theorem ok_laws_toTc (a : STc) (h0_ : a.sm) : RO Try.prog 27 [.agg a.cells] [(true, [.rd (.int .i64 a.f0), .own 121 (.sl 3 (a.f1.map SEntry.cells))])] := by
 refine RO.intro Try.func27 rfl 12 rfl (le_ok rfl) fun w Z => ?_
 have s0 : a.f1.length ≤ 1048576 ∧ ∀ y ∈ a.f1, SEntry.sm y := h0_
 refine T.seq ?_
 refine T.region ?_
 refine TL.cons rfl (Step.box (p := (.agg [.d (.int .i64 a.f0), .d (.sl 3 (a.f1.map SEntry.cells))])) (ps := [.d (.int .i64 a.f0), .d (.sl 3 (a.f1.map SEntry.cells))]) rfl rfl (lt_ok rfl) rfl rfl rfl rfl rfl) ?_
 refine TL.cons rfl (Step.alloc (cs := [.int .i64 0, .slice none 0 0]) (ps := [.d (.int .i64 0), .nil]) rfl rfl (lt_ok rfl) (by kernel_rfl) rfl rfl rfl rfl) ?_
 refine TL.nil ?_
 refine T.seq ?_
 refine T.region ?_
 refine TL.cons rfl (Step.alloc (cs := [.int .i64 0, .slice none 0 0]) (ps := [.d (.int .i64 0), .nil]) rfl rfl (lt_ok rfl) (by kernel_rfl) rfl rfl rfl rfl) ?_
 refine TL.nil ?_
 refine T.seq ?_
 refine T.region ?_
 refine TL.cons rfl (Step.fieldAddr (q := 0) (off := 0) (n := 1) (one := true) rfl rfl (lt_ok rfl) (by kernel_rfl) (Nat.succ_ne_zero _) rfl) ?_
 refine TL.cons rfl (Step.load_box (c := .d (.int .i64 a.f0)) rfl rfl (lt_ok rfl) (by kernel_rfl) rfl rfl rfl) ?_
 refine TL.cons rfl (Step.fieldAddr (q := 0) (off := 0) (n := 1) (one := true) rfl rfl (lt_ok rfl) (by kernel_rfl) (Nat.succ_ne_zero _) rfl) ?_
 refine TL.cons rfl (Step.store_box (n := 1) (p := (.one (.d (.int .i64 a.f0)))) (qs := [.d (.int .i64 a.f0)]) (ps' := [.d (.int .i64 a.f0), .nil]) rfl rfl (by kernel_rfl) rfl rfl rfl rfl rfl rfl (le_ok rfl) rfl) ?_
 refine TL.nil ?_
 refine T.seq ?_
 refine T.region ?_
 refine TL.cons rfl (Step.fieldAddr (q := 0) (off := 1) (n := 1) (one := true) rfl rfl (lt_ok rfl) (by kernel_rfl) (Nat.succ_ne_zero _) rfl) ?_
 refine TL.cons rfl (Step.load_box (c := .d (.sl 3 (a.f1.map SEntry.cells))) rfl rfl (lt_ok rfl) (by kernel_rfl) rfl rfl rfl) ?_
 refine TL.cons rfl (Step.call (f := 89) (xs := [.tmp 8]) (ps := [(.one (.d (.sl 3 (a.f1.map SEntry.cells))))]) false (g := .func 89) rfl rfl (lt_ok rfl) rfl (by kernel_rfl) rfl (.cons (.one (.d _)) .nil) (ok_laws_toEntryS a.f1 (by first | assumption | exact ⟨‹_›, ‹_›⟩ | exact mem_getD h0_.2 (by omega))) (.inr rfl) rfl (by simp) rfl) ?_
 refine TL.cons rfl (Step.fieldAddr (q := 0) (off := 1) (n := 1) (one := true) rfl rfl (lt_ok rfl) (by kernel_rfl) (Nat.succ_ne_zero _) rfl) ?_
 refine TL.cons rfl (Step.store_box (n := 1) (p := (.one (.row 1009 []))) (qs := [.row 1009 []]) (ps' := [.d (.int .i64 a.f0), .row 1009 []]) rfl rfl (by kernel_rfl) rfl rfl rfl rfl rfl rfl (le_ok rfl) rfl) ?_
 refine TL.nil ?_
 refine T.seq ?_
 refine T.region ?_
 refine TL.cons rfl (Step.load_box_agg (n := 2) (qs := [.d (.int .i64 a.f0), .row 1009 []]) rfl rfl (lt_ok rfl) (by kernel_rfl) rfl rfl rfl rfl) ?_
 refine TL.cons rfl (Step.store_box (n := 2) (p := (.agg [.d (.int .i64 a.f0), .row 1009 []])) (qs := [.d (.int .i64 a.f0), .row 1009 []]) (ps' := [.d (.int .i64 a.f0), .row 1009 []]) rfl rfl (by kernel_rfl) rfl rfl rfl rfl rfl rfl (le_ok rfl) rfl) ?_
 refine TL.nil ?_
 refine T.ret ?_
 exact ⟨[(true, [.d (.int .i64 a.f0), .row 1009 []])], (.cons rfl .nil), rfl, [1009], (RetC.rd' (by rfl) (RetC.own' rfl (by rfl) rfl .nil))⟩
theorem ok_laws_eqByteS (a : List Int) (b : List Int) : RO Try.prog 29 [.one (.ints .u8 a), .one (.ints .u8 b)] [(false, [.rd (.bool (decide (a = b)))])] := by
 refine RO.intro Try.func29 rfl 26 rfl (le_ok rfl) fun w Z => ?_
 refine T.bnd 0 0 rfl rfl fun hb_0_0 => ?_
 simp only [D.size, List.length_map] at hb_0_0
 refine T.bnd 1 0 rfl rfl fun hb_1_0 => ?_
 simp only [D.size, List.length_map] at hb_1_0
 refine T.seq ?_
 refine T.region ?_
 refine TL.cons rfl (Step.assign (p := (.one (.d (.bool false)))) rfl rfl (lt_ok rfl) rfl) ?_
 refine TL.nil ?_
 refine T.seq ?_
 refine T.seq ?_
 refine T.region ?_
 refine TL.cons rfl (Step.move (p := (.one (.d (.ints .u8 a)))) rfl rfl (lt_ok rfl) rfl) ?_
 refine TL.cons rfl (Step.len (e := 5) (z := 1) (d := (.ints .u8 a)) rfl rfl (lt_ok rfl) (by kernel_rfl) rfl rfl) ?_
 refine TL.cons rfl (Step.move (p := (.one (.d (.ints .u8 b)))) rfl rfl (lt_ok rfl) rfl) ?_
 refine TL.cons rfl (Step.len (e := 5) (z := 1) (d := (.ints .u8 b)) rfl rfl (lt_ok rfl) (by kernel_rfl) rfl rfl) ?_
 refine TL.cons rfl (Step.bin rfl rfl (lt_ok rfl) rfl rfl (Bin.neq (k := .i64) (a := (a.length : Int)) (b := (b.length : Int)))) ?_
 refine TL.nil ?_
 refine T.cond (b := decide ((a.length : Int) ≠ (b.length : Int))) rfl (fun h1 => ?_) (fun h1 => ?_)
 ·
  replace h1 := of_decide_eq_true h1
  refine T.seq ?_
  refine T.region ?_
  refine TL.cons rfl (Step.assign (p := (.one (.d (.bool false)))) rfl rfl (lt_ok rfl) rfl) ?_
  refine TL.nil ?_
  refine T.ret ?_
  exact ⟨[(false, [.d (.bool false)])], (.cons rfl .nil), rfl, [], (RetC.rd' (by (congr 1; symm; first | (apply decide_eq_false; rintro rfl; first | exact absurd rfl ‹¬ _ = _› | exact absurd rfl (of_decide_eq_false (by assumption)) | contradiction | simp_all) | (apply decide_eq_true; exact take_all hx2 (by omega) hx3))) .nil)⟩
 ·
  replace h1 := of_decide_eq_false h1
  refine T.skip ?_
  refine T.seq ?_
  refine T.seq ?_
  refine T.region ?_
  refine TL.cons rfl (Step.assign (p := (.one (.d (.int .i64 0)))) rfl rfl (lt_ok rfl) rfl) ?_
  refine TL.nil ?_
  refine T.block ?_
  refine T.loop (ι := Nat) (fun xx_ => { tm := [(0, (.one (.d (.ints .u8 a)))), (1, (.one (.d (.ints .u8 b)))), (5, (.one (.d (.int .i64 (xx_ : Int)))))], rows := [], boxes := [] }) (fun xx_ => xx_ ≤ a.length ∧ a.length = b.length ∧ a.take xx_ = b.take xx_) (fun xx_ => a.length - xx_) 0 ?_ ?_ ?_
  · exact Env.le_mk ⟨rfl, rfl, by first | rfl | (simp; done) | (congr 3; omega), trivial⟩ trivial trivial
  · (refine ⟨Nat.zero_le _, by omega, by simp⟩)
  ·
   intro i hx
   try dsimp only at hx ⊢
   obtain ⟨hx1, hx2, hx3⟩ := hx
   refine T.seq ?_
   refine T.seq ?_
   refine T.region ?_
   refine TL.cons rfl (Step.move (p := (.one (.d (.int .i64 (i : Int))))) rfl rfl (lt_ok rfl) rfl) ?_
   refine TL.cons rfl (Step.move (p := (.one (.d (.ints .u8 a)))) rfl rfl (lt_ok rfl) rfl) ?_
   refine TL.cons rfl (Step.len (e := 5) (z := 1) (d := (.ints .u8 a)) rfl rfl (lt_ok rfl) (by kernel_rfl) rfl rfl) ?_
   refine TL.cons rfl (Step.bin rfl rfl (lt_ok rfl) rfl rfl (Bin.lss (k := .i64) (a := (i : Int)) (b := (a.length : Int)))) ?_
   refine TL.nil ?_
   refine T.cond (b := decide ((i : Int) < (a.length : Int))) rfl (fun h2 => ?_) (fun h2 => ?_)
   ·
    replace h2 := of_decide_eq_true h2
    refine T.skip ?_
    refine T.seq ?_
    refine T.block ?_
    refine T.seq ?_
    refine T.draw [⟨17, (.one (.d (.ints .u8 a))), []⟩, ⟨18, (.one (.d (.int .i64 (i : Int)))), []⟩, ⟨19, (.one (.eptr (.ints .u8 a) i 0)), []⟩, ⟨20, (.one (.d (.int .u8 (a.getD i 0)))), []⟩, ⟨21, (.one (.d (.ints .u8 b))), []⟩, ⟨22, (.one (.d (.int .i64 (i : Int)))), []⟩, ⟨23, (.one (.eptr (.ints .u8 b) i 0)), []⟩, ⟨24, (.one (.d (.int .u8 (b.getD i 0)))), []⟩, ⟨25, (.one (.d (.bool (decide ((a.getD i 0) ≠ (b.getD i 0)))))), []⟩] (by kernel_rfl) (by kernel_rfl) ?_ ?_
    ·
     refine .cons (fun E hA_ => by have g0 := hA_.get 0 (by decide); exact OpStep.plain rfl (Step.move (p := (.one (.d (.ints .u8 a)))) (t := 17) rfl rfl (by exact lt_ok rfl) (show Env.ev E (.tmp 0) = _ from g0.trans rfl))) ?_
     refine .cons (fun E hA_ => by have g5 := hA_.get 5 (by decide); exact OpStep.plain rfl (Step.move (p := (.one (.d (.int .i64 (i : Int))))) (t := 18) rfl rfl (by exact lt_ok rfl) (show Env.ev E (.tmp 5) = _ from g5.trans rfl))) ?_
     refine .cons (fun E hA_ => by have g17 := hA_.get 17 (by decide); have g18 := hA_.get 18 (by decide); exact OpStep.plain rfl (Step.index (e := 5) (z := 1) (i := (i : Int)) (t := 19) rfl rfl (by exact lt_ok rfl) (by kernel_rfl) (show Env.ev E (.tmp 17) = _ from g17.trans rfl) rfl rfl (lt_ok rfl) (show Env.ev E (.tmp 18) = _ from g18.trans rfl) (by first | omega | (simp; omega)) (by simp only [D.size]; first | omega | (simp; omega)))) ?_
     refine .cons (fun E hA_ => by have g19 := hA_.get 19 (by decide); exact OpStep.plain rfl (Step.load (e := (.int .u8 (a.getD i 0))) (t := 20) rfl rfl (by exact lt_ok rfl) (by kernel_rfl) (show Env.ev E (.tmp 19) = _ from g19.trans rfl) rfl)) ?_
     refine .cons (fun E hA_ => by have g1 := hA_.get 1 (by decide); exact OpStep.plain rfl (Step.move (p := (.one (.d (.ints .u8 b)))) (t := 21) rfl rfl (by exact lt_ok rfl) (show Env.ev E (.tmp 1) = _ from g1.trans rfl))) ?_
     refine .cons (fun E hA_ => by have g5 := hA_.get 5 (by decide); exact OpStep.plain rfl (Step.move (p := (.one (.d (.int .i64 (i : Int))))) (t := 22) rfl rfl (by exact lt_ok rfl) (show Env.ev E (.tmp 5) = _ from g5.trans rfl))) ?_
     refine .cons (fun E hA_ => by have g21 := hA_.get 21 (by decide); have g22 := hA_.get 22 (by decide); exact OpStep.plain rfl (Step.index (e := 5) (z := 1) (i := (i : Int)) (t := 23) rfl rfl (by exact lt_ok rfl) (by kernel_rfl) (show Env.ev E (.tmp 21) = _ from g21.trans rfl) rfl rfl (lt_ok rfl) (show Env.ev E (.tmp 22) = _ from g22.trans rfl) (by first | omega | (simp; omega)) (by simp only [D.size]; first | omega | (simp; omega)))) ?_
     refine .cons (fun E hA_ => by have g23 := hA_.get 23 (by decide); exact OpStep.plain rfl (Step.load (e := (.int .u8 (b.getD i 0))) (t := 24) rfl rfl (by exact lt_ok rfl) (by kernel_rfl) (show Env.ev E (.tmp 23) = _ from g23.trans rfl) rfl)) ?_
     refine .cons (fun E hA_ => by have g20 := hA_.get 20 (by decide); have g24 := hA_.get 24 (by decide); exact OpStep.plain rfl (Step.bin (t := 25) rfl rfl (by exact lt_ok rfl) (show Env.ev E (.tmp 20) = _ from g20.trans rfl) (show Env.ev E (.tmp 24) = _ from g24.trans rfl) (Bin.neq (k := .u8) (a := (a.getD i 0)) (b := (b.getD i 0))))) ?_
     exact .nil _ _
    refine TL.nil ?_
    refine T.cond (b := decide ((a.getD i 0) ≠ (b.getD i 0))) rfl (fun h3 => ?_) (fun h3 => ?_)
    ·
     replace h3 := of_decide_eq_true h3
     refine T.seq ?_
     refine T.region ?_
     refine TL.cons rfl (Step.assign (p := (.one (.d (.bool false)))) rfl rfl (lt_ok rfl) rfl) ?_
     refine TL.nil ?_
     refine T.ret ?_
     exact ⟨[(false, [.d (.bool false)])], (.cons rfl .nil), rfl, [], (RetC.rd' (by (congr 1; symm; first | (apply decide_eq_false; rintro rfl; first | exact absurd rfl ‹¬ _ = _› | exact absurd rfl (of_decide_eq_false (by assumption)) | contradiction | simp_all) | (apply decide_eq_true; exact take_all hx2 (by omega) hx3))) .nil)⟩
    ·
     replace h3 := of_decide_eq_false h3
     refine T.skip ?_
     refine T.region ?_
     refine TL.cons rfl (Step.move (p := (.one (.d (.int .i64 (i : Int))))) rfl rfl (lt_ok rfl) rfl) ?_
     refine TL.cons rfl (Step.bin (r := .int .i64 ((i : Int) + 1)) rfl rfl (lt_ok rfl) rfl rfl (Bin.add (a := (i : Int)) (b := 1) (by first | exact wrap_ok (by first | omega | (simp; omega)) (by first | omega | (simp; omega)) | rfl))) ?_
     refine TL.cons rfl (Step.assign (p := (.one (.d (.int .i64 ((i : Int) + 1))))) rfl rfl (lt_ok rfl) rfl) ?_
     refine TL.nil ?_
     exact ⟨i + 1, by (refine ⟨by omega, hx2, take_step (d := 0) hx2 (by omega) hx3 (by first | assumption | exact Decidable.not_not.1 (by assumption) | omega)⟩), by omega, Env.le_mk ⟨rfl, rfl, by first | rfl | (simp; done) | (congr 3; omega), trivial⟩ trivial trivial⟩
   ·
    replace h2 := of_decide_eq_false h2
    refine T.exit ?_
    refine T.seq ?_
    refine T.region ?_
    refine TL.cons rfl (Step.assign (p := (.one (.d (.bool true)))) rfl rfl (lt_ok rfl) rfl) ?_
    refine TL.nil ?_
    refine T.ret ?_
    exact ⟨[(false, [.d (.bool true)])], (.cons rfl .nil), rfl, [], (RetC.rd' (by (congr 1; symm; first | (apply decide_eq_false; rintro rfl; first | exact absurd rfl ‹¬ _ = _› | exact absurd rfl (of_decide_eq_false (by assumption)) | contradiction | simp_all) | (apply decide_eq_true; exact take_all hx2 (by omega) hx3))) .nil)⟩
theorem ok_laws_eqEntry (a : SEntry) (b : SEntry) : RO Try.prog 149 [.agg a.cells, .agg b.cells] [(false, [.rd (.bool (decide (a = b)))])] := by
 refine RO.intro Try.func149 rfl 21 rfl (le_ok rfl) fun w Z => ?_
 refine T.seq ?_
 refine T.region ?_
 refine TL.cons rfl (Step.box (p := (.agg [.d (.int .i64 a.f0), .d (.int .i64 a.f1), .d (.ints .u8 a.f2)])) (ps := [.d (.int .i64 a.f0), .d (.int .i64 a.f1), .d (.ints .u8 a.f2)]) rfl rfl (lt_ok rfl) rfl rfl rfl rfl rfl) ?_
 refine TL.cons rfl (Step.box (p := (.agg [.d (.int .i64 b.f0), .d (.int .i64 b.f1), .d (.ints .u8 b.f2)])) (ps := [.d (.int .i64 b.f0), .d (.int .i64 b.f1), .d (.ints .u8 b.f2)]) rfl rfl (lt_ok rfl) rfl rfl rfl rfl rfl) ?_
 refine TL.cons rfl (Step.assign (p := (.one (.d (.bool false)))) rfl rfl (lt_ok rfl) rfl) ?_
 refine TL.nil ?_
 refine T.seq ?_
 refine T.seq ?_
 refine T.region ?_
 refine TL.cons rfl (Step.fieldAddr (q := 0) (off := 0) (n := 1) (one := true) rfl rfl (lt_ok rfl) (by kernel_rfl) (Nat.succ_ne_zero _) rfl) ?_
 refine TL.cons rfl (Step.load_box (c := .d (.int .i64 a.f0)) rfl rfl (lt_ok rfl) (by kernel_rfl) rfl rfl rfl) ?_
 refine TL.cons rfl (Step.fieldAddr (q := 0) (off := 0) (n := 1) (one := true) rfl rfl (lt_ok rfl) (by kernel_rfl) (Nat.succ_ne_zero _) rfl) ?_
 refine TL.cons rfl (Step.load_box (c := .d (.int .i64 b.f0)) rfl rfl (lt_ok rfl) (by kernel_rfl) rfl rfl rfl) ?_
 refine TL.cons rfl (Step.bin rfl rfl (lt_ok rfl) rfl rfl (Bin.neq (k := .i64) (a := a.f0) (b := b.f0))) ?_
 refine TL.nil ?_
 refine T.cond (b := decide (a.f0 ≠ b.f0)) rfl (fun h1 => ?_) (fun h1 => ?_)
 ·
  replace h1 := of_decide_eq_true h1
  refine T.seq ?_
  refine T.region ?_
  refine TL.cons rfl (Step.assign (p := (.one (.d (.bool false)))) rfl rfl (lt_ok rfl) rfl) ?_
  refine TL.nil ?_
  refine T.ret ?_
  exact ⟨[(false, [.d (.bool false)])], (.cons rfl .nil), rfl, [], (RetC.rd' (by (congr 1; symm; first | (apply decide_eq_false; rintro rfl; first | exact absurd rfl ‹¬ _ = _› | contradiction) | (apply decide_eq_true; apply SEntry.ext <;> first | assumption | exact Decidable.not_not.1 (by assumption)))) .nil)⟩
 ·
  replace h1 := of_decide_eq_false h1
  refine T.skip ?_
  refine T.seq ?_
  refine T.seq ?_
  refine T.region ?_
  refine TL.cons rfl (Step.fieldAddr (q := 0) (off := 1) (n := 1) (one := true) rfl rfl (lt_ok rfl) (by kernel_rfl) (Nat.succ_ne_zero _) rfl) ?_
  refine TL.cons rfl (Step.load_box (c := .d (.int .i64 a.f1)) rfl rfl (lt_ok rfl) (by kernel_rfl) rfl rfl rfl) ?_
  refine TL.cons rfl (Step.fieldAddr (q := 0) (off := 1) (n := 1) (one := true) rfl rfl (lt_ok rfl) (by kernel_rfl) (Nat.succ_ne_zero _) rfl) ?_
  refine TL.cons rfl (Step.load_box (c := .d (.int .i64 b.f1)) rfl rfl (lt_ok rfl) (by kernel_rfl) rfl rfl rfl) ?_
  refine TL.cons rfl (Step.bin rfl rfl (lt_ok rfl) rfl rfl (Bin.neq (k := .i64) (a := a.f1) (b := b.f1))) ?_
  refine TL.nil ?_
  refine T.cond (b := decide (a.f1 ≠ b.f1)) rfl (fun h2 => ?_) (fun h2 => ?_)
  ·
   replace h2 := of_decide_eq_true h2
   refine T.seq ?_
   refine T.region ?_
   refine TL.cons rfl (Step.assign (p := (.one (.d (.bool false)))) rfl rfl (lt_ok rfl) rfl) ?_
   refine TL.nil ?_
   refine T.ret ?_
   exact ⟨[(false, [.d (.bool false)])], (.cons rfl .nil), rfl, [], (RetC.rd' (by (congr 1; symm; first | (apply decide_eq_false; rintro rfl; first | exact absurd rfl ‹¬ _ = _› | contradiction) | (apply decide_eq_true; apply SEntry.ext <;> first | assumption | exact Decidable.not_not.1 (by assumption)))) .nil)⟩
  ·
   replace h2 := of_decide_eq_false h2
   refine T.skip ?_
   refine T.seq ?_
   refine T.seq ?_
   refine T.region ?_
   refine TL.cons rfl (Step.fieldAddr (q := 0) (off := 2) (n := 1) (one := true) rfl rfl (lt_ok rfl) (by kernel_rfl) (Nat.succ_ne_zero _) rfl) ?_
   refine TL.cons rfl (Step.load_box (c := .d (.ints .u8 a.f2)) rfl rfl (lt_ok rfl) (by kernel_rfl) rfl rfl rfl) ?_
   refine TL.cons rfl (Step.fieldAddr (q := 0) (off := 2) (n := 1) (one := true) rfl rfl (lt_ok rfl) (by kernel_rfl) (Nat.succ_ne_zero _) rfl) ?_
   refine TL.cons rfl (Step.load_box (c := .d (.ints .u8 b.f2)) rfl rfl (lt_ok rfl) (by kernel_rfl) rfl rfl rfl) ?_
   refine TL.cons rfl (Step.call (f := 29) (xs := [.tmp 16, .tmp 18]) (ps := [(.one (.d (.ints .u8 a.f2))), (.one (.d (.ints .u8 b.f2)))]) false (g := .func 29) rfl rfl (lt_ok rfl) rfl (by kernel_rfl) rfl (.cons (.one (.d _)) (.cons (.one (.d _)) .nil)) (ok_laws_eqByteS a.f2 b.f2) (.inr rfl) rfl (by simp) rfl) ?_
   refine TL.cons rfl (Step.not (b := (decide (a.f2 = b.f2))) rfl rfl (lt_ok rfl) rfl) ?_
   refine TL.nil ?_
   refine T.cond (b := !(decide (a.f2 = b.f2))) rfl (fun h3 => ?_) (fun h3 => ?_)
   ·
    replace h3 : (decide (a.f2 = b.f2)) = false := by simpa only [Bool.not_eq_true', Bool.not_eq_false'] using h3
    replace h3 := of_decide_eq_false h3
    refine T.seq ?_
    refine T.region ?_
    refine TL.cons rfl (Step.assign (p := (.one (.d (.bool false)))) rfl rfl (lt_ok rfl) rfl) ?_
    refine TL.nil ?_
    refine T.ret ?_
    exact ⟨[(false, [.d (.bool false)])], (.cons rfl .nil), rfl, [], (RetC.rd' (by (congr 1; symm; first | (apply decide_eq_false; rintro rfl; first | exact absurd rfl ‹¬ _ = _› | contradiction) | (apply decide_eq_true; apply SEntry.ext <;> first | assumption | exact Decidable.not_not.1 (by assumption)))) .nil)⟩
   ·
    replace h3 : (decide (a.f2 = b.f2)) = true := by simpa only [Bool.not_eq_true', Bool.not_eq_false'] using h3
    replace h3 := of_decide_eq_true h3
    refine T.skip ?_
    refine T.seq ?_
    refine T.region ?_
    refine TL.cons rfl (Step.assign (p := (.one (.d (.bool true)))) rfl rfl (lt_ok rfl) rfl) ?_
    refine TL.nil ?_
    refine T.ret ?_
    exact ⟨[(false, [.d (.bool true)])], (.cons rfl .nil), rfl, [], (RetC.rd' (by (congr 1; symm; first | (apply decide_eq_false; rintro rfl; first | exact absurd rfl ‹¬ _ = _› | contradiction) | (apply decide_eq_true; apply SEntry.ext <;> first | assumption | exact Decidable.not_not.1 (by assumption)))) .nil)⟩
theorem ok_laws_eqEntryS (a : List SEntry) (b : List SEntry) : RO Try.prog 92 [.one (.sl 3 (a.map SEntry.cells)), .one (.sl 3 (b.map SEntry.cells))] [(false, [.rd (.bool (decide (a = b)))])] := by
 refine RO.intro Try.func92 rfl 27 rfl (le_ok rfl) fun w Z => ?_
 refine T.bnd 0 0 rfl rfl fun hb_0_0 => ?_
 simp only [D.size, List.length_map] at hb_0_0
 refine T.bnd 1 0 rfl rfl fun hb_1_0 => ?_
 simp only [D.size, List.length_map] at hb_1_0
 refine T.seq ?_
 refine T.region ?_
 refine TL.cons rfl (Step.assign (p := (.one (.d (.bool false)))) rfl rfl (lt_ok rfl) rfl) ?_
 refine TL.nil ?_
 refine T.seq ?_
 refine T.seq ?_
 refine T.region ?_
 refine TL.cons rfl (Step.move (p := (.one (.d (.sl 3 (a.map SEntry.cells))))) rfl rfl (lt_ok rfl) rfl) ?_
 refine TL.cons rfl (Step.len' (e := 121) (z := 3) (d := (.sl 3 (a.map SEntry.cells))) (n := a.length) rfl rfl (lt_ok rfl) (by kernel_rfl) rfl rfl (by simp [D.size])) ?_
 refine TL.cons rfl (Step.move (p := (.one (.d (.sl 3 (b.map SEntry.cells))))) rfl rfl (lt_ok rfl) rfl) ?_
 refine TL.cons rfl (Step.len' (e := 121) (z := 3) (d := (.sl 3 (b.map SEntry.cells))) (n := b.length) rfl rfl (lt_ok rfl) (by kernel_rfl) rfl rfl (by simp [D.size])) ?_
 refine TL.cons rfl (Step.bin rfl rfl (lt_ok rfl) rfl rfl (Bin.neq (k := .i64) (a := (a.length : Int)) (b := (b.length : Int)))) ?_
 refine TL.nil ?_
 refine T.cond (b := decide ((a.length : Int) ≠ (b.length : Int))) rfl (fun h1 => ?_) (fun h1 => ?_)
 ·
  replace h1 := of_decide_eq_true h1
  refine T.seq ?_
  refine T.region ?_
  refine TL.cons rfl (Step.assign (p := (.one (.d (.bool false)))) rfl rfl (lt_ok rfl) rfl) ?_
  refine TL.nil ?_
  refine T.ret ?_
  exact ⟨[(false, [.d (.bool false)])], (.cons rfl .nil), rfl, [], (RetC.rd' (by (congr 1; symm; first | (apply decide_eq_false; rintro rfl; first | exact absurd rfl ‹¬ _ = _› | exact absurd rfl (of_decide_eq_false (by assumption)) | contradiction | simp_all) | (apply decide_eq_true; exact take_all hx2 (by omega) hx3))) .nil)⟩
 ·
  replace h1 := of_decide_eq_false h1
  refine T.skip ?_
  refine T.seq ?_
  refine T.seq ?_
  refine T.region ?_
  refine TL.cons rfl (Step.assign (p := (.one (.d (.int .i64 0)))) rfl rfl (lt_ok rfl) rfl) ?_
  refine TL.nil ?_
  refine T.block ?_
  refine T.loop (ι := Nat) (fun xx_ => { tm := [(0, (.one (.d (.sl 3 (a.map SEntry.cells))))), (1, (.one (.d (.sl 3 (b.map SEntry.cells))))), (5, (.one (.d (.int .i64 (xx_ : Int)))))], rows := [], boxes := [] }) (fun xx_ => xx_ ≤ a.length ∧ a.length = b.length ∧ a.take xx_ = b.take xx_) (fun xx_ => a.length - xx_) 0 ?_ ?_ ?_
  · exact Env.le_mk ⟨rfl, rfl, by first | rfl | (simp; done) | (congr 3; omega), trivial⟩ trivial trivial
  · (refine ⟨Nat.zero_le _, by omega, by simp⟩)
  ·
   intro i hx
   try dsimp only at hx ⊢
   obtain ⟨hx1, hx2, hx3⟩ := hx
   refine T.seq ?_
   refine T.seq ?_
   refine T.region ?_
   refine TL.cons rfl (Step.move (p := (.one (.d (.int .i64 (i : Int))))) rfl rfl (lt_ok rfl) rfl) ?_
   refine TL.cons rfl (Step.move (p := (.one (.d (.sl 3 (a.map SEntry.cells))))) rfl rfl (lt_ok rfl) rfl) ?_
   refine TL.cons rfl (Step.len' (e := 121) (z := 3) (d := (.sl 3 (a.map SEntry.cells))) (n := a.length) rfl rfl (lt_ok rfl) (by kernel_rfl) rfl rfl (by simp [D.size])) ?_
   refine TL.cons rfl (Step.bin rfl rfl (lt_ok rfl) rfl rfl (Bin.lss (k := .i64) (a := (i : Int)) (b := (a.length : Int)))) ?_
   refine TL.nil ?_
   refine T.cond (b := decide ((i : Int) < (a.length : Int))) rfl (fun h2 => ?_) (fun h2 => ?_)
   ·
    replace h2 := of_decide_eq_true h2
    refine T.skip ?_
    refine T.seq ?_
    refine T.block ?_
    refine T.seq ?_
    refine T.draw [⟨17, (.one (.d (.sl 3 (a.map SEntry.cells)))), []⟩, ⟨18, (.one (.d (.int .i64 (i : Int)))), []⟩, ⟨19, (.one (.eptr (.sl 3 (a.map SEntry.cells)) i 0)), []⟩, ⟨20, (.agg [.d (.int .i64 (a.getD i default).f0), .d (.int .i64 (a.getD i default).f1), .d (.ints .u8 (a.getD i default).f2)]), []⟩, ⟨21, (.one (.d (.sl 3 (b.map SEntry.cells)))), []⟩, ⟨22, (.one (.d (.int .i64 (i : Int)))), []⟩, ⟨23, (.one (.eptr (.sl 3 (b.map SEntry.cells)) i 0)), []⟩, ⟨24, (.agg [.d (.int .i64 (b.getD i default).f0), .d (.int .i64 (b.getD i default).f1), .d (.ints .u8 (b.getD i default).f2)]), []⟩, ⟨25, (.one (.d (.bool (decide ((a.getD i default) = (b.getD i default)))))), []⟩, ⟨26, (.one (.d (.bool (!(decide ((a.getD i default) = (b.getD i default))))))), []⟩] (by kernel_rfl) (by kernel_rfl) ?_ ?_
    ·
     refine .cons (fun E hA_ => by have g0 := hA_.get 0 (by decide); exact OpStep.plain rfl (Step.move (p := (.one (.d (.sl 3 (a.map SEntry.cells))))) (t := 17) rfl rfl (by exact lt_ok rfl) (show Env.ev E (.tmp 0) = _ from g0.trans rfl))) ?_
     refine .cons (fun E hA_ => by have g5 := hA_.get 5 (by decide); exact OpStep.plain rfl (Step.move (p := (.one (.d (.int .i64 (i : Int))))) (t := 18) rfl rfl (by exact lt_ok rfl) (show Env.ev E (.tmp 5) = _ from g5.trans rfl))) ?_
     refine .cons (fun E hA_ => by have g17 := hA_.get 17 (by decide); have g18 := hA_.get 18 (by decide); exact OpStep.plain rfl (Step.index (e := 121) (z := 3) (i := (i : Int)) (t := 19) rfl rfl (by exact lt_ok rfl) (by kernel_rfl) (show Env.ev E (.tmp 17) = _ from g17.trans rfl) rfl rfl (lt_ok rfl) (show Env.ev E (.tmp 18) = _ from g18.trans rfl) (by first | omega | (simp; omega)) (by simp only [D.size]; first | omega | (simp; omega)))) ?_
     refine .cons (fun E hA_ => by have g19 := hA_.get 19 (by decide); exact OpStep.plain rfl (Step.load_agg (n := 3) (cs := [.d (.int .i64 (a.getD i default).f0), .d (.int .i64 (a.getD i default).f1), .d (.ints .u8 (a.getD i default).f2)]) (t := 20) rfl rfl (by exact lt_ok rfl) (by kernel_rfl) (show Env.ev E (.tmp 19) = _ from g19.trans rfl) rfl (by simp only [List.range, List.range.loop, List.map_cons, List.map_nil]; rw [cell_map default (by first | omega | (simp; omega)), cell_map default (by first | omega | (simp; omega)), cell_map default (by first | omega | (simp; omega))]; rfl))) ?_
     refine .cons (fun E hA_ => by have g1 := hA_.get 1 (by decide); exact OpStep.plain rfl (Step.move (p := (.one (.d (.sl 3 (b.map SEntry.cells))))) (t := 21) rfl rfl (by exact lt_ok rfl) (show Env.ev E (.tmp 1) = _ from g1.trans rfl))) ?_
     refine .cons (fun E hA_ => by have g5 := hA_.get 5 (by decide); exact OpStep.plain rfl (Step.move (p := (.one (.d (.int .i64 (i : Int))))) (t := 22) rfl rfl (by exact lt_ok rfl) (show Env.ev E (.tmp 5) = _ from g5.trans rfl))) ?_
     refine .cons (fun E hA_ => by have g21 := hA_.get 21 (by decide); have g22 := hA_.get 22 (by decide); exact OpStep.plain rfl (Step.index (e := 121) (z := 3) (i := (i : Int)) (t := 23) rfl rfl (by exact lt_ok rfl) (by kernel_rfl) (show Env.ev E (.tmp 21) = _ from g21.trans rfl) rfl rfl (lt_ok rfl) (show Env.ev E (.tmp 22) = _ from g22.trans rfl) (by first | omega | (simp; omega)) (by simp only [D.size]; first | omega | (simp; omega)))) ?_
     refine .cons (fun E hA_ => by have g23 := hA_.get 23 (by decide); exact OpStep.plain rfl (Step.load_agg (n := 3) (cs := [.d (.int .i64 (b.getD i default).f0), .d (.int .i64 (b.getD i default).f1), .d (.ints .u8 (b.getD i default).f2)]) (t := 24) rfl rfl (by exact lt_ok rfl) (by kernel_rfl) (show Env.ev E (.tmp 23) = _ from g23.trans rfl) rfl (by simp only [List.range, List.range.loop, List.map_cons, List.map_nil]; rw [cell_map default (by first | omega | (simp; omega)), cell_map default (by first | omega | (simp; omega)), cell_map default (by first | omega | (simp; omega))]; rfl))) ?_
     refine .cons (fun E hA_ => by have g20 := hA_.get 20 (by decide); have g24 := hA_.get 24 (by decide); exact OpStep.plain rfl (Step.call (f := 149) (xs := [.tmp 20, .tmp 24]) (ps := [(.agg [.d (.int .i64 (a.getD i default).f0), .d (.int .i64 (a.getD i default).f1), .d (.ints .u8 (a.getD i default).f2)]), (.agg [.d (.int .i64 (b.getD i default).f0), .d (.int .i64 (b.getD i default).f1), .d (.ints .u8 (b.getD i default).f2)])]) false (g := .func 149) (t := 25) rfl rfl (by exact lt_ok rfl) rfl (by kernel_rfl) (evs_cons (show Env.ev E (.tmp 20) = _ from g20.trans rfl) (evs_cons (show Env.ev E (.tmp 24) = _ from g24.trans rfl) (rfl))) (.cons (.agg (.cons (.d _) (.cons (.d _) (.cons (.d _) .nil)))) (.cons (.agg (.cons (.d _) (.cons (.d _) (.cons (.d _) .nil)))) .nil)) (ok_laws_eqEntry (a.getD i default) (b.getD i default)) (.inr rfl) (At.freshRows hA_ rfl) (by simp) rfl)) ?_
     refine .cons (fun E hA_ => by have g25 := hA_.get 25 (by decide); exact OpStep.plain rfl (Step.not (b := (decide ((a.getD i default) = (b.getD i default)))) (t := 26) rfl rfl (by exact lt_ok rfl) (show Env.ev E (.tmp 25) = _ from g25.trans rfl))) ?_
     exact .nil _ _
    refine TL.nil ?_
    refine T.cond (b := !(decide ((a.getD i default) = (b.getD i default)))) rfl (fun h3 => ?_) (fun h3 => ?_)
    ·
     replace h3 : (decide ((a.getD i default) = (b.getD i default))) = false := by simpa only [Bool.not_eq_true', Bool.not_eq_false'] using h3
     replace h3 := of_decide_eq_false h3
     refine T.seq ?_
     refine T.region ?_
     refine TL.cons rfl (Step.assign (p := (.one (.d (.bool false)))) rfl rfl (lt_ok rfl) rfl) ?_
     refine TL.nil ?_
     refine T.ret ?_
     exact ⟨[(false, [.d (.bool false)])], (.cons rfl .nil), rfl, [], (RetC.rd' (by (congr 1; symm; first | (apply decide_eq_false; rintro rfl; first | exact absurd rfl ‹¬ _ = _› | exact absurd rfl (of_decide_eq_false (by assumption)) | contradiction | simp_all) | (apply decide_eq_true; exact take_all hx2 (by omega) hx3))) .nil)⟩
    ·
     replace h3 : (decide ((a.getD i default) = (b.getD i default))) = true := by simpa only [Bool.not_eq_true', Bool.not_eq_false'] using h3
     replace h3 := of_decide_eq_true h3
     refine T.skip ?_
     refine T.region ?_
     refine TL.cons rfl (Step.move (p := (.one (.d (.int .i64 (i : Int))))) rfl rfl (lt_ok rfl) rfl) ?_
     refine TL.cons rfl (Step.bin (r := .int .i64 ((i : Int) + 1)) rfl rfl (lt_ok rfl) rfl rfl (Bin.add (a := (i : Int)) (b := 1) (by first | exact wrap_ok (by first | omega | (simp; omega)) (by first | omega | (simp; omega)) | rfl))) ?_
     refine TL.cons rfl (Step.assign (p := (.one (.d (.int .i64 ((i : Int) + 1))))) rfl rfl (lt_ok rfl) rfl) ?_
     refine TL.nil ?_
     exact ⟨i + 1, by (refine ⟨by omega, hx2, take_step (d := default) hx2 (by omega) hx3 (by first | assumption | exact Decidable.not_not.1 (by assumption) | omega)⟩), by omega, Env.le_mk ⟨rfl, rfl, by first | rfl | (simp; done) | (congr 3; omega), trivial⟩ trivial trivial⟩
   ·
    replace h2 := of_decide_eq_false h2
    refine T.exit ?_
    refine T.seq ?_
    refine T.region ?_
    refine TL.cons rfl (Step.assign (p := (.one (.d (.bool true)))) rfl rfl (lt_ok rfl) rfl) ?_
    refine TL.nil ?_
    refine T.ret ?_
    exact ⟨[(false, [.d (.bool true)])], (.cons rfl .nil), rfl, [], (RetC.rd' (by (congr 1; symm; first | (apply decide_eq_false; rintro rfl; first | exact absurd rfl ‹¬ _ = _› | exact absurd rfl (of_decide_eq_false (by assumption)) | contradiction | simp_all) | (apply decide_eq_true; exact take_all hx2 (by omega) hx3))) .nil)⟩
theorem ok_laws_eqTc (a : STc) (b : STc) : RO Try.prog 30 [.agg a.cells, .agg b.cells] [(false, [.rd (.bool (decide (a = b)))])] := by
 refine RO.intro Try.func30 rfl 16 rfl (le_ok rfl) fun w Z => ?_
 refine T.seq ?_
 refine T.region ?_
 refine TL.cons rfl (Step.box (p := (.agg [.d (.int .i64 a.f0), .d (.sl 3 (a.f1.map SEntry.cells))])) (ps := [.d (.int .i64 a.f0), .d (.sl 3 (a.f1.map SEntry.cells))]) rfl rfl (lt_ok rfl) rfl rfl rfl rfl rfl) ?_
 refine TL.cons rfl (Step.box (p := (.agg [.d (.int .i64 b.f0), .d (.sl 3 (b.f1.map SEntry.cells))])) (ps := [.d (.int .i64 b.f0), .d (.sl 3 (b.f1.map SEntry.cells))]) rfl rfl (lt_ok rfl) rfl rfl rfl rfl rfl) ?_
 refine TL.cons rfl (Step.assign (p := (.one (.d (.bool false)))) rfl rfl (lt_ok rfl) rfl) ?_
 refine TL.nil ?_
 refine T.seq ?_
 refine T.seq ?_
 refine T.region ?_
 refine TL.cons rfl (Step.fieldAddr (q := 0) (off := 0) (n := 1) (one := true) rfl rfl (lt_ok rfl) (by kernel_rfl) (Nat.succ_ne_zero _) rfl) ?_
 refine TL.cons rfl (Step.load_box (c := .d (.int .i64 a.f0)) rfl rfl (lt_ok rfl) (by kernel_rfl) rfl rfl rfl) ?_
 refine TL.cons rfl (Step.fieldAddr (q := 0) (off := 0) (n := 1) (one := true) rfl rfl (lt_ok rfl) (by kernel_rfl) (Nat.succ_ne_zero _) rfl) ?_
 refine TL.cons rfl (Step.load_box (c := .d (.int .i64 b.f0)) rfl rfl (lt_ok rfl) (by kernel_rfl) rfl rfl rfl) ?_
 refine TL.cons rfl (Step.bin rfl rfl (lt_ok rfl) rfl rfl (Bin.neq (k := .i64) (a := a.f0) (b := b.f0))) ?_
 refine TL.nil ?_
 refine T.cond (b := decide (a.f0 ≠ b.f0)) rfl (fun h1 => ?_) (fun h1 => ?_)
 ·
  replace h1 := of_decide_eq_true h1
  refine T.seq ?_
  refine T.region ?_
  refine TL.cons rfl (Step.assign (p := (.one (.d (.bool false)))) rfl rfl (lt_ok rfl) rfl) ?_
  refine TL.nil ?_
  refine T.ret ?_
  exact ⟨[(false, [.d (.bool false)])], (.cons rfl .nil), rfl, [], (RetC.rd' (by (congr 1; symm; first | (apply decide_eq_false; rintro rfl; first | exact absurd rfl ‹¬ _ = _› | contradiction) | (apply decide_eq_true; apply STc.ext <;> first | assumption | exact Decidable.not_not.1 (by assumption)))) .nil)⟩
 ·
  replace h1 := of_decide_eq_false h1
  refine T.skip ?_
  refine T.seq ?_
  refine T.seq ?_
  refine T.region ?_
  refine TL.cons rfl (Step.fieldAddr (q := 0) (off := 1) (n := 1) (one := true) rfl rfl (lt_ok rfl) (by kernel_rfl) (Nat.succ_ne_zero _) rfl) ?_
  refine TL.cons rfl (Step.load_box (c := .d (.sl 3 (a.f1.map SEntry.cells))) rfl rfl (lt_ok rfl) (by kernel_rfl) rfl rfl rfl) ?_
  refine TL.cons rfl (Step.fieldAddr (q := 0) (off := 1) (n := 1) (one := true) rfl rfl (lt_ok rfl) (by kernel_rfl) (Nat.succ_ne_zero _) rfl) ?_
  refine TL.cons rfl (Step.load_box (c := .d (.sl 3 (b.f1.map SEntry.cells))) rfl rfl (lt_ok rfl) (by kernel_rfl) rfl rfl rfl) ?_
  refine TL.cons rfl (Step.call (f := 92) (xs := [.tmp 11, .tmp 13]) (ps := [(.one (.d (.sl 3 (a.f1.map SEntry.cells)))), (.one (.d (.sl 3 (b.f1.map SEntry.cells))))]) false (g := .func 92) rfl rfl (lt_ok rfl) rfl (by kernel_rfl) rfl (.cons (.one (.d _)) (.cons (.one (.d _)) .nil)) (ok_laws_eqEntryS a.f1 b.f1) (.inr rfl) rfl (by simp) rfl) ?_
  refine TL.cons rfl (Step.not (b := (decide (a.f1 = b.f1))) rfl rfl (lt_ok rfl) rfl) ?_
  refine TL.nil ?_
  refine T.cond (b := !(decide (a.f1 = b.f1))) rfl (fun h2 => ?_) (fun h2 => ?_)
  ·
   replace h2 : (decide (a.f1 = b.f1)) = false := by simpa only [Bool.not_eq_true', Bool.not_eq_false'] using h2
   replace h2 := of_decide_eq_false h2
   refine T.seq ?_
   refine T.region ?_
   refine TL.cons rfl (Step.assign (p := (.one (.d (.bool false)))) rfl rfl (lt_ok rfl) rfl) ?_
   refine TL.nil ?_
   refine T.ret ?_
   exact ⟨[(false, [.d (.bool false)])], (.cons rfl .nil), rfl, [], (RetC.rd' (by (congr 1; symm; first | (apply decide_eq_false; rintro rfl; first | exact absurd rfl ‹¬ _ = _› | contradiction) | (apply decide_eq_true; apply STc.ext <;> first | assumption | exact Decidable.not_not.1 (by assumption)))) .nil)⟩
  ·
   replace h2 : (decide (a.f1 = b.f1)) = true := by simpa only [Bool.not_eq_true', Bool.not_eq_false'] using h2
   replace h2 := of_decide_eq_true h2
   refine T.skip ?_
   refine T.seq ?_
   refine T.region ?_
   refine TL.cons rfl (Step.assign (p := (.one (.d (.bool true)))) rfl rfl (lt_ok rfl) rfl) ?_
   refine TL.nil ?_
   refine T.ret ?_
   exact ⟨[(false, [.d (.bool true)])], (.cons rfl .nil), rfl, [], (RetC.rd' (by (congr 1; symm; first | (apply decide_eq_false; rintro rfl; first | exact absurd rfl ‹¬ _ = _› | contradiction) | (apply decide_eq_true; apply STc.ext <;> first | assumption | exact Decidable.not_not.1 (by assumption)))) .nil)⟩
theorem ok_laws_markByteS (a : List Int) (k : Int) (h0_ : 0 ≤ k) (h1_ : k + (a.length : Int) ≤ 4611686018427387904) : MK Try.prog 32 [.one (.mk (.ints .u8 a) (.ints .u8 (mkB a k))), .one (.rd (.int .i64 k))] [(false, [.rd (.int .i64 (k + (a.length : Int)))])] := by
 refine MK.intro Try.func32 rfl 20 rfl (le_ok rfl) (le_ok rfl) rfl fun w Z IX pin Ts hp => ?_
 refine T.bndRow 900 rfl fun hb_900 => ?_
 simp only [D.size, List.length_map] at hb_900
 refine T.seq ?_
 refine T.region ?_
 refine TL.cons rfl (Step.assign (p := (.one (.d (.int .i64 0)))) rfl rfl (lt_ok rfl) rfl) ?_
 refine TL.nil ?_
 refine T.seq ?_
 refine T.seq ?_
 refine T.region ?_
 refine TL.cons rfl (Step.assign (p := (.one (.d (.int .i64 0)))) rfl rfl (lt_ok rfl) rfl) ?_
 refine TL.nil ?_
 refine T.block ?_
 refine T.loop (ι := Nat) (fun xx_ => { tm := [(0, (.one (.row 900 []))), (4, (.one (.d (.int .i64 0)))), (5, (.one (.d (.int .i64 (xx_ : Int))))), (1, (.one (.d (.int .i64 (k + (xx_ : Int))))))], rows := [(900, ((Ts 0), (.ints .u8 (upTo (fun _ => 1) (fun _ k => k % 256) a k xx_))))], boxes := [] }) (fun xx_ => xx_ ≤ a.length) (fun xx_ => a.length - xx_) 0 ?_ ?_ ?_
 · exact Env.le_mk ⟨rfl, rfl, by first | exact congrArg (fun x => some (Ts 0, D.ints .u8 x)) (upTo_set (df := 0) (by omega) (by simp only [cntL_one_take a i (by omega)])) | exact congrArg (fun x => some (Ts 0, D.ints .u8 x)) (upTo_zero _ _).symm | rfl | (refine congrArg (fun n => PV.one (.d (.int .i64 n))) ?_; first | omega | (simp; done) | (simp [cntL]; done)), by first | exact congrArg (fun x => some (Ts 0, D.ints .u8 x)) (upTo_set (df := 0) (by omega) (by simp only [cntL_one_take a i (by omega)])) | exact congrArg (fun x => some (Ts 0, D.ints .u8 x)) (upTo_zero _ _).symm | rfl | (refine congrArg (fun n => PV.one (.d (.int .i64 n))) ?_; first | omega | (simp; done) | (simp [cntL]; done)), trivial⟩ ⟨by first | exact congrArg (fun x => some (Ts 0, D.ints .u8 x)) (upTo_set (df := 0) (by omega) (by simp only [cntL_one_take a i (by omega)])) | exact congrArg (fun x => some (Ts 0, D.ints .u8 x)) (upTo_zero _ _).symm | rfl | (refine congrArg (fun n => PV.one (.d (.int .i64 n))) ?_; first | omega | (simp; done) | (simp [cntL]; done)), trivial⟩ trivial
 · exact Nat.zero_le _
 ·
  intro i hx
  try dsimp only at hx ⊢
  refine T.seq ?_
  refine T.seq ?_
  refine T.region ?_
  refine TL.cons rfl (Step.move (p := (.one (.d (.int .i64 (i : Int))))) rfl rfl (lt_ok rfl) rfl) ?_
  refine TL.cons rfl (Step.move (p := (.one (.row 900 []))) rfl rfl (lt_ok rfl) rfl) ?_
  refine TL.cons rfl (Step.len' (e := 5) (z := 1) (d := (.ints .u8 (upTo (fun _ => 1) (fun _ k => k % 256) a k i))) (n := a.length) rfl rfl (lt_ok rfl) (by kernel_rfl) rfl rfl (by simp [D.size, upTo_length])) ?_
  refine TL.cons rfl (Step.bin rfl rfl (lt_ok rfl) rfl rfl (Bin.lss (k := .i64) (a := (i : Int)) (b := (a.length : Int)))) ?_
  refine TL.nil ?_
  refine T.cond (b := decide ((i : Int) < (a.length : Int))) rfl (fun h1 => ?_) (fun h1 => ?_)
  ·
   replace h1 := of_decide_eq_true h1
   refine T.skip ?_
   refine T.seq ?_
   refine T.block ?_
   refine T.seq ?_
   refine T.region ?_
   refine TL.cons rfl (Step.move (p := (.one (.row 900 []))) rfl rfl (lt_ok rfl) rfl) ?_
   refine TL.cons rfl (Step.move (p := (.one (.d (.int .i64 (i : Int))))) rfl rfl (lt_ok rfl) rfl) ?_
   refine TL.cons rfl (Step.move (p := (.one (.d (.int .i64 (k + (i : Int)))))) rfl rfl (lt_ok rfl) rfl) ?_
   refine TL.cons rfl (Step.conv (c := ((k + (i : Int)) % 256)) rfl rfl (lt_ok rfl) (by kernel_rfl) (by kernel_rfl) rfl (wrap_byte _)) ?_
   refine TL.cons rfl (Step.index_row (d := (.ints .u8 (upTo (fun _ => 1) (fun _ k => k % 256) a k i))) (e := 5) (z := 1) (i := (i : Int)) rfl rfl (lt_ok rfl) (by kernel_rfl) rfl rfl rfl rfl (lt_ok rfl) rfl (by first | omega | (simp; omega)) (by simp only [D.at_, D.cell, D.size, List.length_set, List.length_map, upTo_length]; first | omega | (simp; omega))) ?_
   refine TL.cons rfl (Step.store_row (n := 1) (p := (.one (.d (.int .u8 ((k + (i : Int)) % 256))))) (ps := [.d (.int .u8 ((k + (i : Int)) % 256))]) (es := [(.int .u8 ((k + (i : Int)) % 256))]) (ss := []) (d1 := (.ints .u8 ((upTo (fun _ => 1) (fun _ k => k % 256) a k i).set i ((k + (i : Int)) % 256)))) (d' := (.ints .u8 ((upTo (fun _ => 1) (fun _ k => k % 256) a k i).set i ((k + (i : Int)) % 256)))) rfl rfl (by kernel_rfl) rfl rfl rfl rfl rfl rfl (.val rfl .nil) (by simp) (Putd.one rfl trivial rfl (by simp only [D.at_, D.size, List.length_set, upTo_length]; first | omega | (simp; omega)) (lt_ok rfl)) rfl) ?_
   refine TL.nil ?_
   refine T.region ?_
   refine TL.cons rfl (Step.move (p := (.one (.d (.int .i64 (k + (i : Int)))))) rfl rfl (lt_ok rfl) rfl) ?_
   refine TL.cons rfl (Step.bin (r := .int .i64 ((k + (i : Int)) + 1)) rfl rfl (lt_ok rfl) rfl rfl (Bin.add (a := (k + (i : Int))) (b := 1) (by first | exact wrap_ok (by first | omega | (simp; omega)) (by first | omega | (simp; omega)) | rfl))) ?_
   refine TL.cons rfl (Step.assign (p := (.one (.d (.int .i64 ((k + (i : Int)) + 1))))) rfl rfl (lt_ok rfl) rfl) ?_
   refine TL.nil ?_
   refine T.region ?_
   refine TL.cons rfl (Step.move (p := (.one (.d (.int .i64 (i : Int))))) rfl rfl (lt_ok rfl) rfl) ?_
   refine TL.cons rfl (Step.bin (r := .int .i64 ((i : Int) + 1)) rfl rfl (lt_ok rfl) rfl rfl (Bin.add (a := (i : Int)) (b := 1) (by first | exact wrap_ok (by first | omega | (simp; omega)) (by first | omega | (simp; omega)) | rfl))) ?_
   refine TL.cons rfl (Step.assign (p := (.one (.d (.int .i64 ((i : Int) + 1))))) rfl rfl (lt_ok rfl) rfl) ?_
   refine TL.nil ?_
   exact ⟨i + 1, by omega, by first | omega | (dsimp only; omega), Env.le_mk ⟨rfl, rfl, by first | exact congrArg (fun x => some (Ts 0, D.ints .u8 x)) (upTo_set (df := 0) (by omega) (by simp only [cntL_one_take a i (by omega)])) | exact congrArg (fun x => some (Ts 0, D.ints .u8 x)) (upTo_zero _ _).symm | rfl | (refine congrArg (fun n => PV.one (.d (.int .i64 n))) ?_; first | omega | (simp; done) | (simp [cntL]; done)), by first | exact congrArg (fun x => some (Ts 0, D.ints .u8 x)) (upTo_set (df := 0) (by omega) (by simp only [cntL_one_take a i (by omega)])) | exact congrArg (fun x => some (Ts 0, D.ints .u8 x)) (upTo_zero _ _).symm | rfl | (refine congrArg (fun n => PV.one (.d (.int .i64 n))) ?_; first | omega | (simp; done) | (simp [cntL]; done)), trivial⟩ ⟨by first | exact congrArg (fun x => some (Ts 0, D.ints .u8 x)) (upTo_set (df := 0) (by omega) (by simp only [cntL_one_take a i (by omega)])) | exact congrArg (fun x => some (Ts 0, D.ints .u8 x)) (upTo_zero _ _).symm | rfl | (refine congrArg (fun n => PV.one (.d (.int .i64 n))) ?_; first | omega | (simp; done) | (simp [cntL]; done)), trivial⟩ trivial⟩
  ·
   replace h1 := of_decide_eq_false h1
   refine T.exit ?_
   refine T.seq ?_
   refine T.region ?_
   refine TL.cons rfl (Step.move (p := (.one (.d (.int .i64 (k + (i : Int)))))) rfl rfl (lt_ok rfl) rfl) ?_
   refine TL.cons rfl (Step.assign (p := (.one (.d (.int .i64 (k + (i : Int)))))) rfl rfl (lt_ok rfl) rfl) ?_
   refine TL.nil ?_
   refine T.ret ?_
   exact ⟨⟨⟨[(false, [.d (.int .i64 (k + (i : Int)))])], (.cons rfl .nil), rfl, [], (RetC.rd' (by (congr 1; omega)) .nil)⟩, rfl⟩, (.mk' (by exact congrArg (fun x => some (Ts 0, D.ints .u8 x)) (upTo_all (by omega))) (.rd .nil'))⟩
theorem ok_laws_markEntryS (a : List SEntry) (k : Int) (h0_ : 0 ≤ k) (h1_ : k + cntL SEntry.ce a ≤ 4611686018427387904) : MK Try.prog 93 [.one (.mk (.sl 3 (a.map SEntry.cells)) (.sl 3 ((mkL SEntry.ce SEntry.me a k).map SEntry.cells))), .one (.rd (.int .i64 k))] [(false, [.rd (.int .i64 (k + cntL SEntry.ce a))])] := by
 refine MK.intro Try.func93 rfl 34 rfl (le_ok rfl) (le_ok rfl) rfl fun w Z IX pin Ts hp => ?_
 refine T.bndRow 900 rfl fun hb_900 => ?_
 simp only [D.size, List.length_map] at hb_900
 refine T.seq ?_
 refine T.region ?_
 refine TL.cons rfl (Step.assign (p := (.one (.d (.int .i64 0)))) rfl rfl (lt_ok rfl) rfl) ?_
 refine TL.nil ?_
 refine T.seq ?_
 refine T.seq ?_
 refine T.region ?_
 refine TL.cons rfl (Step.assign (p := (.one (.d (.int .i64 0)))) rfl rfl (lt_ok rfl) rfl) ?_
 refine TL.nil ?_
 refine T.block ?_
 refine T.loop (ι := Nat) (fun xx_ => { tm := [(0, (.one (.row 900 []))), (4, (.one (.d (.int .i64 0)))), (5, (.one (.d (.int .i64 (xx_ : Int))))), (1, (.one (.d (.int .i64 (k + cntL SEntry.ce (a.take xx_))))))], rows := [(900, ((Ts 0), (.sl 3 (((upTo SEntry.ce SEntry.me a k xx_).set xx_ (a.getD xx_ default)).map SEntry.cells))))], boxes := [] }) (fun xx_ => xx_ ≤ a.length) (fun xx_ => a.length - xx_) 0 ?_ ?_ ?_
 · exact Env.le_mk ⟨rfl, rfl, by first | exact congrArg (fun x => some (Ts 0, D.sl 3 (List.map SEntry.cells x))) (upTo_next (df := default) (by omega) rfl) | exact congrArg (fun x => some (Ts 0, D.sl 3 (List.map SEntry.cells x))) (upTo_first a k default) | rfl | (refine congrArg (fun n => PV.one (.d (.int .i64 n))) ?_; first | omega | (simp; done) | (simp [cntL]; done)), by first | exact congrArg (fun x => some (Ts 0, D.sl 3 (List.map SEntry.cells x))) (upTo_next (df := default) (by omega) rfl) | exact congrArg (fun x => some (Ts 0, D.sl 3 (List.map SEntry.cells x))) (upTo_first a k default) | rfl | (refine congrArg (fun n => PV.one (.d (.int .i64 n))) ?_; first | omega | (simp; done) | (simp [cntL]; done)), trivial⟩ ⟨by first | exact congrArg (fun x => some (Ts 0, D.sl 3 (List.map SEntry.cells x))) (upTo_next (df := default) (by omega) rfl) | exact congrArg (fun x => some (Ts 0, D.sl 3 (List.map SEntry.cells x))) (upTo_first a k default) | rfl | (refine congrArg (fun n => PV.one (.d (.int .i64 n))) ?_; first | omega | (simp; done) | (simp [cntL]; done)), trivial⟩ trivial
 · exact Nat.zero_le _
 ·
  intro i hx
  try dsimp only at hx ⊢
  refine T.seq ?_
  refine T.seq ?_
  refine T.region ?_
  refine TL.cons rfl (Step.move (p := (.one (.d (.int .i64 (i : Int))))) rfl rfl (lt_ok rfl) rfl) ?_
  refine TL.cons rfl (Step.move (p := (.one (.row 900 []))) rfl rfl (lt_ok rfl) rfl) ?_
  refine TL.cons rfl (Step.len' (e := 121) (z := 3) (d := (.sl 3 (((upTo SEntry.ce SEntry.me a k i).set i (a.getD i default)).map SEntry.cells))) (n := a.length) rfl rfl (lt_ok rfl) (by kernel_rfl) rfl rfl (by simp [D.size, upTo_length])) ?_
  refine TL.cons rfl (Step.bin rfl rfl (lt_ok rfl) rfl rfl (Bin.lss (k := .i64) (a := (i : Int)) (b := (a.length : Int)))) ?_
  refine TL.nil ?_
  refine T.cond (b := decide ((i : Int) < (a.length : Int))) rfl (fun h1 => ?_) (fun h1 => ?_)
  ·
   replace h1 := of_decide_eq_true h1
   have hc1 := cntL_take_le (cnt := SEntry.ce) SEntry.ce_nn a (i + 1)
   have hc2 := cntL_take_succ (cnt := SEntry.ce) (i := i) default (show i < a.length by omega)
   have hc3 := cntL_nonneg (cnt := SEntry.ce) SEntry.ce_nn (a.take i)
   have hc4 : SEntry.ce (a.getD i default) = 1 + 1 + ((a.getD i default).f2.length : Int) := rfl
   refine T.skip ?_
   refine T.seq ?_
   refine T.block ?_
   refine T.seq ?_
   refine T.region ?_
   refine TL.cons rfl (Step.move (p := (.one (.row 900 []))) rfl rfl (lt_ok rfl) rfl) ?_
   refine TL.cons rfl (Step.move (p := (.one (.d (.int .i64 (i : Int))))) rfl rfl (lt_ok rfl) rfl) ?_
   refine TL.cons rfl (Step.move (p := (.one (.d (.int .i64 (k + cntL SEntry.ce (a.take i)))))) rfl rfl (lt_ok rfl) rfl) ?_
   refine TL.cons rfl (Step.index_row (d := (.sl 3 (((upTo SEntry.ce SEntry.me a k i).set i (a.getD i default)).map SEntry.cells))) (e := 121) (z := 3) (i := (i : Int)) rfl rfl (lt_ok rfl) (by kernel_rfl) rfl rfl rfl rfl (lt_ok rfl) rfl (by first | omega | (simp; omega)) (by simp only [D.at_, D.cell, D.size, List.length_set, List.length_map, upTo_length]; first | omega | (simp; omega))) ?_
   refine TL.cons rfl (Step.fieldAddr_r (d := (.sl 3 (((upTo SEntry.ce SEntry.me a k i).set i (a.getD i default)).map SEntry.cells))) (j := 0) (off := 0) (n := 1) (one := true) rfl rfl (lt_ok rfl) (by kernel_rfl) (Nat.succ_ne_zero _) rfl rfl (lt_ok rfl)) ?_
   refine TL.cons rfl (Step.store_row (n := 1) (p := (.one (.d (.int .i64 (k + cntL SEntry.ce (a.take i)))))) (ps := [.d (.int .i64 (k + cntL SEntry.ce (a.take i)))]) (es := [(.int .i64 (k + cntL SEntry.ce (a.take i)))]) (ss := []) (d1 := (.sl 3 (((upTo SEntry.ce SEntry.me a k i).set i (⟨k + cntL SEntry.ce (a.take i), (a.getD i default).f1, (a.getD i default).f2⟩ : SEntry)).map SEntry.cells))) (d' := (.sl 3 (((upTo SEntry.ce SEntry.me a k i).set i (⟨k + cntL SEntry.ce (a.take i), (a.getD i default).f1, (a.getD i default).f2⟩ : SEntry)).map SEntry.cells))) rfl rfl (by kernel_rfl) rfl rfl rfl rfl rfl rfl (.val rfl .nil) (by simp) (Putd.fld2 SEntry.len (by simp only [upTo_length]; first | omega | (simp; omega)) (lt_ok rfl) rfl) rfl) ?_
   refine TL.nil ?_
   refine T.seq ?_
   refine T.region ?_
   refine TL.cons rfl (Step.move (p := (.one (.d (.int .i64 (k + cntL SEntry.ce (a.take i)))))) rfl rfl (lt_ok rfl) rfl) ?_
   refine TL.cons rfl (Step.bin (r := .int .i64 ((k + cntL SEntry.ce (a.take i)) + 1)) rfl rfl (lt_ok rfl) rfl rfl (Bin.add (a := (k + cntL SEntry.ce (a.take i))) (b := 1) (by first | exact wrap_ok (by first | omega | (simp; omega)) (by first | omega | (simp; omega)) | rfl))) ?_
   refine TL.cons rfl (Step.assign (p := (.one (.d (.int .i64 ((k + cntL SEntry.ce (a.take i)) + 1))))) rfl rfl (lt_ok rfl) rfl) ?_
   refine TL.nil ?_
   refine T.seq ?_
   refine T.region ?_
   refine TL.cons rfl (Step.move (p := (.one (.row 900 []))) rfl rfl (lt_ok rfl) rfl) ?_
   refine TL.cons rfl (Step.move (p := (.one (.d (.int .i64 (i : Int))))) rfl rfl (lt_ok rfl) rfl) ?_
   refine TL.cons rfl (Step.move (p := (.one (.d (.int .i64 ((k + cntL SEntry.ce (a.take i)) + 1))))) rfl rfl (lt_ok rfl) rfl) ?_
   refine TL.cons rfl (Step.index_row (d := (.sl 3 (((upTo SEntry.ce SEntry.me a k i).set i (⟨k + cntL SEntry.ce (a.take i), (a.getD i default).f1, (a.getD i default).f2⟩ : SEntry)).map SEntry.cells))) (e := 121) (z := 3) (i := (i : Int)) rfl rfl (lt_ok rfl) (by kernel_rfl) rfl rfl rfl rfl (lt_ok rfl) rfl (by first | omega | (simp; omega)) (by simp only [D.at_, D.cell, D.size, List.length_set, List.length_map, upTo_length]; first | omega | (simp; omega))) ?_
   refine TL.cons rfl (Step.fieldAddr_r (d := (.sl 3 (((upTo SEntry.ce SEntry.me a k i).set i (⟨k + cntL SEntry.ce (a.take i), (a.getD i default).f1, (a.getD i default).f2⟩ : SEntry)).map SEntry.cells))) (j := 0) (off := 1) (n := 1) (one := true) rfl rfl (lt_ok rfl) (by kernel_rfl) (Nat.succ_ne_zero _) rfl rfl (lt_ok rfl)) ?_
   refine TL.cons rfl (Step.store_row (n := 1) (p := (.one (.d (.int .i64 ((k + cntL SEntry.ce (a.take i)) + 1))))) (ps := [.d (.int .i64 ((k + cntL SEntry.ce (a.take i)) + 1))]) (es := [(.int .i64 ((k + cntL SEntry.ce (a.take i)) + 1))]) (ss := []) (d1 := (.sl 3 (((upTo SEntry.ce SEntry.me a k i).set i (⟨k + cntL SEntry.ce (a.take i), (k + cntL SEntry.ce (a.take i)) + 1, (a.getD i default).f2⟩ : SEntry)).map SEntry.cells))) (d' := (.sl 3 (((upTo SEntry.ce SEntry.me a k i).set i (⟨k + cntL SEntry.ce (a.take i), (k + cntL SEntry.ce (a.take i)) + 1, (a.getD i default).f2⟩ : SEntry)).map SEntry.cells))) rfl rfl (by kernel_rfl) rfl rfl rfl rfl rfl rfl (.val rfl .nil) (by simp) (Putd.fld2 SEntry.len (by simp only [upTo_length]; first | omega | (simp; omega)) (lt_ok rfl) rfl) rfl) ?_
   refine TL.nil ?_
   refine T.seq ?_
   refine T.region ?_
   refine TL.cons rfl (Step.move (p := (.one (.d (.int .i64 ((k + cntL SEntry.ce (a.take i)) + 1))))) rfl rfl (lt_ok rfl) rfl) ?_
   refine TL.cons rfl (Step.bin (r := .int .i64 (((k + cntL SEntry.ce (a.take i)) + 1) + 1)) rfl rfl (lt_ok rfl) rfl rfl (Bin.add (a := ((k + cntL SEntry.ce (a.take i)) + 1)) (b := 1) (by first | exact wrap_ok (by first | omega | (simp; omega)) (by first | omega | (simp; omega)) | rfl))) ?_
   refine TL.cons rfl (Step.assign (p := (.one (.d (.int .i64 (((k + cntL SEntry.ce (a.take i)) + 1) + 1))))) rfl rfl (lt_ok rfl) rfl) ?_
   refine TL.nil ?_
   refine T.region ?_
   refine TL.cons rfl (Step.move (p := (.one (.row 900 []))) rfl rfl (lt_ok rfl) rfl) ?_
   refine TL.cons rfl (Step.move (p := (.one (.d (.int .i64 (i : Int))))) rfl rfl (lt_ok rfl) rfl) ?_
   refine TL.cons rfl (Step.index_row (d := (.sl 3 (((upTo SEntry.ce SEntry.me a k i).set i (⟨k + cntL SEntry.ce (a.take i), (k + cntL SEntry.ce (a.take i)) + 1, (a.getD i default).f2⟩ : SEntry)).map SEntry.cells))) (e := 121) (z := 3) (i := (i : Int)) rfl rfl (lt_ok rfl) (by kernel_rfl) rfl rfl rfl rfl (lt_ok rfl) rfl (by first | omega | (simp; omega)) (by simp only [D.at_, D.cell, D.size, List.length_set, List.length_map, upTo_length]; first | omega | (simp; omega))) ?_
   refine TL.cons rfl (Step.fieldAddr_r (d := (.sl 3 (((upTo SEntry.ce SEntry.me a k i).set i (⟨k + cntL SEntry.ce (a.take i), (k + cntL SEntry.ce (a.take i)) + 1, (a.getD i default).f2⟩ : SEntry)).map SEntry.cells))) (j := 0) (off := 2) (n := 1) (one := true) rfl rfl (lt_ok rfl) (by kernel_rfl) (Nat.succ_ne_zero _) rfl rfl (lt_ok rfl)) ?_
   refine TL.cons rfl (Step.load_row (d := (.sl 3 (((upTo SEntry.ce SEntry.me a k i).set i (⟨k + cntL SEntry.ce (a.take i), (k + cntL SEntry.ce (a.take i)) + 1, (a.getD i default).f2⟩ : SEntry)).map SEntry.cells))) (c := .row 900 [(i, 2)]) rfl rfl (lt_ok rfl) (by kernel_rfl) rfl rfl (ofRow_sl (cell_set_sl (z := 3) (by simp only [upTo_length]; first | omega | (simp; omega)) rfl) rfl)) ?_
   refine TL.cons rfl (Step.move (p := (.one (.d (.int .i64 (((k + cntL SEntry.ce (a.take i)) + 1) + 1))))) rfl rfl (lt_ok rfl) rfl) ?_
   refine TL.cons rfl (Step.callM (f := 32) (xs := [.tmp 30, .tmp 31]) (ps := [(.one (.row 900 [(i, 2)])), (.one (.d (.int .i64 (((k + cntL SEntry.ce (a.take i)) + 1) + 1))))]) (args := [.one (.mk (.ints .u8 (a.getD i default).f2) (.ints .u8 (mkB (a.getD i default).f2 (((k + cntL SEntry.ce (a.take i)) + 1) + 1)))), .one (.rd (.int .i64 (((k + cntL SEntry.ce (a.take i)) + 1) + 1)))]) (js := [(900, (.sl 3 (((upTo SEntry.ce SEntry.me a k i).set i (⟨k + cntL SEntry.ce (a.take i), (k + cntL SEntry.ce (a.take i)) + 1, mkB (a.getD i default).f2 (((k + cntL SEntry.ce (a.take i)) + 1) + 1)⟩ : SEntry)).map SEntry.cells)))]) (x := (.int .i64 ((((k + cntL SEntry.ce (a.take i)) + 1) + 1) + ((a.getD i default).f2.length : Int)))) (g := .func 32) rfl rfl (lt_ok rfl) rfl (by kernel_rfl) rfl rfl (.row (T := (Ts 0)) (d := (.sl 3 (((upTo SEntry.ce SEntry.me a k i).set i (⟨k + cntL SEntry.ce (a.take i), (k + cntL SEntry.ce (a.take i)) + 1, (a.getD i default).f2⟩ : SEntry)).map SEntry.cells))) (e' := (.ints .u8 (mkB (a.getD i default).f2 (((k + cntL SEntry.ce (a.take i)) + 1) + 1)))) (d' := (.sl 3 (((upTo SEntry.ce SEntry.me a k i).set i (⟨k + cntL SEntry.ce (a.take i), (k + cntL SEntry.ce (a.take i)) + 1, mkB (a.getD i default).f2 (((k + cntL SEntry.ce (a.take i)) + 1) + 1)⟩ : SEntry)).map SEntry.cells))) rfl (cell_set_sl (z := 3) (by simp only [upTo_length]; first | omega | (simp; omega)) rfl) rfl (putAt_fld2 (by simp only [upTo_length]; first | omega | (simp; omega)) rfl) rfl (by simp [D.size]) rfl rfl (.d .nil)) (ok_laws_markByteS (a.getD i default).f2 (((k + cntL SEntry.ce (a.take i)) + 1) + 1) (by omega) (by first | omega | (have := (by assumption); omega))) rfl) ?_
   refine TL.cons rfl (Step.assign (p := (.one (.d (.int .i64 ((((k + cntL SEntry.ce (a.take i)) + 1) + 1) + ((a.getD i default).f2.length : Int)))))) rfl rfl (lt_ok rfl) rfl) ?_
   refine TL.nil ?_
   refine T.region ?_
   refine TL.cons rfl (Step.move (p := (.one (.d (.int .i64 (i : Int))))) rfl rfl (lt_ok rfl) rfl) ?_
   refine TL.cons rfl (Step.bin (r := .int .i64 ((i : Int) + 1)) rfl rfl (lt_ok rfl) rfl rfl (Bin.add (a := (i : Int)) (b := 1) (by first | exact wrap_ok (by first | omega | (simp; omega)) (by first | omega | (simp; omega)) | rfl))) ?_
   refine TL.cons rfl (Step.assign (p := (.one (.d (.int .i64 ((i : Int) + 1))))) rfl rfl (lt_ok rfl) rfl) ?_
   refine TL.nil ?_
   exact ⟨i + 1, by omega, by first | omega | (dsimp only; omega), Env.le_mk ⟨rfl, rfl, by first | exact congrArg (fun x => some (Ts 0, D.sl 3 (List.map SEntry.cells x))) (upTo_next (df := default) (by omega) rfl) | exact congrArg (fun x => some (Ts 0, D.sl 3 (List.map SEntry.cells x))) (upTo_first a k default) | rfl | (refine congrArg (fun n => PV.one (.d (.int .i64 n))) ?_; first | omega | (simp; done) | (simp [cntL]; done)), by first | exact congrArg (fun x => some (Ts 0, D.sl 3 (List.map SEntry.cells x))) (upTo_next (df := default) (by omega) rfl) | exact congrArg (fun x => some (Ts 0, D.sl 3 (List.map SEntry.cells x))) (upTo_first a k default) | rfl | (refine congrArg (fun n => PV.one (.d (.int .i64 n))) ?_; first | omega | (simp; done) | (simp [cntL]; done)), trivial⟩ ⟨by first | exact congrArg (fun x => some (Ts 0, D.sl 3 (List.map SEntry.cells x))) (upTo_next (df := default) (by omega) rfl) | exact congrArg (fun x => some (Ts 0, D.sl 3 (List.map SEntry.cells x))) (upTo_first a k default) | rfl | (refine congrArg (fun n => PV.one (.d (.int .i64 n))) ?_; first | omega | (simp; done) | (simp [cntL]; done)), trivial⟩ trivial⟩
  ·
   replace h1 := of_decide_eq_false h1
   refine T.exit ?_
   refine T.seq ?_
   refine T.region ?_
   refine TL.cons rfl (Step.move (p := (.one (.d (.int .i64 (k + cntL SEntry.ce (a.take i)))))) rfl rfl (lt_ok rfl) rfl) ?_
   refine TL.cons rfl (Step.assign (p := (.one (.d (.int .i64 (k + cntL SEntry.ce (a.take i)))))) rfl rfl (lt_ok rfl) rfl) ?_
   refine TL.nil ?_
   refine T.ret ?_
   exact ⟨⟨⟨[(false, [.d (.int .i64 (k + cntL SEntry.ce (a.take i)))])], (.cons rfl .nil), rfl, [], (RetC.rd' (by (congr 1; rw [cntL_all (by omega)])) .nil)⟩, rfl⟩, (.mk' (by exact congrArg (fun x => some (Ts 0, D.sl 3 (List.map SEntry.cells x))) (upTo_end (by omega))) (.rd .nil'))⟩
theorem ok_laws_markTc (a : STc) (k : Int) (h0_ : 0 ≤ k) (h1_ : k + a.cm ≤ 4611686018427387904) : MK Try.prog 31 [.agg [.rd (.int .i64 a.f0), .mk (.sl 3 (a.f1.map SEntry.cells)) (.sl 3 ((mkL SEntry.ce SEntry.me a.f1 k).map SEntry.cells))], .one (.rd (.int .i64 k))] [(false, [.rd (.int .i64 (k + a.cm))])] := by
 refine MK.intro Try.func31 rfl 10 rfl (le_ok rfl) (le_ok rfl) rfl fun w Z IX pin Ts hp => ?_
 have n1 := cntL_nonneg SEntry.ce_nn a.f1
 simp only [STc.cm] at h1_
 refine T.seq ?_
 refine T.region ?_
 refine TL.cons rfl (Step.box (p := (.agg [.d (.int .i64 a.f0), .row 901 []])) (ps := [.d (.int .i64 a.f0), .row 901 []]) rfl rfl (lt_ok rfl) rfl rfl rfl rfl rfl) ?_
 refine TL.cons rfl (Step.assign (p := (.one (.d (.int .i64 0)))) rfl rfl (lt_ok rfl) rfl) ?_
 refine TL.nil ?_
 refine T.seq ?_
 refine T.region ?_
 refine TL.cons rfl (Step.fieldAddr (q := 0) (off := 1) (n := 1) (one := true) rfl rfl (lt_ok rfl) (by kernel_rfl) (Nat.succ_ne_zero _) rfl) ?_
 refine TL.cons rfl (Step.load_box (c := .row 901 []) rfl rfl (lt_ok rfl) (by kernel_rfl) rfl rfl rfl) ?_
 refine TL.cons rfl (Step.move (p := (.one (.d (.int .i64 k)))) rfl rfl (lt_ok rfl) rfl) ?_
 have nn1 := cntL_nonneg SEntry.ce_nn a.f1
 refine TL.cons rfl (Step.callM (f := 93) (xs := [.tmp 6, .tmp 7]) (ps := [(.one (.row 901 [])), (.one (.d (.int .i64 k)))]) (args := [.one (.mk (.sl 3 (a.f1.map SEntry.cells)) (.sl 3 ((mkL SEntry.ce SEntry.me a.f1 k).map SEntry.cells))), .one (.rd (.int .i64 k))]) (js := [(901, (.sl 3 ((mkL SEntry.ce SEntry.me a.f1 k).map SEntry.cells)))]) (x := (.int .i64 (k + cntL SEntry.ce a.f1))) (g := .func 93) rfl rfl (lt_ok rfl) rfl (by kernel_rfl) rfl rfl (.row (T := (Ts 1)) (d := (.sl 3 (a.f1.map SEntry.cells))) (e' := (.sl 3 ((mkL SEntry.ce SEntry.me a.f1 k).map SEntry.cells))) (d' := (.sl 3 ((mkL SEntry.ce SEntry.me a.f1 k).map SEntry.cells))) rfl rfl rfl rfl rfl (by simp [D.size, mkL_length]) rfl rfl (.d .nil)) (ok_laws_markEntryS a.f1 k (by omega) (by first | omega | (have := SEntry.cL_le (xs := a.f1) (by assumption); omega))) rfl) ?_
 refine TL.cons rfl (Step.assign (p := (.one (.d (.int .i64 (k + cntL SEntry.ce a.f1))))) rfl rfl (lt_ok rfl) rfl) ?_
 refine TL.nil ?_
 refine T.seq ?_
 refine T.region ?_
 refine TL.cons rfl (Step.move (p := (.one (.d (.int .i64 (k + cntL SEntry.ce a.f1))))) rfl rfl (lt_ok rfl) rfl) ?_
 refine TL.cons rfl (Step.assign (p := (.one (.d (.int .i64 (k + cntL SEntry.ce a.f1))))) rfl rfl (lt_ok rfl) rfl) ?_
 refine TL.nil ?_
 refine T.ret ?_
 exact ⟨⟨⟨[(false, [.d (.int .i64 (k + cntL SEntry.ce a.f1))])], (.cons rfl .nil), rfl, [], (RetC.rd' (by first | rfl | (congr 1; simp only [STc.cm]; omega)) .nil)⟩, rfl⟩, (.rd (.mk' (by rfl) (.rd .nil')))⟩
theorem ok_laws_heldByteS (a : List Int) (b : List Int) (k : Int) (h0_ : 0 ≤ k) (h1_ : k + (a.length : Int) ≤ 4611686018427387904) (h2_ : b = mkB a k) : RO Try.prog 33 [.one (.ints .u8 b), .one (.int .i64 k)] [(false, [.rd (.int .i64 (k + (a.length : Int)))])] := by
 refine RO.intro Try.func33 rfl 22 rfl (le_ok rfl) fun w Z => ?_
 refine T.bnd 0 0 rfl rfl fun hb_0_0 => ?_
 simp only [D.size, List.length_map] at hb_0_0
 have hl_ : b.length = a.length := by rw [h2_, mkL_length]
 have hg_ : ∀ i, i < a.length → b.getD i 0 = (k + (i : Int)) % 256 := fun i hi => by rw [h2_, mkL_getD _ _ _ _ hi]; simp only [cntL_one_take a i (by omega)]
 refine T.seq ?_
 refine T.region ?_
 refine TL.cons rfl (Step.assign (p := (.one (.d (.int .i64 0)))) rfl rfl (lt_ok rfl) rfl) ?_
 refine TL.nil ?_
 refine T.seq ?_
 refine T.seq ?_
 refine T.region ?_
 refine TL.cons rfl (Step.assign (p := (.one (.d (.int .i64 0)))) rfl rfl (lt_ok rfl) rfl) ?_
 refine TL.nil ?_
 refine T.block ?_
 refine T.loop (ι := Nat) (fun xx_ => { tm := [(0, (.one (.d (.ints .u8 b)))), (5, (.one (.d (.int .i64 (xx_ : Int))))), (1, (.one (.d (.int .i64 (k + (xx_ : Int))))))], rows := [], boxes := [] }) (fun xx_ => xx_ ≤ a.length) (fun xx_ => a.length - xx_) 0 ?_ ?_ ?_
 · exact Env.le_mk ⟨rfl, by first | rfl | (refine congrArg (fun n => PV.one (.d (.int .i64 n))) ?_; first | omega | (simp; done) | (simp [cntL]; done)), by first | rfl | (refine congrArg (fun n => PV.one (.d (.int .i64 n))) ?_; first | omega | (simp; done) | (simp [cntL]; done)), trivial⟩ trivial trivial
 · exact Nat.zero_le _
 ·
  intro i hx
  try dsimp only at hx ⊢
  refine T.seq ?_
  refine T.seq ?_
  refine T.region ?_
  refine TL.cons rfl (Step.move (p := (.one (.d (.int .i64 (i : Int))))) rfl rfl (lt_ok rfl) rfl) ?_
  refine TL.cons rfl (Step.move (p := (.one (.d (.ints .u8 b)))) rfl rfl (lt_ok rfl) rfl) ?_
  refine TL.cons rfl (Step.len (e := 5) (z := 1) (d := (.ints .u8 b)) rfl rfl (lt_ok rfl) (by kernel_rfl) rfl rfl) ?_
  refine TL.cons rfl (Step.bin rfl rfl (lt_ok rfl) rfl rfl (Bin.lss (k := .i64) (a := (i : Int)) (b := (b.length : Int)))) ?_
  refine TL.nil ?_
  refine T.cond (b := decide ((i : Int) < (b.length : Int))) rfl (fun h1 => ?_) (fun h1 => ?_)
  ·
   replace h1 := of_decide_eq_true h1
   refine T.skip ?_
   refine T.seq ?_
   refine T.block ?_
   refine T.seq ?_
   refine T.seq ?_
   refine T.region ?_
   refine TL.cons rfl (Step.move (p := (.one (.d (.ints .u8 b)))) rfl rfl (lt_ok rfl) rfl) ?_
   refine TL.cons rfl (Step.move (p := (.one (.d (.int .i64 (i : Int))))) rfl rfl (lt_ok rfl) rfl) ?_
   refine TL.cons rfl (Step.index (e := 5) (z := 1) (i := (i : Int)) rfl rfl (lt_ok rfl) (by kernel_rfl) rfl rfl rfl (lt_ok rfl) rfl (by first | omega | (simp; omega)) (by simp only [D.size]; first | omega | (simp; omega))) ?_
   refine TL.cons rfl (Step.load (e := (.int .u8 (b.getD i 0))) rfl rfl (lt_ok rfl) (by kernel_rfl) rfl rfl) ?_
   refine TL.cons rfl (Step.move (p := (.one (.d (.int .i64 (k + (i : Int)))))) rfl rfl (lt_ok rfl) rfl) ?_
   refine TL.cons rfl (Step.conv (c := ((k + (i : Int)) % 256)) rfl rfl (lt_ok rfl) (by kernel_rfl) (by kernel_rfl) rfl (wrap_byte _)) ?_
   refine TL.cons rfl (Step.bin rfl rfl (lt_ok rfl) rfl rfl (Bin.neq (k := .u8) (a := (b.getD i 0)) (b := ((k + (i : Int)) % 256)))) ?_
   refine TL.nil ?_
   refine T.cond (b := decide ((b.getD i 0) ≠ ((k + (i : Int)) % 256))) rfl (fun h2 => ?_) (fun h2 => ?_)
   ·
    replace h2 := of_decide_eq_true h2
    refine T.seq ?_
    refine T.region ?_
    refine TL.cons rfl (Step.assign (p := (.one (.d (.int .i64 (-1))))) rfl rfl (lt_ok rfl) rfl) ?_
    refine TL.nil ?_
    refine T.ret ?_
    exact ⟨[(false, [.d (.int .i64 (-1))])], (.cons rfl .nil), rfl, [], (RetC.rd' (by first | (congr 1; omega) | (exfalso; have := hg_ i (by omega); omega)) .nil)⟩
   ·
    replace h2 := of_decide_eq_false h2
    refine T.skip ?_
    refine T.region ?_
    refine TL.cons rfl (Step.move (p := (.one (.d (.int .i64 (k + (i : Int)))))) rfl rfl (lt_ok rfl) rfl) ?_
    refine TL.cons rfl (Step.bin (r := .int .i64 ((k + (i : Int)) + 1)) rfl rfl (lt_ok rfl) rfl rfl (Bin.add (a := (k + (i : Int))) (b := 1) (by first | exact wrap_ok (by first | omega | (simp; omega)) (by first | omega | (simp; omega)) | rfl))) ?_
    refine TL.cons rfl (Step.assign (p := (.one (.d (.int .i64 ((k + (i : Int)) + 1))))) rfl rfl (lt_ok rfl) rfl) ?_
    refine TL.nil ?_
    refine T.region ?_
    refine TL.cons rfl (Step.move (p := (.one (.d (.int .i64 (i : Int))))) rfl rfl (lt_ok rfl) rfl) ?_
    refine TL.cons rfl (Step.bin (r := .int .i64 ((i : Int) + 1)) rfl rfl (lt_ok rfl) rfl rfl (Bin.add (a := (i : Int)) (b := 1) (by first | exact wrap_ok (by first | omega | (simp; omega)) (by first | omega | (simp; omega)) | rfl))) ?_
    refine TL.cons rfl (Step.assign (p := (.one (.d (.int .i64 ((i : Int) + 1))))) rfl rfl (lt_ok rfl) rfl) ?_
    refine TL.nil ?_
    exact ⟨i + 1, by omega, by first | omega | (dsimp only; omega), Env.le_mk ⟨rfl, by first | rfl | (refine congrArg (fun n => PV.one (.d (.int .i64 n))) ?_; first | omega | (simp; done) | (simp [cntL]; done)), by first | rfl | (refine congrArg (fun n => PV.one (.d (.int .i64 n))) ?_; first | omega | (simp; done) | (simp [cntL]; done)), trivial⟩ trivial trivial⟩
  ·
   replace h1 := of_decide_eq_false h1
   refine T.exit ?_
   refine T.seq ?_
   refine T.region ?_
   refine TL.cons rfl (Step.move (p := (.one (.d (.int .i64 (k + (i : Int)))))) rfl rfl (lt_ok rfl) rfl) ?_
   refine TL.cons rfl (Step.assign (p := (.one (.d (.int .i64 (k + (i : Int)))))) rfl rfl (lt_ok rfl) rfl) ?_
   refine TL.nil ?_
   refine T.ret ?_
   exact ⟨[(false, [.d (.int .i64 (k + (i : Int)))])], (.cons rfl .nil), rfl, [], (RetC.rd' (by first | (congr 1; omega) | (exfalso; have := hg_ i (by omega); omega)) .nil)⟩
theorem ok_spec_l01In (n : Int) (lo : Int) (hi : Int) : RO Try.prog 138 [.one (.int .i64 n), .one (.int .i64 lo), .one (.int .i64 hi)] [(false, [.rd (.bool (decide (lo ≤ n ∧ n ≤ hi)))])] := by
 refine RO.intro Try.func138 rfl 15 rfl (le_ok rfl) fun w Z => ?_
 refine T.seq ?_
 refine T.region ?_
 refine TL.cons rfl (Step.assign (p := (.one (.d (.bool false)))) rfl rfl (lt_ok rfl) rfl) ?_
 refine TL.nil ?_
 refine T.seq ?_
 refine T.region ?_
 refine TL.cons rfl (Step.move (p := (.one (.d (.int .i64 n)))) rfl rfl (lt_ok rfl) rfl) ?_
 refine TL.cons rfl (Step.move (p := (.one (.d (.int .i64 lo)))) rfl rfl (lt_ok rfl) rfl) ?_
 refine TL.cons rfl (Step.bin rfl rfl (lt_ok rfl) rfl rfl (Bin.geq (k := .i64) (a := n) (b := lo))) ?_
 refine TL.cons rfl (Step.move (p := (.one (.d (.bool (decide (lo ≤ n)))))) rfl rfl (lt_ok rfl) rfl) ?_
 rcases Bool.eq_false_or_eq_true (decide (lo ≤ n)) with hb1 | hb1
 ·
  refine TL.known 10 hb1 rfl ?_
  refine TL.gyes 10 rfl rfl (lt_ok rfl) rfl (Step.move (p := (.one (.d (.int .i64 n)))) rfl rfl (lt_ok rfl) rfl) ?_
  refine TL.gyes 10 rfl rfl (lt_ok rfl) rfl (Step.move (p := (.one (.d (.int .i64 hi)))) rfl rfl (lt_ok rfl) rfl) ?_
  refine TL.gyes 10 rfl rfl (lt_ok rfl) rfl (Step.bin rfl rfl (lt_ok rfl) rfl rfl (Bin.leq (k := .i64) (a := n) (b := hi))) ?_
  refine TL.cons rfl (Step.pick (b := true) (p := (.one (.d (.bool (decide (n ≤ hi)))))) rfl rfl (lt_ok rfl) rfl rfl) ?_
  refine TL.cons rfl (Step.assign (p := (.one (.d (.bool (decide (n ≤ hi)))))) rfl rfl (lt_ok rfl) rfl) ?_
  refine TL.nil ?_
  refine T.ret ?_
  exact ⟨[(false, [.d (.bool (decide (n ≤ hi)))])], (.cons rfl .nil), rfl, [], (RetC.rd' (by first | (congr 1; simp_all; done) | (congr 1; simp_all; omega)) .nil)⟩
 ·
  refine TL.known 10 hb1 rfl ?_
  refine TL.goff 10 rfl rfl (lt_ok rfl) rfl rfl rfl (lt_ok rfl) ?_
  refine TL.goff 10 rfl rfl (lt_ok rfl) rfl rfl rfl (lt_ok rfl) ?_
  refine TL.goff 10 rfl rfl (lt_ok rfl) rfl rfl rfl (lt_ok rfl) ?_
  refine TL.cons rfl (Step.pick (b := false) (p := (.one (.d (.bool false)))) rfl rfl (lt_ok rfl) rfl rfl) ?_
  refine TL.cons rfl (Step.assign (p := (.one (.d (.bool false)))) rfl rfl (lt_ok rfl) rfl) ?_
  refine TL.nil ?_
  refine T.ret ?_
  exact ⟨[(false, [.d (.bool false)])], (.cons rfl .nil), rfl, [], (RetC.rd' (by first | (congr 1; simp_all; done) | (congr 1; simp_all; omega)) .nil)⟩
theorem ok_spec_l02Signers (n : Int) : RO Try.prog 141 [.one (.int .i64 n)] [(false, [.rd (.bool (decide (1 ≤ n ∧ n ≤ 10)))])] := by
 refine RO.intro Try.func141 rfl 5 rfl (le_ok rfl) fun w Z => ?_
 refine T.seq ?_
 refine T.region ?_
 refine TL.cons rfl (Step.assign (p := (.one (.d (.bool false)))) rfl rfl (lt_ok rfl) rfl) ?_
 refine TL.nil ?_
 refine T.seq ?_
 refine T.region ?_
 refine TL.cons rfl (Step.move (p := (.one (.d (.int .i64 n)))) rfl rfl (lt_ok rfl) rfl) ?_
 refine TL.cons rfl (Step.call (f := 138) (xs := [.tmp 3, .const (.int .i64 1), .const (.int .i64 10)]) (ps := [(.one (.d (.int .i64 n))), (.one (.d (.int .i64 1))), (.one (.d (.int .i64 10)))]) false (g := .func 138) rfl rfl (lt_ok rfl) rfl (by kernel_rfl) rfl (.cons (.one (.d _)) (.cons (.one (.d _)) (.cons (.one (.d _)) .nil))) (ok_spec_l01In n 1 10) (.inr rfl) rfl (by simp) rfl) ?_
 refine TL.cons rfl (Step.assign (p := (.one (.d (.bool (decide (1 ≤ n ∧ n ≤ 10)))))) rfl rfl (lt_ok rfl) rfl) ?_
 refine TL.nil ?_
 refine T.ret ?_
 exact ⟨[(false, [.d (.bool (decide (1 ≤ n ∧ n ≤ 10)))])], (.cons rfl .nil), rfl, [], (RetC.rd' (by rfl) .nil)⟩
theorem ok_spec_LimitsOk (l : SLimits) : RO Try.prog 94 [.agg l.cells] [(false, [.rd (.bool (limOk l))])] := by
 refine RO.intro Try.func94 rfl 26 rfl (le_ok rfl) fun w Z => ?_
 refine T.seq ?_
 refine T.region ?_
 refine TL.cons rfl (Step.box (p := (.agg [.d (.int .i64 l.f0), .d (.int .i64 l.f1), .d (.int .i64 l.f2), .d (.int .i64 l.f3), .d (.int .i64 l.f4)])) (ps := [.d (.int .i64 l.f0), .d (.int .i64 l.f1), .d (.int .i64 l.f2), .d (.int .i64 l.f3), .d (.int .i64 l.f4)]) rfl rfl (lt_ok rfl) rfl rfl rfl rfl rfl) ?_
 refine TL.cons rfl (Step.assign (p := (.one (.d (.bool false)))) rfl rfl (lt_ok rfl) rfl) ?_
 refine TL.nil ?_
 refine T.seq ?_
 refine T.region ?_
 refine TL.cons rfl (Step.fieldAddr (q := 0) (off := 0) (n := 1) (one := true) rfl rfl (lt_ok rfl) (by kernel_rfl) (Nat.succ_ne_zero _) rfl) ?_
 refine TL.cons rfl (Step.load_box (c := .d (.int .i64 l.f0)) rfl rfl (lt_ok rfl) (by kernel_rfl) rfl rfl rfl) ?_
 refine TL.cons rfl (Step.call (f := 141) (xs := [.tmp 4]) (ps := [(.one (.d (.int .i64 l.f0)))]) false (g := .func 141) rfl rfl (lt_ok rfl) rfl (by kernel_rfl) rfl (.cons (.one (.d _)) .nil) (ok_spec_l02Signers l.f0) (.inr rfl) rfl (by simp) rfl) ?_
 refine TL.cons rfl (Step.move (p := (.one (.d (.bool (decide (1 ≤ l.f0 ∧ l.f0 ≤ 10)))))) rfl rfl (lt_ok rfl) rfl) ?_
 rcases Bool.eq_false_or_eq_true (decide (1 ≤ l.f0 ∧ l.f0 ≤ 10)) with hb1 | hb1
 ·
  refine TL.known 6 hb1 rfl ?_
  refine TL.gyes 6 rfl rfl (lt_ok rfl) rfl (Step.fieldAddr (q := 0) (off := 1) (n := 1) (one := true) rfl rfl (lt_ok rfl) (by kernel_rfl) (Nat.succ_ne_zero _) rfl) ?_
  refine TL.gyes 6 rfl rfl (lt_ok rfl) rfl (Step.load_box (c := .d (.int .i64 l.f1)) rfl rfl (lt_ok rfl) (by kernel_rfl) rfl rfl rfl) ?_
  refine TL.gyes 6 rfl rfl (lt_ok rfl) rfl (Step.call (f := 138) (xs := [.tmp 8, .const (.int .i64 0), .const (.int .i64 40)]) (ps := [(.one (.d (.int .i64 l.f1))), (.one (.d (.int .i64 0))), (.one (.d (.int .i64 40)))]) false (g := .func 138) rfl rfl (lt_ok rfl) rfl (by kernel_rfl) rfl (.cons (.one (.d _)) (.cons (.one (.d _)) (.cons (.one (.d _)) .nil))) (ok_spec_l01In l.f1 0 40) (.inr rfl) rfl (by simp) rfl) ?_
  refine TL.cons rfl (Step.pick (b := true) (p := (.one (.d (.bool (decide (0 ≤ l.f1 ∧ l.f1 ≤ 40)))))) rfl rfl (lt_ok rfl) rfl rfl) ?_
  refine TL.cons rfl (Step.move (p := (.one (.d (.bool (decide (0 ≤ l.f1 ∧ l.f1 ≤ 40)))))) rfl rfl (lt_ok rfl) rfl) ?_
  rcases Bool.eq_false_or_eq_true (decide (0 ≤ l.f1 ∧ l.f1 ≤ 40)) with hb2 | hb2
  ·
   refine TL.known 11 hb2 rfl ?_
   refine TL.gyes 11 rfl rfl (lt_ok rfl) rfl (Step.fieldAddr (q := 0) (off := 2) (n := 1) (one := true) rfl rfl (lt_ok rfl) (by kernel_rfl) (Nat.succ_ne_zero _) rfl) ?_
   refine TL.gyes 11 rfl rfl (lt_ok rfl) rfl (Step.load_box (c := .d (.int .i64 l.f2)) rfl rfl (lt_ok rfl) (by kernel_rfl) rfl rfl rfl) ?_
   refine TL.gyes 11 rfl rfl (lt_ok rfl) rfl (Step.call (f := 138) (xs := [.tmp 13, .const (.int .i64 0), .const (.int .i64 8)]) (ps := [(.one (.d (.int .i64 l.f2))), (.one (.d (.int .i64 0))), (.one (.d (.int .i64 8)))]) false (g := .func 138) rfl rfl (lt_ok rfl) rfl (by kernel_rfl) rfl (.cons (.one (.d _)) (.cons (.one (.d _)) (.cons (.one (.d _)) .nil))) (ok_spec_l01In l.f2 0 8) (.inr rfl) rfl (by simp) rfl) ?_
   refine TL.cons rfl (Step.pick (b := true) (p := (.one (.d (.bool (decide (0 ≤ l.f2 ∧ l.f2 ≤ 8)))))) rfl rfl (lt_ok rfl) rfl rfl) ?_
   refine TL.cons rfl (Step.move (p := (.one (.d (.bool (decide (0 ≤ l.f2 ∧ l.f2 ≤ 8)))))) rfl rfl (lt_ok rfl) rfl) ?_
   rcases Bool.eq_false_or_eq_true (decide (0 ≤ l.f2 ∧ l.f2 ≤ 8)) with hb3 | hb3
   ·
    refine TL.known 16 hb3 rfl ?_
    refine TL.gyes 16 rfl rfl (lt_ok rfl) rfl (Step.fieldAddr (q := 0) (off := 3) (n := 1) (one := true) rfl rfl (lt_ok rfl) (by kernel_rfl) (Nat.succ_ne_zero _) rfl) ?_
    refine TL.gyes 16 rfl rfl (lt_ok rfl) rfl (Step.load_box (c := .d (.int .i64 l.f3)) rfl rfl (lt_ok rfl) (by kernel_rfl) rfl rfl rfl) ?_
    refine TL.gyes 16 rfl rfl (lt_ok rfl) rfl (Step.call (f := 138) (xs := [.tmp 18, .const (.int .i64 1), .const (.int .i64 4000)]) (ps := [(.one (.d (.int .i64 l.f3))), (.one (.d (.int .i64 1))), (.one (.d (.int .i64 4000)))]) false (g := .func 138) rfl rfl (lt_ok rfl) rfl (by kernel_rfl) rfl (.cons (.one (.d _)) (.cons (.one (.d _)) (.cons (.one (.d _)) .nil))) (ok_spec_l01In l.f3 1 4000) (.inr rfl) rfl (by simp) rfl) ?_
    refine TL.cons rfl (Step.pick (b := true) (p := (.one (.d (.bool (decide (1 ≤ l.f3 ∧ l.f3 ≤ 4000)))))) rfl rfl (lt_ok rfl) rfl rfl) ?_
    refine TL.cons rfl (Step.move (p := (.one (.d (.bool (decide (1 ≤ l.f3 ∧ l.f3 ≤ 4000)))))) rfl rfl (lt_ok rfl) rfl) ?_
    rcases Bool.eq_false_or_eq_true (decide (1 ≤ l.f3 ∧ l.f3 ≤ 4000)) with hb4 | hb4
    ·
     refine TL.known 21 hb4 rfl ?_
     refine TL.gyes 21 rfl rfl (lt_ok rfl) rfl (Step.fieldAddr (q := 0) (off := 4) (n := 1) (one := true) rfl rfl (lt_ok rfl) (by kernel_rfl) (Nat.succ_ne_zero _) rfl) ?_
     refine TL.gyes 21 rfl rfl (lt_ok rfl) rfl (Step.load_box (c := .d (.int .i64 l.f4)) rfl rfl (lt_ok rfl) (by kernel_rfl) rfl rfl rfl) ?_
     refine TL.gyes 21 rfl rfl (lt_ok rfl) rfl (Step.call (f := 138) (xs := [.tmp 23, .const (.int .i64 3), .const (.int .i64 5)]) (ps := [(.one (.d (.int .i64 l.f4))), (.one (.d (.int .i64 3))), (.one (.d (.int .i64 5)))]) false (g := .func 138) rfl rfl (lt_ok rfl) rfl (by kernel_rfl) rfl (.cons (.one (.d _)) (.cons (.one (.d _)) (.cons (.one (.d _)) .nil))) (ok_spec_l01In l.f4 3 5) (.inr rfl) rfl (by simp) rfl) ?_
     refine TL.cons rfl (Step.pick (b := true) (p := (.one (.d (.bool (decide (3 ≤ l.f4 ∧ l.f4 ≤ 5)))))) rfl rfl (lt_ok rfl) rfl rfl) ?_
     refine TL.cons rfl (Step.assign (p := (.one (.d (.bool (decide (3 ≤ l.f4 ∧ l.f4 ≤ 5)))))) rfl rfl (lt_ok rfl) rfl) ?_
     refine TL.nil ?_
     refine T.ret ?_
     exact ⟨[(false, [.d (.bool (decide (3 ≤ l.f4 ∧ l.f4 ≤ 5)))])], (.cons rfl .nil), rfl, [], (RetC.rd' (by first | rfl | (congr 1; symm; simp only [limOk, *, Bool.and_true, Bool.true_and, Bool.and_false, Bool.false_and, decide_true, decide_false, and_true, true_and, and_self, and_false, false_and, Bool.and_self, not_true, not_false, Bool.not_true, Bool.not_false, ge_iff_le, gt_iff_lt, if_true, if_false, Bool.false_eq_true, ite_true, ite_false, reduceIte]; done) | (congr 1; symm; simp_all [limOk]; done) | (congr 1; symm; simp_all [limOk]; omega)) .nil)⟩
    ·
     refine TL.known 21 hb4 rfl ?_
     refine TL.goff 21 rfl rfl (lt_ok rfl) rfl rfl rfl (lt_ok rfl) ?_
     refine TL.goff 21 rfl rfl (lt_ok rfl) rfl rfl rfl (lt_ok rfl) ?_
     refine TL.goff 21 rfl rfl (lt_ok rfl) rfl rfl rfl (lt_ok rfl) ?_
     refine TL.cons rfl (Step.pick (b := false) (p := (.one (.d (.bool false)))) rfl rfl (lt_ok rfl) rfl rfl) ?_
     refine TL.cons rfl (Step.assign (p := (.one (.d (.bool false)))) rfl rfl (lt_ok rfl) rfl) ?_
     refine TL.nil ?_
     refine T.ret ?_
     exact ⟨[(false, [.d (.bool false)])], (.cons rfl .nil), rfl, [], (RetC.rd' (by first | rfl | (congr 1; symm; simp only [limOk, *, Bool.and_true, Bool.true_and, Bool.and_false, Bool.false_and, decide_true, decide_false, and_true, true_and, and_self, and_false, false_and, Bool.and_self, not_true, not_false, Bool.not_true, Bool.not_false, ge_iff_le, gt_iff_lt, if_true, if_false, Bool.false_eq_true, ite_true, ite_false, reduceIte]; done) | (congr 1; symm; simp_all [limOk]; done) | (congr 1; symm; simp_all [limOk]; omega)) .nil)⟩
   ·
    refine TL.known 16 hb3 rfl ?_
    refine TL.goff 16 rfl rfl (lt_ok rfl) rfl rfl rfl (lt_ok rfl) ?_
    refine TL.goff 16 rfl rfl (lt_ok rfl) rfl rfl rfl (lt_ok rfl) ?_
    refine TL.goff 16 rfl rfl (lt_ok rfl) rfl rfl rfl (lt_ok rfl) ?_
    refine TL.cons rfl (Step.pick (b := false) (p := (.one (.d (.bool false)))) rfl rfl (lt_ok rfl) rfl rfl) ?_
    refine TL.cons rfl (Step.move (p := (.one (.d (.bool false)))) rfl rfl (lt_ok rfl) rfl) ?_
    refine TL.goff 21 rfl rfl (lt_ok rfl) rfl rfl rfl (lt_ok rfl) ?_
    refine TL.goff 21 rfl rfl (lt_ok rfl) rfl rfl rfl (lt_ok rfl) ?_
    refine TL.goff 21 rfl rfl (lt_ok rfl) rfl rfl rfl (lt_ok rfl) ?_
    refine TL.cons rfl (Step.pick (b := false) (p := (.one (.d (.bool false)))) rfl rfl (lt_ok rfl) rfl rfl) ?_
    refine TL.cons rfl (Step.assign (p := (.one (.d (.bool false)))) rfl rfl (lt_ok rfl) rfl) ?_
    refine TL.nil ?_
    refine T.ret ?_
    exact ⟨[(false, [.d (.bool false)])], (.cons rfl .nil), rfl, [], (RetC.rd' (by first | rfl | (congr 1; symm; simp only [limOk, *, Bool.and_true, Bool.true_and, Bool.and_false, Bool.false_and, decide_true, decide_false, and_true, true_and, and_self, and_false, false_and, Bool.and_self, not_true, not_false, Bool.not_true, Bool.not_false, ge_iff_le, gt_iff_lt, if_true, if_false, Bool.false_eq_true, ite_true, ite_false, reduceIte]; done) | (congr 1; symm; simp_all [limOk]; done) | (congr 1; symm; simp_all [limOk]; omega)) .nil)⟩
  ·
   refine TL.known 11 hb2 rfl ?_
   refine TL.goff 11 rfl rfl (lt_ok rfl) rfl rfl rfl (lt_ok rfl) ?_
   refine TL.goff 11 rfl rfl (lt_ok rfl) rfl rfl rfl (lt_ok rfl) ?_
   refine TL.goff 11 rfl rfl (lt_ok rfl) rfl rfl rfl (lt_ok rfl) ?_
   refine TL.cons rfl (Step.pick (b := false) (p := (.one (.d (.bool false)))) rfl rfl (lt_ok rfl) rfl rfl) ?_
   refine TL.cons rfl (Step.move (p := (.one (.d (.bool false)))) rfl rfl (lt_ok rfl) rfl) ?_
   refine TL.goff 16 rfl rfl (lt_ok rfl) rfl rfl rfl (lt_ok rfl) ?_
   refine TL.goff 16 rfl rfl (lt_ok rfl) rfl rfl rfl (lt_ok rfl) ?_
   refine TL.goff 16 rfl rfl (lt_ok rfl) rfl rfl rfl (lt_ok rfl) ?_
   refine TL.cons rfl (Step.pick (b := false) (p := (.one (.d (.bool false)))) rfl rfl (lt_ok rfl) rfl rfl) ?_
   refine TL.cons rfl (Step.move (p := (.one (.d (.bool false)))) rfl rfl (lt_ok rfl) rfl) ?_
   refine TL.goff 21 rfl rfl (lt_ok rfl) rfl rfl rfl (lt_ok rfl) ?_
   refine TL.goff 21 rfl rfl (lt_ok rfl) rfl rfl rfl (lt_ok rfl) ?_
   refine TL.goff 21 rfl rfl (lt_ok rfl) rfl rfl rfl (lt_ok rfl) ?_
   refine TL.cons rfl (Step.pick (b := false) (p := (.one (.d (.bool false)))) rfl rfl (lt_ok rfl) rfl rfl) ?_
   refine TL.cons rfl (Step.assign (p := (.one (.d (.bool false)))) rfl rfl (lt_ok rfl) rfl) ?_
   refine TL.nil ?_
   refine T.ret ?_
   exact ⟨[(false, [.d (.bool false)])], (.cons rfl .nil), rfl, [], (RetC.rd' (by first | rfl | (congr 1; symm; simp only [limOk, *, Bool.and_true, Bool.true_and, Bool.and_false, Bool.false_and, decide_true, decide_false, and_true, true_and, and_self, and_false, false_and, Bool.and_self, not_true, not_false, Bool.not_true, Bool.not_false, ge_iff_le, gt_iff_lt, if_true, if_false, Bool.false_eq_true, ite_true, ite_false, reduceIte]; done) | (congr 1; symm; simp_all [limOk]; done) | (congr 1; symm; simp_all [limOk]; omega)) .nil)⟩
 ·
  refine TL.known 6 hb1 rfl ?_
  refine TL.goff 6 rfl rfl (lt_ok rfl) rfl rfl rfl (lt_ok rfl) ?_
  refine TL.goff 6 rfl rfl (lt_ok rfl) rfl rfl rfl (lt_ok rfl) ?_
  refine TL.goff 6 rfl rfl (lt_ok rfl) rfl rfl rfl (lt_ok rfl) ?_
  refine TL.cons rfl (Step.pick (b := false) (p := (.one (.d (.bool false)))) rfl rfl (lt_ok rfl) rfl rfl) ?_
  refine TL.cons rfl (Step.move (p := (.one (.d (.bool false)))) rfl rfl (lt_ok rfl) rfl) ?_
  refine TL.goff 11 rfl rfl (lt_ok rfl) rfl rfl rfl (lt_ok rfl) ?_
  refine TL.goff 11 rfl rfl (lt_ok rfl) rfl rfl rfl (lt_ok rfl) ?_
  refine TL.goff 11 rfl rfl (lt_ok rfl) rfl rfl rfl (lt_ok rfl) ?_
  refine TL.cons rfl (Step.pick (b := false) (p := (.one (.d (.bool false)))) rfl rfl (lt_ok rfl) rfl rfl) ?_
  refine TL.cons rfl (Step.move (p := (.one (.d (.bool false)))) rfl rfl (lt_ok rfl) rfl) ?_
  refine TL.goff 16 rfl rfl (lt_ok rfl) rfl rfl rfl (lt_ok rfl) ?_
  refine TL.goff 16 rfl rfl (lt_ok rfl) rfl rfl rfl (lt_ok rfl) ?_
  refine TL.goff 16 rfl rfl (lt_ok rfl) rfl rfl rfl (lt_ok rfl) ?_
  refine TL.cons rfl (Step.pick (b := false) (p := (.one (.d (.bool false)))) rfl rfl (lt_ok rfl) rfl rfl) ?_
  refine TL.cons rfl (Step.move (p := (.one (.d (.bool false)))) rfl rfl (lt_ok rfl) rfl) ?_
  refine TL.goff 21 rfl rfl (lt_ok rfl) rfl rfl rfl (lt_ok rfl) ?_
  refine TL.goff 21 rfl rfl (lt_ok rfl) rfl rfl rfl (lt_ok rfl) ?_
  refine TL.goff 21 rfl rfl (lt_ok rfl) rfl rfl rfl (lt_ok rfl) ?_
  refine TL.cons rfl (Step.pick (b := false) (p := (.one (.d (.bool false)))) rfl rfl (lt_ok rfl) rfl rfl) ?_
  refine TL.cons rfl (Step.assign (p := (.one (.d (.bool false)))) rfl rfl (lt_ok rfl) rfl) ?_
  refine TL.nil ?_
  refine T.ret ?_
  exact ⟨[(false, [.d (.bool false)])], (.cons rfl .nil), rfl, [], (RetC.rd' (by first | rfl | (congr 1; symm; simp only [limOk, *, Bool.and_true, Bool.true_and, Bool.and_false, Bool.false_and, decide_true, decide_false, and_true, true_and, and_self, and_false, false_and, Bool.and_self, not_true, not_false, Bool.not_true, Bool.not_false, ge_iff_le, gt_iff_lt, if_true, if_false, Bool.false_eq_true, ite_true, ite_false, reduceIte]; done) | (congr 1; symm; simp_all [limOk]; done) | (congr 1; symm; simp_all [limOk]; omega)) .nil)⟩
theorem ok_spec_l01Num (n : Int) : RO Try.prog 137 [.one (.int .i64 n)] [(false, [.rd (.bool (decide (0 ≤ n ∧ n ≤ 1152921504606846975)))])] := by
 refine RO.intro Try.func137 rfl 5 rfl (le_ok rfl) fun w Z => ?_
 refine T.seq ?_
 refine T.region ?_
 refine TL.cons rfl (Step.assign (p := (.one (.d (.bool false)))) rfl rfl (lt_ok rfl) rfl) ?_
 refine TL.nil ?_
 refine T.seq ?_
 refine T.region ?_
 refine TL.cons rfl (Step.move (p := (.one (.d (.int .i64 n)))) rfl rfl (lt_ok rfl) rfl) ?_
 refine TL.cons rfl (Step.call (f := 138) (xs := [.tmp 3, .const (.int .i64 0), .const (.int .i64 1152921504606846975)]) (ps := [(.one (.d (.int .i64 n))), (.one (.d (.int .i64 0))), (.one (.d (.int .i64 1152921504606846975)))]) false (g := .func 138) rfl rfl (lt_ok rfl) rfl (by kernel_rfl) rfl (.cons (.one (.d _)) (.cons (.one (.d _)) (.cons (.one (.d _)) .nil))) (ok_spec_l01In n 0 1152921504606846975) (.inr rfl) rfl (by simp) rfl) ?_
 refine TL.cons rfl (Step.assign (p := (.one (.d (.bool (decide (0 ≤ n ∧ n ≤ 1152921504606846975)))))) rfl rfl (lt_ok rfl) rfl) ?_
 refine TL.nil ?_
 refine T.ret ?_
 exact ⟨[(false, [.d (.bool (decide (0 ≤ n ∧ n ≤ 1152921504606846975)))])], (.cons rfl .nil), rfl, [], (RetC.rd' (by rfl) .nil)⟩
theorem ok_spec_l07Hash (h : List Int) : RO Try.prog 139 [.one (.ints .u8 h)] [(false, [.rd (.bool (decide ((h.length : Int) = 32)))])] := by
 refine RO.intro Try.func139 rfl 6 rfl (le_ok rfl) fun w Z => ?_
 refine T.bnd 0 0 rfl rfl fun hb_0_0 => ?_
 simp only [D.size, List.length_map] at hb_0_0
 refine T.seq ?_
 refine T.region ?_
 refine TL.cons rfl (Step.assign (p := (.one (.d (.bool false)))) rfl rfl (lt_ok rfl) rfl) ?_
 refine TL.nil ?_
 refine T.seq ?_
 refine T.region ?_
 refine TL.cons rfl (Step.move (p := (.one (.d (.ints .u8 h)))) rfl rfl (lt_ok rfl) rfl) ?_
 refine TL.cons rfl (Step.len (e := 5) (z := 1) (d := (.ints .u8 h)) rfl rfl (lt_ok rfl) (by kernel_rfl) rfl rfl) ?_
 refine TL.cons rfl (Step.bin rfl rfl (lt_ok rfl) rfl rfl (Bin.eql (k := .i64) (a := (h.length : Int)) (b := 32))) ?_
 refine TL.cons rfl (Step.assign (p := (.one (.d (.bool (decide ((h.length : Int) = 32)))))) rfl rfl (lt_ok rfl) rfl) ?_
 refine TL.nil ?_
 refine T.ret ?_
 exact ⟨[(false, [.d (.bool (decide ((h.length : Int) = 32)))])], (.cons rfl .nil), rfl, [], (RetC.rd' (by rfl) .nil)⟩
theorem ok_spec_TcOk (l : SLimits) (t : STc) : RO Try.prog 87 [.agg l.cells, .agg t.cells] [(false, [.rd (.bool (tcOk l t))])] := by
 refine RO.intro Try.func87 rfl 74 rfl (le_ok rfl) fun w Z => ?_
 refine T.bnd 1 1 rfl rfl fun hb_1_1 => ?_
 simp only [D.size, List.length_map] at hb_1_1
 have hw_ : 0 ≤ t.f0 → t.f0 ≤ 1152921504606846975 → IntKind.i64.wrap (t.f0 - 1) = t.f0 - 1 := fun h1 h2 => wrap_ok (by omega) (by omega)
 refine T.seq ?_
 refine T.region ?_
 refine TL.cons rfl (Step.box (p := (.agg [.d (.int .i64 l.f0), .d (.int .i64 l.f1), .d (.int .i64 l.f2), .d (.int .i64 l.f3), .d (.int .i64 l.f4)])) (ps := [.d (.int .i64 l.f0), .d (.int .i64 l.f1), .d (.int .i64 l.f2), .d (.int .i64 l.f3), .d (.int .i64 l.f4)]) rfl rfl (lt_ok rfl) rfl rfl rfl rfl rfl) ?_
 refine TL.cons rfl (Step.box (p := (.agg [.d (.int .i64 t.f0), .d (.sl 3 (t.f1.map SEntry.cells))])) (ps := [.d (.int .i64 t.f0), .d (.sl 3 (t.f1.map SEntry.cells))]) rfl rfl (lt_ok rfl) rfl rfl rfl rfl rfl) ?_
 refine TL.cons rfl (Step.assign (p := (.one (.d (.bool false)))) rfl rfl (lt_ok rfl) rfl) ?_
 refine TL.nil ?_
 refine T.seq ?_
 refine T.seq ?_
 refine T.region ?_
 refine TL.cons rfl (Step.load_box_agg (n := 5) (qs := [.d (.int .i64 l.f0), .d (.int .i64 l.f1), .d (.int .i64 l.f2), .d (.int .i64 l.f3), .d (.int .i64 l.f4)]) rfl rfl (lt_ok rfl) (by kernel_rfl) rfl rfl rfl rfl) ?_
 refine TL.cons rfl (Step.call (f := 94) (xs := [.tmp 7]) (ps := [(.agg [.d (.int .i64 l.f0), .d (.int .i64 l.f1), .d (.int .i64 l.f2), .d (.int .i64 l.f3), .d (.int .i64 l.f4)])]) false (g := .func 94) rfl rfl (lt_ok rfl) rfl (by kernel_rfl) rfl (.cons (.agg (.cons (.d _) (.cons (.d _) (.cons (.d _) (.cons (.d _) (.cons (.d _) .nil)))))) .nil) (ok_spec_LimitsOk l) (.inr rfl) rfl (by simp) rfl) ?_
 refine TL.cons rfl (Step.not (b := (limOk l)) rfl rfl (lt_ok rfl) rfl) ?_
 refine TL.cons rfl (Step.move (p := (.one (.d (.bool (!(limOk l)))))) rfl rfl (lt_ok rfl) rfl) ?_
 rcases Bool.eq_false_or_eq_true (!(limOk l)) with hb1 | hb1
 ·
  refine TL.known 10 hb1 rfl ?_
  have hb1' := hb1
  replace hb1' : (limOk l) = false := by simpa only [Bool.not_eq_true', Bool.not_eq_false'] using hb1'
  refine TL.goff 10 rfl rfl (lt_ok rfl) rfl rfl rfl (lt_ok rfl) ?_
  refine TL.goff 10 rfl rfl (lt_ok rfl) rfl rfl rfl (lt_ok rfl) ?_
  refine TL.goff 10 rfl rfl (lt_ok rfl) rfl rfl rfl (lt_ok rfl) ?_
  refine TL.goff 10 rfl rfl (lt_ok rfl) rfl rfl rfl (lt_ok rfl) ?_
  refine TL.cons rfl (Step.pick (b := true) (p := (.one (.d (.bool true)))) rfl rfl (lt_ok rfl) rfl rfl) ?_
  refine TL.cons rfl (Step.move (p := (.one (.d (.bool true)))) rfl rfl (lt_ok rfl) rfl) ?_
  refine TL.goff 16 rfl rfl (lt_ok rfl) rfl rfl rfl (lt_ok rfl) ?_
  refine TL.goff 16 rfl rfl (lt_ok rfl) rfl rfl rfl (lt_ok rfl) ?_
  refine TL.goff 16 rfl rfl (lt_ok rfl) rfl rfl rfl (lt_ok rfl) ?_
  refine TL.goff 16 rfl rfl (lt_ok rfl) rfl rfl rfl (lt_ok rfl) ?_
  refine TL.goff 16 rfl rfl (lt_ok rfl) rfl rfl rfl (lt_ok rfl) ?_
  refine TL.goff 16 rfl rfl (lt_ok rfl) rfl rfl rfl (lt_ok rfl) ?_
  refine TL.cons rfl (Step.pick (b := true) (p := (.one (.d (.bool true)))) rfl rfl (lt_ok rfl) rfl rfl) ?_
  refine TL.nil ?_
  refine T.cond (b := true) rfl (fun h2_ => ?_) (fun h2_ => absurd h2_ (by simp))
  refine T.seq ?_
  refine T.region ?_
  refine TL.cons rfl (Step.assign (p := (.one (.d (.bool false)))) rfl rfl (lt_ok rfl) rfl) ?_
  refine TL.nil ?_
  refine T.ret ?_
  exact ⟨[(false, [.d (.bool false)])], (.cons rfl .nil), rfl, [], (RetC.rd' (by (congr 1; symm; first | (rw [tcOk_no (i := i) (by omega) (tcEnt_no (by (try simp only [hashes, List.all_cons, List.all_nil, Bool.and_true] at *); (try simp only [decide_eq_true_eq, decide_eq_false_iff_not, Bool.not_eq_true', Bool.not_eq_false'] at *); (try (have hw2_ := hw_ (by omega) (by omega))); omega))]; done) | (unfold tcOk; rw [show tcAll l t t.f1.length = true from by rw [show t.f1.length = i from by omega]; exact hx2, decide_eq_true (p := (t.f1.length : Int) ≤ l.f0) (by omega), decide_eq_true (p := (0 ≤ t.f0 ∧ t.f0 ≤ 1152921504606846975)) (by omega)]; simp only [*, Bool.and_true, Bool.true_and, Bool.and_false, Bool.false_and, decide_true, decide_false, and_true, true_and, and_self, and_false, false_and, Bool.and_self, not_true, not_false, Bool.not_true, Bool.not_false, ge_iff_le, gt_iff_lt, if_true, if_false, Bool.false_eq_true, ite_true, ite_false, reduceIte]; done) | (unfold tcOk; rw [show tcAll l t t.f1.length = true from by rw [show t.f1.length = i from by omega]; exact hx2, decide_eq_true (p := (0 ≤ t.f0 ∧ t.f0 ≤ 1152921504606846975)) (by omega)]; simp only [*, Bool.and_true, Bool.true_and, Bool.and_false, Bool.false_and, decide_true, decide_false, and_true, true_and, and_self, and_false, false_and, Bool.and_self, not_true, not_false, Bool.not_true, Bool.not_false, ge_iff_le, gt_iff_lt, if_true, if_false, Bool.false_eq_true, ite_true, ite_false, reduceIte]; done) | (unfold tcOk; simp only [*, Bool.and_true, Bool.true_and, Bool.and_false, Bool.false_and, decide_true, decide_false, and_true, true_and, and_self, and_false, false_and, Bool.and_self, not_true, not_false, Bool.not_true, Bool.not_false, ge_iff_le, gt_iff_lt, if_true, if_false, Bool.false_eq_true, ite_true, ite_false, reduceIte]; done) | (unfold tcOk; rw [decide_eq_false (p := (t.f1.length : Int) ≤ l.f0) (by omega)]; simp; done))) .nil)⟩
 ·
  refine TL.known 10 hb1 rfl ?_
  have hb1' := hb1
  replace hb1' : (limOk l) = true := by simpa only [Bool.not_eq_true', Bool.not_eq_false'] using hb1'
  refine TL.gyes 10 rfl rfl (lt_ok rfl) rfl (Step.fieldAddr (q := 0) (off := 0) (n := 1) (one := true) rfl rfl (lt_ok rfl) (by kernel_rfl) (Nat.succ_ne_zero _) rfl) ?_
  refine TL.gyes 10 rfl rfl (lt_ok rfl) rfl (Step.load_box (c := .d (.int .i64 t.f0)) rfl rfl (lt_ok rfl) (by kernel_rfl) rfl rfl rfl) ?_
  refine TL.gyes 10 rfl rfl (lt_ok rfl) rfl (Step.call (f := 137) (xs := [.tmp 12]) (ps := [(.one (.d (.int .i64 t.f0)))]) false (g := .func 137) rfl rfl (lt_ok rfl) rfl (by kernel_rfl) rfl (.cons (.one (.d _)) .nil) (ok_spec_l01Num t.f0) (.inr rfl) rfl (by simp) rfl) ?_
  refine TL.gyes 10 rfl rfl (lt_ok rfl) rfl (Step.not (b := (decide (0 ≤ t.f0 ∧ t.f0 ≤ 1152921504606846975))) rfl rfl (lt_ok rfl) rfl) ?_
  refine TL.cons rfl (Step.pick (b := false) (p := (.one (.d (.bool (!(decide (0 ≤ t.f0 ∧ t.f0 ≤ 1152921504606846975))))))) rfl rfl (lt_ok rfl) rfl rfl) ?_
  refine TL.cons rfl (Step.move (p := (.one (.d (.bool (!(decide (0 ≤ t.f0 ∧ t.f0 ≤ 1152921504606846975))))))) rfl rfl (lt_ok rfl) rfl) ?_
  rcases Bool.eq_false_or_eq_true (!(decide (0 ≤ t.f0 ∧ t.f0 ≤ 1152921504606846975))) with hb3 | hb3
  ·
   refine TL.known 16 hb3 rfl ?_
   have hb3' := hb3
   replace hb3' : (decide (0 ≤ t.f0 ∧ t.f0 ≤ 1152921504606846975)) = false := by simpa only [Bool.not_eq_true', Bool.not_eq_false'] using hb3'
   replace hb3' := of_decide_eq_false hb3'
   refine TL.goff 16 rfl rfl (lt_ok rfl) rfl rfl rfl (lt_ok rfl) ?_
   refine TL.goff 16 rfl rfl (lt_ok rfl) rfl rfl rfl (lt_ok rfl) ?_
   refine TL.goff 16 rfl rfl (lt_ok rfl) rfl rfl rfl (lt_ok rfl) ?_
   refine TL.goff 16 rfl rfl (lt_ok rfl) rfl rfl rfl (lt_ok rfl) ?_
   refine TL.goff 16 rfl rfl (lt_ok rfl) rfl rfl rfl (lt_ok rfl) ?_
   refine TL.goff 16 rfl rfl (lt_ok rfl) rfl rfl rfl (lt_ok rfl) ?_
   refine TL.cons rfl (Step.pick (b := true) (p := (.one (.d (.bool true)))) rfl rfl (lt_ok rfl) rfl rfl) ?_
   refine TL.nil ?_
   refine T.cond (b := true) rfl (fun h4_ => ?_) (fun h4_ => absurd h4_ (by simp))
   refine T.seq ?_
   refine T.region ?_
   refine TL.cons rfl (Step.assign (p := (.one (.d (.bool false)))) rfl rfl (lt_ok rfl) rfl) ?_
   refine TL.nil ?_
   refine T.ret ?_
   exact ⟨[(false, [.d (.bool false)])], (.cons rfl .nil), rfl, [], (RetC.rd' (by (congr 1; symm; first | (rw [tcOk_no (i := i) (by omega) (tcEnt_no (by (try simp only [hashes, List.all_cons, List.all_nil, Bool.and_true] at *); (try simp only [decide_eq_true_eq, decide_eq_false_iff_not, Bool.not_eq_true', Bool.not_eq_false'] at *); (try (have hw2_ := hw_ (by omega) (by omega))); omega))]; done) | (unfold tcOk; rw [show tcAll l t t.f1.length = true from by rw [show t.f1.length = i from by omega]; exact hx2, decide_eq_true (p := (t.f1.length : Int) ≤ l.f0) (by omega), decide_eq_true (p := (0 ≤ t.f0 ∧ t.f0 ≤ 1152921504606846975)) (by omega)]; simp only [*, Bool.and_true, Bool.true_and, Bool.and_false, Bool.false_and, decide_true, decide_false, and_true, true_and, and_self, and_false, false_and, Bool.and_self, not_true, not_false, Bool.not_true, Bool.not_false, ge_iff_le, gt_iff_lt, if_true, if_false, Bool.false_eq_true, ite_true, ite_false, reduceIte]; done) | (unfold tcOk; rw [show tcAll l t t.f1.length = true from by rw [show t.f1.length = i from by omega]; exact hx2, decide_eq_true (p := (0 ≤ t.f0 ∧ t.f0 ≤ 1152921504606846975)) (by omega)]; simp only [*, Bool.and_true, Bool.true_and, Bool.and_false, Bool.false_and, decide_true, decide_false, and_true, true_and, and_self, and_false, false_and, Bool.and_self, not_true, not_false, Bool.not_true, Bool.not_false, ge_iff_le, gt_iff_lt, if_true, if_false, Bool.false_eq_true, ite_true, ite_false, reduceIte]; done) | (unfold tcOk; simp only [*, Bool.and_true, Bool.true_and, Bool.and_false, Bool.false_and, decide_true, decide_false, and_true, true_and, and_self, and_false, false_and, Bool.and_self, not_true, not_false, Bool.not_true, Bool.not_false, ge_iff_le, gt_iff_lt, if_true, if_false, Bool.false_eq_true, ite_true, ite_false, reduceIte]; done) | (unfold tcOk; rw [decide_eq_false (p := (t.f1.length : Int) ≤ l.f0) (by omega)]; simp; done))) .nil)⟩
  ·
   refine TL.known 16 hb3 rfl ?_
   have hb3' := hb3
   replace hb3' : (decide (0 ≤ t.f0 ∧ t.f0 ≤ 1152921504606846975)) = true := by simpa only [Bool.not_eq_true', Bool.not_eq_false'] using hb3'
   replace hb3' := of_decide_eq_true hb3'
   refine TL.gyes 16 rfl rfl (lt_ok rfl) rfl (Step.fieldAddr (q := 0) (off := 1) (n := 1) (one := true) rfl rfl (lt_ok rfl) (by kernel_rfl) (Nat.succ_ne_zero _) rfl) ?_
   refine TL.gyes 16 rfl rfl (lt_ok rfl) rfl (Step.load_box (c := .d (.sl 3 (t.f1.map SEntry.cells))) rfl rfl (lt_ok rfl) (by kernel_rfl) rfl rfl rfl) ?_
   refine TL.gyes 16 rfl rfl (lt_ok rfl) rfl (Step.len' (e := 121) (z := 3) (d := (.sl 3 (t.f1.map SEntry.cells))) (n := t.f1.length) rfl rfl (lt_ok rfl) (by kernel_rfl) rfl rfl (by simp [D.size])) ?_
   refine TL.gyes 16 rfl rfl (lt_ok rfl) rfl (Step.fieldAddr (q := 0) (off := 0) (n := 1) (one := true) rfl rfl (lt_ok rfl) (by kernel_rfl) (Nat.succ_ne_zero _) rfl) ?_
   refine TL.gyes 16 rfl rfl (lt_ok rfl) rfl (Step.load_box (c := .d (.int .i64 l.f0)) rfl rfl (lt_ok rfl) (by kernel_rfl) rfl rfl rfl) ?_
   refine TL.gyes 16 rfl rfl (lt_ok rfl) rfl (Step.bin rfl rfl (lt_ok rfl) rfl rfl (Bin.gtr (k := .i64) (a := (t.f1.length : Int)) (b := l.f0))) ?_
   refine TL.cons rfl (Step.pick (b := false) (p := (.one (.d (.bool (decide (l.f0 < (t.f1.length : Int))))))) rfl rfl (lt_ok rfl) rfl rfl) ?_
   refine TL.nil ?_
   refine T.cond (b := decide (l.f0 < (t.f1.length : Int))) rfl (fun h5 => ?_) (fun h5 => ?_)
   ·
    replace h5 := of_decide_eq_true h5
    refine T.seq ?_
    refine T.region ?_
    refine TL.cons rfl (Step.assign (p := (.one (.d (.bool false)))) rfl rfl (lt_ok rfl) rfl) ?_
    refine TL.nil ?_
    refine T.ret ?_
    exact ⟨[(false, [.d (.bool false)])], (.cons rfl .nil), rfl, [], (RetC.rd' (by (congr 1; symm; first | (rw [tcOk_no (i := i) (by omega) (tcEnt_no (by (try simp only [hashes, List.all_cons, List.all_nil, Bool.and_true] at *); (try simp only [decide_eq_true_eq, decide_eq_false_iff_not, Bool.not_eq_true', Bool.not_eq_false'] at *); (try (have hw2_ := hw_ (by omega) (by omega))); omega))]; done) | (unfold tcOk; rw [show tcAll l t t.f1.length = true from by rw [show t.f1.length = i from by omega]; exact hx2, decide_eq_true (p := (t.f1.length : Int) ≤ l.f0) (by omega), decide_eq_true (p := (0 ≤ t.f0 ∧ t.f0 ≤ 1152921504606846975)) (by omega)]; simp only [*, Bool.and_true, Bool.true_and, Bool.and_false, Bool.false_and, decide_true, decide_false, and_true, true_and, and_self, and_false, false_and, Bool.and_self, not_true, not_false, Bool.not_true, Bool.not_false, ge_iff_le, gt_iff_lt, if_true, if_false, Bool.false_eq_true, ite_true, ite_false, reduceIte]; done) | (unfold tcOk; rw [show tcAll l t t.f1.length = true from by rw [show t.f1.length = i from by omega]; exact hx2, decide_eq_true (p := (0 ≤ t.f0 ∧ t.f0 ≤ 1152921504606846975)) (by omega)]; simp only [*, Bool.and_true, Bool.true_and, Bool.and_false, Bool.false_and, decide_true, decide_false, and_true, true_and, and_self, and_false, false_and, Bool.and_self, not_true, not_false, Bool.not_true, Bool.not_false, ge_iff_le, gt_iff_lt, if_true, if_false, Bool.false_eq_true, ite_true, ite_false, reduceIte]; done) | (unfold tcOk; simp only [*, Bool.and_true, Bool.true_and, Bool.and_false, Bool.false_and, decide_true, decide_false, and_true, true_and, and_self, and_false, false_and, Bool.and_self, not_true, not_false, Bool.not_true, Bool.not_false, ge_iff_le, gt_iff_lt, if_true, if_false, Bool.false_eq_true, ite_true, ite_false, reduceIte]; done) | (unfold tcOk; rw [decide_eq_false (p := (t.f1.length : Int) ≤ l.f0) (by omega)]; simp; done))) .nil)⟩
   ·
    replace h5 := of_decide_eq_false h5
    refine T.skip ?_
    refine T.seq ?_
    refine T.seq ?_
    refine T.region ?_
    refine TL.cons rfl (Step.fieldAddr (q := 0) (off := 1) (n := 1) (one := true) rfl rfl (lt_ok rfl) (by kernel_rfl) (Nat.succ_ne_zero _) rfl) ?_
    refine TL.cons rfl (Step.load_box (c := .d (.sl 3 (t.f1.map SEntry.cells))) rfl rfl (lt_ok rfl) (by kernel_rfl) rfl rfl rfl) ?_
    refine TL.cons rfl (Step.len' (e := 121) (z := 3) (d := (.sl 3 (t.f1.map SEntry.cells))) (n := t.f1.length) rfl rfl (lt_ok rfl) (by kernel_rfl) rfl rfl (by simp [D.size])) ?_
    refine TL.cons rfl (Step.move (p := (.one (.d (.int .i64 0)))) rfl rfl (lt_ok rfl) rfl) ?_
    refine TL.nil ?_
    refine T.block ?_
    refine T.loop (ι := Nat) (fun xx_ => { tm := [(2, (.one (.ptr 2 0))), (3, (.one (.ptr 3 0))), (25, (.one (.d (.sl 3 (t.f1.map SEntry.cells))))), (26, (.one (.d (.int .i64 (t.f1.length : Int))))), (27, (.one (.d (.int .i64 (xx_ : Int)))))], rows := [], boxes := [(2, (44, [.d (.int .i64 l.f0), .d (.int .i64 l.f1), .d (.int .i64 l.f2), .d (.int .i64 l.f3), .d (.int .i64 l.f4)])), (3, (48, [.d (.int .i64 t.f0), .d (.sl 3 (t.f1.map SEntry.cells))]))] }) (fun xx_ => xx_ ≤ t.f1.length ∧ tcAll l t xx_ = true) (fun xx_ => t.f1.length - xx_) 0 ?_ ?_ ?_
    · exact Env.le_mk ⟨rfl, rfl, rfl, rfl, by first | rfl | (simp; done) | (congr 3; omega), trivial⟩ trivial ⟨rfl, rfl, trivial⟩
    · exact ⟨Nat.zero_le _, rfl⟩
    ·
     intro i hx
     try dsimp only at hx ⊢
     obtain ⟨hx1, hx2⟩ := hx
     refine T.seq ?_
     refine T.region ?_
     refine TL.cons rfl (Step.bin rfl rfl (lt_ok rfl) rfl rfl (Bin.lss (k := .i64) (a := (i : Int)) (b := (t.f1.length : Int)))) ?_
     refine TL.nil ?_
     refine T.seq ?_
     refine T.cond (b := decide ((i : Int) < (t.f1.length : Int))) rfl (fun h6 => ?_) (fun h6 => ?_)
     ·
      replace h6 := of_decide_eq_true h6
      refine T.skip ?_
      refine T.seq ?_
      refine T.block ?_
      refine T.seq ?_
      refine T.region ?_
      refine TL.cons rfl (Step.move (p := (.one (.d (.int .i64 (i : Int))))) rfl rfl (lt_ok rfl) rfl) ?_
      refine TL.cons rfl (Step.index (e := 121) (z := 3) (i := (i : Int)) rfl rfl (lt_ok rfl) (by kernel_rfl) rfl rfl rfl (lt_ok rfl) rfl (by first | omega | (simp; omega)) (by simp only [D.size]; first | omega | (simp; omega))) ?_
      refine TL.cons rfl (Step.load_agg (n := 3) (cs := [.d (.int .i64 (t.f1.getD i default).f0), .d (.int .i64 (t.f1.getD i default).f1), .d (.ints .u8 (t.f1.getD i default).f2)]) rfl rfl (lt_ok rfl) (by kernel_rfl) rfl rfl (by simp only [List.range, List.range.loop, List.map_cons, List.map_nil]; rw [cell_map default (by first | omega | (simp; omega)), cell_map default (by first | omega | (simp; omega)), cell_map default (by first | omega | (simp; omega))]; rfl)) ?_
      refine TL.cons rfl (Step.alloc (cs := [.int .i64 0, .int .i64 0, .slice none 0 0]) (ps := [.d (.int .i64 0), .d (.int .i64 0), .nil]) rfl rfl (lt_ok rfl) (by kernel_rfl) rfl rfl rfl rfl) ?_
      refine TL.cons rfl (Step.assign (p := (.one (.d (.int .i64 (i : Int))))) rfl rfl (lt_ok rfl) rfl) ?_
      refine TL.cons rfl (Step.store_box (n := 3) (p := (.agg [.d (.int .i64 (t.f1.getD i default).f0), .d (.int .i64 (t.f1.getD i default).f1), .d (.ints .u8 (t.f1.getD i default).f2)])) (qs := [.d (.int .i64 (t.f1.getD i default).f0), .d (.int .i64 (t.f1.getD i default).f1), .d (.ints .u8 (t.f1.getD i default).f2)]) (ps' := [.d (.int .i64 (t.f1.getD i default).f0), .d (.int .i64 (t.f1.getD i default).f1), .d (.ints .u8 (t.f1.getD i default).f2)]) rfl rfl (by kernel_rfl) rfl rfl rfl rfl rfl rfl (le_ok rfl) rfl) ?_
      refine TL.nil ?_
      refine T.seq ?_
      rcases Bool.eq_false_or_eq_true (!(decide (0 ≤ (t.f1.getD i default).f0 ∧ (t.f1.getD i default).f0 ≤ (IntKind.i64.wrap (l.f0 - 1))))) with hb7 | hb7
      ·
       have hb7' := hb7
       replace hb7' : (decide (0 ≤ (t.f1.getD i default).f0 ∧ (t.f1.getD i default).f0 ≤ (IntKind.i64.wrap (l.f0 - 1)))) = false := by simpa only [Bool.not_eq_true', Bool.not_eq_false'] using hb7'
       replace hb7' := of_decide_eq_false hb7'
       refine T.draw [⟨32, (.one (.ptr 6 0)), []⟩, ⟨33, (.one (.d (.int .i64 (t.f1.getD i default).f0))), []⟩, ⟨34, (.one (.ptr 2 0)), []⟩, ⟨35, (.one (.d (.int .i64 l.f0))), []⟩, ⟨36, (.one (.d (.int .i64 (IntKind.i64.wrap (l.f0 - 1))))), []⟩, ⟨37, (.one (.d (.bool (decide (0 ≤ (t.f1.getD i default).f0 ∧ (t.f1.getD i default).f0 ≤ (IntKind.i64.wrap (l.f0 - 1))))))), []⟩, ⟨38, (.one (.d (.bool true))), []⟩, ⟨39, (.one (.d (.bool true))), []⟩, ⟨40, (.tup []), []⟩, ⟨41, (.tup []), []⟩, ⟨42, (.tup []), []⟩, ⟨43, (.one (.d (.bool true))), []⟩, ⟨44, (.one (.d (.bool true))), []⟩, ⟨45, (.tup []), []⟩, ⟨46, (.tup []), []⟩, ⟨47, (.tup []), []⟩, ⟨48, (.tup []), []⟩, ⟨49, (.tup []), []⟩, ⟨50, (.one (.d (.bool true))), []⟩, ⟨51, (.one (.d (.bool true))), []⟩, ⟨52, (.tup []), []⟩, ⟨53, (.tup []), []⟩, ⟨54, (.tup []), []⟩, ⟨55, (.tup []), []⟩, ⟨56, (.one (.d (.bool true))), []⟩, ⟨57, (.one (.d (.bool true))), []⟩, ⟨58, (.tup []), []⟩, ⟨59, (.tup []), []⟩, ⟨60, (.tup []), []⟩, ⟨61, (.tup []), []⟩, ⟨62, (.tup []), []⟩, ⟨63, (.tup []), []⟩, ⟨64, (.tup []), []⟩, ⟨65, (.tup []), []⟩, ⟨66, (.tup []), []⟩, ⟨67, (.tup []), []⟩, ⟨68, (.tup []), []⟩, ⟨69, (.tup []), []⟩, ⟨70, (.tup []), []⟩, ⟨71, (.tup []), []⟩, ⟨72, (.one (.d (.bool true))), []⟩] (by kernel_rfl) (by kernel_rfl) ?_ ?_
       ·
        refine .cons (fun E hA_ => by have g6 := hA_.get 6 (by decide); exact OpStep.plain rfl (Step.fieldAddr (q := 0) (off := 0) (n := 1) (one := true) (t := 32) rfl rfl (by exact lt_ok rfl) (by kernel_rfl) (Nat.succ_ne_zero _) (show Env.ev E (.tmp 6) = _ from g6.trans rfl))) ?_
        refine .cons (fun E hA_ => by have g32 := hA_.get 32 (by decide); exact OpStep.plain rfl (Step.load_box (c := .d (.int .i64 (t.f1.getD i default).f0)) (t := 33) rfl rfl (by exact lt_ok rfl) (by kernel_rfl) (show Env.ev E (.tmp 32) = _ from g32.trans rfl) (by exact hA_.box rfl) rfl)) ?_
        refine .cons (fun E hA_ => by have g2 := hA_.get 2 (by decide); exact OpStep.plain rfl (Step.fieldAddr (q := 0) (off := 0) (n := 1) (one := true) (t := 34) rfl rfl (by exact lt_ok rfl) (by kernel_rfl) (Nat.succ_ne_zero _) (show Env.ev E (.tmp 2) = _ from g2.trans rfl))) ?_
        refine .cons (fun E hA_ => by have g34 := hA_.get 34 (by decide); exact OpStep.plain rfl (Step.load_box (c := .d (.int .i64 l.f0)) (t := 35) rfl rfl (by exact lt_ok rfl) (by kernel_rfl) (show Env.ev E (.tmp 34) = _ from g34.trans rfl) (by exact hA_.box rfl) rfl)) ?_
        refine .cons (fun E hA_ => by have g35 := hA_.get 35 (by decide); exact OpStep.plain rfl (Step.bin (r := .int .i64 (IntKind.i64.wrap (l.f0 - 1))) (t := 36) rfl rfl (by exact lt_ok rfl) (show Env.ev E (.tmp 35) = _ from g35.trans rfl) rfl (Bin.sub (a := l.f0) (b := 1) (rfl)))) ?_
        refine .cons (fun E hA_ => by have g33 := hA_.get 33 (by decide); have g36 := hA_.get 36 (by decide); exact OpStep.plain rfl (Step.call (f := 138) (xs := [.tmp 33, .const (.int .i64 0), .tmp 36]) (ps := [(.one (.d (.int .i64 (t.f1.getD i default).f0))), (.one (.d (.int .i64 0))), (.one (.d (.int .i64 (IntKind.i64.wrap (l.f0 - 1)))))]) false (g := .func 138) (t := 37) rfl rfl (by exact lt_ok rfl) rfl (by kernel_rfl) (evs_cons (show Env.ev E (.tmp 33) = _ from g33.trans rfl) (evs_cons rfl (evs_cons (show Env.ev E (.tmp 36) = _ from g36.trans rfl) (rfl)))) (.cons (.one (.d _)) (.cons (.one (.d _)) (.cons (.one (.d _)) .nil))) (ok_spec_l01In (t.f1.getD i default).f0 0 (IntKind.i64.wrap (l.f0 - 1))) (.inr rfl) (At.freshRows hA_ rfl) (by simp) rfl)) ?_
        refine .cons (fun E hA_ => by have g37 := hA_.get 37 (by decide); exact OpStep.plain rfl (Step.to (E1 := E.set 38 (.one (.d (.bool (!(decide (0 ≤ (t.f1.getD i default).f0 ∧ (t.f1.getD i default).f0 ≤ (IntKind.i64.wrap (l.f0 - 1))))))))) (congrArg (fun b_ => E.set 38 (.one (.d (.bool b_)))) hb7) (Step.not (b := (decide (0 ≤ (t.f1.getD i default).f0 ∧ (t.f1.getD i default).f0 ≤ (IntKind.i64.wrap (l.f0 - 1))))) (t := 38) rfl rfl (by exact lt_ok rfl) (show Env.ev E (.tmp 37) = _ from g37.trans rfl)))) ?_
        refine .cons (fun E hA_ => by have g38 := hA_.get 38 (by decide); exact OpStep.plain rfl (Step.move (p := (.one (.d (.bool true)))) (t := 39) rfl rfl (by exact lt_ok rfl) (show Env.ev E (.tmp 38) = _ from g38.trans rfl))) ?_
        refine .cons (fun E hA_ => OpStep.off (t := 39) rfl rfl (lt_ok rfl) ((hA_.get 39 (by decide)).trans rfl) (by decide) rfl (lt_ok rfl)) ?_
        refine .cons (fun E hA_ => OpStep.off (t := 39) rfl rfl (lt_ok rfl) ((hA_.get 39 (by decide)).trans rfl) (by decide) rfl (lt_ok rfl)) ?_
        refine .cons (fun E hA_ => OpStep.off (t := 39) rfl rfl (lt_ok rfl) ((hA_.get 39 (by decide)).trans rfl) (by decide) rfl (lt_ok rfl)) ?_
        refine .cons (fun E hA_ => by have g39 := hA_.get 39 (by decide); have g42 := hA_.get 42 (by decide); exact OpStep.plain rfl (Step.pick (b := true) (p := (.one (.d (.bool true)))) (t := 43) rfl rfl (by exact lt_ok rfl) (show Env.ev E (.tmp 39) = _ from g39.trans rfl) rfl)) ?_
        refine .cons (fun E hA_ => by have g43 := hA_.get 43 (by decide); exact OpStep.plain rfl (Step.move (p := (.one (.d (.bool true)))) (t := 44) rfl rfl (by exact lt_ok rfl) (show Env.ev E (.tmp 43) = _ from g43.trans rfl))) ?_
        refine .cons (fun E hA_ => OpStep.off (t := 44) rfl rfl (lt_ok rfl) ((hA_.get 44 (by decide)).trans rfl) (by decide) rfl (lt_ok rfl)) ?_
        refine .cons (fun E hA_ => OpStep.off (t := 44) rfl rfl (lt_ok rfl) ((hA_.get 44 (by decide)).trans rfl) (by decide) rfl (lt_ok rfl)) ?_
        refine .cons (fun E hA_ => OpStep.off (t := 44) rfl rfl (lt_ok rfl) ((hA_.get 44 (by decide)).trans rfl) (by decide) rfl (lt_ok rfl)) ?_
        refine .cons (fun E hA_ => OpStep.off (t := 44) rfl rfl (lt_ok rfl) ((hA_.get 44 (by decide)).trans rfl) (by decide) rfl (lt_ok rfl)) ?_
        refine .cons (fun E hA_ => OpStep.off (t := 44) rfl rfl (lt_ok rfl) ((hA_.get 44 (by decide)).trans rfl) (by decide) rfl (lt_ok rfl)) ?_
        refine .cons (fun E hA_ => by have g44 := hA_.get 44 (by decide); have g49 := hA_.get 49 (by decide); exact OpStep.plain rfl (Step.pick (b := true) (p := (.one (.d (.bool true)))) (t := 50) rfl rfl (by exact lt_ok rfl) (show Env.ev E (.tmp 44) = _ from g44.trans rfl) rfl)) ?_
        refine .cons (fun E hA_ => by have g50 := hA_.get 50 (by decide); exact OpStep.plain rfl (Step.move (p := (.one (.d (.bool true)))) (t := 51) rfl rfl (by exact lt_ok rfl) (show Env.ev E (.tmp 50) = _ from g50.trans rfl))) ?_
        refine .cons (fun E hA_ => OpStep.off (t := 51) rfl rfl (lt_ok rfl) ((hA_.get 51 (by decide)).trans rfl) (by decide) rfl (lt_ok rfl)) ?_
        refine .cons (fun E hA_ => OpStep.off (t := 51) rfl rfl (lt_ok rfl) ((hA_.get 51 (by decide)).trans rfl) (by decide) rfl (lt_ok rfl)) ?_
        refine .cons (fun E hA_ => OpStep.off (t := 51) rfl rfl (lt_ok rfl) ((hA_.get 51 (by decide)).trans rfl) (by decide) rfl (lt_ok rfl)) ?_
        refine .cons (fun E hA_ => OpStep.off (t := 51) rfl rfl (lt_ok rfl) ((hA_.get 51 (by decide)).trans rfl) (by decide) rfl (lt_ok rfl)) ?_
        refine .cons (fun E hA_ => by have g51 := hA_.get 51 (by decide); have g55 := hA_.get 55 (by decide); exact OpStep.plain rfl (Step.pick (b := true) (p := (.one (.d (.bool true)))) (t := 56) rfl rfl (by exact lt_ok rfl) (show Env.ev E (.tmp 51) = _ from g51.trans rfl) rfl)) ?_
        refine .cons (fun E hA_ => by have g56 := hA_.get 56 (by decide); exact OpStep.plain rfl (Step.move (p := (.one (.d (.bool true)))) (t := 57) rfl rfl (by exact lt_ok rfl) (show Env.ev E (.tmp 56) = _ from g56.trans rfl))) ?_
        refine .cons (fun E hA_ => OpStep.off (t := 57) rfl rfl (lt_ok rfl) ((hA_.get 57 (by decide)).trans rfl) (by decide) rfl (lt_ok rfl)) ?_
        refine .cons (fun E hA_ => OpStep.off (t := 57) rfl rfl (lt_ok rfl) ((hA_.get 57 (by decide)).trans rfl) (by decide) rfl (lt_ok rfl)) ?_
        refine .cons (fun E hA_ => OpStep.off (t := 57) rfl rfl (lt_ok rfl) ((hA_.get 57 (by decide)).trans rfl) (by decide) rfl (lt_ok rfl)) ?_
        refine .cons (fun E hA_ => OpStep.offU (t := 60) rfl rfl (lt_ok rfl) ((hA_.get 60 (by decide)).trans rfl) rfl (lt_ok rfl)) ?_
        refine .cons (fun E hA_ => OpStep.offU (t := 60) rfl rfl (lt_ok rfl) ((hA_.get 60 (by decide)).trans rfl) rfl (lt_ok rfl)) ?_
        refine .cons (fun E hA_ => OpStep.offU (t := 60) rfl rfl (lt_ok rfl) ((hA_.get 60 (by decide)).trans rfl) rfl (lt_ok rfl)) ?_
        refine .cons (fun E hA_ => OpStep.offU (t := 60) rfl rfl (lt_ok rfl) ((hA_.get 60 (by decide)).trans rfl) rfl (lt_ok rfl)) ?_
        refine .cons (fun E hA_ => OpStep.offU (t := 60) rfl rfl (lt_ok rfl) ((hA_.get 60 (by decide)).trans rfl) rfl (lt_ok rfl)) ?_
        refine .cons (fun E hA_ => OpStep.offU (t := 60) rfl rfl (lt_ok rfl) ((hA_.get 60 (by decide)).trans rfl) rfl (lt_ok rfl)) ?_
        refine .cons (fun E hA_ => OpStep.offU (t := 60) rfl rfl (lt_ok rfl) ((hA_.get 60 (by decide)).trans rfl) rfl (lt_ok rfl)) ?_
        refine .cons (fun E hA_ => OpStep.offU (t := 60) rfl rfl (lt_ok rfl) ((hA_.get 60 (by decide)).trans rfl) rfl (lt_ok rfl)) ?_
        refine .cons (fun E hA_ => OpStep.offU (t := 60) rfl rfl (lt_ok rfl) ((hA_.get 60 (by decide)).trans rfl) rfl (lt_ok rfl)) ?_
        refine .cons (fun E hA_ => OpStep.offU (t := 60) rfl rfl (lt_ok rfl) ((hA_.get 60 (by decide)).trans rfl) rfl (lt_ok rfl)) ?_
        refine .cons (fun E hA_ => OpStep.off (t := 57) rfl rfl (lt_ok rfl) ((hA_.get 57 (by decide)).trans rfl) (by decide) rfl (lt_ok rfl)) ?_
        refine .cons (fun E hA_ => by have g57 := hA_.get 57 (by decide); have g71 := hA_.get 71 (by decide); exact OpStep.plain rfl (Step.pick (b := true) (p := (.one (.d (.bool true)))) (t := 72) rfl rfl (by exact lt_ok rfl) (show Env.ev E (.tmp 57) = _ from g57.trans rfl) rfl)) ?_
        exact .nil _ _
       refine TL.nil ?_
       refine T.cond (b := true) rfl (fun h8_ => ?_) (fun h8_ => absurd h8_ (by simp))
       refine T.seq ?_
       refine T.region ?_
       refine TL.cons rfl (Step.assign (p := (.one (.d (.bool false)))) rfl rfl (lt_ok rfl) rfl) ?_
       refine TL.nil ?_
       refine T.ret ?_
       exact ⟨[(false, [.d (.bool false)])], (.cons rfl .nil), rfl, [], (RetC.rd' (by (congr 1; symm; first | (rw [tcOk_no (i := i) (by omega) (tcEnt_no (by (try simp only [hashes, List.all_cons, List.all_nil, Bool.and_true] at *); (try simp only [decide_eq_true_eq, decide_eq_false_iff_not, Bool.not_eq_true', Bool.not_eq_false'] at *); (try (have hw2_ := hw_ (by omega) (by omega))); omega))]; done) | (unfold tcOk; rw [show tcAll l t t.f1.length = true from by rw [show t.f1.length = i from by omega]; exact hx2, decide_eq_true (p := (t.f1.length : Int) ≤ l.f0) (by omega), decide_eq_true (p := (0 ≤ t.f0 ∧ t.f0 ≤ 1152921504606846975)) (by omega)]; simp only [*, Bool.and_true, Bool.true_and, Bool.and_false, Bool.false_and, decide_true, decide_false, and_true, true_and, and_self, and_false, false_and, Bool.and_self, not_true, not_false, Bool.not_true, Bool.not_false, ge_iff_le, gt_iff_lt, if_true, if_false, Bool.false_eq_true, ite_true, ite_false, reduceIte]; done) | (unfold tcOk; rw [show tcAll l t t.f1.length = true from by rw [show t.f1.length = i from by omega]; exact hx2, decide_eq_true (p := (0 ≤ t.f0 ∧ t.f0 ≤ 1152921504606846975)) (by omega)]; simp only [*, Bool.and_true, Bool.true_and, Bool.and_false, Bool.false_and, decide_true, decide_false, and_true, true_and, and_self, and_false, false_and, Bool.and_self, not_true, not_false, Bool.not_true, Bool.not_false, ge_iff_le, gt_iff_lt, if_true, if_false, Bool.false_eq_true, ite_true, ite_false, reduceIte]; done) | (unfold tcOk; simp only [*, Bool.and_true, Bool.true_and, Bool.and_false, Bool.false_and, decide_true, decide_false, and_true, true_and, and_self, and_false, false_and, Bool.and_self, not_true, not_false, Bool.not_true, Bool.not_false, ge_iff_le, gt_iff_lt, if_true, if_false, Bool.false_eq_true, ite_true, ite_false, reduceIte]; done) | (unfold tcOk; rw [decide_eq_false (p := (t.f1.length : Int) ≤ l.f0) (by omega)]; simp; done))) .nil)⟩
      ·
       have hb7' := hb7
       replace hb7' : (decide (0 ≤ (t.f1.getD i default).f0 ∧ (t.f1.getD i default).f0 ≤ (IntKind.i64.wrap (l.f0 - 1)))) = true := by simpa only [Bool.not_eq_true', Bool.not_eq_false'] using hb7'
       replace hb7' := of_decide_eq_true hb7'
       rcases Bool.eq_false_or_eq_true (decide ((t.f1.getD i default).f1 < 0)) with hb9 | hb9
       ·
        have hb9' := hb9
        replace hb9' := of_decide_eq_true hb9'
        refine T.draw [⟨32, (.one (.ptr 6 0)), []⟩, ⟨33, (.one (.d (.int .i64 (t.f1.getD i default).f0))), []⟩, ⟨34, (.one (.ptr 2 0)), []⟩, ⟨35, (.one (.d (.int .i64 l.f0))), []⟩, ⟨36, (.one (.d (.int .i64 (IntKind.i64.wrap (l.f0 - 1))))), []⟩, ⟨37, (.one (.d (.bool (decide (0 ≤ (t.f1.getD i default).f0 ∧ (t.f1.getD i default).f0 ≤ (IntKind.i64.wrap (l.f0 - 1))))))), []⟩, ⟨38, (.one (.d (.bool false))), []⟩, ⟨39, (.one (.d (.bool false))), []⟩, ⟨40, (.one (.ptr 6 1)), []⟩, ⟨41, (.one (.d (.int .i64 (t.f1.getD i default).f1))), []⟩, ⟨42, (.one (.d (.bool true))), []⟩, ⟨43, (.one (.d (.bool true))), []⟩, ⟨44, (.one (.d (.bool true))), []⟩, ⟨45, (.tup []), []⟩, ⟨46, (.tup []), []⟩, ⟨47, (.tup []), []⟩, ⟨48, (.tup []), []⟩, ⟨49, (.tup []), []⟩, ⟨50, (.one (.d (.bool true))), []⟩, ⟨51, (.one (.d (.bool true))), []⟩, ⟨52, (.tup []), []⟩, ⟨53, (.tup []), []⟩, ⟨54, (.tup []), []⟩, ⟨55, (.tup []), []⟩, ⟨56, (.one (.d (.bool true))), []⟩, ⟨57, (.one (.d (.bool true))), []⟩, ⟨58, (.tup []), []⟩, ⟨59, (.tup []), []⟩, ⟨60, (.tup []), []⟩, ⟨61, (.tup []), []⟩, ⟨62, (.tup []), []⟩, ⟨63, (.tup []), []⟩, ⟨64, (.tup []), []⟩, ⟨65, (.tup []), []⟩, ⟨66, (.tup []), []⟩, ⟨67, (.tup []), []⟩, ⟨68, (.tup []), []⟩, ⟨69, (.tup []), []⟩, ⟨70, (.tup []), []⟩, ⟨71, (.tup []), []⟩, ⟨72, (.one (.d (.bool true))), []⟩] (by kernel_rfl) (by kernel_rfl) ?_ ?_
        ·
         refine .cons (fun E hA_ => by have g6 := hA_.get 6 (by decide); exact OpStep.plain rfl (Step.fieldAddr (q := 0) (off := 0) (n := 1) (one := true) (t := 32) rfl rfl (by exact lt_ok rfl) (by kernel_rfl) (Nat.succ_ne_zero _) (show Env.ev E (.tmp 6) = _ from g6.trans rfl))) ?_
         refine .cons (fun E hA_ => by have g32 := hA_.get 32 (by decide); exact OpStep.plain rfl (Step.load_box (c := .d (.int .i64 (t.f1.getD i default).f0)) (t := 33) rfl rfl (by exact lt_ok rfl) (by kernel_rfl) (show Env.ev E (.tmp 32) = _ from g32.trans rfl) (by exact hA_.box rfl) rfl)) ?_
         refine .cons (fun E hA_ => by have g2 := hA_.get 2 (by decide); exact OpStep.plain rfl (Step.fieldAddr (q := 0) (off := 0) (n := 1) (one := true) (t := 34) rfl rfl (by exact lt_ok rfl) (by kernel_rfl) (Nat.succ_ne_zero _) (show Env.ev E (.tmp 2) = _ from g2.trans rfl))) ?_
         refine .cons (fun E hA_ => by have g34 := hA_.get 34 (by decide); exact OpStep.plain rfl (Step.load_box (c := .d (.int .i64 l.f0)) (t := 35) rfl rfl (by exact lt_ok rfl) (by kernel_rfl) (show Env.ev E (.tmp 34) = _ from g34.trans rfl) (by exact hA_.box rfl) rfl)) ?_
         refine .cons (fun E hA_ => by have g35 := hA_.get 35 (by decide); exact OpStep.plain rfl (Step.bin (r := .int .i64 (IntKind.i64.wrap (l.f0 - 1))) (t := 36) rfl rfl (by exact lt_ok rfl) (show Env.ev E (.tmp 35) = _ from g35.trans rfl) rfl (Bin.sub (a := l.f0) (b := 1) (rfl)))) ?_
         refine .cons (fun E hA_ => by have g33 := hA_.get 33 (by decide); have g36 := hA_.get 36 (by decide); exact OpStep.plain rfl (Step.call (f := 138) (xs := [.tmp 33, .const (.int .i64 0), .tmp 36]) (ps := [(.one (.d (.int .i64 (t.f1.getD i default).f0))), (.one (.d (.int .i64 0))), (.one (.d (.int .i64 (IntKind.i64.wrap (l.f0 - 1)))))]) false (g := .func 138) (t := 37) rfl rfl (by exact lt_ok rfl) rfl (by kernel_rfl) (evs_cons (show Env.ev E (.tmp 33) = _ from g33.trans rfl) (evs_cons rfl (evs_cons (show Env.ev E (.tmp 36) = _ from g36.trans rfl) (rfl)))) (.cons (.one (.d _)) (.cons (.one (.d _)) (.cons (.one (.d _)) .nil))) (ok_spec_l01In (t.f1.getD i default).f0 0 (IntKind.i64.wrap (l.f0 - 1))) (.inr rfl) (At.freshRows hA_ rfl) (by simp) rfl)) ?_
         refine .cons (fun E hA_ => by have g37 := hA_.get 37 (by decide); exact OpStep.plain rfl (Step.to (E1 := E.set 38 (.one (.d (.bool (!(decide (0 ≤ (t.f1.getD i default).f0 ∧ (t.f1.getD i default).f0 ≤ (IntKind.i64.wrap (l.f0 - 1))))))))) (congrArg (fun b_ => E.set 38 (.one (.d (.bool b_)))) hb7) (Step.not (b := (decide (0 ≤ (t.f1.getD i default).f0 ∧ (t.f1.getD i default).f0 ≤ (IntKind.i64.wrap (l.f0 - 1))))) (t := 38) rfl rfl (by exact lt_ok rfl) (show Env.ev E (.tmp 37) = _ from g37.trans rfl)))) ?_
         refine .cons (fun E hA_ => by have g38 := hA_.get 38 (by decide); exact OpStep.plain rfl (Step.move (p := (.one (.d (.bool false)))) (t := 39) rfl rfl (by exact lt_ok rfl) (show Env.ev E (.tmp 38) = _ from g38.trans rfl))) ?_
         refine .cons (fun E hA_ => by have g6 := hA_.get 6 (by decide); have g39 := hA_.get 39 (by decide); exact OpStep.yes (t := 39) rfl rfl (lt_ok rfl) (g39.trans rfl) (Step.fieldAddr (q := 0) (off := 1) (n := 1) (one := true) (t := 40) rfl rfl (by exact lt_ok rfl) (by kernel_rfl) (Nat.succ_ne_zero _) (show Env.ev E (.tmp 6) = _ from g6.trans rfl))) ?_
         refine .cons (fun E hA_ => by have g39 := hA_.get 39 (by decide); have g40 := hA_.get 40 (by decide); exact OpStep.yes (t := 39) rfl rfl (lt_ok rfl) (g39.trans rfl) (Step.load_box (c := .d (.int .i64 (t.f1.getD i default).f1)) (t := 41) rfl rfl (by exact lt_ok rfl) (by kernel_rfl) (show Env.ev E (.tmp 40) = _ from g40.trans rfl) (by exact hA_.box rfl) rfl)) ?_
         refine .cons (fun E hA_ => by have g39 := hA_.get 39 (by decide); have g41 := hA_.get 41 (by decide); exact OpStep.yes (t := 39) rfl rfl (lt_ok rfl) (g39.trans rfl) (Step.to (E1 := E.set 42 (.one (.d (.bool (decide ((t.f1.getD i default).f1 < 0)))))) (congrArg (fun b_ => E.set 42 (.one (.d (.bool b_)))) hb9) (Step.bin (t := 42) rfl rfl (by exact lt_ok rfl) (show Env.ev E (.tmp 41) = _ from g41.trans rfl) rfl (Bin.lss (k := .i64) (a := (t.f1.getD i default).f1) (b := 0))))) ?_
         refine .cons (fun E hA_ => by have g39 := hA_.get 39 (by decide); have g42 := hA_.get 42 (by decide); exact OpStep.plain rfl (Step.pick (b := false) (p := (.one (.d (.bool true)))) (t := 43) rfl rfl (by exact lt_ok rfl) (show Env.ev E (.tmp 39) = _ from g39.trans rfl) (show Env.ev E (.tmp 42) = _ from g42.trans rfl))) ?_
         refine .cons (fun E hA_ => by have g43 := hA_.get 43 (by decide); exact OpStep.plain rfl (Step.move (p := (.one (.d (.bool true)))) (t := 44) rfl rfl (by exact lt_ok rfl) (show Env.ev E (.tmp 43) = _ from g43.trans rfl))) ?_
         refine .cons (fun E hA_ => OpStep.off (t := 44) rfl rfl (lt_ok rfl) ((hA_.get 44 (by decide)).trans rfl) (by decide) rfl (lt_ok rfl)) ?_
         refine .cons (fun E hA_ => OpStep.off (t := 44) rfl rfl (lt_ok rfl) ((hA_.get 44 (by decide)).trans rfl) (by decide) rfl (lt_ok rfl)) ?_
         refine .cons (fun E hA_ => OpStep.off (t := 44) rfl rfl (lt_ok rfl) ((hA_.get 44 (by decide)).trans rfl) (by decide) rfl (lt_ok rfl)) ?_
         refine .cons (fun E hA_ => OpStep.off (t := 44) rfl rfl (lt_ok rfl) ((hA_.get 44 (by decide)).trans rfl) (by decide) rfl (lt_ok rfl)) ?_
         refine .cons (fun E hA_ => OpStep.off (t := 44) rfl rfl (lt_ok rfl) ((hA_.get 44 (by decide)).trans rfl) (by decide) rfl (lt_ok rfl)) ?_
         refine .cons (fun E hA_ => by have g44 := hA_.get 44 (by decide); have g49 := hA_.get 49 (by decide); exact OpStep.plain rfl (Step.pick (b := true) (p := (.one (.d (.bool true)))) (t := 50) rfl rfl (by exact lt_ok rfl) (show Env.ev E (.tmp 44) = _ from g44.trans rfl) rfl)) ?_
         refine .cons (fun E hA_ => by have g50 := hA_.get 50 (by decide); exact OpStep.plain rfl (Step.move (p := (.one (.d (.bool true)))) (t := 51) rfl rfl (by exact lt_ok rfl) (show Env.ev E (.tmp 50) = _ from g50.trans rfl))) ?_
         refine .cons (fun E hA_ => OpStep.off (t := 51) rfl rfl (lt_ok rfl) ((hA_.get 51 (by decide)).trans rfl) (by decide) rfl (lt_ok rfl)) ?_
         refine .cons (fun E hA_ => OpStep.off (t := 51) rfl rfl (lt_ok rfl) ((hA_.get 51 (by decide)).trans rfl) (by decide) rfl (lt_ok rfl)) ?_
         refine .cons (fun E hA_ => OpStep.off (t := 51) rfl rfl (lt_ok rfl) ((hA_.get 51 (by decide)).trans rfl) (by decide) rfl (lt_ok rfl)) ?_
         refine .cons (fun E hA_ => OpStep.off (t := 51) rfl rfl (lt_ok rfl) ((hA_.get 51 (by decide)).trans rfl) (by decide) rfl (lt_ok rfl)) ?_
         refine .cons (fun E hA_ => by have g51 := hA_.get 51 (by decide); have g55 := hA_.get 55 (by decide); exact OpStep.plain rfl (Step.pick (b := true) (p := (.one (.d (.bool true)))) (t := 56) rfl rfl (by exact lt_ok rfl) (show Env.ev E (.tmp 51) = _ from g51.trans rfl) rfl)) ?_
         refine .cons (fun E hA_ => by have g56 := hA_.get 56 (by decide); exact OpStep.plain rfl (Step.move (p := (.one (.d (.bool true)))) (t := 57) rfl rfl (by exact lt_ok rfl) (show Env.ev E (.tmp 56) = _ from g56.trans rfl))) ?_
         refine .cons (fun E hA_ => OpStep.off (t := 57) rfl rfl (lt_ok rfl) ((hA_.get 57 (by decide)).trans rfl) (by decide) rfl (lt_ok rfl)) ?_
         refine .cons (fun E hA_ => OpStep.off (t := 57) rfl rfl (lt_ok rfl) ((hA_.get 57 (by decide)).trans rfl) (by decide) rfl (lt_ok rfl)) ?_
         refine .cons (fun E hA_ => OpStep.off (t := 57) rfl rfl (lt_ok rfl) ((hA_.get 57 (by decide)).trans rfl) (by decide) rfl (lt_ok rfl)) ?_
         refine .cons (fun E hA_ => OpStep.offU (t := 60) rfl rfl (lt_ok rfl) ((hA_.get 60 (by decide)).trans rfl) rfl (lt_ok rfl)) ?_
         refine .cons (fun E hA_ => OpStep.offU (t := 60) rfl rfl (lt_ok rfl) ((hA_.get 60 (by decide)).trans rfl) rfl (lt_ok rfl)) ?_
         refine .cons (fun E hA_ => OpStep.offU (t := 60) rfl rfl (lt_ok rfl) ((hA_.get 60 (by decide)).trans rfl) rfl (lt_ok rfl)) ?_
         refine .cons (fun E hA_ => OpStep.offU (t := 60) rfl rfl (lt_ok rfl) ((hA_.get 60 (by decide)).trans rfl) rfl (lt_ok rfl)) ?_
         refine .cons (fun E hA_ => OpStep.offU (t := 60) rfl rfl (lt_ok rfl) ((hA_.get 60 (by decide)).trans rfl) rfl (lt_ok rfl)) ?_
         refine .cons (fun E hA_ => OpStep.offU (t := 60) rfl rfl (lt_ok rfl) ((hA_.get 60 (by decide)).trans rfl) rfl (lt_ok rfl)) ?_
         refine .cons (fun E hA_ => OpStep.offU (t := 60) rfl rfl (lt_ok rfl) ((hA_.get 60 (by decide)).trans rfl) rfl (lt_ok rfl)) ?_
         refine .cons (fun E hA_ => OpStep.offU (t := 60) rfl rfl (lt_ok rfl) ((hA_.get 60 (by decide)).trans rfl) rfl (lt_ok rfl)) ?_
         refine .cons (fun E hA_ => OpStep.offU (t := 60) rfl rfl (lt_ok rfl) ((hA_.get 60 (by decide)).trans rfl) rfl (lt_ok rfl)) ?_
         refine .cons (fun E hA_ => OpStep.offU (t := 60) rfl rfl (lt_ok rfl) ((hA_.get 60 (by decide)).trans rfl) rfl (lt_ok rfl)) ?_
         refine .cons (fun E hA_ => OpStep.off (t := 57) rfl rfl (lt_ok rfl) ((hA_.get 57 (by decide)).trans rfl) (by decide) rfl (lt_ok rfl)) ?_
         refine .cons (fun E hA_ => by have g57 := hA_.get 57 (by decide); have g71 := hA_.get 71 (by decide); exact OpStep.plain rfl (Step.pick (b := true) (p := (.one (.d (.bool true)))) (t := 72) rfl rfl (by exact lt_ok rfl) (show Env.ev E (.tmp 57) = _ from g57.trans rfl) rfl)) ?_
         exact .nil _ _
        refine TL.nil ?_
        refine T.cond (b := true) rfl (fun h10_ => ?_) (fun h10_ => absurd h10_ (by simp))
        refine T.seq ?_
        refine T.region ?_
        refine TL.cons rfl (Step.assign (p := (.one (.d (.bool false)))) rfl rfl (lt_ok rfl) rfl) ?_
        refine TL.nil ?_
        refine T.ret ?_
        exact ⟨[(false, [.d (.bool false)])], (.cons rfl .nil), rfl, [], (RetC.rd' (by (congr 1; symm; first | (rw [tcOk_no (i := i) (by omega) (tcEnt_no (by (try simp only [hashes, List.all_cons, List.all_nil, Bool.and_true] at *); (try simp only [decide_eq_true_eq, decide_eq_false_iff_not, Bool.not_eq_true', Bool.not_eq_false'] at *); (try (have hw2_ := hw_ (by omega) (by omega))); omega))]; done) | (unfold tcOk; rw [show tcAll l t t.f1.length = true from by rw [show t.f1.length = i from by omega]; exact hx2, decide_eq_true (p := (t.f1.length : Int) ≤ l.f0) (by omega), decide_eq_true (p := (0 ≤ t.f0 ∧ t.f0 ≤ 1152921504606846975)) (by omega)]; simp only [*, Bool.and_true, Bool.true_and, Bool.and_false, Bool.false_and, decide_true, decide_false, and_true, true_and, and_self, and_false, false_and, Bool.and_self, not_true, not_false, Bool.not_true, Bool.not_false, ge_iff_le, gt_iff_lt, if_true, if_false, Bool.false_eq_true, ite_true, ite_false, reduceIte]; done) | (unfold tcOk; rw [show tcAll l t t.f1.length = true from by rw [show t.f1.length = i from by omega]; exact hx2, decide_eq_true (p := (0 ≤ t.f0 ∧ t.f0 ≤ 1152921504606846975)) (by omega)]; simp only [*, Bool.and_true, Bool.true_and, Bool.and_false, Bool.false_and, decide_true, decide_false, and_true, true_and, and_self, and_false, false_and, Bool.and_self, not_true, not_false, Bool.not_true, Bool.not_false, ge_iff_le, gt_iff_lt, if_true, if_false, Bool.false_eq_true, ite_true, ite_false, reduceIte]; done) | (unfold tcOk; simp only [*, Bool.and_true, Bool.true_and, Bool.and_false, Bool.false_and, decide_true, decide_false, and_true, true_and, and_self, and_false, false_and, Bool.and_self, not_true, not_false, Bool.not_true, Bool.not_false, ge_iff_le, gt_iff_lt, if_true, if_false, Bool.false_eq_true, ite_true, ite_false, reduceIte]; done) | (unfold tcOk; rw [decide_eq_false (p := (t.f1.length : Int) ≤ l.f0) (by omega)]; simp; done))) .nil)⟩
       ·
        have hb9' := hb9
        replace hb9' := of_decide_eq_false hb9'
        rcases Bool.eq_false_or_eq_true (decide (t.f0 ≤ (t.f1.getD i default).f1)) with hb11 | hb11
        ·
         have hb11' := hb11
         replace hb11' := of_decide_eq_true hb11'
         refine T.draw [⟨32, (.one (.ptr 6 0)), []⟩, ⟨33, (.one (.d (.int .i64 (t.f1.getD i default).f0))), []⟩, ⟨34, (.one (.ptr 2 0)), []⟩, ⟨35, (.one (.d (.int .i64 l.f0))), []⟩, ⟨36, (.one (.d (.int .i64 (IntKind.i64.wrap (l.f0 - 1))))), []⟩, ⟨37, (.one (.d (.bool (decide (0 ≤ (t.f1.getD i default).f0 ∧ (t.f1.getD i default).f0 ≤ (IntKind.i64.wrap (l.f0 - 1))))))), []⟩, ⟨38, (.one (.d (.bool false))), []⟩, ⟨39, (.one (.d (.bool false))), []⟩, ⟨40, (.one (.ptr 6 1)), []⟩, ⟨41, (.one (.d (.int .i64 (t.f1.getD i default).f1))), []⟩, ⟨42, (.one (.d (.bool false))), []⟩, ⟨43, (.one (.d (.bool false))), []⟩, ⟨44, (.one (.d (.bool false))), []⟩, ⟨45, (.one (.ptr 6 1)), []⟩, ⟨46, (.one (.d (.int .i64 (t.f1.getD i default).f1))), []⟩, ⟨47, (.one (.ptr 3 0)), []⟩, ⟨48, (.one (.d (.int .i64 t.f0))), []⟩, ⟨49, (.one (.d (.bool true))), []⟩, ⟨50, (.one (.d (.bool true))), []⟩, ⟨51, (.one (.d (.bool true))), []⟩, ⟨52, (.tup []), []⟩, ⟨53, (.tup []), []⟩, ⟨54, (.tup []), []⟩, ⟨55, (.tup []), []⟩, ⟨56, (.one (.d (.bool true))), []⟩, ⟨57, (.one (.d (.bool true))), []⟩, ⟨58, (.tup []), []⟩, ⟨59, (.tup []), []⟩, ⟨60, (.tup []), []⟩, ⟨61, (.tup []), []⟩, ⟨62, (.tup []), []⟩, ⟨63, (.tup []), []⟩, ⟨64, (.tup []), []⟩, ⟨65, (.tup []), []⟩, ⟨66, (.tup []), []⟩, ⟨67, (.tup []), []⟩, ⟨68, (.tup []), []⟩, ⟨69, (.tup []), []⟩, ⟨70, (.tup []), []⟩, ⟨71, (.tup []), []⟩, ⟨72, (.one (.d (.bool true))), []⟩] (by kernel_rfl) (by kernel_rfl) ?_ ?_
         ·
          refine .cons (fun E hA_ => by have g6 := hA_.get 6 (by decide); exact OpStep.plain rfl (Step.fieldAddr (q := 0) (off := 0) (n := 1) (one := true) (t := 32) rfl rfl (by exact lt_ok rfl) (by kernel_rfl) (Nat.succ_ne_zero _) (show Env.ev E (.tmp 6) = _ from g6.trans rfl))) ?_
          refine .cons (fun E hA_ => by have g32 := hA_.get 32 (by decide); exact OpStep.plain rfl (Step.load_box (c := .d (.int .i64 (t.f1.getD i default).f0)) (t := 33) rfl rfl (by exact lt_ok rfl) (by kernel_rfl) (show Env.ev E (.tmp 32) = _ from g32.trans rfl) (by exact hA_.box rfl) rfl)) ?_
          refine .cons (fun E hA_ => by have g2 := hA_.get 2 (by decide); exact OpStep.plain rfl (Step.fieldAddr (q := 0) (off := 0) (n := 1) (one := true) (t := 34) rfl rfl (by exact lt_ok rfl) (by kernel_rfl) (Nat.succ_ne_zero _) (show Env.ev E (.tmp 2) = _ from g2.trans rfl))) ?_
          refine .cons (fun E hA_ => by have g34 := hA_.get 34 (by decide); exact OpStep.plain rfl (Step.load_box (c := .d (.int .i64 l.f0)) (t := 35) rfl rfl (by exact lt_ok rfl) (by kernel_rfl) (show Env.ev E (.tmp 34) = _ from g34.trans rfl) (by exact hA_.box rfl) rfl)) ?_
          refine .cons (fun E hA_ => by have g35 := hA_.get 35 (by decide); exact OpStep.plain rfl (Step.bin (r := .int .i64 (IntKind.i64.wrap (l.f0 - 1))) (t := 36) rfl rfl (by exact lt_ok rfl) (show Env.ev E (.tmp 35) = _ from g35.trans rfl) rfl (Bin.sub (a := l.f0) (b := 1) (rfl)))) ?_
          refine .cons (fun E hA_ => by have g33 := hA_.get 33 (by decide); have g36 := hA_.get 36 (by decide); exact OpStep.plain rfl (Step.call (f := 138) (xs := [.tmp 33, .const (.int .i64 0), .tmp 36]) (ps := [(.one (.d (.int .i64 (t.f1.getD i default).f0))), (.one (.d (.int .i64 0))), (.one (.d (.int .i64 (IntKind.i64.wrap (l.f0 - 1)))))]) false (g := .func 138) (t := 37) rfl rfl (by exact lt_ok rfl) rfl (by kernel_rfl) (evs_cons (show Env.ev E (.tmp 33) = _ from g33.trans rfl) (evs_cons rfl (evs_cons (show Env.ev E (.tmp 36) = _ from g36.trans rfl) (rfl)))) (.cons (.one (.d _)) (.cons (.one (.d _)) (.cons (.one (.d _)) .nil))) (ok_spec_l01In (t.f1.getD i default).f0 0 (IntKind.i64.wrap (l.f0 - 1))) (.inr rfl) (At.freshRows hA_ rfl) (by simp) rfl)) ?_
          refine .cons (fun E hA_ => by have g37 := hA_.get 37 (by decide); exact OpStep.plain rfl (Step.to (E1 := E.set 38 (.one (.d (.bool (!(decide (0 ≤ (t.f1.getD i default).f0 ∧ (t.f1.getD i default).f0 ≤ (IntKind.i64.wrap (l.f0 - 1))))))))) (congrArg (fun b_ => E.set 38 (.one (.d (.bool b_)))) hb7) (Step.not (b := (decide (0 ≤ (t.f1.getD i default).f0 ∧ (t.f1.getD i default).f0 ≤ (IntKind.i64.wrap (l.f0 - 1))))) (t := 38) rfl rfl (by exact lt_ok rfl) (show Env.ev E (.tmp 37) = _ from g37.trans rfl)))) ?_
          refine .cons (fun E hA_ => by have g38 := hA_.get 38 (by decide); exact OpStep.plain rfl (Step.move (p := (.one (.d (.bool false)))) (t := 39) rfl rfl (by exact lt_ok rfl) (show Env.ev E (.tmp 38) = _ from g38.trans rfl))) ?_
          refine .cons (fun E hA_ => by have g6 := hA_.get 6 (by decide); have g39 := hA_.get 39 (by decide); exact OpStep.yes (t := 39) rfl rfl (lt_ok rfl) (g39.trans rfl) (Step.fieldAddr (q := 0) (off := 1) (n := 1) (one := true) (t := 40) rfl rfl (by exact lt_ok rfl) (by kernel_rfl) (Nat.succ_ne_zero _) (show Env.ev E (.tmp 6) = _ from g6.trans rfl))) ?_
          refine .cons (fun E hA_ => by have g39 := hA_.get 39 (by decide); have g40 := hA_.get 40 (by decide); exact OpStep.yes (t := 39) rfl rfl (lt_ok rfl) (g39.trans rfl) (Step.load_box (c := .d (.int .i64 (t.f1.getD i default).f1)) (t := 41) rfl rfl (by exact lt_ok rfl) (by kernel_rfl) (show Env.ev E (.tmp 40) = _ from g40.trans rfl) (by exact hA_.box rfl) rfl)) ?_
          refine .cons (fun E hA_ => by have g39 := hA_.get 39 (by decide); have g41 := hA_.get 41 (by decide); exact OpStep.yes (t := 39) rfl rfl (lt_ok rfl) (g39.trans rfl) (Step.to (E1 := E.set 42 (.one (.d (.bool (decide ((t.f1.getD i default).f1 < 0)))))) (congrArg (fun b_ => E.set 42 (.one (.d (.bool b_)))) hb9) (Step.bin (t := 42) rfl rfl (by exact lt_ok rfl) (show Env.ev E (.tmp 41) = _ from g41.trans rfl) rfl (Bin.lss (k := .i64) (a := (t.f1.getD i default).f1) (b := 0))))) ?_
          refine .cons (fun E hA_ => by have g39 := hA_.get 39 (by decide); have g42 := hA_.get 42 (by decide); exact OpStep.plain rfl (Step.pick (b := false) (p := (.one (.d (.bool false)))) (t := 43) rfl rfl (by exact lt_ok rfl) (show Env.ev E (.tmp 39) = _ from g39.trans rfl) (show Env.ev E (.tmp 42) = _ from g42.trans rfl))) ?_
          refine .cons (fun E hA_ => by have g43 := hA_.get 43 (by decide); exact OpStep.plain rfl (Step.move (p := (.one (.d (.bool false)))) (t := 44) rfl rfl (by exact lt_ok rfl) (show Env.ev E (.tmp 43) = _ from g43.trans rfl))) ?_
          refine .cons (fun E hA_ => by have g6 := hA_.get 6 (by decide); have g44 := hA_.get 44 (by decide); exact OpStep.yes (t := 44) rfl rfl (lt_ok rfl) (g44.trans rfl) (Step.fieldAddr (q := 0) (off := 1) (n := 1) (one := true) (t := 45) rfl rfl (by exact lt_ok rfl) (by kernel_rfl) (Nat.succ_ne_zero _) (show Env.ev E (.tmp 6) = _ from g6.trans rfl))) ?_
          refine .cons (fun E hA_ => by have g44 := hA_.get 44 (by decide); have g45 := hA_.get 45 (by decide); exact OpStep.yes (t := 44) rfl rfl (lt_ok rfl) (g44.trans rfl) (Step.load_box (c := .d (.int .i64 (t.f1.getD i default).f1)) (t := 46) rfl rfl (by exact lt_ok rfl) (by kernel_rfl) (show Env.ev E (.tmp 45) = _ from g45.trans rfl) (by exact hA_.box rfl) rfl)) ?_
          refine .cons (fun E hA_ => by have g3 := hA_.get 3 (by decide); have g44 := hA_.get 44 (by decide); exact OpStep.yes (t := 44) rfl rfl (lt_ok rfl) (g44.trans rfl) (Step.fieldAddr (q := 0) (off := 0) (n := 1) (one := true) (t := 47) rfl rfl (by exact lt_ok rfl) (by kernel_rfl) (Nat.succ_ne_zero _) (show Env.ev E (.tmp 3) = _ from g3.trans rfl))) ?_
          refine .cons (fun E hA_ => by have g44 := hA_.get 44 (by decide); have g47 := hA_.get 47 (by decide); exact OpStep.yes (t := 44) rfl rfl (lt_ok rfl) (g44.trans rfl) (Step.load_box (c := .d (.int .i64 t.f0)) (t := 48) rfl rfl (by exact lt_ok rfl) (by kernel_rfl) (show Env.ev E (.tmp 47) = _ from g47.trans rfl) (by exact hA_.box rfl) rfl)) ?_
          refine .cons (fun E hA_ => by have g44 := hA_.get 44 (by decide); have g46 := hA_.get 46 (by decide); have g48 := hA_.get 48 (by decide); exact OpStep.yes (t := 44) rfl rfl (lt_ok rfl) (g44.trans rfl) (Step.to (E1 := E.set 49 (.one (.d (.bool (decide (t.f0 ≤ (t.f1.getD i default).f1)))))) (congrArg (fun b_ => E.set 49 (.one (.d (.bool b_)))) hb11) (Step.bin (t := 49) rfl rfl (by exact lt_ok rfl) (show Env.ev E (.tmp 46) = _ from g46.trans rfl) (show Env.ev E (.tmp 48) = _ from g48.trans rfl) (Bin.geq (k := .i64) (a := (t.f1.getD i default).f1) (b := t.f0))))) ?_
          refine .cons (fun E hA_ => by have g44 := hA_.get 44 (by decide); have g49 := hA_.get 49 (by decide); exact OpStep.plain rfl (Step.pick (b := false) (p := (.one (.d (.bool true)))) (t := 50) rfl rfl (by exact lt_ok rfl) (show Env.ev E (.tmp 44) = _ from g44.trans rfl) (show Env.ev E (.tmp 49) = _ from g49.trans rfl))) ?_
          refine .cons (fun E hA_ => by have g50 := hA_.get 50 (by decide); exact OpStep.plain rfl (Step.move (p := (.one (.d (.bool true)))) (t := 51) rfl rfl (by exact lt_ok rfl) (show Env.ev E (.tmp 50) = _ from g50.trans rfl))) ?_
          refine .cons (fun E hA_ => OpStep.off (t := 51) rfl rfl (lt_ok rfl) ((hA_.get 51 (by decide)).trans rfl) (by decide) rfl (lt_ok rfl)) ?_
          refine .cons (fun E hA_ => OpStep.off (t := 51) rfl rfl (lt_ok rfl) ((hA_.get 51 (by decide)).trans rfl) (by decide) rfl (lt_ok rfl)) ?_
          refine .cons (fun E hA_ => OpStep.off (t := 51) rfl rfl (lt_ok rfl) ((hA_.get 51 (by decide)).trans rfl) (by decide) rfl (lt_ok rfl)) ?_
          refine .cons (fun E hA_ => OpStep.off (t := 51) rfl rfl (lt_ok rfl) ((hA_.get 51 (by decide)).trans rfl) (by decide) rfl (lt_ok rfl)) ?_
          refine .cons (fun E hA_ => by have g51 := hA_.get 51 (by decide); have g55 := hA_.get 55 (by decide); exact OpStep.plain rfl (Step.pick (b := true) (p := (.one (.d (.bool true)))) (t := 56) rfl rfl (by exact lt_ok rfl) (show Env.ev E (.tmp 51) = _ from g51.trans rfl) rfl)) ?_
          refine .cons (fun E hA_ => by have g56 := hA_.get 56 (by decide); exact OpStep.plain rfl (Step.move (p := (.one (.d (.bool true)))) (t := 57) rfl rfl (by exact lt_ok rfl) (show Env.ev E (.tmp 56) = _ from g56.trans rfl))) ?_
          refine .cons (fun E hA_ => OpStep.off (t := 57) rfl rfl (lt_ok rfl) ((hA_.get 57 (by decide)).trans rfl) (by decide) rfl (lt_ok rfl)) ?_
          refine .cons (fun E hA_ => OpStep.off (t := 57) rfl rfl (lt_ok rfl) ((hA_.get 57 (by decide)).trans rfl) (by decide) rfl (lt_ok rfl)) ?_
          refine .cons (fun E hA_ => OpStep.off (t := 57) rfl rfl (lt_ok rfl) ((hA_.get 57 (by decide)).trans rfl) (by decide) rfl (lt_ok rfl)) ?_
          refine .cons (fun E hA_ => OpStep.offU (t := 60) rfl rfl (lt_ok rfl) ((hA_.get 60 (by decide)).trans rfl) rfl (lt_ok rfl)) ?_
          refine .cons (fun E hA_ => OpStep.offU (t := 60) rfl rfl (lt_ok rfl) ((hA_.get 60 (by decide)).trans rfl) rfl (lt_ok rfl)) ?_
          refine .cons (fun E hA_ => OpStep.offU (t := 60) rfl rfl (lt_ok rfl) ((hA_.get 60 (by decide)).trans rfl) rfl (lt_ok rfl)) ?_
          refine .cons (fun E hA_ => OpStep.offU (t := 60) rfl rfl (lt_ok rfl) ((hA_.get 60 (by decide)).trans rfl) rfl (lt_ok rfl)) ?_
          refine .cons (fun E hA_ => OpStep.offU (t := 60) rfl rfl (lt_ok rfl) ((hA_.get 60 (by decide)).trans rfl) rfl (lt_ok rfl)) ?_
          refine .cons (fun E hA_ => OpStep.offU (t := 60) rfl rfl (lt_ok rfl) ((hA_.get 60 (by decide)).trans rfl) rfl (lt_ok rfl)) ?_
          refine .cons (fun E hA_ => OpStep.offU (t := 60) rfl rfl (lt_ok rfl) ((hA_.get 60 (by decide)).trans rfl) rfl (lt_ok rfl)) ?_
          refine .cons (fun E hA_ => OpStep.offU (t := 60) rfl rfl (lt_ok rfl) ((hA_.get 60 (by decide)).trans rfl) rfl (lt_ok rfl)) ?_
          refine .cons (fun E hA_ => OpStep.offU (t := 60) rfl rfl (lt_ok rfl) ((hA_.get 60 (by decide)).trans rfl) rfl (lt_ok rfl)) ?_
          refine .cons (fun E hA_ => OpStep.offU (t := 60) rfl rfl (lt_ok rfl) ((hA_.get 60 (by decide)).trans rfl) rfl (lt_ok rfl)) ?_
          refine .cons (fun E hA_ => OpStep.off (t := 57) rfl rfl (lt_ok rfl) ((hA_.get 57 (by decide)).trans rfl) (by decide) rfl (lt_ok rfl)) ?_
          refine .cons (fun E hA_ => by have g57 := hA_.get 57 (by decide); have g71 := hA_.get 71 (by decide); exact OpStep.plain rfl (Step.pick (b := true) (p := (.one (.d (.bool true)))) (t := 72) rfl rfl (by exact lt_ok rfl) (show Env.ev E (.tmp 57) = _ from g57.trans rfl) rfl)) ?_
          exact .nil _ _
         refine TL.nil ?_
         refine T.cond (b := true) rfl (fun h12_ => ?_) (fun h12_ => absurd h12_ (by simp))
         refine T.seq ?_
         refine T.region ?_
         refine TL.cons rfl (Step.assign (p := (.one (.d (.bool false)))) rfl rfl (lt_ok rfl) rfl) ?_
         refine TL.nil ?_
         refine T.ret ?_
         exact ⟨[(false, [.d (.bool false)])], (.cons rfl .nil), rfl, [], (RetC.rd' (by (congr 1; symm; first | (rw [tcOk_no (i := i) (by omega) (tcEnt_no (by (try simp only [hashes, List.all_cons, List.all_nil, Bool.and_true] at *); (try simp only [decide_eq_true_eq, decide_eq_false_iff_not, Bool.not_eq_true', Bool.not_eq_false'] at *); (try (have hw2_ := hw_ (by omega) (by omega))); omega))]; done) | (unfold tcOk; rw [show tcAll l t t.f1.length = true from by rw [show t.f1.length = i from by omega]; exact hx2, decide_eq_true (p := (t.f1.length : Int) ≤ l.f0) (by omega), decide_eq_true (p := (0 ≤ t.f0 ∧ t.f0 ≤ 1152921504606846975)) (by omega)]; simp only [*, Bool.and_true, Bool.true_and, Bool.and_false, Bool.false_and, decide_true, decide_false, and_true, true_and, and_self, and_false, false_and, Bool.and_self, not_true, not_false, Bool.not_true, Bool.not_false, ge_iff_le, gt_iff_lt, if_true, if_false, Bool.false_eq_true, ite_true, ite_false, reduceIte]; done) | (unfold tcOk; rw [show tcAll l t t.f1.length = true from by rw [show t.f1.length = i from by omega]; exact hx2, decide_eq_true (p := (0 ≤ t.f0 ∧ t.f0 ≤ 1152921504606846975)) (by omega)]; simp only [*, Bool.and_true, Bool.true_and, Bool.and_false, Bool.false_and, decide_true, decide_false, and_true, true_and, and_self, and_false, false_and, Bool.and_self, not_true, not_false, Bool.not_true, Bool.not_false, ge_iff_le, gt_iff_lt, if_true, if_false, Bool.false_eq_true, ite_true, ite_false, reduceIte]; done) | (unfold tcOk; simp only [*, Bool.and_true, Bool.true_and, Bool.and_false, Bool.false_and, decide_true, decide_false, and_true, true_and, and_self, and_false, false_and, Bool.and_self, not_true, not_false, Bool.not_true, Bool.not_false, ge_iff_le, gt_iff_lt, if_true, if_false, Bool.false_eq_true, ite_true, ite_false, reduceIte]; done) | (unfold tcOk; rw [decide_eq_false (p := (t.f1.length : Int) ≤ l.f0) (by omega)]; simp; done))) .nil)⟩
        ·
         have hb11' := hb11
         replace hb11' := of_decide_eq_false hb11'
         rcases Bool.eq_false_or_eq_true (!(decide (((t.f1.getD i default).f2.length : Int) = 32))) with hb13 | hb13
         ·
          have hb13' := hb13
          replace hb13' : (decide (((t.f1.getD i default).f2.length : Int) = 32)) = false := by simpa only [Bool.not_eq_true', Bool.not_eq_false'] using hb13'
          replace hb13' := of_decide_eq_false hb13'
          refine T.draw [⟨32, (.one (.ptr 6 0)), []⟩, ⟨33, (.one (.d (.int .i64 (t.f1.getD i default).f0))), []⟩, ⟨34, (.one (.ptr 2 0)), []⟩, ⟨35, (.one (.d (.int .i64 l.f0))), []⟩, ⟨36, (.one (.d (.int .i64 (IntKind.i64.wrap (l.f0 - 1))))), []⟩, ⟨37, (.one (.d (.bool (decide (0 ≤ (t.f1.getD i default).f0 ∧ (t.f1.getD i default).f0 ≤ (IntKind.i64.wrap (l.f0 - 1))))))), []⟩, ⟨38, (.one (.d (.bool false))), []⟩, ⟨39, (.one (.d (.bool false))), []⟩, ⟨40, (.one (.ptr 6 1)), []⟩, ⟨41, (.one (.d (.int .i64 (t.f1.getD i default).f1))), []⟩, ⟨42, (.one (.d (.bool false))), []⟩, ⟨43, (.one (.d (.bool false))), []⟩, ⟨44, (.one (.d (.bool false))), []⟩, ⟨45, (.one (.ptr 6 1)), []⟩, ⟨46, (.one (.d (.int .i64 (t.f1.getD i default).f1))), []⟩, ⟨47, (.one (.ptr 3 0)), []⟩, ⟨48, (.one (.d (.int .i64 t.f0))), []⟩, ⟨49, (.one (.d (.bool false))), []⟩, ⟨50, (.one (.d (.bool false))), []⟩, ⟨51, (.one (.d (.bool false))), []⟩, ⟨52, (.one (.ptr 6 2)), []⟩, ⟨53, (.one (.d (.ints .u8 (t.f1.getD i default).f2))), []⟩, ⟨54, (.one (.d (.bool (decide (((t.f1.getD i default).f2.length : Int) = 32))))), []⟩, ⟨55, (.one (.d (.bool true))), []⟩, ⟨56, (.one (.d (.bool true))), []⟩, ⟨57, (.one (.d (.bool true))), []⟩, ⟨58, (.tup []), []⟩, ⟨59, (.tup []), []⟩, ⟨60, (.tup []), []⟩, ⟨61, (.tup []), []⟩, ⟨62, (.tup []), []⟩, ⟨63, (.tup []), []⟩, ⟨64, (.tup []), []⟩, ⟨65, (.tup []), []⟩, ⟨66, (.tup []), []⟩, ⟨67, (.tup []), []⟩, ⟨68, (.tup []), []⟩, ⟨69, (.tup []), []⟩, ⟨70, (.tup []), []⟩, ⟨71, (.tup []), []⟩, ⟨72, (.one (.d (.bool true))), []⟩] (by kernel_rfl) (by kernel_rfl) ?_ ?_
          ·
           refine .cons (fun E hA_ => by have g6 := hA_.get 6 (by decide); exact OpStep.plain rfl (Step.fieldAddr (q := 0) (off := 0) (n := 1) (one := true) (t := 32) rfl rfl (by exact lt_ok rfl) (by kernel_rfl) (Nat.succ_ne_zero _) (show Env.ev E (.tmp 6) = _ from g6.trans rfl))) ?_
           refine .cons (fun E hA_ => by have g32 := hA_.get 32 (by decide); exact OpStep.plain rfl (Step.load_box (c := .d (.int .i64 (t.f1.getD i default).f0)) (t := 33) rfl rfl (by exact lt_ok rfl) (by kernel_rfl) (show Env.ev E (.tmp 32) = _ from g32.trans rfl) (by exact hA_.box rfl) rfl)) ?_
           refine .cons (fun E hA_ => by have g2 := hA_.get 2 (by decide); exact OpStep.plain rfl (Step.fieldAddr (q := 0) (off := 0) (n := 1) (one := true) (t := 34) rfl rfl (by exact lt_ok rfl) (by kernel_rfl) (Nat.succ_ne_zero _) (show Env.ev E (.tmp 2) = _ from g2.trans rfl))) ?_
           refine .cons (fun E hA_ => by have g34 := hA_.get 34 (by decide); exact OpStep.plain rfl (Step.load_box (c := .d (.int .i64 l.f0)) (t := 35) rfl rfl (by exact lt_ok rfl) (by kernel_rfl) (show Env.ev E (.tmp 34) = _ from g34.trans rfl) (by exact hA_.box rfl) rfl)) ?_
           refine .cons (fun E hA_ => by have g35 := hA_.get 35 (by decide); exact OpStep.plain rfl (Step.bin (r := .int .i64 (IntKind.i64.wrap (l.f0 - 1))) (t := 36) rfl rfl (by exact lt_ok rfl) (show Env.ev E (.tmp 35) = _ from g35.trans rfl) rfl (Bin.sub (a := l.f0) (b := 1) (rfl)))) ?_
           refine .cons (fun E hA_ => by have g33 := hA_.get 33 (by decide); have g36 := hA_.get 36 (by decide); exact OpStep.plain rfl (Step.call (f := 138) (xs := [.tmp 33, .const (.int .i64 0), .tmp 36]) (ps := [(.one (.d (.int .i64 (t.f1.getD i default).f0))), (.one (.d (.int .i64 0))), (.one (.d (.int .i64 (IntKind.i64.wrap (l.f0 - 1)))))]) false (g := .func 138) (t := 37) rfl rfl (by exact lt_ok rfl) rfl (by kernel_rfl) (evs_cons (show Env.ev E (.tmp 33) = _ from g33.trans rfl) (evs_cons rfl (evs_cons (show Env.ev E (.tmp 36) = _ from g36.trans rfl) (rfl)))) (.cons (.one (.d _)) (.cons (.one (.d _)) (.cons (.one (.d _)) .nil))) (ok_spec_l01In (t.f1.getD i default).f0 0 (IntKind.i64.wrap (l.f0 - 1))) (.inr rfl) (At.freshRows hA_ rfl) (by simp) rfl)) ?_
           refine .cons (fun E hA_ => by have g37 := hA_.get 37 (by decide); exact OpStep.plain rfl (Step.to (E1 := E.set 38 (.one (.d (.bool (!(decide (0 ≤ (t.f1.getD i default).f0 ∧ (t.f1.getD i default).f0 ≤ (IntKind.i64.wrap (l.f0 - 1))))))))) (congrArg (fun b_ => E.set 38 (.one (.d (.bool b_)))) hb7) (Step.not (b := (decide (0 ≤ (t.f1.getD i default).f0 ∧ (t.f1.getD i default).f0 ≤ (IntKind.i64.wrap (l.f0 - 1))))) (t := 38) rfl rfl (by exact lt_ok rfl) (show Env.ev E (.tmp 37) = _ from g37.trans rfl)))) ?_
           refine .cons (fun E hA_ => by have g38 := hA_.get 38 (by decide); exact OpStep.plain rfl (Step.move (p := (.one (.d (.bool false)))) (t := 39) rfl rfl (by exact lt_ok rfl) (show Env.ev E (.tmp 38) = _ from g38.trans rfl))) ?_
           refine .cons (fun E hA_ => by have g6 := hA_.get 6 (by decide); have g39 := hA_.get 39 (by decide); exact OpStep.yes (t := 39) rfl rfl (lt_ok rfl) (g39.trans rfl) (Step.fieldAddr (q := 0) (off := 1) (n := 1) (one := true) (t := 40) rfl rfl (by exact lt_ok rfl) (by kernel_rfl) (Nat.succ_ne_zero _) (show Env.ev E (.tmp 6) = _ from g6.trans rfl))) ?_
           refine .cons (fun E hA_ => by have g39 := hA_.get 39 (by decide); have g40 := hA_.get 40 (by decide); exact OpStep.yes (t := 39) rfl rfl (lt_ok rfl) (g39.trans rfl) (Step.load_box (c := .d (.int .i64 (t.f1.getD i default).f1)) (t := 41) rfl rfl (by exact lt_ok rfl) (by kernel_rfl) (show Env.ev E (.tmp 40) = _ from g40.trans rfl) (by exact hA_.box rfl) rfl)) ?_
           refine .cons (fun E hA_ => by have g39 := hA_.get 39 (by decide); have g41 := hA_.get 41 (by decide); exact OpStep.yes (t := 39) rfl rfl (lt_ok rfl) (g39.trans rfl) (Step.to (E1 := E.set 42 (.one (.d (.bool (decide ((t.f1.getD i default).f1 < 0)))))) (congrArg (fun b_ => E.set 42 (.one (.d (.bool b_)))) hb9) (Step.bin (t := 42) rfl rfl (by exact lt_ok rfl) (show Env.ev E (.tmp 41) = _ from g41.trans rfl) rfl (Bin.lss (k := .i64) (a := (t.f1.getD i default).f1) (b := 0))))) ?_
           refine .cons (fun E hA_ => by have g39 := hA_.get 39 (by decide); have g42 := hA_.get 42 (by decide); exact OpStep.plain rfl (Step.pick (b := false) (p := (.one (.d (.bool false)))) (t := 43) rfl rfl (by exact lt_ok rfl) (show Env.ev E (.tmp 39) = _ from g39.trans rfl) (show Env.ev E (.tmp 42) = _ from g42.trans rfl))) ?_
           refine .cons (fun E hA_ => by have g43 := hA_.get 43 (by decide); exact OpStep.plain rfl (Step.move (p := (.one (.d (.bool false)))) (t := 44) rfl rfl (by exact lt_ok rfl) (show Env.ev E (.tmp 43) = _ from g43.trans rfl))) ?_
           refine .cons (fun E hA_ => by have g6 := hA_.get 6 (by decide); have g44 := hA_.get 44 (by decide); exact OpStep.yes (t := 44) rfl rfl (lt_ok rfl) (g44.trans rfl) (Step.fieldAddr (q := 0) (off := 1) (n := 1) (one := true) (t := 45) rfl rfl (by exact lt_ok rfl) (by kernel_rfl) (Nat.succ_ne_zero _) (show Env.ev E (.tmp 6) = _ from g6.trans rfl))) ?_
           refine .cons (fun E hA_ => by have g44 := hA_.get 44 (by decide); have g45 := hA_.get 45 (by decide); exact OpStep.yes (t := 44) rfl rfl (lt_ok rfl) (g44.trans rfl) (Step.load_box (c := .d (.int .i64 (t.f1.getD i default).f1)) (t := 46) rfl rfl (by exact lt_ok rfl) (by kernel_rfl) (show Env.ev E (.tmp 45) = _ from g45.trans rfl) (by exact hA_.box rfl) rfl)) ?_
           refine .cons (fun E hA_ => by have g3 := hA_.get 3 (by decide); have g44 := hA_.get 44 (by decide); exact OpStep.yes (t := 44) rfl rfl (lt_ok rfl) (g44.trans rfl) (Step.fieldAddr (q := 0) (off := 0) (n := 1) (one := true) (t := 47) rfl rfl (by exact lt_ok rfl) (by kernel_rfl) (Nat.succ_ne_zero _) (show Env.ev E (.tmp 3) = _ from g3.trans rfl))) ?_
           refine .cons (fun E hA_ => by have g44 := hA_.get 44 (by decide); have g47 := hA_.get 47 (by decide); exact OpStep.yes (t := 44) rfl rfl (lt_ok rfl) (g44.trans rfl) (Step.load_box (c := .d (.int .i64 t.f0)) (t := 48) rfl rfl (by exact lt_ok rfl) (by kernel_rfl) (show Env.ev E (.tmp 47) = _ from g47.trans rfl) (by exact hA_.box rfl) rfl)) ?_
           refine .cons (fun E hA_ => by have g44 := hA_.get 44 (by decide); have g46 := hA_.get 46 (by decide); have g48 := hA_.get 48 (by decide); exact OpStep.yes (t := 44) rfl rfl (lt_ok rfl) (g44.trans rfl) (Step.to (E1 := E.set 49 (.one (.d (.bool (decide (t.f0 ≤ (t.f1.getD i default).f1)))))) (congrArg (fun b_ => E.set 49 (.one (.d (.bool b_)))) hb11) (Step.bin (t := 49) rfl rfl (by exact lt_ok rfl) (show Env.ev E (.tmp 46) = _ from g46.trans rfl) (show Env.ev E (.tmp 48) = _ from g48.trans rfl) (Bin.geq (k := .i64) (a := (t.f1.getD i default).f1) (b := t.f0))))) ?_
           refine .cons (fun E hA_ => by have g44 := hA_.get 44 (by decide); have g49 := hA_.get 49 (by decide); exact OpStep.plain rfl (Step.pick (b := false) (p := (.one (.d (.bool false)))) (t := 50) rfl rfl (by exact lt_ok rfl) (show Env.ev E (.tmp 44) = _ from g44.trans rfl) (show Env.ev E (.tmp 49) = _ from g49.trans rfl))) ?_
           refine .cons (fun E hA_ => by have g50 := hA_.get 50 (by decide); exact OpStep.plain rfl (Step.move (p := (.one (.d (.bool false)))) (t := 51) rfl rfl (by exact lt_ok rfl) (show Env.ev E (.tmp 50) = _ from g50.trans rfl))) ?_
           refine .cons (fun E hA_ => by have g6 := hA_.get 6 (by decide); have g51 := hA_.get 51 (by decide); exact OpStep.yes (t := 51) rfl rfl (lt_ok rfl) (g51.trans rfl) (Step.fieldAddr (q := 0) (off := 2) (n := 1) (one := true) (t := 52) rfl rfl (by exact lt_ok rfl) (by kernel_rfl) (Nat.succ_ne_zero _) (show Env.ev E (.tmp 6) = _ from g6.trans rfl))) ?_
           refine .cons (fun E hA_ => by have g51 := hA_.get 51 (by decide); have g52 := hA_.get 52 (by decide); exact OpStep.yes (t := 51) rfl rfl (lt_ok rfl) (g51.trans rfl) (Step.load_box (c := .d (.ints .u8 (t.f1.getD i default).f2)) (t := 53) rfl rfl (by exact lt_ok rfl) (by kernel_rfl) (show Env.ev E (.tmp 52) = _ from g52.trans rfl) (by exact hA_.box rfl) rfl)) ?_
           refine .cons (fun E hA_ => by have g51 := hA_.get 51 (by decide); have g53 := hA_.get 53 (by decide); exact OpStep.yes (t := 51) rfl rfl (lt_ok rfl) (g51.trans rfl) (Step.call (f := 139) (xs := [.tmp 53]) (ps := [(.one (.d (.ints .u8 (t.f1.getD i default).f2)))]) false (g := .func 139) (t := 54) rfl rfl (by exact lt_ok rfl) rfl (by kernel_rfl) (evs_cons (show Env.ev E (.tmp 53) = _ from g53.trans rfl) (rfl)) (.cons (.one (.d _)) .nil) (ok_spec_l07Hash (t.f1.getD i default).f2) (.inr rfl) (At.freshRows hA_ rfl) (by simp) rfl)) ?_
           refine .cons (fun E hA_ => by have g51 := hA_.get 51 (by decide); have g54 := hA_.get 54 (by decide); exact OpStep.yes (t := 51) rfl rfl (lt_ok rfl) (g51.trans rfl) (Step.to (E1 := E.set 55 (.one (.d (.bool (!(decide (((t.f1.getD i default).f2.length : Int) = 32))))))) (congrArg (fun b_ => E.set 55 (.one (.d (.bool b_)))) hb13) (Step.not (b := (decide (((t.f1.getD i default).f2.length : Int) = 32))) (t := 55) rfl rfl (by exact lt_ok rfl) (show Env.ev E (.tmp 54) = _ from g54.trans rfl)))) ?_
           refine .cons (fun E hA_ => by have g51 := hA_.get 51 (by decide); have g55 := hA_.get 55 (by decide); exact OpStep.plain rfl (Step.pick (b := false) (p := (.one (.d (.bool true)))) (t := 56) rfl rfl (by exact lt_ok rfl) (show Env.ev E (.tmp 51) = _ from g51.trans rfl) (show Env.ev E (.tmp 55) = _ from g55.trans rfl))) ?_
           refine .cons (fun E hA_ => by have g56 := hA_.get 56 (by decide); exact OpStep.plain rfl (Step.move (p := (.one (.d (.bool true)))) (t := 57) rfl rfl (by exact lt_ok rfl) (show Env.ev E (.tmp 56) = _ from g56.trans rfl))) ?_
           refine .cons (fun E hA_ => OpStep.off (t := 57) rfl rfl (lt_ok rfl) ((hA_.get 57 (by decide)).trans rfl) (by decide) rfl (lt_ok rfl)) ?_
           refine .cons (fun E hA_ => OpStep.off (t := 57) rfl rfl (lt_ok rfl) ((hA_.get 57 (by decide)).trans rfl) (by decide) rfl (lt_ok rfl)) ?_
           refine .cons (fun E hA_ => OpStep.off (t := 57) rfl rfl (lt_ok rfl) ((hA_.get 57 (by decide)).trans rfl) (by decide) rfl (lt_ok rfl)) ?_
           refine .cons (fun E hA_ => OpStep.offU (t := 60) rfl rfl (lt_ok rfl) ((hA_.get 60 (by decide)).trans rfl) rfl (lt_ok rfl)) ?_
           refine .cons (fun E hA_ => OpStep.offU (t := 60) rfl rfl (lt_ok rfl) ((hA_.get 60 (by decide)).trans rfl) rfl (lt_ok rfl)) ?_
           refine .cons (fun E hA_ => OpStep.offU (t := 60) rfl rfl (lt_ok rfl) ((hA_.get 60 (by decide)).trans rfl) rfl (lt_ok rfl)) ?_
           refine .cons (fun E hA_ => OpStep.offU (t := 60) rfl rfl (lt_ok rfl) ((hA_.get 60 (by decide)).trans rfl) rfl (lt_ok rfl)) ?_
           refine .cons (fun E hA_ => OpStep.offU (t := 60) rfl rfl (lt_ok rfl) ((hA_.get 60 (by decide)).trans rfl) rfl (lt_ok rfl)) ?_
           refine .cons (fun E hA_ => OpStep.offU (t := 60) rfl rfl (lt_ok rfl) ((hA_.get 60 (by decide)).trans rfl) rfl (lt_ok rfl)) ?_
           refine .cons (fun E hA_ => OpStep.offU (t := 60) rfl rfl (lt_ok rfl) ((hA_.get 60 (by decide)).trans rfl) rfl (lt_ok rfl)) ?_
           refine .cons (fun E hA_ => OpStep.offU (t := 60) rfl rfl (lt_ok rfl) ((hA_.get 60 (by decide)).trans rfl) rfl (lt_ok rfl)) ?_
           refine .cons (fun E hA_ => OpStep.offU (t := 60) rfl rfl (lt_ok rfl) ((hA_.get 60 (by decide)).trans rfl) rfl (lt_ok rfl)) ?_
           refine .cons (fun E hA_ => OpStep.offU (t := 60) rfl rfl (lt_ok rfl) ((hA_.get 60 (by decide)).trans rfl) rfl (lt_ok rfl)) ?_
           refine .cons (fun E hA_ => OpStep.off (t := 57) rfl rfl (lt_ok rfl) ((hA_.get 57 (by decide)).trans rfl) (by decide) rfl (lt_ok rfl)) ?_
           refine .cons (fun E hA_ => by have g57 := hA_.get 57 (by decide); have g71 := hA_.get 71 (by decide); exact OpStep.plain rfl (Step.pick (b := true) (p := (.one (.d (.bool true)))) (t := 72) rfl rfl (by exact lt_ok rfl) (show Env.ev E (.tmp 57) = _ from g57.trans rfl) rfl)) ?_
           exact .nil _ _
          refine TL.nil ?_
          refine T.cond (b := true) rfl (fun h14_ => ?_) (fun h14_ => absurd h14_ (by simp))
          refine T.seq ?_
          refine T.region ?_
          refine TL.cons rfl (Step.assign (p := (.one (.d (.bool false)))) rfl rfl (lt_ok rfl) rfl) ?_
          refine TL.nil ?_
          refine T.ret ?_
          exact ⟨[(false, [.d (.bool false)])], (.cons rfl .nil), rfl, [], (RetC.rd' (by (congr 1; symm; first | (rw [tcOk_no (i := i) (by omega) (tcEnt_no (by (try simp only [hashes, List.all_cons, List.all_nil, Bool.and_true] at *); (try simp only [decide_eq_true_eq, decide_eq_false_iff_not, Bool.not_eq_true', Bool.not_eq_false'] at *); (try (have hw2_ := hw_ (by omega) (by omega))); omega))]; done) | (unfold tcOk; rw [show tcAll l t t.f1.length = true from by rw [show t.f1.length = i from by omega]; exact hx2, decide_eq_true (p := (t.f1.length : Int) ≤ l.f0) (by omega), decide_eq_true (p := (0 ≤ t.f0 ∧ t.f0 ≤ 1152921504606846975)) (by omega)]; simp only [*, Bool.and_true, Bool.true_and, Bool.and_false, Bool.false_and, decide_true, decide_false, and_true, true_and, and_self, and_false, false_and, Bool.and_self, not_true, not_false, Bool.not_true, Bool.not_false, ge_iff_le, gt_iff_lt, if_true, if_false, Bool.false_eq_true, ite_true, ite_false, reduceIte]; done) | (unfold tcOk; rw [show tcAll l t t.f1.length = true from by rw [show t.f1.length = i from by omega]; exact hx2, decide_eq_true (p := (0 ≤ t.f0 ∧ t.f0 ≤ 1152921504606846975)) (by omega)]; simp only [*, Bool.and_true, Bool.true_and, Bool.and_false, Bool.false_and, decide_true, decide_false, and_true, true_and, and_self, and_false, false_and, Bool.and_self, not_true, not_false, Bool.not_true, Bool.not_false, ge_iff_le, gt_iff_lt, if_true, if_false, Bool.false_eq_true, ite_true, ite_false, reduceIte]; done) | (unfold tcOk; simp only [*, Bool.and_true, Bool.true_and, Bool.and_false, Bool.false_and, decide_true, decide_false, and_true, true_and, and_self, and_false, false_and, Bool.and_self, not_true, not_false, Bool.not_true, Bool.not_false, ge_iff_le, gt_iff_lt, if_true, if_false, Bool.false_eq_true, ite_true, ite_false, reduceIte]; done) | (unfold tcOk; rw [decide_eq_false (p := (t.f1.length : Int) ≤ l.f0) (by omega)]; simp; done))) .nil)⟩
         ·
          have hb13' := hb13
          replace hb13' : (decide (((t.f1.getD i default).f2.length : Int) = 32)) = true := by simpa only [Bool.not_eq_true', Bool.not_eq_false'] using hb13'
          replace hb13' := of_decide_eq_true hb13'
          rcases Bool.eq_false_or_eq_true (decide (0 < (i : Int))) with hb15 | hb15
          ·
           have hb15' := hb15
           replace hb15' := of_decide_eq_true hb15'
           refine T.draw [⟨32, (.one (.ptr 6 0)), []⟩, ⟨33, (.one (.d (.int .i64 (t.f1.getD i default).f0))), []⟩, ⟨34, (.one (.ptr 2 0)), []⟩, ⟨35, (.one (.d (.int .i64 l.f0))), []⟩, ⟨36, (.one (.d (.int .i64 (IntKind.i64.wrap (l.f0 - 1))))), []⟩, ⟨37, (.one (.d (.bool (decide (0 ≤ (t.f1.getD i default).f0 ∧ (t.f1.getD i default).f0 ≤ (IntKind.i64.wrap (l.f0 - 1))))))), []⟩, ⟨38, (.one (.d (.bool false))), []⟩, ⟨39, (.one (.d (.bool false))), []⟩, ⟨40, (.one (.ptr 6 1)), []⟩, ⟨41, (.one (.d (.int .i64 (t.f1.getD i default).f1))), []⟩, ⟨42, (.one (.d (.bool false))), []⟩, ⟨43, (.one (.d (.bool false))), []⟩, ⟨44, (.one (.d (.bool false))), []⟩, ⟨45, (.one (.ptr 6 1)), []⟩, ⟨46, (.one (.d (.int .i64 (t.f1.getD i default).f1))), []⟩, ⟨47, (.one (.ptr 3 0)), []⟩, ⟨48, (.one (.d (.int .i64 t.f0))), []⟩, ⟨49, (.one (.d (.bool false))), []⟩, ⟨50, (.one (.d (.bool false))), []⟩, ⟨51, (.one (.d (.bool false))), []⟩, ⟨52, (.one (.ptr 6 2)), []⟩, ⟨53, (.one (.d (.ints .u8 (t.f1.getD i default).f2))), []⟩, ⟨54, (.one (.d (.bool (decide (((t.f1.getD i default).f2.length : Int) = 32))))), []⟩, ⟨55, (.one (.d (.bool false))), []⟩, ⟨56, (.one (.d (.bool false))), []⟩, ⟨57, (.one (.d (.bool false))), []⟩, ⟨58, (.one (.d (.int .i64 (i : Int)))), []⟩, ⟨59, (.one (.d (.bool true))), []⟩, ⟨60, (.one (.d (.bool true))), []⟩, ⟨61, (.one (.ptr 3 1)), []⟩, ⟨62, (.one (.d (.sl 3 (t.f1.map SEntry.cells)))), []⟩, ⟨63, (.one (.d (.int .i64 (i : Int)))), []⟩, ⟨64, (.one (.d (.int .i64 ((i : Int) - 1)))), []⟩, ⟨65, (.one (.eptr (.sl 3 (t.f1.map SEntry.cells)) ((i : Int) - 1).toNat 0)), []⟩, ⟨66, (.one (.eptr (.sl 3 (t.f1.map SEntry.cells)) ((i : Int) - 1).toNat 0)), []⟩, ⟨67, (.one (.d (.int .i64 (t.f1.getD ((i : Int) - 1).toNat default).f0))), []⟩, ⟨68, (.one (.ptr 6 0)), []⟩, ⟨69, (.one (.d (.int .i64 (t.f1.getD i default).f0))), []⟩, ⟨70, (.one (.d (.bool (decide ((t.f1.getD i default).f0 ≤ (t.f1.getD ((i : Int) - 1).toNat default).f0))))), []⟩, ⟨71, (.one (.d (.bool (decide ((t.f1.getD i default).f0 ≤ (t.f1.getD ((i : Int) - 1).toNat default).f0))))), []⟩, ⟨72, (.one (.d (.bool (decide ((t.f1.getD i default).f0 ≤ (t.f1.getD ((i : Int) - 1).toNat default).f0))))), []⟩] (by kernel_rfl) (by kernel_rfl) ?_ ?_
           ·
            refine .cons (fun E hA_ => by have g6 := hA_.get 6 (by decide); exact OpStep.plain rfl (Step.fieldAddr (q := 0) (off := 0) (n := 1) (one := true) (t := 32) rfl rfl (by exact lt_ok rfl) (by kernel_rfl) (Nat.succ_ne_zero _) (show Env.ev E (.tmp 6) = _ from g6.trans rfl))) ?_
            refine .cons (fun E hA_ => by have g32 := hA_.get 32 (by decide); exact OpStep.plain rfl (Step.load_box (c := .d (.int .i64 (t.f1.getD i default).f0)) (t := 33) rfl rfl (by exact lt_ok rfl) (by kernel_rfl) (show Env.ev E (.tmp 32) = _ from g32.trans rfl) (by exact hA_.box rfl) rfl)) ?_
            refine .cons (fun E hA_ => by have g2 := hA_.get 2 (by decide); exact OpStep.plain rfl (Step.fieldAddr (q := 0) (off := 0) (n := 1) (one := true) (t := 34) rfl rfl (by exact lt_ok rfl) (by kernel_rfl) (Nat.succ_ne_zero _) (show Env.ev E (.tmp 2) = _ from g2.trans rfl))) ?_
            refine .cons (fun E hA_ => by have g34 := hA_.get 34 (by decide); exact OpStep.plain rfl (Step.load_box (c := .d (.int .i64 l.f0)) (t := 35) rfl rfl (by exact lt_ok rfl) (by kernel_rfl) (show Env.ev E (.tmp 34) = _ from g34.trans rfl) (by exact hA_.box rfl) rfl)) ?_
            refine .cons (fun E hA_ => by have g35 := hA_.get 35 (by decide); exact OpStep.plain rfl (Step.bin (r := .int .i64 (IntKind.i64.wrap (l.f0 - 1))) (t := 36) rfl rfl (by exact lt_ok rfl) (show Env.ev E (.tmp 35) = _ from g35.trans rfl) rfl (Bin.sub (a := l.f0) (b := 1) (rfl)))) ?_
            refine .cons (fun E hA_ => by have g33 := hA_.get 33 (by decide); have g36 := hA_.get 36 (by decide); exact OpStep.plain rfl (Step.call (f := 138) (xs := [.tmp 33, .const (.int .i64 0), .tmp 36]) (ps := [(.one (.d (.int .i64 (t.f1.getD i default).f0))), (.one (.d (.int .i64 0))), (.one (.d (.int .i64 (IntKind.i64.wrap (l.f0 - 1)))))]) false (g := .func 138) (t := 37) rfl rfl (by exact lt_ok rfl) rfl (by kernel_rfl) (evs_cons (show Env.ev E (.tmp 33) = _ from g33.trans rfl) (evs_cons rfl (evs_cons (show Env.ev E (.tmp 36) = _ from g36.trans rfl) (rfl)))) (.cons (.one (.d _)) (.cons (.one (.d _)) (.cons (.one (.d _)) .nil))) (ok_spec_l01In (t.f1.getD i default).f0 0 (IntKind.i64.wrap (l.f0 - 1))) (.inr rfl) (At.freshRows hA_ rfl) (by simp) rfl)) ?_
            refine .cons (fun E hA_ => by have g37 := hA_.get 37 (by decide); exact OpStep.plain rfl (Step.to (E1 := E.set 38 (.one (.d (.bool (!(decide (0 ≤ (t.f1.getD i default).f0 ∧ (t.f1.getD i default).f0 ≤ (IntKind.i64.wrap (l.f0 - 1))))))))) (congrArg (fun b_ => E.set 38 (.one (.d (.bool b_)))) hb7) (Step.not (b := (decide (0 ≤ (t.f1.getD i default).f0 ∧ (t.f1.getD i default).f0 ≤ (IntKind.i64.wrap (l.f0 - 1))))) (t := 38) rfl rfl (by exact lt_ok rfl) (show Env.ev E (.tmp 37) = _ from g37.trans rfl)))) ?_
            refine .cons (fun E hA_ => by have g38 := hA_.get 38 (by decide); exact OpStep.plain rfl (Step.move (p := (.one (.d (.bool false)))) (t := 39) rfl rfl (by exact lt_ok rfl) (show Env.ev E (.tmp 38) = _ from g38.trans rfl))) ?_
            refine .cons (fun E hA_ => by have g6 := hA_.get 6 (by decide); have g39 := hA_.get 39 (by decide); exact OpStep.yes (t := 39) rfl rfl (lt_ok rfl) (g39.trans rfl) (Step.fieldAddr (q := 0) (off := 1) (n := 1) (one := true) (t := 40) rfl rfl (by exact lt_ok rfl) (by kernel_rfl) (Nat.succ_ne_zero _) (show Env.ev E (.tmp 6) = _ from g6.trans rfl))) ?_
            refine .cons (fun E hA_ => by have g39 := hA_.get 39 (by decide); have g40 := hA_.get 40 (by decide); exact OpStep.yes (t := 39) rfl rfl (lt_ok rfl) (g39.trans rfl) (Step.load_box (c := .d (.int .i64 (t.f1.getD i default).f1)) (t := 41) rfl rfl (by exact lt_ok rfl) (by kernel_rfl) (show Env.ev E (.tmp 40) = _ from g40.trans rfl) (by exact hA_.box rfl) rfl)) ?_
            refine .cons (fun E hA_ => by have g39 := hA_.get 39 (by decide); have g41 := hA_.get 41 (by decide); exact OpStep.yes (t := 39) rfl rfl (lt_ok rfl) (g39.trans rfl) (Step.to (E1 := E.set 42 (.one (.d (.bool (decide ((t.f1.getD i default).f1 < 0)))))) (congrArg (fun b_ => E.set 42 (.one (.d (.bool b_)))) hb9) (Step.bin (t := 42) rfl rfl (by exact lt_ok rfl) (show Env.ev E (.tmp 41) = _ from g41.trans rfl) rfl (Bin.lss (k := .i64) (a := (t.f1.getD i default).f1) (b := 0))))) ?_
            refine .cons (fun E hA_ => by have g39 := hA_.get 39 (by decide); have g42 := hA_.get 42 (by decide); exact OpStep.plain rfl (Step.pick (b := false) (p := (.one (.d (.bool false)))) (t := 43) rfl rfl (by exact lt_ok rfl) (show Env.ev E (.tmp 39) = _ from g39.trans rfl) (show Env.ev E (.tmp 42) = _ from g42.trans rfl))) ?_
            refine .cons (fun E hA_ => by have g43 := hA_.get 43 (by decide); exact OpStep.plain rfl (Step.move (p := (.one (.d (.bool false)))) (t := 44) rfl rfl (by exact lt_ok rfl) (show Env.ev E (.tmp 43) = _ from g43.trans rfl))) ?_
            refine .cons (fun E hA_ => by have g6 := hA_.get 6 (by decide); have g44 := hA_.get 44 (by decide); exact OpStep.yes (t := 44) rfl rfl (lt_ok rfl) (g44.trans rfl) (Step.fieldAddr (q := 0) (off := 1) (n := 1) (one := true) (t := 45) rfl rfl (by exact lt_ok rfl) (by kernel_rfl) (Nat.succ_ne_zero _) (show Env.ev E (.tmp 6) = _ from g6.trans rfl))) ?_
            refine .cons (fun E hA_ => by have g44 := hA_.get 44 (by decide); have g45 := hA_.get 45 (by decide); exact OpStep.yes (t := 44) rfl rfl (lt_ok rfl) (g44.trans rfl) (Step.load_box (c := .d (.int .i64 (t.f1.getD i default).f1)) (t := 46) rfl rfl (by exact lt_ok rfl) (by kernel_rfl) (show Env.ev E (.tmp 45) = _ from g45.trans rfl) (by exact hA_.box rfl) rfl)) ?_
            refine .cons (fun E hA_ => by have g3 := hA_.get 3 (by decide); have g44 := hA_.get 44 (by decide); exact OpStep.yes (t := 44) rfl rfl (lt_ok rfl) (g44.trans rfl) (Step.fieldAddr (q := 0) (off := 0) (n := 1) (one := true) (t := 47) rfl rfl (by exact lt_ok rfl) (by kernel_rfl) (Nat.succ_ne_zero _) (show Env.ev E (.tmp 3) = _ from g3.trans rfl))) ?_
            refine .cons (fun E hA_ => by have g44 := hA_.get 44 (by decide); have g47 := hA_.get 47 (by decide); exact OpStep.yes (t := 44) rfl rfl (lt_ok rfl) (g44.trans rfl) (Step.load_box (c := .d (.int .i64 t.f0)) (t := 48) rfl rfl (by exact lt_ok rfl) (by kernel_rfl) (show Env.ev E (.tmp 47) = _ from g47.trans rfl) (by exact hA_.box rfl) rfl)) ?_
            refine .cons (fun E hA_ => by have g44 := hA_.get 44 (by decide); have g46 := hA_.get 46 (by decide); have g48 := hA_.get 48 (by decide); exact OpStep.yes (t := 44) rfl rfl (lt_ok rfl) (g44.trans rfl) (Step.to (E1 := E.set 49 (.one (.d (.bool (decide (t.f0 ≤ (t.f1.getD i default).f1)))))) (congrArg (fun b_ => E.set 49 (.one (.d (.bool b_)))) hb11) (Step.bin (t := 49) rfl rfl (by exact lt_ok rfl) (show Env.ev E (.tmp 46) = _ from g46.trans rfl) (show Env.ev E (.tmp 48) = _ from g48.trans rfl) (Bin.geq (k := .i64) (a := (t.f1.getD i default).f1) (b := t.f0))))) ?_
            refine .cons (fun E hA_ => by have g44 := hA_.get 44 (by decide); have g49 := hA_.get 49 (by decide); exact OpStep.plain rfl (Step.pick (b := false) (p := (.one (.d (.bool false)))) (t := 50) rfl rfl (by exact lt_ok rfl) (show Env.ev E (.tmp 44) = _ from g44.trans rfl) (show Env.ev E (.tmp 49) = _ from g49.trans rfl))) ?_
            refine .cons (fun E hA_ => by have g50 := hA_.get 50 (by decide); exact OpStep.plain rfl (Step.move (p := (.one (.d (.bool false)))) (t := 51) rfl rfl (by exact lt_ok rfl) (show Env.ev E (.tmp 50) = _ from g50.trans rfl))) ?_
            refine .cons (fun E hA_ => by have g6 := hA_.get 6 (by decide); have g51 := hA_.get 51 (by decide); exact OpStep.yes (t := 51) rfl rfl (lt_ok rfl) (g51.trans rfl) (Step.fieldAddr (q := 0) (off := 2) (n := 1) (one := true) (t := 52) rfl rfl (by exact lt_ok rfl) (by kernel_rfl) (Nat.succ_ne_zero _) (show Env.ev E (.tmp 6) = _ from g6.trans rfl))) ?_
            refine .cons (fun E hA_ => by have g51 := hA_.get 51 (by decide); have g52 := hA_.get 52 (by decide); exact OpStep.yes (t := 51) rfl rfl (lt_ok rfl) (g51.trans rfl) (Step.load_box (c := .d (.ints .u8 (t.f1.getD i default).f2)) (t := 53) rfl rfl (by exact lt_ok rfl) (by kernel_rfl) (show Env.ev E (.tmp 52) = _ from g52.trans rfl) (by exact hA_.box rfl) rfl)) ?_
            refine .cons (fun E hA_ => by have g51 := hA_.get 51 (by decide); have g53 := hA_.get 53 (by decide); exact OpStep.yes (t := 51) rfl rfl (lt_ok rfl) (g51.trans rfl) (Step.call (f := 139) (xs := [.tmp 53]) (ps := [(.one (.d (.ints .u8 (t.f1.getD i default).f2)))]) false (g := .func 139) (t := 54) rfl rfl (by exact lt_ok rfl) rfl (by kernel_rfl) (evs_cons (show Env.ev E (.tmp 53) = _ from g53.trans rfl) (rfl)) (.cons (.one (.d _)) .nil) (ok_spec_l07Hash (t.f1.getD i default).f2) (.inr rfl) (At.freshRows hA_ rfl) (by simp) rfl)) ?_
            refine .cons (fun E hA_ => by have g51 := hA_.get 51 (by decide); have g54 := hA_.get 54 (by decide); exact OpStep.yes (t := 51) rfl rfl (lt_ok rfl) (g51.trans rfl) (Step.to (E1 := E.set 55 (.one (.d (.bool (!(decide (((t.f1.getD i default).f2.length : Int) = 32))))))) (congrArg (fun b_ => E.set 55 (.one (.d (.bool b_)))) hb13) (Step.not (b := (decide (((t.f1.getD i default).f2.length : Int) = 32))) (t := 55) rfl rfl (by exact lt_ok rfl) (show Env.ev E (.tmp 54) = _ from g54.trans rfl)))) ?_
            refine .cons (fun E hA_ => by have g51 := hA_.get 51 (by decide); have g55 := hA_.get 55 (by decide); exact OpStep.plain rfl (Step.pick (b := false) (p := (.one (.d (.bool false)))) (t := 56) rfl rfl (by exact lt_ok rfl) (show Env.ev E (.tmp 51) = _ from g51.trans rfl) (show Env.ev E (.tmp 55) = _ from g55.trans rfl))) ?_
            refine .cons (fun E hA_ => by have g56 := hA_.get 56 (by decide); exact OpStep.plain rfl (Step.move (p := (.one (.d (.bool false)))) (t := 57) rfl rfl (by exact lt_ok rfl) (show Env.ev E (.tmp 56) = _ from g56.trans rfl))) ?_
            refine .cons (fun E hA_ => by have g5 := hA_.get 5 (by decide); have g57 := hA_.get 57 (by decide); exact OpStep.yes (t := 57) rfl rfl (lt_ok rfl) (g57.trans rfl) (Step.move (p := (.one (.d (.int .i64 (i : Int))))) (t := 58) rfl rfl (by exact lt_ok rfl) (show Env.ev E (.tmp 5) = _ from g5.trans rfl))) ?_
            refine .cons (fun E hA_ => by have g57 := hA_.get 57 (by decide); have g58 := hA_.get 58 (by decide); exact OpStep.yes (t := 57) rfl rfl (lt_ok rfl) (g57.trans rfl) (Step.to (E1 := E.set 59 (.one (.d (.bool (decide (0 < (i : Int))))))) (congrArg (fun b_ => E.set 59 (.one (.d (.bool b_)))) hb15) (Step.bin (t := 59) rfl rfl (by exact lt_ok rfl) (show Env.ev E (.tmp 58) = _ from g58.trans rfl) rfl (Bin.gtr (k := .i64) (a := (i : Int)) (b := 0))))) ?_
            refine .cons (fun E hA_ => by have g57 := hA_.get 57 (by decide); have g59 := hA_.get 59 (by decide); exact OpStep.yes (t := 57) rfl rfl (lt_ok rfl) (g57.trans rfl) (Step.move (p := (.one (.d (.bool true)))) (t := 60) rfl rfl (by exact lt_ok rfl) (show Env.ev E (.tmp 59) = _ from g59.trans rfl))) ?_
            refine .cons (fun E hA_ => by have g3 := hA_.get 3 (by decide); have g60 := hA_.get 60 (by decide); exact OpStep.yes (t := 60) rfl rfl (lt_ok rfl) (g60.trans rfl) (Step.fieldAddr (q := 0) (off := 1) (n := 1) (one := true) (t := 61) rfl rfl (by exact lt_ok rfl) (by kernel_rfl) (Nat.succ_ne_zero _) (show Env.ev E (.tmp 3) = _ from g3.trans rfl))) ?_
            refine .cons (fun E hA_ => by have g60 := hA_.get 60 (by decide); have g61 := hA_.get 61 (by decide); exact OpStep.yes (t := 60) rfl rfl (lt_ok rfl) (g60.trans rfl) (Step.load_box (c := .d (.sl 3 (t.f1.map SEntry.cells))) (t := 62) rfl rfl (by exact lt_ok rfl) (by kernel_rfl) (show Env.ev E (.tmp 61) = _ from g61.trans rfl) (by exact hA_.box rfl) rfl)) ?_
            refine .cons (fun E hA_ => by have g5 := hA_.get 5 (by decide); have g60 := hA_.get 60 (by decide); exact OpStep.yes (t := 60) rfl rfl (lt_ok rfl) (g60.trans rfl) (Step.move (p := (.one (.d (.int .i64 (i : Int))))) (t := 63) rfl rfl (by exact lt_ok rfl) (show Env.ev E (.tmp 5) = _ from g5.trans rfl))) ?_
            refine .cons (fun E hA_ => by have g60 := hA_.get 60 (by decide); have g63 := hA_.get 63 (by decide); exact OpStep.yes (t := 60) rfl rfl (lt_ok rfl) (g60.trans rfl) (Step.bin (r := .int .i64 ((i : Int) - 1)) (t := 64) rfl rfl (by exact lt_ok rfl) (show Env.ev E (.tmp 63) = _ from g63.trans rfl) rfl (Bin.sub (a := (i : Int)) (b := 1) (by first | exact wrap_ok (by first | omega | (simp; omega)) (by first | omega | (simp; omega)) | rfl)))) ?_
            refine .cons (fun E hA_ => by have g60 := hA_.get 60 (by decide); have g62 := hA_.get 62 (by decide); have g64 := hA_.get 64 (by decide); exact OpStep.yes (t := 60) rfl rfl (lt_ok rfl) (g60.trans rfl) (Step.index (e := 121) (z := 3) (i := ((i : Int) - 1)) (t := 65) rfl rfl (by exact lt_ok rfl) (by kernel_rfl) (show Env.ev E (.tmp 62) = _ from g62.trans rfl) rfl rfl (lt_ok rfl) (show Env.ev E (.tmp 64) = _ from g64.trans rfl) (by first | omega | (simp; omega)) (by simp only [D.size]; first | omega | (simp; omega)))) ?_
            refine .cons (fun E hA_ => by have g60 := hA_.get 60 (by decide); have g65 := hA_.get 65 (by decide); exact OpStep.yes (t := 60) rfl rfl (lt_ok rfl) (g60.trans rfl) (Step.fieldAddr_e (j := 0) (off := 0) (n := 1) (one := true) (t := 66) rfl rfl (by exact lt_ok rfl) (by kernel_rfl) (Nat.succ_ne_zero _) (show Env.ev E (.tmp 65) = _ from g65.trans rfl) (lt_ok rfl))) ?_
            refine .cons (fun E hA_ => by have g60 := hA_.get 60 (by decide); have g66 := hA_.get 66 (by decide); exact OpStep.yes (t := 60) rfl rfl (lt_ok rfl) (g60.trans rfl) (Step.load (e := (.int .i64 (t.f1.getD ((i : Int) - 1).toNat default).f0)) (t := 67) rfl rfl (by exact lt_ok rfl) (by kernel_rfl) (show Env.ev E (.tmp 66) = _ from g66.trans rfl) ((cell_map default (by first | omega | (simp; omega))).trans rfl))) ?_
            refine .cons (fun E hA_ => by have g6 := hA_.get 6 (by decide); have g60 := hA_.get 60 (by decide); exact OpStep.yes (t := 60) rfl rfl (lt_ok rfl) (g60.trans rfl) (Step.fieldAddr (q := 0) (off := 0) (n := 1) (one := true) (t := 68) rfl rfl (by exact lt_ok rfl) (by kernel_rfl) (Nat.succ_ne_zero _) (show Env.ev E (.tmp 6) = _ from g6.trans rfl))) ?_
            refine .cons (fun E hA_ => by have g60 := hA_.get 60 (by decide); have g68 := hA_.get 68 (by decide); exact OpStep.yes (t := 60) rfl rfl (lt_ok rfl) (g60.trans rfl) (Step.load_box (c := .d (.int .i64 (t.f1.getD i default).f0)) (t := 69) rfl rfl (by exact lt_ok rfl) (by kernel_rfl) (show Env.ev E (.tmp 68) = _ from g68.trans rfl) (by exact hA_.box rfl) rfl)) ?_
            refine .cons (fun E hA_ => by have g60 := hA_.get 60 (by decide); have g67 := hA_.get 67 (by decide); have g69 := hA_.get 69 (by decide); exact OpStep.yes (t := 60) rfl rfl (lt_ok rfl) (g60.trans rfl) (Step.bin (t := 70) rfl rfl (by exact lt_ok rfl) (show Env.ev E (.tmp 67) = _ from g67.trans rfl) (show Env.ev E (.tmp 69) = _ from g69.trans rfl) (Bin.geq (k := .i64) (a := (t.f1.getD ((i : Int) - 1).toNat default).f0) (b := (t.f1.getD i default).f0)))) ?_
            refine .cons (fun E hA_ => by have g57 := hA_.get 57 (by decide); have g60 := hA_.get 60 (by decide); have g70 := hA_.get 70 (by decide); exact OpStep.yes (t := 57) rfl rfl (lt_ok rfl) (g57.trans rfl) (Step.pick (b := true) (p := (.one (.d (.bool (decide ((t.f1.getD i default).f0 ≤ (t.f1.getD ((i : Int) - 1).toNat default).f0)))))) (t := 71) rfl rfl (by exact lt_ok rfl) (show Env.ev E (.tmp 60) = _ from g60.trans rfl) (show Env.ev E (.tmp 70) = _ from g70.trans rfl))) ?_
            refine .cons (fun E hA_ => by have g57 := hA_.get 57 (by decide); have g71 := hA_.get 71 (by decide); exact OpStep.plain rfl (Step.pick (b := false) (p := (.one (.d (.bool (decide ((t.f1.getD i default).f0 ≤ (t.f1.getD ((i : Int) - 1).toNat default).f0)))))) (t := 72) rfl rfl (by exact lt_ok rfl) (show Env.ev E (.tmp 57) = _ from g57.trans rfl) (show Env.ev E (.tmp 71) = _ from g71.trans rfl))) ?_
            exact .nil _ _
           refine TL.nil ?_
           refine T.cond (b := decide ((t.f1.getD i default).f0 ≤ (t.f1.getD ((i : Int) - 1).toNat default).f0)) rfl (fun h16 => ?_) (fun h16 => ?_)
           ·
            replace h16 := of_decide_eq_true h16
            refine T.seq ?_
            refine T.region ?_
            refine TL.cons rfl (Step.assign (p := (.one (.d (.bool false)))) rfl rfl (lt_ok rfl) rfl) ?_
            refine TL.nil ?_
            refine T.ret ?_
            exact ⟨[(false, [.d (.bool false)])], (.cons rfl .nil), rfl, [], (RetC.rd' (by (congr 1; symm; first | (rw [tcOk_no (i := i) (by omega) (tcEnt_no (by (try simp only [hashes, List.all_cons, List.all_nil, Bool.and_true] at *); (try simp only [decide_eq_true_eq, decide_eq_false_iff_not, Bool.not_eq_true', Bool.not_eq_false'] at *); (try (have hw2_ := hw_ (by omega) (by omega))); omega))]; done) | (unfold tcOk; rw [show tcAll l t t.f1.length = true from by rw [show t.f1.length = i from by omega]; exact hx2, decide_eq_true (p := (t.f1.length : Int) ≤ l.f0) (by omega), decide_eq_true (p := (0 ≤ t.f0 ∧ t.f0 ≤ 1152921504606846975)) (by omega)]; simp only [*, Bool.and_true, Bool.true_and, Bool.and_false, Bool.false_and, decide_true, decide_false, and_true, true_and, and_self, and_false, false_and, Bool.and_self, not_true, not_false, Bool.not_true, Bool.not_false, ge_iff_le, gt_iff_lt, if_true, if_false, Bool.false_eq_true, ite_true, ite_false, reduceIte]; done) | (unfold tcOk; rw [show tcAll l t t.f1.length = true from by rw [show t.f1.length = i from by omega]; exact hx2, decide_eq_true (p := (0 ≤ t.f0 ∧ t.f0 ≤ 1152921504606846975)) (by omega)]; simp only [*, Bool.and_true, Bool.true_and, Bool.and_false, Bool.false_and, decide_true, decide_false, and_true, true_and, and_self, and_false, false_and, Bool.and_self, not_true, not_false, Bool.not_true, Bool.not_false, ge_iff_le, gt_iff_lt, if_true, if_false, Bool.false_eq_true, ite_true, ite_false, reduceIte]; done) | (unfold tcOk; simp only [*, Bool.and_true, Bool.true_and, Bool.and_false, Bool.false_and, decide_true, decide_false, and_true, true_and, and_self, and_false, false_and, Bool.and_self, not_true, not_false, Bool.not_true, Bool.not_false, ge_iff_le, gt_iff_lt, if_true, if_false, Bool.false_eq_true, ite_true, ite_false, reduceIte]; done) | (unfold tcOk; rw [decide_eq_false (p := (t.f1.length : Int) ≤ l.f0) (by omega)]; simp; done))) .nil)⟩
           ·
            replace h16 := of_decide_eq_false h16
            refine T.skip ?_
            refine T.region ?_
            refine TL.cons rfl (Step.bin (r := .int .i64 ((i : Int) + 1)) rfl rfl (lt_ok rfl) rfl rfl (Bin.add (a := (i : Int)) (b := 1) (by first | exact wrap_ok (by first | omega | (simp; omega)) (by first | omega | (simp; omega)) | rfl))) ?_
            refine TL.cons rfl (Step.move (p := (.one (.d (.int .i64 ((i : Int) + 1))))) rfl rfl (lt_ok rfl) rfl) ?_
            refine TL.nil ?_
            exact ⟨i + 1, by (refine ⟨by omega, ?_⟩; rw [tcAll_succ, hx2, tcEnt_yes (by (try simp only [hashes, List.all_cons, List.all_nil, Bool.and_true] at *); (try simp only [decide_eq_true_eq, decide_eq_false_iff_not, Bool.not_eq_true', Bool.not_eq_false'] at *); (try (have hw2_ := hw_ (by omega) (by omega))); omega)]; rfl), by first | omega | (dsimp only; omega), Env.le_mk ⟨rfl, rfl, rfl, rfl, by first | rfl | (simp; done) | (congr 3; omega), trivial⟩ trivial ⟨rfl, rfl, trivial⟩⟩
          ·
           have hb15' := hb15
           replace hb15' := of_decide_eq_false hb15'
           refine T.draw [⟨32, (.one (.ptr 6 0)), []⟩, ⟨33, (.one (.d (.int .i64 (t.f1.getD i default).f0))), []⟩, ⟨34, (.one (.ptr 2 0)), []⟩, ⟨35, (.one (.d (.int .i64 l.f0))), []⟩, ⟨36, (.one (.d (.int .i64 (IntKind.i64.wrap (l.f0 - 1))))), []⟩, ⟨37, (.one (.d (.bool (decide (0 ≤ (t.f1.getD i default).f0 ∧ (t.f1.getD i default).f0 ≤ (IntKind.i64.wrap (l.f0 - 1))))))), []⟩, ⟨38, (.one (.d (.bool false))), []⟩, ⟨39, (.one (.d (.bool false))), []⟩, ⟨40, (.one (.ptr 6 1)), []⟩, ⟨41, (.one (.d (.int .i64 (t.f1.getD i default).f1))), []⟩, ⟨42, (.one (.d (.bool false))), []⟩, ⟨43, (.one (.d (.bool false))), []⟩, ⟨44, (.one (.d (.bool false))), []⟩, ⟨45, (.one (.ptr 6 1)), []⟩, ⟨46, (.one (.d (.int .i64 (t.f1.getD i default).f1))), []⟩, ⟨47, (.one (.ptr 3 0)), []⟩, ⟨48, (.one (.d (.int .i64 t.f0))), []⟩, ⟨49, (.one (.d (.bool false))), []⟩, ⟨50, (.one (.d (.bool false))), []⟩, ⟨51, (.one (.d (.bool false))), []⟩, ⟨52, (.one (.ptr 6 2)), []⟩, ⟨53, (.one (.d (.ints .u8 (t.f1.getD i default).f2))), []⟩, ⟨54, (.one (.d (.bool (decide (((t.f1.getD i default).f2.length : Int) = 32))))), []⟩, ⟨55, (.one (.d (.bool false))), []⟩, ⟨56, (.one (.d (.bool false))), []⟩, ⟨57, (.one (.d (.bool false))), []⟩, ⟨58, (.one (.d (.int .i64 (i : Int)))), []⟩, ⟨59, (.one (.d (.bool false))), []⟩, ⟨60, (.one (.d (.bool false))), []⟩, ⟨61, (.tup []), []⟩, ⟨62, (.tup []), []⟩, ⟨63, (.tup []), []⟩, ⟨64, (.tup []), []⟩, ⟨65, (.tup []), []⟩, ⟨66, (.tup []), []⟩, ⟨67, (.tup []), []⟩, ⟨68, (.tup []), []⟩, ⟨69, (.tup []), []⟩, ⟨70, (.tup []), []⟩, ⟨71, (.one (.d (.bool false))), []⟩, ⟨72, (.one (.d (.bool false))), []⟩] (by kernel_rfl) (by kernel_rfl) ?_ ?_
           ·
            refine .cons (fun E hA_ => by have g6 := hA_.get 6 (by decide); exact OpStep.plain rfl (Step.fieldAddr (q := 0) (off := 0) (n := 1) (one := true) (t := 32) rfl rfl (by exact lt_ok rfl) (by kernel_rfl) (Nat.succ_ne_zero _) (show Env.ev E (.tmp 6) = _ from g6.trans rfl))) ?_
            refine .cons (fun E hA_ => by have g32 := hA_.get 32 (by decide); exact OpStep.plain rfl (Step.load_box (c := .d (.int .i64 (t.f1.getD i default).f0)) (t := 33) rfl rfl (by exact lt_ok rfl) (by kernel_rfl) (show Env.ev E (.tmp 32) = _ from g32.trans rfl) (by exact hA_.box rfl) rfl)) ?_
            refine .cons (fun E hA_ => by have g2 := hA_.get 2 (by decide); exact OpStep.plain rfl (Step.fieldAddr (q := 0) (off := 0) (n := 1) (one := true) (t := 34) rfl rfl (by exact lt_ok rfl) (by kernel_rfl) (Nat.succ_ne_zero _) (show Env.ev E (.tmp 2) = _ from g2.trans rfl))) ?_
            refine .cons (fun E hA_ => by have g34 := hA_.get 34 (by decide); exact OpStep.plain rfl (Step.load_box (c := .d (.int .i64 l.f0)) (t := 35) rfl rfl (by exact lt_ok rfl) (by kernel_rfl) (show Env.ev E (.tmp 34) = _ from g34.trans rfl) (by exact hA_.box rfl) rfl)) ?_
            refine .cons (fun E hA_ => by have g35 := hA_.get 35 (by decide); exact OpStep.plain rfl (Step.bin (r := .int .i64 (IntKind.i64.wrap (l.f0 - 1))) (t := 36) rfl rfl (by exact lt_ok rfl) (show Env.ev E (.tmp 35) = _ from g35.trans rfl) rfl (Bin.sub (a := l.f0) (b := 1) (rfl)))) ?_
            refine .cons (fun E hA_ => by have g33 := hA_.get 33 (by decide); have g36 := hA_.get 36 (by decide); exact OpStep.plain rfl (Step.call (f := 138) (xs := [.tmp 33, .const (.int .i64 0), .tmp 36]) (ps := [(.one (.d (.int .i64 (t.f1.getD i default).f0))), (.one (.d (.int .i64 0))), (.one (.d (.int .i64 (IntKind.i64.wrap (l.f0 - 1)))))]) false (g := .func 138) (t := 37) rfl rfl (by exact lt_ok rfl) rfl (by kernel_rfl) (evs_cons (show Env.ev E (.tmp 33) = _ from g33.trans rfl) (evs_cons rfl (evs_cons (show Env.ev E (.tmp 36) = _ from g36.trans rfl) (rfl)))) (.cons (.one (.d _)) (.cons (.one (.d _)) (.cons (.one (.d _)) .nil))) (ok_spec_l01In (t.f1.getD i default).f0 0 (IntKind.i64.wrap (l.f0 - 1))) (.inr rfl) (At.freshRows hA_ rfl) (by simp) rfl)) ?_
            refine .cons (fun E hA_ => by have g37 := hA_.get 37 (by decide); exact OpStep.plain rfl (Step.to (E1 := E.set 38 (.one (.d (.bool (!(decide (0 ≤ (t.f1.getD i default).f0 ∧ (t.f1.getD i default).f0 ≤ (IntKind.i64.wrap (l.f0 - 1))))))))) (congrArg (fun b_ => E.set 38 (.one (.d (.bool b_)))) hb7) (Step.not (b := (decide (0 ≤ (t.f1.getD i default).f0 ∧ (t.f1.getD i default).f0 ≤ (IntKind.i64.wrap (l.f0 - 1))))) (t := 38) rfl rfl (by exact lt_ok rfl) (show Env.ev E (.tmp 37) = _ from g37.trans rfl)))) ?_
            refine .cons (fun E hA_ => by have g38 := hA_.get 38 (by decide); exact OpStep.plain rfl (Step.move (p := (.one (.d (.bool false)))) (t := 39) rfl rfl (by exact lt_ok rfl) (show Env.ev E (.tmp 38) = _ from g38.trans rfl))) ?_
            refine .cons (fun E hA_ => by have g6 := hA_.get 6 (by decide); have g39 := hA_.get 39 (by decide); exact OpStep.yes (t := 39) rfl rfl (lt_ok rfl) (g39.trans rfl) (Step.fieldAddr (q := 0) (off := 1) (n := 1) (one := true) (t := 40) rfl rfl (by exact lt_ok rfl) (by kernel_rfl) (Nat.succ_ne_zero _) (show Env.ev E (.tmp 6) = _ from g6.trans rfl))) ?_
            refine .cons (fun E hA_ => by have g39 := hA_.get 39 (by decide); have g40 := hA_.get 40 (by decide); exact OpStep.yes (t := 39) rfl rfl (lt_ok rfl) (g39.trans rfl) (Step.load_box (c := .d (.int .i64 (t.f1.getD i default).f1)) (t := 41) rfl rfl (by exact lt_ok rfl) (by kernel_rfl) (show Env.ev E (.tmp 40) = _ from g40.trans rfl) (by exact hA_.box rfl) rfl)) ?_
            refine .cons (fun E hA_ => by have g39 := hA_.get 39 (by decide); have g41 := hA_.get 41 (by decide); exact OpStep.yes (t := 39) rfl rfl (lt_ok rfl) (g39.trans rfl) (Step.to (E1 := E.set 42 (.one (.d (.bool (decide ((t.f1.getD i default).f1 < 0)))))) (congrArg (fun b_ => E.set 42 (.one (.d (.bool b_)))) hb9) (Step.bin (t := 42) rfl rfl (by exact lt_ok rfl) (show Env.ev E (.tmp 41) = _ from g41.trans rfl) rfl (Bin.lss (k := .i64) (a := (t.f1.getD i default).f1) (b := 0))))) ?_
            refine .cons (fun E hA_ => by have g39 := hA_.get 39 (by decide); have g42 := hA_.get 42 (by decide); exact OpStep.plain rfl (Step.pick (b := false) (p := (.one (.d (.bool false)))) (t := 43) rfl rfl (by exact lt_ok rfl) (show Env.ev E (.tmp 39) = _ from g39.trans rfl) (show Env.ev E (.tmp 42) = _ from g42.trans rfl))) ?_
            refine .cons (fun E hA_ => by have g43 := hA_.get 43 (by decide); exact OpStep.plain rfl (Step.move (p := (.one (.d (.bool false)))) (t := 44) rfl rfl (by exact lt_ok rfl) (show Env.ev E (.tmp 43) = _ from g43.trans rfl))) ?_
            refine .cons (fun E hA_ => by have g6 := hA_.get 6 (by decide); have g44 := hA_.get 44 (by decide); exact OpStep.yes (t := 44) rfl rfl (lt_ok rfl) (g44.trans rfl) (Step.fieldAddr (q := 0) (off := 1) (n := 1) (one := true) (t := 45) rfl rfl (by exact lt_ok rfl) (by kernel_rfl) (Nat.succ_ne_zero _) (show Env.ev E (.tmp 6) = _ from g6.trans rfl))) ?_
            refine .cons (fun E hA_ => by have g44 := hA_.get 44 (by decide); have g45 := hA_.get 45 (by decide); exact OpStep.yes (t := 44) rfl rfl (lt_ok rfl) (g44.trans rfl) (Step.load_box (c := .d (.int .i64 (t.f1.getD i default).f1)) (t := 46) rfl rfl (by exact lt_ok rfl) (by kernel_rfl) (show Env.ev E (.tmp 45) = _ from g45.trans rfl) (by exact hA_.box rfl) rfl)) ?_
            refine .cons (fun E hA_ => by have g3 := hA_.get 3 (by decide); have g44 := hA_.get 44 (by decide); exact OpStep.yes (t := 44) rfl rfl (lt_ok rfl) (g44.trans rfl) (Step.fieldAddr (q := 0) (off := 0) (n := 1) (one := true) (t := 47) rfl rfl (by exact lt_ok rfl) (by kernel_rfl) (Nat.succ_ne_zero _) (show Env.ev E (.tmp 3) = _ from g3.trans rfl))) ?_
            refine .cons (fun E hA_ => by have g44 := hA_.get 44 (by decide); have g47 := hA_.get 47 (by decide); exact OpStep.yes (t := 44) rfl rfl (lt_ok rfl) (g44.trans rfl) (Step.load_box (c := .d (.int .i64 t.f0)) (t := 48) rfl rfl (by exact lt_ok rfl) (by kernel_rfl) (show Env.ev E (.tmp 47) = _ from g47.trans rfl) (by exact hA_.box rfl) rfl)) ?_
            refine .cons (fun E hA_ => by have g44 := hA_.get 44 (by decide); have g46 := hA_.get 46 (by decide); have g48 := hA_.get 48 (by decide); exact OpStep.yes (t := 44) rfl rfl (lt_ok rfl) (g44.trans rfl) (Step.to (E1 := E.set 49 (.one (.d (.bool (decide (t.f0 ≤ (t.f1.getD i default).f1)))))) (congrArg (fun b_ => E.set 49 (.one (.d (.bool b_)))) hb11) (Step.bin (t := 49) rfl rfl (by exact lt_ok rfl) (show Env.ev E (.tmp 46) = _ from g46.trans rfl) (show Env.ev E (.tmp 48) = _ from g48.trans rfl) (Bin.geq (k := .i64) (a := (t.f1.getD i default).f1) (b := t.f0))))) ?_
            refine .cons (fun E hA_ => by have g44 := hA_.get 44 (by decide); have g49 := hA_.get 49 (by decide); exact OpStep.plain rfl (Step.pick (b := false) (p := (.one (.d (.bool false)))) (t := 50) rfl rfl (by exact lt_ok rfl) (show Env.ev E (.tmp 44) = _ from g44.trans rfl) (show Env.ev E (.tmp 49) = _ from g49.trans rfl))) ?_
            refine .cons (fun E hA_ => by have g50 := hA_.get 50 (by decide); exact OpStep.plain rfl (Step.move (p := (.one (.d (.bool false)))) (t := 51) rfl rfl (by exact lt_ok rfl) (show Env.ev E (.tmp 50) = _ from g50.trans rfl))) ?_
            refine .cons (fun E hA_ => by have g6 := hA_.get 6 (by decide); have g51 := hA_.get 51 (by decide); exact OpStep.yes (t := 51) rfl rfl (lt_ok rfl) (g51.trans rfl) (Step.fieldAddr (q := 0) (off := 2) (n := 1) (one := true) (t := 52) rfl rfl (by exact lt_ok rfl) (by kernel_rfl) (Nat.succ_ne_zero _) (show Env.ev E (.tmp 6) = _ from g6.trans rfl))) ?_
            refine .cons (fun E hA_ => by have g51 := hA_.get 51 (by decide); have g52 := hA_.get 52 (by decide); exact OpStep.yes (t := 51) rfl rfl (lt_ok rfl) (g51.trans rfl) (Step.load_box (c := .d (.ints .u8 (t.f1.getD i default).f2)) (t := 53) rfl rfl (by exact lt_ok rfl) (by kernel_rfl) (show Env.ev E (.tmp 52) = _ from g52.trans rfl) (by exact hA_.box rfl) rfl)) ?_
            refine .cons (fun E hA_ => by have g51 := hA_.get 51 (by decide); have g53 := hA_.get 53 (by decide); exact OpStep.yes (t := 51) rfl rfl (lt_ok rfl) (g51.trans rfl) (Step.call (f := 139) (xs := [.tmp 53]) (ps := [(.one (.d (.ints .u8 (t.f1.getD i default).f2)))]) false (g := .func 139) (t := 54) rfl rfl (by exact lt_ok rfl) rfl (by kernel_rfl) (evs_cons (show Env.ev E (.tmp 53) = _ from g53.trans rfl) (rfl)) (.cons (.one (.d _)) .nil) (ok_spec_l07Hash (t.f1.getD i default).f2) (.inr rfl) (At.freshRows hA_ rfl) (by simp) rfl)) ?_
            refine .cons (fun E hA_ => by have g51 := hA_.get 51 (by decide); have g54 := hA_.get 54 (by decide); exact OpStep.yes (t := 51) rfl rfl (lt_ok rfl) (g51.trans rfl) (Step.to (E1 := E.set 55 (.one (.d (.bool (!(decide (((t.f1.getD i default).f2.length : Int) = 32))))))) (congrArg (fun b_ => E.set 55 (.one (.d (.bool b_)))) hb13) (Step.not (b := (decide (((t.f1.getD i default).f2.length : Int) = 32))) (t := 55) rfl rfl (by exact lt_ok rfl) (show Env.ev E (.tmp 54) = _ from g54.trans rfl)))) ?_
            refine .cons (fun E hA_ => by have g51 := hA_.get 51 (by decide); have g55 := hA_.get 55 (by decide); exact OpStep.plain rfl (Step.pick (b := false) (p := (.one (.d (.bool false)))) (t := 56) rfl rfl (by exact lt_ok rfl) (show Env.ev E (.tmp 51) = _ from g51.trans rfl) (show Env.ev E (.tmp 55) = _ from g55.trans rfl))) ?_
            refine .cons (fun E hA_ => by have g56 := hA_.get 56 (by decide); exact OpStep.plain rfl (Step.move (p := (.one (.d (.bool false)))) (t := 57) rfl rfl (by exact lt_ok rfl) (show Env.ev E (.tmp 56) = _ from g56.trans rfl))) ?_
            refine .cons (fun E hA_ => by have g5 := hA_.get 5 (by decide); have g57 := hA_.get 57 (by decide); exact OpStep.yes (t := 57) rfl rfl (lt_ok rfl) (g57.trans rfl) (Step.move (p := (.one (.d (.int .i64 (i : Int))))) (t := 58) rfl rfl (by exact lt_ok rfl) (show Env.ev E (.tmp 5) = _ from g5.trans rfl))) ?_
            refine .cons (fun E hA_ => by have g57 := hA_.get 57 (by decide); have g58 := hA_.get 58 (by decide); exact OpStep.yes (t := 57) rfl rfl (lt_ok rfl) (g57.trans rfl) (Step.to (E1 := E.set 59 (.one (.d (.bool (decide (0 < (i : Int))))))) (congrArg (fun b_ => E.set 59 (.one (.d (.bool b_)))) hb15) (Step.bin (t := 59) rfl rfl (by exact lt_ok rfl) (show Env.ev E (.tmp 58) = _ from g58.trans rfl) rfl (Bin.gtr (k := .i64) (a := (i : Int)) (b := 0))))) ?_
            refine .cons (fun E hA_ => by have g57 := hA_.get 57 (by decide); have g59 := hA_.get 59 (by decide); exact OpStep.yes (t := 57) rfl rfl (lt_ok rfl) (g57.trans rfl) (Step.move (p := (.one (.d (.bool false)))) (t := 60) rfl rfl (by exact lt_ok rfl) (show Env.ev E (.tmp 59) = _ from g59.trans rfl))) ?_
            refine .cons (fun E hA_ => OpStep.off (t := 60) rfl rfl (lt_ok rfl) ((hA_.get 60 (by decide)).trans rfl) (by decide) rfl (lt_ok rfl)) ?_
            refine .cons (fun E hA_ => OpStep.off (t := 60) rfl rfl (lt_ok rfl) ((hA_.get 60 (by decide)).trans rfl) (by decide) rfl (lt_ok rfl)) ?_
            refine .cons (fun E hA_ => OpStep.off (t := 60) rfl rfl (lt_ok rfl) ((hA_.get 60 (by decide)).trans rfl) (by decide) rfl (lt_ok rfl)) ?_
            refine .cons (fun E hA_ => OpStep.off (t := 60) rfl rfl (lt_ok rfl) ((hA_.get 60 (by decide)).trans rfl) (by decide) rfl (lt_ok rfl)) ?_
            refine .cons (fun E hA_ => OpStep.off (t := 60) rfl rfl (lt_ok rfl) ((hA_.get 60 (by decide)).trans rfl) (by decide) rfl (lt_ok rfl)) ?_
            refine .cons (fun E hA_ => OpStep.off (t := 60) rfl rfl (lt_ok rfl) ((hA_.get 60 (by decide)).trans rfl) (by decide) rfl (lt_ok rfl)) ?_
            refine .cons (fun E hA_ => OpStep.off (t := 60) rfl rfl (lt_ok rfl) ((hA_.get 60 (by decide)).trans rfl) (by decide) rfl (lt_ok rfl)) ?_
            refine .cons (fun E hA_ => OpStep.off (t := 60) rfl rfl (lt_ok rfl) ((hA_.get 60 (by decide)).trans rfl) (by decide) rfl (lt_ok rfl)) ?_
            refine .cons (fun E hA_ => OpStep.off (t := 60) rfl rfl (lt_ok rfl) ((hA_.get 60 (by decide)).trans rfl) (by decide) rfl (lt_ok rfl)) ?_
            refine .cons (fun E hA_ => OpStep.off (t := 60) rfl rfl (lt_ok rfl) ((hA_.get 60 (by decide)).trans rfl) (by decide) rfl (lt_ok rfl)) ?_
            refine .cons (fun E hA_ => by have g57 := hA_.get 57 (by decide); have g60 := hA_.get 60 (by decide); have g70 := hA_.get 70 (by decide); exact OpStep.yes (t := 57) rfl rfl (lt_ok rfl) (g57.trans rfl) (Step.pick (b := false) (p := (.one (.d (.bool false)))) (t := 71) rfl rfl (by exact lt_ok rfl) (show Env.ev E (.tmp 60) = _ from g60.trans rfl) rfl)) ?_
            refine .cons (fun E hA_ => by have g57 := hA_.get 57 (by decide); have g71 := hA_.get 71 (by decide); exact OpStep.plain rfl (Step.pick (b := false) (p := (.one (.d (.bool false)))) (t := 72) rfl rfl (by exact lt_ok rfl) (show Env.ev E (.tmp 57) = _ from g57.trans rfl) (show Env.ev E (.tmp 71) = _ from g71.trans rfl))) ?_
            exact .nil _ _
           refine TL.nil ?_
           refine T.cond (b := false) rfl (fun h17_ => absurd h17_ (by simp)) (fun h17_ => ?_)
           refine T.skip ?_
           refine T.region ?_
           refine TL.cons rfl (Step.bin (r := .int .i64 ((i : Int) + 1)) rfl rfl (lt_ok rfl) rfl rfl (Bin.add (a := (i : Int)) (b := 1) (by first | exact wrap_ok (by first | omega | (simp; omega)) (by first | omega | (simp; omega)) | rfl))) ?_
           refine TL.cons rfl (Step.move (p := (.one (.d (.int .i64 ((i : Int) + 1))))) rfl rfl (lt_ok rfl) rfl) ?_
           refine TL.nil ?_
           exact ⟨i + 1, by (refine ⟨by omega, ?_⟩; rw [tcAll_succ, hx2, tcEnt_yes (by (try simp only [hashes, List.all_cons, List.all_nil, Bool.and_true] at *); (try simp only [decide_eq_true_eq, decide_eq_false_iff_not, Bool.not_eq_true', Bool.not_eq_false'] at *); (try (have hw2_ := hw_ (by omega) (by omega))); omega)]; rfl), by first | omega | (dsimp only; omega), Env.le_mk ⟨rfl, rfl, rfl, rfl, by first | rfl | (simp; done) | (congr 3; omega), trivial⟩ trivial ⟨rfl, rfl, trivial⟩⟩
     ·
      replace h6 := of_decide_eq_false h6
      refine T.exit ?_
      refine T.seq ?_
      refine T.region ?_
      refine TL.cons rfl (Step.assign (p := (.one (.d (.bool true)))) rfl rfl (lt_ok rfl) rfl) ?_
      refine TL.nil ?_
      refine T.ret ?_
      exact ⟨[(false, [.d (.bool true)])], (.cons rfl .nil), rfl, [], (RetC.rd' (by (congr 1; symm; first | (rw [tcOk_no (i := i) (by omega) (tcEnt_no (by (try simp only [hashes, List.all_cons, List.all_nil, Bool.and_true] at *); (try simp only [decide_eq_true_eq, decide_eq_false_iff_not, Bool.not_eq_true', Bool.not_eq_false'] at *); (try (have hw2_ := hw_ (by omega) (by omega))); omega))]; done) | (unfold tcOk; rw [show tcAll l t t.f1.length = true from by rw [show t.f1.length = i from by omega]; exact hx2, decide_eq_true (p := (t.f1.length : Int) ≤ l.f0) (by omega), decide_eq_true (p := (0 ≤ t.f0 ∧ t.f0 ≤ 1152921504606846975)) (by omega)]; simp only [*, Bool.and_true, Bool.true_and, Bool.and_false, Bool.false_and, decide_true, decide_false, and_true, true_and, and_self, and_false, false_and, Bool.and_self, not_true, not_false, Bool.not_true, Bool.not_false, ge_iff_le, gt_iff_lt, if_true, if_false, Bool.false_eq_true, ite_true, ite_false, reduceIte]; done) | (unfold tcOk; rw [show tcAll l t t.f1.length = true from by rw [show t.f1.length = i from by omega]; exact hx2, decide_eq_true (p := (0 ≤ t.f0 ∧ t.f0 ≤ 1152921504606846975)) (by omega)]; simp only [*, Bool.and_true, Bool.true_and, Bool.and_false, Bool.false_and, decide_true, decide_false, and_true, true_and, and_self, and_false, false_and, Bool.and_self, not_true, not_false, Bool.not_true, Bool.not_false, ge_iff_le, gt_iff_lt, if_true, if_false, Bool.false_eq_true, ite_true, ite_false, reduceIte]; done) | (unfold tcOk; simp only [*, Bool.and_true, Bool.true_and, Bool.and_false, Bool.false_and, decide_true, decide_false, and_true, true_and, and_self, and_false, false_and, Bool.and_self, not_true, not_false, Bool.not_true, Bool.not_false, ge_iff_le, gt_iff_lt, if_true, if_false, Bool.false_eq_true, ite_true, ite_false, reduceIte]; done) | (unfold tcOk; rw [decide_eq_false (p := (t.f1.length : Int) ≤ l.f0) (by omega)]; simp; done))) .nil)⟩
theorem ok_spec_l01Copy (a : List Int) (h0_ : a.length ≤ 17592186044416) : RO Try.prog 79 [.one (.ints .u8 a)] [(false, [.own 5 (.ints .u8 a)])] := by
 refine RO.intro Try.func79 rfl 6 rfl (le_ok rfl) fun w Z => ?_
 refine T.bnd 0 0 rfl rfl fun hb_0_0 => ?_
 simp only [D.size, List.length_map] at hb_0_0
 refine T.seq ?_
 refine T.region ?_
 refine TL.cons rfl (Step.assign (p := (.one (.nil))) rfl rfl (lt_ok rfl) rfl) ?_
 refine TL.nil ?_
 refine T.seq ?_
 refine T.region ?_
 refine TL.cons rfl (Step.lit (e := 5) (z := 1) (by_ := 1) (xs := []) (pss := []) (es := []) (ss := []) (d := (.ints .u8 [])) rfl rfl (lt_ok rfl) (by kernel_rfl) rfl rfl .nil (by simp) (le_ok rfl) (le_ok rfl) rfl .nil rfl (by simp) (by simp) rfl trivial rfl rfl) ?_
 refine TL.cons rfl (Step.move (p := (.one (.d (.ints .u8 a)))) rfl rfl (lt_ok rfl) rfl) ?_
 refine TL.cons rfl (Step.append (e := 5) (z := 1) (by_ := 1) (d := (.ints .u8 [])) (dy := (.ints .u8 a)) (d' := (.ints .u8 ([] ++ a))) (ss := []) rfl rfl (lt_ok rfl) (by kernel_rfl) rfl rfl rfl (lt_ok rfl) rfl (.froz rfl (by simp [D.flat, D.val])) (by simp) rfl (by simp only [D.size, List.length_map]; first | omega | (simp; omega) | (simp only [List.length_append] at *; omega)) (by simp only [D.size, List.length_map]; first | omega | (simp; omega) | (simp only [List.length_append] at *; omega)) (by simp)) ?_
 refine TL.cons rfl (Step.assign (p := (.one (.row 3 []))) rfl rfl (lt_ok rfl) rfl) ?_
 refine TL.nil ?_
 refine T.ret ?_
 exact ⟨[(false, [.row 3 []])], (.cons rfl .nil), rfl, [3], (RetC.own' rfl (by rfl) rfl .nil)⟩
theorem ok_spec_PutVar (b : List Int) (n : Int) (h0_ : b.length ≤ 17592186044416) : RO Try.prog 159 [.one (.ints .u8 b), .one (.int .i64 n)] [(false, [.own 5 (.ints .u8 (putVar b n))]), (false, [.rd (.bool (decide (0 ≤ n ∧ n ≤ 1152921504606846975)))])] := by
 refine RO.intro Try.func159 rfl 28 rfl (le_ok rfl) fun w Z => ?_
 refine T.bnd 0 0 rfl rfl fun hb_0_0 => ?_
 simp only [D.size, List.length_map] at hb_0_0
 refine T.seq ?_
 refine T.region ?_
 refine TL.cons rfl (Step.assign (p := (.one (.nil))) rfl rfl (lt_ok rfl) rfl) ?_
 refine TL.cons rfl (Step.assign (p := (.one (.d (.bool false)))) rfl rfl (lt_ok rfl) rfl) ?_
 refine TL.nil ?_
 refine T.seq ?_
 refine T.seq ?_
 refine T.region ?_
 refine TL.cons rfl (Step.move (p := (.one (.d (.int .i64 n)))) rfl rfl (lt_ok rfl) rfl) ?_
 refine TL.cons rfl (Step.call (f := 137) (xs := [.tmp 7]) (ps := [(.one (.d (.int .i64 n)))]) false (g := .func 137) rfl rfl (lt_ok rfl) rfl (by kernel_rfl) rfl (.cons (.one (.d _)) .nil) (ok_spec_l01Num n) (.inr rfl) rfl (by simp) rfl) ?_
 refine TL.cons rfl (Step.not (b := (decide (0 ≤ n ∧ n ≤ 1152921504606846975))) rfl rfl (lt_ok rfl) rfl) ?_
 refine TL.nil ?_
 refine T.cond (b := !(decide (0 ≤ n ∧ n ≤ 1152921504606846975))) rfl (fun h1 => ?_) (fun h1 => ?_)
 ·
  replace h1 : (decide (0 ≤ n ∧ n ≤ 1152921504606846975)) = false := by simpa only [Bool.not_eq_true', Bool.not_eq_false'] using h1
  replace h1 := of_decide_eq_false h1
  refine T.seq ?_
  refine T.region ?_
  refine TL.cons rfl (Step.assign (p := (.one (.nil))) rfl rfl (lt_ok rfl) rfl) ?_
  refine TL.cons rfl (Step.assign (p := (.one (.d (.bool false)))) rfl rfl (lt_ok rfl) rfl) ?_
  refine TL.nil ?_
  refine T.ret ?_
  exact ⟨[(false, [.nil]), (false, [.d (.bool false)])], (.cons rfl (.cons rfl .nil)), rfl, [], (RetC.nilown' rfl (by first | rfl | (congr 1; unfold putVar; rw [if_pos (decide_eq_true (by assumption))]; rw [← hx3, varW_last (n := m) (by omega)]; done) | (show (putVar b n).length = 0; rw [putVar, if_neg (by rw [decide_eq_true_eq]; assumption)]; rfl) | (congr 1; symm; first | exact decide_eq_true ‹_› | exact decide_eq_false ‹_›)) (by first | exact trivial | exact D.wf_nil _) (RetC.rd' (by first | rfl | (congr 1; unfold putVar; rw [if_pos (decide_eq_true (by assumption))]; rw [← hx3, varW_last (n := m) (by omega)]; done) | (show (putVar b n).length = 0; rw [putVar, if_neg (by rw [decide_eq_true_eq]; assumption)]; rfl) | (congr 1; symm; first | exact decide_eq_true ‹_› | exact decide_eq_false ‹_›)) .nil))⟩
 ·
  replace h1 : (decide (0 ≤ n ∧ n ≤ 1152921504606846975)) = true := by simpa only [Bool.not_eq_true', Bool.not_eq_false'] using h1
  replace h1 := of_decide_eq_true h1
  refine T.skip ?_
  refine T.seq ?_
  refine T.region ?_
  refine TL.cons rfl (Step.move (p := (.one (.d (.ints .u8 b)))) rfl rfl (lt_ok rfl) rfl) ?_
  refine TL.cons rfl (Step.call (f := 79) (xs := [.tmp 10]) (ps := [(.one (.d (.ints .u8 b)))]) false (g := .func 79) rfl rfl (lt_ok rfl) rfl (by kernel_rfl) rfl (.cons (.one (.d _)) .nil) (ok_spec_l01Copy b (by first | omega | assumption)) (.inr rfl) rfl (by simp) rfl) ?_
  refine TL.cons rfl (Step.assign (p := (.one (.row 1011 []))) rfl rfl (lt_ok rfl) rfl) ?_
  refine TL.nil ?_
  refine T.seq ?_
  refine T.block ?_
  refine T.loop (ι := (List Int) × Int) (fun xx_ => { tm := [(4, (.one (.nil))), (5, (.one (.d (.bool false)))), (1, (.one (.d (.int .i64 (xx_.2))))), (6, (.one (.row 1011 [])))], rows := [(1011, (5, (.ints .u8 (xx_.1))))], boxes := [] }) (fun xx_ => 0 ≤ (xx_.2) ∧ (xx_.2) ≤ 1152921504606846975 ∧ (xx_.1) ++ varW (xx_.2) = b ++ varW n ∧ (xx_.1).length ≤ b.length + 9) (fun xx_ => (xx_.2).toNat) (b, n) ?_ ?_ ?_
  · exact Env.le_mk ⟨rfl, rfl, by first | rfl | (refine congrArg (fun x => some (_, D.ints .u8 x)) ?_; rfl), rfl, trivial⟩ ⟨by first | rfl | (refine congrArg (fun x => some (_, D.ints .u8 x)) ?_; rfl), trivial⟩ trivial
  · (dsimp only; refine ⟨by omega, by omega, rfl, by omega⟩)
  ·
   intro xx_ hx
   obtain ⟨o, m⟩ := xx_
   try dsimp only at hx ⊢
   obtain ⟨hx1, hx2, hx3, hx4⟩ := hx
   refine T.seq ?_
   refine T.seq ?_
   refine T.region ?_
   refine TL.cons rfl (Step.move (p := (.one (.d (.int .i64 m)))) rfl rfl (lt_ok rfl) rfl) ?_
   refine TL.cons rfl (Step.bin rfl rfl (lt_ok rfl) rfl rfl (Bin.gtr (k := .i64) (a := m) (b := 127))) ?_
   refine TL.nil ?_
   refine T.cond (b := decide (127 < m)) rfl (fun h2 => ?_) (fun h2 => ?_)
   ·
    replace h2 := of_decide_eq_true h2
    refine T.skip ?_
    refine T.block ?_
    refine T.seq ?_
    refine T.region ?_
    refine TL.cons rfl (Step.move (p := (.one (.row 1011 []))) rfl rfl (lt_ok rfl) rfl) ?_
    refine TL.cons rfl (Step.move (p := (.one (.d (.int .i64 m)))) rfl rfl (lt_ok rfl) rfl) ?_
    refine TL.cons rfl (Step.bin (r := .int .i64 (m % 128)) rfl rfl (lt_ok rfl) rfl rfl (Bin.rem (k := .i64) (a := m) (b := 128) (by decide) (Int.tmod_eq_emod_of_nonneg (by first | omega | (simp; omega))))) ?_
    refine TL.cons rfl (Step.bin (r := .int .i64 (128 + (m % 128))) rfl rfl (lt_ok rfl) rfl rfl (Bin.add (a := 128) (b := (m % 128)) (by first | exact wrap_ok (by first | omega | (simp; omega)) (by first | omega | (simp; omega)) | rfl))) ?_
    refine TL.cons rfl (Step.conv (c := (128 + (m % 128))) rfl rfl (lt_ok rfl) (by kernel_rfl) (by kernel_rfl) rfl (wrap_u8 (by first | omega | (simp; omega)) (by first | omega | (simp; omega)))) ?_
    refine TL.cons rfl (Step.lit (e := 5) (z := 1) (by_ := 1) (xs := [.tmp 18]) (pss := [[.d (.int .u8 (128 + (m % 128)))]]) (es := [(.int .u8 (128 + (m % 128)))]) (ss := []) (d := (.ints .u8 [128 + (m % 128)])) rfl rfl (lt_ok rfl) (by kernel_rfl) rfl rfl (.cons rfl .nil) (by simp) (le_ok rfl) (le_ok rfl) rfl (.val rfl .nil) rfl (by simp) (by simp) rfl trivial rfl rfl) ?_
    refine TL.cons rfl (Step.append (e := 5) (z := 1) (by_ := 1) (d := (.ints .u8 o)) (dy := (.ints .u8 [128 + (m % 128)])) (d' := (.ints .u8 (o ++ [128 + (m % 128)]))) (ss := []) rfl rfl (lt_ok rfl) (by kernel_rfl) rfl rfl rfl (lt_ok rfl) rfl (.copy rfl rfl rfl (by simp [D.flat, D.val])) (by simp) rfl (by simp only [D.size, List.length_map]; first | omega | (simp; omega) | (simp only [List.length_append] at *; omega)) (by simp only [D.size, List.length_map]; first | omega | (simp; omega) | (simp only [List.length_append] at *; omega)) (by simp)) ?_
    refine TL.cons rfl (Step.assign (p := (.one (.row 1011 []))) rfl rfl (lt_ok rfl) rfl) ?_
    refine TL.nil ?_
    refine T.region ?_
    refine TL.cons rfl (Step.move (p := (.one (.d (.int .i64 m)))) rfl rfl (lt_ok rfl) rfl) ?_
    refine TL.cons rfl (Step.bin (r := .int .i64 (m / 128)) rfl rfl (lt_ok rfl) rfl rfl (Bin.quo (k := .i64) (a := m) (b := 128) (by decide) (by rw [Int.tdiv_eq_ediv_of_nonneg (by first | omega | (simp; omega))]; exact wrap_ok (by first | omega | (simp; omega)) (by first | omega | (simp; omega))))) ?_
    refine TL.cons rfl (Step.assign (p := (.one (.d (.int .i64 (m / 128))))) rfl rfl (lt_ok rfl) rfl) ?_
    refine TL.nil ?_
    exact ⟨(o ++ [128 + (m % 128)], m / 128), by (refine ⟨by omega, by omega, by rw [← hx3, varW_next (n := m) (by omega)]; simp [Int.add_comm], ?_⟩; have e_ := congrArg List.length hx3; rw [varW_next (n := m) (by omega)] at e_; have := varW_len9 (n := n) (by omega); simp only [List.length_append, List.length_cons, List.length_nil] at e_ ⊢; omega), by (dsimp only; omega), Env.le_mk ⟨rfl, rfl, by first | rfl | (refine congrArg (fun x => some (_, D.ints .u8 x)) ?_; rfl), rfl, trivial⟩ ⟨by first | rfl | (refine congrArg (fun x => some (_, D.ints .u8 x)) ?_; rfl), trivial⟩ trivial⟩
   ·
    replace h2 := of_decide_eq_false h2
    refine T.exit ?_
    refine T.seq ?_
    refine T.region ?_
    refine TL.cons rfl (Step.move (p := (.one (.row 1011 []))) rfl rfl (lt_ok rfl) rfl) ?_
    refine TL.cons rfl (Step.move (p := (.one (.d (.int .i64 m)))) rfl rfl (lt_ok rfl) rfl) ?_
    refine TL.cons rfl (Step.conv (c := m) rfl rfl (lt_ok rfl) (by kernel_rfl) (by kernel_rfl) rfl (wrap_u8 (by first | omega | (simp; omega)) (by first | omega | (simp; omega)))) ?_
    refine TL.cons rfl (Step.lit (e := 5) (z := 1) (by_ := 1) (xs := [.tmp 25]) (pss := [[.d (.int .u8 m)]]) (es := [(.int .u8 m)]) (ss := []) (d := (.ints .u8 [m])) rfl rfl (lt_ok rfl) (by kernel_rfl) rfl rfl (.cons rfl .nil) (by simp) (le_ok rfl) (le_ok rfl) rfl (.val rfl .nil) rfl (by simp) (by simp) rfl trivial rfl rfl) ?_
    refine TL.cons rfl (Step.append (e := 5) (z := 1) (by_ := 1) (d := (.ints .u8 o)) (dy := (.ints .u8 [m])) (d' := (.ints .u8 (o ++ [m]))) (ss := []) rfl rfl (lt_ok rfl) (by kernel_rfl) rfl rfl rfl (lt_ok rfl) rfl (.copy rfl rfl rfl (by simp [D.flat, D.val])) (by simp) rfl (by simp only [D.size, List.length_map]; first | omega | (simp; omega) | (simp only [List.length_append] at *; omega)) (by simp only [D.size, List.length_map]; first | omega | (simp; omega) | (simp only [List.length_append] at *; omega)) (by simp)) ?_
    refine TL.cons rfl (Step.assign (p := (.one (.row 1011 []))) rfl rfl (lt_ok rfl) rfl) ?_
    refine TL.cons rfl (Step.assign (p := (.one (.d (.bool true)))) rfl rfl (lt_ok rfl) rfl) ?_
    refine TL.nil ?_
    refine T.ret ?_
    exact ⟨[(false, [.row 1011 []]), (false, [.d (.bool true)])], (.cons rfl (.cons rfl .nil)), rfl, [1011], (RetC.own' rfl (by first | rfl | (congr 1; unfold putVar; rw [if_pos (decide_eq_true (by assumption))]; rw [← hx3, varW_last (n := m) (by omega)]; done) | (show (putVar b n).length = 0; rw [putVar, if_neg (by rw [decide_eq_true_eq]; assumption)]; rfl) | (congr 1; symm; first | exact decide_eq_true ‹_› | exact decide_eq_false ‹_›)) rfl (RetC.rd' (by first | rfl | (congr 1; unfold putVar; rw [if_pos (decide_eq_true (by assumption))]; rw [← hx3, varW_last (n := m) (by omega)]; done) | (show (putVar b n).length = 0; rw [putVar, if_neg (by rw [decide_eq_true_eq]; assumption)]; rfl) | (congr 1; symm; first | exact decide_eq_true ‹_› | exact decide_eq_false ‹_›)) .nil))⟩
theorem ok_spec_l11Num (b : List Int) (n : Int) (h0_ : b.length ≤ 17592186044416) : RO Try.prog 108 [.one (.ints .u8 b), .one (.int .i64 n)] [(false, [.own 5 (.ints .u8 (putVar b n))])] := by
 refine RO.intro Try.func108 rfl 14 rfl (le_ok rfl) fun w Z => ?_
 refine T.bnd 0 0 rfl rfl fun hb_0_0 => ?_
 simp only [D.size, List.length_map] at hb_0_0
 refine T.seq ?_
 refine T.region ?_
 refine TL.cons rfl (Step.assign (p := (.one (.nil))) rfl rfl (lt_ok rfl) rfl) ?_
 refine TL.nil ?_
 refine T.seq ?_
 refine T.region ?_
 refine TL.cons rfl (Step.move (p := (.one (.d (.ints .u8 b)))) rfl rfl (lt_ok rfl) rfl) ?_
 refine TL.cons rfl (Step.move (p := (.one (.d (.int .i64 n)))) rfl rfl (lt_ok rfl) rfl) ?_
 have nn1 := putVar_len b n
 refine TL.cons rfl (Step.call (f := 159) (xs := [.tmp 8, .tmp 9]) (ps := [(.one (.d (.ints .u8 b))), (.one (.d (.int .i64 n)))]) false (g := .func 159) rfl rfl (lt_ok rfl) rfl (by kernel_rfl) rfl (.cons (.one (.d _)) (.cons (.one (.d _)) .nil)) (ok_spec_PutVar b n (by first | omega | assumption | (simp only [List.length_append] at *; omega))) (.inr rfl) rfl (by simp) rfl) ?_
 refine TL.cons rfl (Step.move (p := (.tup [(false, [.row 1010 []]), (false, [.d (.bool (decide (0 ≤ n ∧ n ≤ 1152921504606846975)))])])) rfl rfl (lt_ok rfl) rfl) ?_
 refine TL.cons rfl (Step.extract (p := (.one (.row 1010 []))) rfl rfl (lt_ok rfl) rfl rfl) ?_
 refine TL.cons rfl (Step.extract (p := (.one (.d (.bool (decide (0 ≤ n ∧ n ≤ 1152921504606846975)))))) rfl rfl (lt_ok rfl) rfl rfl) ?_
 refine TL.cons rfl (Step.assign (p := (.one (.row 1010 []))) rfl rfl (lt_ok rfl) rfl) ?_
 refine TL.cons rfl (Step.assign (p := (.one (.d (.bool (decide (0 ≤ n ∧ n ≤ 1152921504606846975)))))) rfl rfl (lt_ok rfl) rfl) ?_
 refine TL.nil ?_
 refine T.seq ?_
 refine T.region ?_
 refine TL.cons rfl (Step.move (p := (.one (.row 1010 []))) rfl rfl (lt_ok rfl) rfl) ?_
 refine TL.cons rfl (Step.assign (p := (.one (.row 1010 []))) rfl rfl (lt_ok rfl) rfl) ?_
 refine TL.nil ?_
 refine T.ret ?_
 exact ⟨[(false, [.row 1010 []])], (.cons rfl .nil), rfl, [1010], (RetC.own' rfl (by rfl) rfl .nil)⟩
end Go.Proofs.Ythaagegnobegjaa.Rf
