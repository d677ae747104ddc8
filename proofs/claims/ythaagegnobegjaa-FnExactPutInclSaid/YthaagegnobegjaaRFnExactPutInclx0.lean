/- The functions that FnExactPutIncl calls, each held to what it answers. Printed by a program of this session; Lean checks it. -/
import Derived.Test.YthaagegnobegjaaProg
import Derived.Test.YthaagegnobegjaaRf24
namespace Go.Proofs.Ythaagegnobegjaa.Rf
open Go.RowKit
set_option linter.unusedVariables false
set_option linter.unnecessarySimpa false
set_option linter.unusedSimpArgs false
set_option maxRecDepth 100000
set_option maxHeartbeats 4000000
@[ext] structure SLimits where
  f0 : Int
  f1 : Int
  f2 : Int
  f3 : Int
  f4 : Int
  deriving Inhabited, DecidableEq
def SLimits.cells (x : SLimits) : List D := [(.int .i64 x.f0), (.int .i64 x.f1), (.int .i64 x.f2), (.int .i64 x.f3), (.int .i64 x.f4)]
theorem SLimits.len (x : SLimits) : x.cells.length = 5 := rfl
def SLimits.sz (x : SLimits) (l : Int) : Int := l
def SLimits.sm (x : SLimits) : Prop := True
def SLimits.ok (x : SLimits) : Prop := (I64 x.f0) ∧ (I64 x.f1) ∧ (I64 x.f2) ∧ (I64 x.f3) ∧ (I64 x.f4)
theorem SLimits.sz_le (x : SLimits) {l : Int} (h : 0 ≤ l) : x.sz l ≤ l := by
  unfold SLimits.sz
  exact Int.le_refl _
theorem SLimits.sz_sm (x : SLimits) {l : Int} (h0 : 0 ≤ l) (hl : l ≤ 1048576) (h : 0 ≤ x.sz l) : x.sm := by
  unfold SLimits.sz at h
  exact trivial
def SLimits.cm (x : SLimits) : Int := 0
def SLimits.hm (a b : SLimits) (k : Int) : Prop := True
theorem SLimits.cm_nn (x : SLimits) : 0 ≤ x.cm := by
  unfold SLimits.cm
  omega
theorem SLimits.cm_le {x : SLimits} (h : x.sm) : x.cm ≤ 0 := by
  unfold SLimits.cm
  omega
def SLimits.ce (x : SLimits) : Int := 1 + 1 + 1 + 1 + 1
def SLimits.me (x : SLimits) (k : Int) : SLimits := ⟨k, k + 1, (k + 1) + 1, ((k + 1) + 1) + 1, (((k + 1) + 1) + 1) + 1⟩
theorem SLimits.ce_nn (x : SLimits) : 0 ≤ x.ce := by
  unfold SLimits.ce
  omega
theorem SLimits.ce_le {x : SLimits} (h : x.sm) : x.ce ≤ 5 := by
  unfold SLimits.ce
  omega
theorem SLimits.cL_le {xs : List SLimits} (h : xs.length ≤ 1048576 ∧ ∀ y ∈ xs, SLimits.sm y) : cntL SLimits.ce xs ≤ 5242880 := by
  have h1 := cntL_le (cnt := SLimits.ce) (n := 5) xs fun x hx => SLimits.ce_le (h.2 x hx)
  have h2 := h.1
  omega
@[ext] structure SIncl where
  f0 : Int
  f1 : Int
  f2 : Int
  f3 : List Int
  f4 : List (List Int)
  deriving Inhabited, DecidableEq
def SIncl.cells (x : SIncl) : List D := [(.int .i64 x.f0), (.int .i64 x.f1), (.int .i64 x.f2), (.ints .u8 x.f3), (.bss x.f4)]
theorem SIncl.len (x : SIncl) : x.cells.length = 5 := rfl
def SIncl.sz (x : SIncl) (l : Int) : Int := szThen (szB x.f3 l) fun l0 => szThen (szLs szB x.f4 l0) fun l1 => l1
def SIncl.sm (x : SIncl) : Prop := (x.f3.length ≤ 1048576) ∧ (x.f4.length ≤ 1048576 ∧ ∀ y ∈ x.f4, y.length ≤ 1048576)
def SIncl.ok (x : SIncl) : Prop := (I64 x.f0) ∧ (I64 x.f1) ∧ (I64 x.f2) ∧ (U8s x.f3) ∧ (∀ y ∈ x.f4, U8s y)
theorem SIncl.sz_le (x : SIncl) {l : Int} (h : 0 ≤ l) : x.sz l ≤ l := by
  unfold SIncl.sz
  exact szThen_le' (szB_le _ h) h fun l0 h0 => szThen_le' (szLs_le (fun x l h => szB_le x h) _ h0) h0 fun l1 h1 => Int.le_refl _
theorem SIncl.sz_sm (x : SIncl) {l : Int} (h0 : 0 ≤ l) (hl : l ≤ 1048576) (h : 0 ≤ x.sz l) : x.sm := by
  unfold SIncl.sz at h
  have ⟨p0, h⟩ := szThen_nn h
  have e0 : (szB x.f3 l) ≤ l := szB_le _ h0
  have s0 := szB_sm p0 hl
  have c0 := Int.le_trans e0 hl
  have ⟨p1, h⟩ := szThen_nn h
  have e1 : (szLs szB x.f4 (szB x.f3 l)) ≤ (szB x.f3 l) := szLs_le (fun x l h => szB_le x h) _ p0
  have s1 := szLs_sm (p := fun y => y.length ≤ 1048576) (fun x l h => szB_le x h) (fun x l h h0 hl => szB_sm h hl) p1 c0
  have c1 := Int.le_trans e1 c0
  exact ⟨s0, s1⟩
def SIncl.cm (x : SIncl) : Int := (x.f3.length : Int) + cntL (fun x : List Int => (x.length : Int)) x.f4
def SIncl.hm (a b : SIncl) (k : Int) : Prop := (b.f3 = mkB a.f3 k) ∧ (b.f4 = mkBs a.f4 (k + (a.f3.length : Int)))
theorem SIncl.cm_nn (x : SIncl) : 0 ≤ x.cm := by
  unfold SIncl.cm
  have n4 := cntBs_nonneg x.f4
  omega
theorem SIncl.cm_le {x : SIncl} (h : x.sm) : x.cm ≤ 1099512676352 := by
  unfold SIncl.cm
  obtain ⟨p3, p4⟩ := h
  have e3 := p3
  have e4 := cntBs_le p4
  omega
theorem SIncl.sm_df : (default : SIncl).sm := by (repeat' (first | exact Nat.zero_le _ | (intro y hy; exact absurd hy (List.not_mem_nil)) | apply And.intro))
def SIncl.ce (x : SIncl) : Int := 1 + 1 + 1 + (x.f3.length : Int) + cntL (fun x : List Int => (x.length : Int)) x.f4
def SIncl.me (x : SIncl) (k : Int) : SIncl := ⟨k, k + 1, (k + 1) + 1, mkB x.f3 (((k + 1) + 1) + 1), mkBs x.f4 ((((k + 1) + 1) + 1) + (x.f3.length : Int))⟩
theorem SIncl.ce_nn (x : SIncl) : 0 ≤ x.ce := by
  unfold SIncl.ce
  have n4 := cntBs_nonneg x.f4
  omega
theorem SIncl.ce_le {x : SIncl} (h : x.sm) : x.ce ≤ 1099512676355 := by
  unfold SIncl.ce
  obtain ⟨p3, p4⟩ := h
  have e3 := p3
  have e4 := cntBs_le p4
  omega
theorem SIncl.cL_le {xs : List SIncl} (h : xs.length ≤ 1048576 ∧ ∀ y ∈ xs, SIncl.sm y) : cntL SIncl.ce xs ≤ 1152922604121620480 := by
  have h1 := cntL_le (cnt := SIncl.ce) (n := 1099512676355) xs fun x hx => SIncl.ce_le (h.2 x hx)
  have h2 := h.1
  omega
def varW (n : Int) : List Int := if h : n < 128 then [n] else (n % 128 + 128) :: varW (n / 128)
termination_by n.toNat
decreasing_by omega
theorem varW_last {n : Int} (h : n < 128) : varW n = [n] := by rw [varW, dif_pos h]
theorem varW_next {n : Int} (h : ¬ n < 128) : varW n = (n % 128 + 128) :: varW (n / 128) := by rw [varW, dif_neg h]
theorem varW_len : ∀ (k : Nat) (n : Int), n < 128 ^ (k + 1) → (varW n).length ≤ k + 1
  | 0, n, h => by rw [varW_last (by simpa using h)]; simp
  | k + 1, n, h => by
    by_cases h0 : n < 128
    · rw [varW_last h0]; simp
    · rw [varW_next h0, List.length_cons]
      have := varW_len k (n / 128) (by rw [Int.pow_succ] at h; omega)
      omega
theorem varW_len9 {n : Int} (h : n ≤ 1152921504606846975) : (varW n).length ≤ 9 := by
  have e : (128 : Int) ^ (8 + 1) = 9223372036854775808 := by decide
  exact varW_len 8 n (by rw [e]; omega)
def putVar (b : List Int) (n : Int) : List Int := if decide (0 ≤ n ∧ n ≤ 1152921504606846975) = true then b ++ varW n else []
theorem putVar_len (b : List Int) (n : Int) : (putVar b n).length ≤ b.length + 9 := by
  unfold putVar
  split
  · rename_i h
    have := varW_len9 (of_decide_eq_true h).2
    rw [List.length_append]; omega
  · simp
def limOk (l : SLimits) : Bool := decide (1 ≤ l.f0 ∧ l.f0 ≤ 10) && decide (0 ≤ l.f1 ∧ l.f1 ≤ 40) && decide (0 ≤ l.f2 ∧ l.f2 ≤ 8) && decide (1 ≤ l.f3 ∧ l.f3 ≤ 4000) && decide (3 ≤ l.f4 ∧ l.f4 ≤ 5)
theorem limOk_n {l : SLimits} (h : limOk l = true) : 1 ≤ l.f0 ∧ l.f0 ≤ 10 := by simp [limOk] at h; omega
def hashes (l : List (List Int)) : Bool := l.all fun x => decide ((x.length : Int) = 32)
theorem hashes_step {l : List (List Int)} {i : Nat} (hi : i < l.length) (h : hashes (l.take i) = true) (hx : ((l.getD i []).length : Int) = 32) : hashes (l.take (i + 1)) = true := by
  rw [take_succ' (df := []) hi]; simp only [hashes, List.all_append, List.all_cons, List.all_nil, Bool.and_true, Bool.and_eq_true] at h ⊢; exact ⟨h, decide_eq_true hx⟩
theorem hashes_no {l : List (List Int)} {i : Nat} (hi : i < l.length) (hx : ¬ ((l.getD i []).length : Int) = 32) : hashes l = false := by
  cases h : hashes l with
  | false => rfl
  | true =>
    rw [hashes, List.all_eq_true] at h
    have := h (l.getD i []) (by rw [List.getD_eq_getElem?_getD, List.getElem?_eq_getElem hi]; exact List.getElem_mem hi)
    exact absurd (of_decide_eq_true this) hx
def splitAtT (n : Int) : Int := if n < 2 then 0 else splitAt n
theorem splitAtT_bd (n : Int) : (n < 2 → splitAtT n = 0) ∧ (2 ≤ n → 1 ≤ splitAtT n ∧ splitAtT n < n) := by
  unfold splitAtT
  refine ⟨fun h => by rw [if_pos h], fun h => ?_⟩
  rw [if_neg (by omega)]
  exact splitAt_bd n h
def pathLenT (i n : Int) : Int := if 1 ≤ n ∧ n ≤ 1048576 ∧ 0 ≤ i ∧ i ≤ n - 1 then pathLen n.toNat i n else 0
theorem pathLen_fuel : ∀ (d e : Nat) (i n : Int), n ≤ d → n ≤ e → 1 ≤ n → pathLen d i n = pathLen e i n
  | 0, _, i, n, h, _, h1 => by omega
  | _, 0, i, n, _, h, h1 => by omega
  | d + 1, e + 1, i, n, h, h', h1 => by
    unfold pathLen
    by_cases h2 : n < 2
    · rw [if_pos h2, if_pos h2]
    · have := splitAt_bd n (by omega)
      rw [if_neg h2, if_neg h2]
      split
      · rw [pathLen_fuel d e _ _ (by omega) (by omega) (by omega)]
      · rw [pathLen_fuel d e _ _ (by omega) (by omega) (by omega)]
theorem pathLenT_bd (i n : Int) : 0 ≤ pathLenT i n ∧ pathLenT i n ≤ 1048576 := by
  unfold pathLenT
  split
  · have := pathLen_bd n.toNat i n; omega
  · omega
theorem pathLenT_no {i n : Int} (h : ¬ (1 ≤ n ∧ n ≤ 1048576 ∧ 0 ≤ i ∧ i ≤ n - 1)) : pathLenT i n = 0 := by unfold pathLenT; rw [if_neg h]
theorem pathLenT_one {i n : Int} (h : n < 2) : pathLenT i n = 0 := by
  unfold pathLenT
  split
  · rw [show n = 1 from by omega]; rfl
  · rfl
theorem pathLenT_left {i n : Int} (h : 1 ≤ n ∧ n ≤ 1048576 ∧ 0 ≤ i ∧ i ≤ n - 1) (h2 : 2 ≤ n) (hi : i < splitAtT n) : pathLenT i n = 1 + pathLenT i (splitAtT n) := by
  have hb := splitAt_bd n h2
  have e : splitAtT n = splitAt n := by unfold splitAtT; rw [if_neg (by omega)]
  rw [e] at hi ⊢
  unfold pathLenT
  rw [if_pos h, if_pos (by omega)]
  obtain ⟨d, hd⟩ : ∃ d, n.toNat = d + 1 := ⟨n.toNat - 1, by omega⟩
  rw [hd]
  conv => lhs; unfold pathLen
  rw [if_neg (by omega), if_pos hi, pathLen_fuel d (splitAt n).toNat _ _ (by omega) (by omega) (by omega)]
theorem pathLenT_right {i n : Int} (h : 1 ≤ n ∧ n ≤ 1048576 ∧ 0 ≤ i ∧ i ≤ n - 1) (h2 : 2 ≤ n) (hi : ¬ i < splitAtT n) : pathLenT i n = 1 + pathLenT (i - splitAtT n) (n - splitAtT n) := by
  have hb := splitAt_bd n h2
  have e : splitAtT n = splitAt n := by unfold splitAtT; rw [if_neg (by omega)]
  rw [e] at hi ⊢
  unfold pathLenT
  rw [if_pos h, if_pos (by omega)]
  obtain ⟨d, hd⟩ : ∃ d, n.toNat = d + 1 := ⟨n.toNat - 1, by omega⟩
  rw [hd]
  conv => lhs; unfold pathLen
  rw [if_neg (by omega), if_neg hi, pathLen_fuel d (n - splitAt n).toNat _ _ (by omega) (by omega) (by omega)]
theorem foldl_take_succ {α β : Type} (g : β → α → β) (b : β) (xs : List α) (i : Nat) (df : α) (h : i < xs.length) : (xs.take (i + 1)).foldl g b = g ((xs.take i).foldl g b) (xs.getD i df) := by
  rw [take_succ' (df := df) h, List.foldl_append]; rfl
theorem foldl_len {α : Type} (g : List Int → α → List Int) (c : Nat) (p : α → Prop) (hg : ∀ b x, p x → (g b x).length ≤ b.length + c) : ∀ (xs : List α) (b : List Int), (∀ x ∈ xs, p x) → (xs.foldl g b).length ≤ b.length + xs.length * c
  | [], b, _ => by simp
  | x :: xs, b, h => by
    have h1 := foldl_len g c p hg xs (g b x) fun y hy => h y (by simp [hy])
    have h2 := hg b x (h x (by simp))
    simp only [List.foldl_cons, List.length_cons, Nat.add_mul]
    omega
theorem foldl_take_len {α : Type} (g : List Int → α → List Int) (c : Nat) (p : α → Prop) (hg : ∀ b x, p x → (g b x).length ≤ b.length + c) (xs : List α) (b : List Int) (h : ∀ x ∈ xs, p x) (i : Nat) (n : Nat) (hn : xs.length ≤ n) : ((xs.take i).foldl g b).length ≤ b.length + n * c := by
  have h1 := foldl_len g c p hg (xs.take i) b fun x hx => h x (List.mem_of_mem_take hx)
  have h2 : (xs.take i).length * c ≤ n * c := Nat.mul_le_mul_right _ (by simp; omega)
  omega
theorem foldl_all {α β : Type} (g : β → α → β) (b : β) (xs : List α) (i : Nat) (h : xs.length ≤ i) : (xs.take i).foldl g b = xs.foldl g b := by rw [List.take_of_length_le h]
def rawsB (b : List Int) (l : List (List Int)) : List Int := l.foldl (fun b x => b ++ x) b
theorem raws_len {b : List Int} {l : List (List Int)} {n : Nat} (hn : l.length ≤ n) (h : ∀ x ∈ l, x.length ≤ 1048576) (i : Nat) : ((l.take i).foldl (fun b x => b ++ x) b).length ≤ b.length + n * 1048576 :=
  foldl_take_len _ 1048576 (fun x => x.length ≤ 1048576) (fun b x hx => by simp only [List.length_append]; omega) l b h i n hn
def inclOk (l : SLimits) (x : SIncl) : Bool := limOk l && decide (0 ≤ x.f0 ∧ x.f0 ≤ 1152921504606846975) && decide (1 ≤ x.f1 ∧ x.f1 ≤ l.f2) && decide (0 ≤ x.f2 ∧ x.f2 ≤ IntKind.i64.wrap (x.f1 - 1)) && decide ((x.f3.length : Int) ≤ l.f1) && decide ((x.f4.length : Int) = pathLenT x.f2 x.f1) && hashes x.f4
def putInclB (b : List Int) (x : SIncl) : List Int := rawsB (putVar (putVar (putVar (putVar b x.f0) x.f1) x.f2) (x.f3.length : Int) ++ x.f3) x.f4
def putIncl (l : SLimits) (b : List Int) (x : SIncl) : List Int := if inclOk l x = true then putInclB b x else []
theorem putIncl_len {l : SLimits} {b : List Int} {x : SIncl} (h : x.sm) : (putIncl l b x).length ≤ b.length + 1099512676388 := by
  obtain ⟨s0, s1⟩ := h
  unfold putIncl
  split
  · have h1 := putVar_len b x.f0
    have h2 := putVar_len (putVar b x.f0) x.f1
    have h3 := putVar_len (putVar (putVar b x.f0) x.f1) x.f2
    have h4 := putVar_len (putVar (putVar (putVar b x.f0) x.f1) x.f2) (x.f3.length : Int)
    have h5 := raws_len (b := putVar (putVar (putVar (putVar b x.f0) x.f1) x.f2) (x.f3.length : Int) ++ x.f3) s1.1 s1.2 x.f4.length
    rw [List.take_length] at h5
    simp only [List.length_append] at h5
    unfold putInclB rawsB
    omega
  · simp

theorem ok_laws_toLimits (a : SLimits) : RO Try.prog 26 [.agg a.cells] [(true, [.rd (.int .i64 a.f0), .rd (.int .i64 a.f1), .rd (.int .i64 a.f2), .rd (.int .i64 a.f3), .rd (.int .i64 a.f4)])] := by
 refine RO.intro Try.func26 rfl 20 rfl (le_ok rfl) fun w Z => ?_
 refine T.seq ?_
 refine T.region ?_
 refine TL.cons rfl (Step.box (p := (.agg [.d (.int .i64 a.f0), .d (.int .i64 a.f1), .d (.int .i64 a.f2), .d (.int .i64 a.f3), .d (.int .i64 a.f4)])) (ps := [.d (.int .i64 a.f0), .d (.int .i64 a.f1), .d (.int .i64 a.f2), .d (.int .i64 a.f3), .d (.int .i64 a.f4)]) rfl rfl (lt_ok rfl) rfl rfl rfl rfl rfl) ?_
 refine TL.cons rfl (Step.alloc (cs := [.int .i64 0, .int .i64 0, .int .i64 0, .int .i64 0, .int .i64 0]) (ps := [.d (.int .i64 0), .d (.int .i64 0), .d (.int .i64 0), .d (.int .i64 0), .d (.int .i64 0)]) rfl rfl (lt_ok rfl) (by kernel_rfl) rfl rfl rfl rfl) ?_
 refine TL.nil ?_
 refine T.seq ?_
 refine T.region ?_
 refine TL.cons rfl (Step.alloc (cs := [.int .i64 0, .int .i64 0, .int .i64 0, .int .i64 0, .int .i64 0]) (ps := [.d (.int .i64 0), .d (.int .i64 0), .d (.int .i64 0), .d (.int .i64 0), .d (.int .i64 0)]) rfl rfl (lt_ok rfl) (by kernel_rfl) rfl rfl rfl rfl) ?_
 refine TL.nil ?_
 refine T.seq ?_
 refine T.region ?_
 refine TL.cons rfl (Step.fieldAddr (q := 0) (off := 0) (n := 1) (one := true) rfl rfl (lt_ok rfl) (by kernel_rfl) (Nat.succ_ne_zero _) rfl) ?_
 refine TL.cons rfl (Step.load_box (c := .d (.int .i64 a.f0)) rfl rfl (lt_ok rfl) (by kernel_rfl) rfl rfl rfl) ?_
 refine TL.cons rfl (Step.fieldAddr (q := 0) (off := 0) (n := 1) (one := true) rfl rfl (lt_ok rfl) (by kernel_rfl) (Nat.succ_ne_zero _) rfl) ?_
 refine TL.cons rfl (Step.store_box (n := 1) (p := (.one (.d (.int .i64 a.f0)))) (qs := [.d (.int .i64 a.f0)]) (ps' := [.d (.int .i64 a.f0), .d (.int .i64 0), .d (.int .i64 0), .d (.int .i64 0), .d (.int .i64 0)]) rfl rfl (by kernel_rfl) rfl rfl rfl rfl rfl rfl (le_ok rfl) rfl) ?_
 refine TL.nil ?_
 refine T.seq ?_
 refine T.region ?_
 refine TL.cons rfl (Step.fieldAddr (q := 0) (off := 1) (n := 1) (one := true) rfl rfl (lt_ok rfl) (by kernel_rfl) (Nat.succ_ne_zero _) rfl) ?_
 refine TL.cons rfl (Step.load_box (c := .d (.int .i64 a.f1)) rfl rfl (lt_ok rfl) (by kernel_rfl) rfl rfl rfl) ?_
 refine TL.cons rfl (Step.fieldAddr (q := 0) (off := 1) (n := 1) (one := true) rfl rfl (lt_ok rfl) (by kernel_rfl) (Nat.succ_ne_zero _) rfl) ?_
 refine TL.cons rfl (Step.store_box (n := 1) (p := (.one (.d (.int .i64 a.f1)))) (qs := [.d (.int .i64 a.f1)]) (ps' := [.d (.int .i64 a.f0), .d (.int .i64 a.f1), .d (.int .i64 0), .d (.int .i64 0), .d (.int .i64 0)]) rfl rfl (by kernel_rfl) rfl rfl rfl rfl rfl rfl (le_ok rfl) rfl) ?_
 refine TL.nil ?_
 refine T.seq ?_
 refine T.region ?_
 refine TL.cons rfl (Step.fieldAddr (q := 0) (off := 2) (n := 1) (one := true) rfl rfl (lt_ok rfl) (by kernel_rfl) (Nat.succ_ne_zero _) rfl) ?_
 refine TL.cons rfl (Step.load_box (c := .d (.int .i64 a.f2)) rfl rfl (lt_ok rfl) (by kernel_rfl) rfl rfl rfl) ?_
 refine TL.cons rfl (Step.fieldAddr (q := 0) (off := 2) (n := 1) (one := true) rfl rfl (lt_ok rfl) (by kernel_rfl) (Nat.succ_ne_zero _) rfl) ?_
 refine TL.cons rfl (Step.store_box (n := 1) (p := (.one (.d (.int .i64 a.f2)))) (qs := [.d (.int .i64 a.f2)]) (ps' := [.d (.int .i64 a.f0), .d (.int .i64 a.f1), .d (.int .i64 a.f2), .d (.int .i64 0), .d (.int .i64 0)]) rfl rfl (by kernel_rfl) rfl rfl rfl rfl rfl rfl (le_ok rfl) rfl) ?_
 refine TL.nil ?_
 refine T.seq ?_
 refine T.region ?_
 refine TL.cons rfl (Step.fieldAddr (q := 0) (off := 3) (n := 1) (one := true) rfl rfl (lt_ok rfl) (by kernel_rfl) (Nat.succ_ne_zero _) rfl) ?_
 refine TL.cons rfl (Step.load_box (c := .d (.int .i64 a.f3)) rfl rfl (lt_ok rfl) (by kernel_rfl) rfl rfl rfl) ?_
 refine TL.cons rfl (Step.fieldAddr (q := 0) (off := 3) (n := 1) (one := true) rfl rfl (lt_ok rfl) (by kernel_rfl) (Nat.succ_ne_zero _) rfl) ?_
 refine TL.cons rfl (Step.store_box (n := 1) (p := (.one (.d (.int .i64 a.f3)))) (qs := [.d (.int .i64 a.f3)]) (ps' := [.d (.int .i64 a.f0), .d (.int .i64 a.f1), .d (.int .i64 a.f2), .d (.int .i64 a.f3), .d (.int .i64 0)]) rfl rfl (by kernel_rfl) rfl rfl rfl rfl rfl rfl (le_ok rfl) rfl) ?_
 refine TL.nil ?_
 refine T.seq ?_
 refine T.region ?_
 refine TL.cons rfl (Step.fieldAddr (q := 0) (off := 4) (n := 1) (one := true) rfl rfl (lt_ok rfl) (by kernel_rfl) (Nat.succ_ne_zero _) rfl) ?_
 refine TL.cons rfl (Step.load_box (c := .d (.int .i64 a.f4)) rfl rfl (lt_ok rfl) (by kernel_rfl) rfl rfl rfl) ?_
 refine TL.cons rfl (Step.fieldAddr (q := 0) (off := 4) (n := 1) (one := true) rfl rfl (lt_ok rfl) (by kernel_rfl) (Nat.succ_ne_zero _) rfl) ?_
 refine TL.cons rfl (Step.store_box (n := 1) (p := (.one (.d (.int .i64 a.f4)))) (qs := [.d (.int .i64 a.f4)]) (ps' := [.d (.int .i64 a.f0), .d (.int .i64 a.f1), .d (.int .i64 a.f2), .d (.int .i64 a.f3), .d (.int .i64 a.f4)]) rfl rfl (by kernel_rfl) rfl rfl rfl rfl rfl rfl (le_ok rfl) rfl) ?_
 refine TL.nil ?_
 refine T.seq ?_
 refine T.region ?_
 refine TL.cons rfl (Step.load_box_agg (n := 5) (qs := [.d (.int .i64 a.f0), .d (.int .i64 a.f1), .d (.int .i64 a.f2), .d (.int .i64 a.f3), .d (.int .i64 a.f4)]) rfl rfl (lt_ok rfl) (by kernel_rfl) rfl rfl rfl rfl) ?_
 refine TL.cons rfl (Step.store_box (n := 5) (p := (.agg [.d (.int .i64 a.f0), .d (.int .i64 a.f1), .d (.int .i64 a.f2), .d (.int .i64 a.f3), .d (.int .i64 a.f4)])) (qs := [.d (.int .i64 a.f0), .d (.int .i64 a.f1), .d (.int .i64 a.f2), .d (.int .i64 a.f3), .d (.int .i64 a.f4)]) (ps' := [.d (.int .i64 a.f0), .d (.int .i64 a.f1), .d (.int .i64 a.f2), .d (.int .i64 a.f3), .d (.int .i64 a.f4)]) rfl rfl (by kernel_rfl) rfl rfl rfl rfl rfl rfl (le_ok rfl) rfl) ?_
 refine TL.nil ?_
 refine T.ret ?_
 exact ⟨[(true, [.d (.int .i64 a.f0), .d (.int .i64 a.f1), .d (.int .i64 a.f2), .d (.int .i64 a.f3), .d (.int .i64 a.f4)])], (.cons rfl .nil), rfl, [], (RetC.rd' (by rfl) (RetC.rd' (by rfl) (RetC.rd' (by rfl) (RetC.rd' (by rfl) (RetC.rd' (by rfl) .nil)))))⟩
theorem ok_laws_eqByteS (a : List Int) (b : List Int) : RO Try.prog 29 [.one (.ints .u8 a), .one (.ints .u8 b)] [(false, [.rd (.bool (decide (a = b)))])] := by
 refine RO.intro Try.func29 rfl 26 rfl (le_ok rfl) fun w Z => ?_
 refine T.bnd 0 0 rfl rfl fun hb_0_0 => ?_
 simp only [D.size, List.length_map] at hb_0_0
 refine T.bnd 1 0 rfl rfl fun hb_1_0 => ?_
 simp only [D.size, List.length_map] at hb_1_0
 refine T.seq ?_
 refine T.region ?_
 refine TL.cons rfl (Step.assign (p := (.one (.d (.bool false)))) rfl rfl (lt_ok rfl) rfl) ?_
 refine TL.nil ?_
 refine T.seq ?_
 refine T.seq ?_
 refine T.region ?_
 refine TL.cons rfl (Step.move (p := (.one (.d (.ints .u8 a)))) rfl rfl (lt_ok rfl) rfl) ?_
 refine TL.cons rfl (Step.len (e := 5) (z := 1) (d := (.ints .u8 a)) rfl rfl (lt_ok rfl) (by kernel_rfl) rfl rfl) ?_
 refine TL.cons rfl (Step.move (p := (.one (.d (.ints .u8 b)))) rfl rfl (lt_ok rfl) rfl) ?_
 refine TL.cons rfl (Step.len (e := 5) (z := 1) (d := (.ints .u8 b)) rfl rfl (lt_ok rfl) (by kernel_rfl) rfl rfl) ?_
 refine TL.cons rfl (Step.bin rfl rfl (lt_ok rfl) rfl rfl (Bin.neq (k := .i64) (a := (a.length : Int)) (b := (b.length : Int)))) ?_
 refine TL.nil ?_
 refine T.cond (b := decide ((a.length : Int) ≠ (b.length : Int))) rfl (fun h1 => ?_) (fun h1 => ?_)
 ·
  replace h1 := of_decide_eq_true h1
  refine T.seq ?_
  refine T.region ?_
  refine TL.cons rfl (Step.assign (p := (.one (.d (.bool false)))) rfl rfl (lt_ok rfl) rfl) ?_
  refine TL.nil ?_
  refine T.ret ?_
  exact ⟨[(false, [.d (.bool false)])], (.cons rfl .nil), rfl, [], (RetC.rd' (by (congr 1; symm; first | (apply decide_eq_false; rintro rfl; first | exact absurd rfl ‹¬ _ = _› | exact absurd rfl (of_decide_eq_false (by assumption)) | contradiction | simp_all) | (apply decide_eq_true; exact take_all hx2 (by omega) hx3))) .nil)⟩
 ·
  replace h1 := of_decide_eq_false h1
  refine T.skip ?_
  refine T.seq ?_
  refine T.seq ?_
  refine T.region ?_
  refine TL.cons rfl (Step.assign (p := (.one (.d (.int .i64 0)))) rfl rfl (lt_ok rfl) rfl) ?_
  refine TL.nil ?_
  refine T.block ?_
  refine T.loop (ι := Nat) (fun xx_ => { tm := [(0, (.one (.d (.ints .u8 a)))), (1, (.one (.d (.ints .u8 b)))), (5, (.one (.d (.int .i64 (xx_ : Int)))))], rows := [], boxes := [] }) (fun xx_ => xx_ ≤ a.length ∧ a.length = b.length ∧ a.take xx_ = b.take xx_) (fun xx_ => a.length - xx_) 0 ?_ ?_ ?_
  · exact Env.le_mk ⟨rfl, rfl, by first | rfl | (simp; done) | (congr 3; omega), trivial⟩ trivial trivial
  · (refine ⟨Nat.zero_le _, by omega, by simp⟩)
  ·
   intro i hx
   try dsimp only at hx ⊢
   obtain ⟨hx1, hx2, hx3⟩ := hx
   refine T.seq ?_
   refine T.seq ?_
   refine T.region ?_
   refine TL.cons rfl (Step.move (p := (.one (.d (.int .i64 (i : Int))))) rfl rfl (lt_ok rfl) rfl) ?_
   refine TL.cons rfl (Step.move (p := (.one (.d (.ints .u8 a)))) rfl rfl (lt_ok rfl) rfl) ?_
   refine TL.cons rfl (Step.len (e := 5) (z := 1) (d := (.ints .u8 a)) rfl rfl (lt_ok rfl) (by kernel_rfl) rfl rfl) ?_
   refine TL.cons rfl (Step.bin rfl rfl (lt_ok rfl) rfl rfl (Bin.lss (k := .i64) (a := (i : Int)) (b := (a.length : Int)))) ?_
   refine TL.nil ?_
   refine T.cond (b := decide ((i : Int) < (a.length : Int))) rfl (fun h2 => ?_) (fun h2 => ?_)
   ·
    replace h2 := of_decide_eq_true h2
    refine T.skip ?_
    refine T.seq ?_
    refine T.block ?_
    refine T.seq ?_
    refine T.draw [⟨17, (.one (.d (.ints .u8 a))), []⟩, ⟨18, (.one (.d (.int .i64 (i : Int)))), []⟩, ⟨19, (.one (.eptr (.ints .u8 a) i 0)), []⟩, ⟨20, (.one (.d (.int .u8 (a.getD i 0)))), []⟩, ⟨21, (.one (.d (.ints .u8 b))), []⟩, ⟨22, (.one (.d (.int .i64 (i : Int)))), []⟩, ⟨23, (.one (.eptr (.ints .u8 b) i 0)), []⟩, ⟨24, (.one (.d (.int .u8 (b.getD i 0)))), []⟩, ⟨25, (.one (.d (.bool (decide ((a.getD i 0) ≠ (b.getD i 0)))))), []⟩] (by kernel_rfl) (by kernel_rfl) ?_ ?_
    ·
     refine .cons (fun E h => by have g0 := h.get 0 (by decide); exact OpStep.plain rfl (Step.move (p := (.one (.d (.ints .u8 a)))) (t := 17) rfl rfl (by exact lt_ok rfl) (show Env.ev E (.tmp 0) = _ from g0.trans rfl))) ?_
     refine .cons (fun E h => by have g5 := h.get 5 (by decide); exact OpStep.plain rfl (Step.move (p := (.one (.d (.int .i64 (i : Int))))) (t := 18) rfl rfl (by exact lt_ok rfl) (show Env.ev E (.tmp 5) = _ from g5.trans rfl))) ?_
     refine .cons (fun E h => by have g17 := h.get 17 (by decide); have g18 := h.get 18 (by decide); exact OpStep.plain rfl (Step.index (e := 5) (z := 1) (i := (i : Int)) (t := 19) rfl rfl (by exact lt_ok rfl) (by kernel_rfl) (show Env.ev E (.tmp 17) = _ from g17.trans rfl) rfl rfl (lt_ok rfl) (show Env.ev E (.tmp 18) = _ from g18.trans rfl) (by first | omega | (simp; omega)) (by simp only [D.size]; first | omega | (simp; omega)))) ?_
     refine .cons (fun E h => by have g19 := h.get 19 (by decide); exact OpStep.plain rfl (Step.load (e := (.int .u8 (a.getD i 0))) (t := 20) rfl rfl (by exact lt_ok rfl) (by kernel_rfl) (show Env.ev E (.tmp 19) = _ from g19.trans rfl) rfl)) ?_
     refine .cons (fun E h => by have g1 := h.get 1 (by decide); exact OpStep.plain rfl (Step.move (p := (.one (.d (.ints .u8 b)))) (t := 21) rfl rfl (by exact lt_ok rfl) (show Env.ev E (.tmp 1) = _ from g1.trans rfl))) ?_
     refine .cons (fun E h => by have g5 := h.get 5 (by decide); exact OpStep.plain rfl (Step.move (p := (.one (.d (.int .i64 (i : Int))))) (t := 22) rfl rfl (by exact lt_ok rfl) (show Env.ev E (.tmp 5) = _ from g5.trans rfl))) ?_
     refine .cons (fun E h => by have g21 := h.get 21 (by decide); have g22 := h.get 22 (by decide); exact OpStep.plain rfl (Step.index (e := 5) (z := 1) (i := (i : Int)) (t := 23) rfl rfl (by exact lt_ok rfl) (by kernel_rfl) (show Env.ev E (.tmp 21) = _ from g21.trans rfl) rfl rfl (lt_ok rfl) (show Env.ev E (.tmp 22) = _ from g22.trans rfl) (by first | omega | (simp; omega)) (by simp only [D.size]; first | omega | (simp; omega)))) ?_
     refine .cons (fun E h => by have g23 := h.get 23 (by decide); exact OpStep.plain rfl (Step.load (e := (.int .u8 (b.getD i 0))) (t := 24) rfl rfl (by exact lt_ok rfl) (by kernel_rfl) (show Env.ev E (.tmp 23) = _ from g23.trans rfl) rfl)) ?_
     refine .cons (fun E h => by have g20 := h.get 20 (by decide); have g24 := h.get 24 (by decide); exact OpStep.plain rfl (Step.bin (t := 25) rfl rfl (by exact lt_ok rfl) (show Env.ev E (.tmp 20) = _ from g20.trans rfl) (show Env.ev E (.tmp 24) = _ from g24.trans rfl) (Bin.neq (k := .u8) (a := (a.getD i 0)) (b := (b.getD i 0))))) ?_
     exact .nil _ _
    refine TL.nil ?_
    refine T.cond (b := decide ((a.getD i 0) ≠ (b.getD i 0))) rfl (fun h3 => ?_) (fun h3 => ?_)
    ·
     replace h3 := of_decide_eq_true h3
     refine T.seq ?_
     refine T.region ?_
     refine TL.cons rfl (Step.assign (p := (.one (.d (.bool false)))) rfl rfl (lt_ok rfl) rfl) ?_
     refine TL.nil ?_
     refine T.ret ?_
     exact ⟨[(false, [.d (.bool false)])], (.cons rfl .nil), rfl, [], (RetC.rd' (by (congr 1; symm; first | (apply decide_eq_false; rintro rfl; first | exact absurd rfl ‹¬ _ = _› | exact absurd rfl (of_decide_eq_false (by assumption)) | contradiction | simp_all) | (apply decide_eq_true; exact take_all hx2 (by omega) hx3))) .nil)⟩
    ·
     replace h3 := of_decide_eq_false h3
     refine T.skip ?_
     refine T.region ?_
     refine TL.cons rfl (Step.move (p := (.one (.d (.int .i64 (i : Int))))) rfl rfl (lt_ok rfl) rfl) ?_
     refine TL.cons rfl (Step.bin (r := .int .i64 ((i : Int) + 1)) rfl rfl (lt_ok rfl) rfl rfl (Bin.add (a := (i : Int)) (b := 1) (by first | exact wrap_ok (by first | omega | (simp; omega)) (by first | omega | (simp; omega)) | rfl))) ?_
     refine TL.cons rfl (Step.assign (p := (.one (.d (.int .i64 ((i : Int) + 1))))) rfl rfl (lt_ok rfl) rfl) ?_
     refine TL.nil ?_
     exact ⟨i + 1, by (refine ⟨by omega, hx2, take_step (d := 0) hx2 (by omega) hx3 (by first | assumption | exact Decidable.not_not.1 (by assumption) | omega)⟩), by omega, Env.le_mk ⟨rfl, rfl, by first | rfl | (simp; done) | (congr 3; omega), trivial⟩ trivial trivial⟩
   ·
    replace h2 := of_decide_eq_false h2
    refine T.exit ?_
    refine T.seq ?_
    refine T.region ?_
    refine TL.cons rfl (Step.assign (p := (.one (.d (.bool true)))) rfl rfl (lt_ok rfl) rfl) ?_
    refine TL.nil ?_
    refine T.ret ?_
    exact ⟨[(false, [.d (.bool true)])], (.cons rfl .nil), rfl, [], (RetC.rd' (by (congr 1; symm; first | (apply decide_eq_false; rintro rfl; first | exact absurd rfl ‹¬ _ = _› | exact absurd rfl (of_decide_eq_false (by assumption)) | contradiction | simp_all) | (apply decide_eq_true; exact take_all hx2 (by omega) hx3))) .nil)⟩
theorem ok_laws_markByteS (a : List Int) (k : Int) (h0_ : 0 ≤ k) (h1_ : k + (a.length : Int) ≤ 4611686018427387904) : MK Try.prog 32 [.one (.mk (.ints .u8 a) (.ints .u8 (mkB a k))), .one (.rd (.int .i64 k))] [(false, [.rd (.int .i64 (k + (a.length : Int)))])] := by
 refine MK.intro Try.func32 rfl 20 rfl (le_ok rfl) (le_ok rfl) rfl fun w Z IX pin Ts hp => ?_
 refine T.bndRow 900 rfl fun hb_900 => ?_
 simp only [D.size, List.length_map] at hb_900
 refine T.seq ?_
 refine T.region ?_
 refine TL.cons rfl (Step.assign (p := (.one (.d (.int .i64 0)))) rfl rfl (lt_ok rfl) rfl) ?_
 refine TL.nil ?_
 refine T.seq ?_
 refine T.seq ?_
 refine T.region ?_
 refine TL.cons rfl (Step.assign (p := (.one (.d (.int .i64 0)))) rfl rfl (lt_ok rfl) rfl) ?_
 refine TL.nil ?_
 refine T.block ?_
 refine T.loop (ι := Nat) (fun xx_ => { tm := [(0, (.one (.row 900 []))), (4, (.one (.d (.int .i64 0)))), (5, (.one (.d (.int .i64 (xx_ : Int))))), (1, (.one (.d (.int .i64 (k + (xx_ : Int))))))], rows := [(900, ((Ts 0), (.ints .u8 (upTo (fun _ => 1) (fun _ k => k % 256) a k xx_))))], boxes := [] }) (fun xx_ => xx_ ≤ a.length) (fun xx_ => a.length - xx_) 0 ?_ ?_ ?_
 · exact Env.le_mk ⟨rfl, rfl, by first | exact congrArg (fun x => some (Ts 0, D.ints .u8 x)) (upTo_set (df := 0) (by omega) (by simp only [cntL_one_take a i (by omega)])) | exact congrArg (fun x => some (Ts 0, D.ints .u8 x)) (upTo_zero _ _).symm | rfl | (refine congrArg (fun n => PV.one (.d (.int .i64 n))) ?_; first | omega | (simp; done) | (simp [cntL]; done)), by first | exact congrArg (fun x => some (Ts 0, D.ints .u8 x)) (upTo_set (df := 0) (by omega) (by simp only [cntL_one_take a i (by omega)])) | exact congrArg (fun x => some (Ts 0, D.ints .u8 x)) (upTo_zero _ _).symm | rfl | (refine congrArg (fun n => PV.one (.d (.int .i64 n))) ?_; first | omega | (simp; done) | (simp [cntL]; done)), trivial⟩ ⟨by first | exact congrArg (fun x => some (Ts 0, D.ints .u8 x)) (upTo_set (df := 0) (by omega) (by simp only [cntL_one_take a i (by omega)])) | exact congrArg (fun x => some (Ts 0, D.ints .u8 x)) (upTo_zero _ _).symm | rfl | (refine congrArg (fun n => PV.one (.d (.int .i64 n))) ?_; first | omega | (simp; done) | (simp [cntL]; done)), trivial⟩ trivial
 · exact Nat.zero_le _
 ·
  intro i hx
  try dsimp only at hx ⊢
  refine T.seq ?_
  refine T.seq ?_
  refine T.region ?_
  refine TL.cons rfl (Step.move (p := (.one (.d (.int .i64 (i : Int))))) rfl rfl (lt_ok rfl) rfl) ?_
  refine TL.cons rfl (Step.move (p := (.one (.row 900 []))) rfl rfl (lt_ok rfl) rfl) ?_
  refine TL.cons rfl (Step.len' (e := 5) (z := 1) (d := (.ints .u8 (upTo (fun _ => 1) (fun _ k => k % 256) a k i))) (n := a.length) rfl rfl (lt_ok rfl) (by kernel_rfl) rfl rfl (by simp [D.size, upTo_length])) ?_
  refine TL.cons rfl (Step.bin rfl rfl (lt_ok rfl) rfl rfl (Bin.lss (k := .i64) (a := (i : Int)) (b := (a.length : Int)))) ?_
  refine TL.nil ?_
  refine T.cond (b := decide ((i : Int) < (a.length : Int))) rfl (fun h1 => ?_) (fun h1 => ?_)
  ·
   replace h1 := of_decide_eq_true h1
   refine T.skip ?_
   refine T.seq ?_
   refine T.block ?_
   refine T.seq ?_
   refine T.region ?_
   refine TL.cons rfl (Step.move (p := (.one (.row 900 []))) rfl rfl (lt_ok rfl) rfl) ?_
   refine TL.cons rfl (Step.move (p := (.one (.d (.int .i64 (i : Int))))) rfl rfl (lt_ok rfl) rfl) ?_
   refine TL.cons rfl (Step.move (p := (.one (.d (.int .i64 (k + (i : Int)))))) rfl rfl (lt_ok rfl) rfl) ?_
   refine TL.cons rfl (Step.conv (c := ((k + (i : Int)) % 256)) rfl rfl (lt_ok rfl) (by kernel_rfl) (by kernel_rfl) rfl (wrap_byte _)) ?_
   refine TL.cons rfl (Step.index_row (d := (.ints .u8 (upTo (fun _ => 1) (fun _ k => k % 256) a k i))) (e := 5) (z := 1) (i := (i : Int)) rfl rfl (lt_ok rfl) (by kernel_rfl) rfl rfl rfl rfl (lt_ok rfl) rfl (by first | omega | (simp; omega)) (by simp only [D.at_, D.cell, D.size, List.length_set, List.length_map, upTo_length]; first | omega | (simp; omega))) ?_
   refine TL.cons rfl (Step.store_row (n := 1) (p := (.one (.d (.int .u8 ((k + (i : Int)) % 256))))) (ps := [.d (.int .u8 ((k + (i : Int)) % 256))]) (es := [(.int .u8 ((k + (i : Int)) % 256))]) (ss := []) (d1 := (.ints .u8 ((upTo (fun _ => 1) (fun _ k => k % 256) a k i).set i ((k + (i : Int)) % 256)))) (d' := (.ints .u8 ((upTo (fun _ => 1) (fun _ k => k % 256) a k i).set i ((k + (i : Int)) % 256)))) rfl rfl (by kernel_rfl) rfl rfl rfl rfl rfl rfl (.val rfl .nil) (by simp) (Putd.one rfl trivial rfl (by simp only [D.at_, D.size, List.length_set, upTo_length]; first | omega | (simp; omega)) (lt_ok rfl)) rfl) ?_
   refine TL.nil ?_
   refine T.region ?_
   refine TL.cons rfl (Step.move (p := (.one (.d (.int .i64 (k + (i : Int)))))) rfl rfl (lt_ok rfl) rfl) ?_
   refine TL.cons rfl (Step.bin (r := .int .i64 ((k + (i : Int)) + 1)) rfl rfl (lt_ok rfl) rfl rfl (Bin.add (a := (k + (i : Int))) (b := 1) (by first | exact wrap_ok (by first | omega | (simp; omega)) (by first | omega | (simp; omega)) | rfl))) ?_
   refine TL.cons rfl (Step.assign (p := (.one (.d (.int .i64 ((k + (i : Int)) + 1))))) rfl rfl (lt_ok rfl) rfl) ?_
   refine TL.nil ?_
   refine T.region ?_
   refine TL.cons rfl (Step.move (p := (.one (.d (.int .i64 (i : Int))))) rfl rfl (lt_ok rfl) rfl) ?_
   refine TL.cons rfl (Step.bin (r := .int .i64 ((i : Int) + 1)) rfl rfl (lt_ok rfl) rfl rfl (Bin.add (a := (i : Int)) (b := 1) (by first | exact wrap_ok (by first | omega | (simp; omega)) (by first | omega | (simp; omega)) | rfl))) ?_
   refine TL.cons rfl (Step.assign (p := (.one (.d (.int .i64 ((i : Int) + 1))))) rfl rfl (lt_ok rfl) rfl) ?_
   refine TL.nil ?_
   exact ⟨i + 1, by omega, by first | omega | (dsimp only; omega), Env.le_mk ⟨rfl, rfl, by first | exact congrArg (fun x => some (Ts 0, D.ints .u8 x)) (upTo_set (df := 0) (by omega) (by simp only [cntL_one_take a i (by omega)])) | exact congrArg (fun x => some (Ts 0, D.ints .u8 x)) (upTo_zero _ _).symm | rfl | (refine congrArg (fun n => PV.one (.d (.int .i64 n))) ?_; first | omega | (simp; done) | (simp [cntL]; done)), by first | exact congrArg (fun x => some (Ts 0, D.ints .u8 x)) (upTo_set (df := 0) (by omega) (by simp only [cntL_one_take a i (by omega)])) | exact congrArg (fun x => some (Ts 0, D.ints .u8 x)) (upTo_zero _ _).symm | rfl | (refine congrArg (fun n => PV.one (.d (.int .i64 n))) ?_; first | omega | (simp; done) | (simp [cntL]; done)), trivial⟩ ⟨by first | exact congrArg (fun x => some (Ts 0, D.ints .u8 x)) (upTo_set (df := 0) (by omega) (by simp only [cntL_one_take a i (by omega)])) | exact congrArg (fun x => some (Ts 0, D.ints .u8 x)) (upTo_zero _ _).symm | rfl | (refine congrArg (fun n => PV.one (.d (.int .i64 n))) ?_; first | omega | (simp; done) | (simp [cntL]; done)), trivial⟩ trivial⟩
  ·
   replace h1 := of_decide_eq_false h1
   refine T.exit ?_
   refine T.seq ?_
   refine T.region ?_
   refine TL.cons rfl (Step.move (p := (.one (.d (.int .i64 (k + (i : Int)))))) rfl rfl (lt_ok rfl) rfl) ?_
   refine TL.cons rfl (Step.assign (p := (.one (.d (.int .i64 (k + (i : Int)))))) rfl rfl (lt_ok rfl) rfl) ?_
   refine TL.nil ?_
   refine T.ret ?_
   exact ⟨⟨⟨[(false, [.d (.int .i64 (k + (i : Int)))])], (.cons rfl .nil), rfl, [], (RetC.rd' (by (congr 1; omega)) .nil)⟩, rfl⟩, (.mk' (by exact congrArg (fun x => some (Ts 0, D.ints .u8 x)) (upTo_all (by omega))) (.rd .nil'))⟩
theorem ok_laws_heldByteS (a : List Int) (b : List Int) (k : Int) (h0_ : 0 ≤ k) (h1_ : k + (a.length : Int) ≤ 4611686018427387904) (h2_ : b = mkB a k) : RO Try.prog 33 [.one (.ints .u8 b), .one (.int .i64 k)] [(false, [.rd (.int .i64 (k + (a.length : Int)))])] := by
 refine RO.intro Try.func33 rfl 22 rfl (le_ok rfl) fun w Z => ?_
 refine T.bnd 0 0 rfl rfl fun hb_0_0 => ?_
 simp only [D.size, List.length_map] at hb_0_0
 have hl_ : b.length = a.length := by rw [h2_, mkL_length]
 have hg_ : ∀ i, i < a.length → b.getD i 0 = (k + (i : Int)) % 256 := fun i hi => by rw [h2_, mkL_getD _ _ _ _ hi]; simp only [cntL_one_take a i (by omega)]
 refine T.seq ?_
 refine T.region ?_
 refine TL.cons rfl (Step.assign (p := (.one (.d (.int .i64 0)))) rfl rfl (lt_ok rfl) rfl) ?_
 refine TL.nil ?_
 refine T.seq ?_
 refine T.seq ?_
 refine T.region ?_
 refine TL.cons rfl (Step.assign (p := (.one (.d (.int .i64 0)))) rfl rfl (lt_ok rfl) rfl) ?_
 refine TL.nil ?_
 refine T.block ?_
 refine T.loop (ι := Nat) (fun xx_ => { tm := [(0, (.one (.d (.ints .u8 b)))), (5, (.one (.d (.int .i64 (xx_ : Int))))), (1, (.one (.d (.int .i64 (k + (xx_ : Int))))))], rows := [], boxes := [] }) (fun xx_ => xx_ ≤ a.length) (fun xx_ => a.length - xx_) 0 ?_ ?_ ?_
 · exact Env.le_mk ⟨rfl, by first | rfl | (refine congrArg (fun n => PV.one (.d (.int .i64 n))) ?_; first | omega | (simp; done) | (simp [cntL]; done)), by first | rfl | (refine congrArg (fun n => PV.one (.d (.int .i64 n))) ?_; first | omega | (simp; done) | (simp [cntL]; done)), trivial⟩ trivial trivial
 · exact Nat.zero_le _
 ·
  intro i hx
  try dsimp only at hx ⊢
  refine T.seq ?_
  refine T.seq ?_
  refine T.region ?_
  refine TL.cons rfl (Step.move (p := (.one (.d (.int .i64 (i : Int))))) rfl rfl (lt_ok rfl) rfl) ?_
  refine TL.cons rfl (Step.move (p := (.one (.d (.ints .u8 b)))) rfl rfl (lt_ok rfl) rfl) ?_
  refine TL.cons rfl (Step.len (e := 5) (z := 1) (d := (.ints .u8 b)) rfl rfl (lt_ok rfl) (by kernel_rfl) rfl rfl) ?_
  refine TL.cons rfl (Step.bin rfl rfl (lt_ok rfl) rfl rfl (Bin.lss (k := .i64) (a := (i : Int)) (b := (b.length : Int)))) ?_
  refine TL.nil ?_
  refine T.cond (b := decide ((i : Int) < (b.length : Int))) rfl (fun h1 => ?_) (fun h1 => ?_)
  ·
   replace h1 := of_decide_eq_true h1
   refine T.skip ?_
   refine T.seq ?_
   refine T.block ?_
   refine T.seq ?_
   refine T.seq ?_
   refine T.region ?_
   refine TL.cons rfl (Step.move (p := (.one (.d (.ints .u8 b)))) rfl rfl (lt_ok rfl) rfl) ?_
   refine TL.cons rfl (Step.move (p := (.one (.d (.int .i64 (i : Int))))) rfl rfl (lt_ok rfl) rfl) ?_
   refine TL.cons rfl (Step.index (e := 5) (z := 1) (i := (i : Int)) rfl rfl (lt_ok rfl) (by kernel_rfl) rfl rfl rfl (lt_ok rfl) rfl (by first | omega | (simp; omega)) (by simp only [D.size]; first | omega | (simp; omega))) ?_
   refine TL.cons rfl (Step.load (e := (.int .u8 (b.getD i 0))) rfl rfl (lt_ok rfl) (by kernel_rfl) rfl rfl) ?_
   refine TL.cons rfl (Step.move (p := (.one (.d (.int .i64 (k + (i : Int)))))) rfl rfl (lt_ok rfl) rfl) ?_
   refine TL.cons rfl (Step.conv (c := ((k + (i : Int)) % 256)) rfl rfl (lt_ok rfl) (by kernel_rfl) (by kernel_rfl) rfl (wrap_byte _)) ?_
   refine TL.cons rfl (Step.bin rfl rfl (lt_ok rfl) rfl rfl (Bin.neq (k := .u8) (a := (b.getD i 0)) (b := ((k + (i : Int)) % 256)))) ?_
   refine TL.nil ?_
   refine T.cond (b := decide ((b.getD i 0) ≠ ((k + (i : Int)) % 256))) rfl (fun h2 => ?_) (fun h2 => ?_)
   ·
    replace h2 := of_decide_eq_true h2
    refine T.seq ?_
    refine T.region ?_
    refine TL.cons rfl (Step.assign (p := (.one (.d (.int .i64 (-1))))) rfl rfl (lt_ok rfl) rfl) ?_
    refine TL.nil ?_
    refine T.ret ?_
    exact ⟨[(false, [.d (.int .i64 (-1))])], (.cons rfl .nil), rfl, [], (RetC.rd' (by first | (congr 1; omega) | (exfalso; have := hg_ i (by omega); omega)) .nil)⟩
   ·
    replace h2 := of_decide_eq_false h2
    refine T.skip ?_
    refine T.region ?_
    refine TL.cons rfl (Step.move (p := (.one (.d (.int .i64 (k + (i : Int)))))) rfl rfl (lt_ok rfl) rfl) ?_
    refine TL.cons rfl (Step.bin (r := .int .i64 ((k + (i : Int)) + 1)) rfl rfl (lt_ok rfl) rfl rfl (Bin.add (a := (k + (i : Int))) (b := 1) (by first | exact wrap_ok (by first | omega | (simp; omega)) (by first | omega | (simp; omega)) | rfl))) ?_
    refine TL.cons rfl (Step.assign (p := (.one (.d (.int .i64 ((k + (i : Int)) + 1))))) rfl rfl (lt_ok rfl) rfl) ?_
    refine TL.nil ?_
    refine T.region ?_
    refine TL.cons rfl (Step.move (p := (.one (.d (.int .i64 (i : Int))))) rfl rfl (lt_ok rfl) rfl) ?_
    refine TL.cons rfl (Step.bin (r := .int .i64 ((i : Int) + 1)) rfl rfl (lt_ok rfl) rfl rfl (Bin.add (a := (i : Int)) (b := 1) (by first | exact wrap_ok (by first | omega | (simp; omega)) (by first | omega | (simp; omega)) | rfl))) ?_
    refine TL.cons rfl (Step.assign (p := (.one (.d (.int .i64 ((i : Int) + 1))))) rfl rfl (lt_ok rfl) rfl) ?_
    refine TL.nil ?_
    exact ⟨i + 1, by omega, by first | omega | (dsimp only; omega), Env.le_mk ⟨rfl, by first | rfl | (refine congrArg (fun n => PV.one (.d (.int .i64 n))) ?_; first | omega | (simp; done) | (simp [cntL]; done)), by first | rfl | (refine congrArg (fun n => PV.one (.d (.int .i64 n))) ?_; first | omega | (simp; done) | (simp [cntL]; done)), trivial⟩ trivial trivial⟩
  ·
   replace h1 := of_decide_eq_false h1
   refine T.exit ?_
   refine T.seq ?_
   refine T.region ?_
   refine TL.cons rfl (Step.move (p := (.one (.d (.int .i64 (k + (i : Int)))))) rfl rfl (lt_ok rfl) rfl) ?_
   refine TL.cons rfl (Step.assign (p := (.one (.d (.int .i64 (k + (i : Int)))))) rfl rfl (lt_ok rfl) rfl) ?_
   refine TL.nil ?_
   refine T.ret ?_
   exact ⟨[(false, [.d (.int .i64 (k + (i : Int)))])], (.cons rfl .nil), rfl, [], (RetC.rd' (by first | (congr 1; omega) | (exfalso; have := hg_ i (by omega); omega)) .nil)⟩
theorem ok_laws_toByteS (a : List Int) (h0_ : a.length ≤ 1048576) : RO Try.prog 49 [.one (.ints .u8 a)] [(false, [.own 5 (.ints .u8 a)])] := by
 refine RO.intro Try.func49 rfl 22 rfl (le_ok rfl) fun w Z => ?_
 refine T.bnd 0 0 rfl rfl fun hb_0_0 => ?_
 simp only [D.size, List.length_map] at hb_0_0
 have h0b := h0_
 refine T.seq ?_
 refine T.region ?_
 refine TL.cons rfl (Step.assign (p := (.one (.nil))) rfl rfl (lt_ok rfl) rfl) ?_
 refine TL.nil ?_
 refine T.seq ?_
 refine T.region ?_
 refine TL.cons rfl (Step.move (p := (.one (.d (.ints .u8 a)))) rfl rfl (lt_ok rfl) rfl) ?_
 refine TL.cons rfl (Step.len (e := 5) (z := 1) (d := (.ints .u8 a)) rfl rfl (lt_ok rfl) (by kernel_rfl) rfl rfl) ?_
 refine TL.cons rfl (Step.make (e := 5) (z := 1) (by_ := 1) (n := (a.length : Int)) (zs := [.int .u8 0]) (zd := [.int .u8 0]) (d := (.ints .u8 (List.replicate a.length 0))) rfl rfl (lt_ok rfl) (by kernel_rfl) (lt_ok rfl) rfl (by first | omega | (simp; omega)) (by first | omega | (simp; omega)) (by first | omega | (simp; omega)) (by kernel_rfl) (.val rfl .nil) rfl (by simp) (by simp [D.flat, List.flatten_replicate_singleton]) (by simp [D.size]) rfl trivial) ?_
 refine TL.cons rfl (Step.assign (p := (.one (.row 7 []))) rfl rfl (lt_ok rfl) rfl) ?_
 refine TL.nil ?_
 refine T.seq ?_
 refine T.seq ?_
 refine T.region ?_
 refine TL.cons rfl (Step.assign (p := (.one (.d (.int .i64 0)))) rfl rfl (lt_ok rfl) rfl) ?_
 refine TL.nil ?_
 refine T.block ?_
 refine T.loop (ι := Nat) (fun xx_ => { tm := [(0, (.one (.d (.ints .u8 a)))), (2, (.one (.nil))), (3, (.one (.row 7 []))), (4, (.one (.d (.int .i64 (xx_ : Int)))))], rows := [(7, (5, (.ints .u8 (a.take xx_ ++ List.replicate (a.length - xx_) 0 : List Int))))], boxes := [] }) (fun xx_ => xx_ ≤ a.length) (fun xx_ => a.length - xx_) 0 ?_ ?_ ?_
 · exact Env.le_mk ⟨rfl, rfl, rfl, by first | rfl | exact congrArg (fun x => some (5, ((.ints .u8 x) : D))) (fill_set a 0 0 i (by omega)), trivial⟩ ⟨by first | rfl | exact congrArg (fun x => some (5, ((.ints .u8 x) : D))) (fill_set a 0 0 i (by omega)), trivial⟩ trivial
 · exact Nat.zero_le _
 ·
  intro i hx
  try dsimp only at hx ⊢
  refine T.seq ?_
  refine T.seq ?_
  refine T.region ?_
  refine TL.cons rfl (Step.move (p := (.one (.d (.int .i64 (i : Int))))) rfl rfl (lt_ok rfl) rfl) ?_
  refine TL.cons rfl (Step.move (p := (.one (.d (.ints .u8 a)))) rfl rfl (lt_ok rfl) rfl) ?_
  refine TL.cons rfl (Step.len (e := 5) (z := 1) (d := (.ints .u8 a)) rfl rfl (lt_ok rfl) (by kernel_rfl) rfl rfl) ?_
  refine TL.cons rfl (Step.bin rfl rfl (lt_ok rfl) rfl rfl (Bin.lss (k := .i64) (a := (i : Int)) (b := (a.length : Int)))) ?_
  refine TL.nil ?_
  refine T.cond (b := decide ((i : Int) < (a.length : Int))) rfl (fun h1 => ?_) (fun h1 => ?_)
  ·
   replace h1 := of_decide_eq_true h1
   refine T.skip ?_
   refine T.seq ?_
   refine T.block ?_
   refine T.region ?_
   refine TL.cons rfl (Step.move (p := (.one (.row 7 []))) rfl rfl (lt_ok rfl) rfl) ?_
   refine TL.cons rfl (Step.move (p := (.one (.d (.int .i64 (i : Int))))) rfl rfl (lt_ok rfl) rfl) ?_
   refine TL.cons rfl (Step.move (p := (.one (.d (.ints .u8 a)))) rfl rfl (lt_ok rfl) rfl) ?_
   refine TL.cons rfl (Step.move (p := (.one (.d (.int .i64 (i : Int))))) rfl rfl (lt_ok rfl) rfl) ?_
   refine TL.cons rfl (Step.index (e := 5) (z := 1) (i := (i : Int)) rfl rfl (lt_ok rfl) (by kernel_rfl) rfl rfl rfl (lt_ok rfl) rfl (by first | omega | (simp; omega)) (by simp only [D.size]; first | omega | (simp; omega))) ?_
   refine TL.cons rfl (Step.load (e := (.int .u8 (a.getD i 0))) rfl rfl (lt_ok rfl) (by kernel_rfl) rfl rfl) ?_
   refine TL.cons rfl (Step.index_row (e := 5) (z := 1) (i := (i : Int)) rfl rfl (lt_ok rfl) (by kernel_rfl) rfl rfl rfl rfl (lt_ok rfl) rfl (by first | omega | (simp; omega)) (by simp only [D.at_, D.cell, D.size]; first | omega | (simp; omega))) ?_
   refine TL.cons rfl (Step.store_row (n := 1) (p := (.one (.d (.int .u8 (a.getD i 0))))) (ps := [.d (.int .u8 (a.getD i 0))]) (es := [(.int .u8 (a.getD i 0))]) (ss := []) (d1 := (.ints .u8 ((a.take i ++ List.replicate (a.length - i) 0 : List Int).set i (a.getD i 0)))) (d' := (.ints .u8 ((a.take i ++ List.replicate (a.length - i) 0 : List Int).set i (a.getD i 0)))) rfl rfl (by kernel_rfl) rfl rfl rfl rfl rfl rfl (.val rfl .nil) (by simp) (Putd.one rfl trivial rfl (by simp only [D.at_, D.size, List.length_set, upTo_length]; first | omega | (simp; omega)) (lt_ok rfl)) rfl) ?_
   refine TL.nil ?_
   refine T.region ?_
   refine TL.cons rfl (Step.move (p := (.one (.d (.int .i64 (i : Int))))) rfl rfl (lt_ok rfl) rfl) ?_
   refine TL.cons rfl (Step.bin (r := .int .i64 ((i : Int) + 1)) rfl rfl (lt_ok rfl) rfl rfl (Bin.add (a := (i : Int)) (b := 1) (by first | exact wrap_ok (by first | omega | (simp; omega)) (by first | omega | (simp; omega)) | rfl))) ?_
   refine TL.cons rfl (Step.assign (p := (.one (.d (.int .i64 ((i : Int) + 1))))) rfl rfl (lt_ok rfl) rfl) ?_
   refine TL.nil ?_
   exact ⟨i + 1, by omega, by omega, Env.le_mk ⟨rfl, rfl, rfl, by first | rfl | exact congrArg (fun x => some (5, ((.ints .u8 x) : D))) (fill_set a 0 0 i (by omega)), trivial⟩ ⟨by first | rfl | exact congrArg (fun x => some (5, ((.ints .u8 x) : D))) (fill_set a 0 0 i (by omega)), trivial⟩ trivial⟩
  ·
   replace h1 := of_decide_eq_false h1
   refine T.exit ?_
   refine T.seq ?_
   refine T.region ?_
   refine TL.cons rfl (Step.move (p := (.one (.row 7 []))) rfl rfl (lt_ok rfl) rfl) ?_
   refine TL.cons rfl (Step.assign (p := (.one (.row 7 []))) rfl rfl (lt_ok rfl) rfl) ?_
   refine TL.nil ?_
   refine T.ret ?_
   exact ⟨[(false, [.row 7 []])], (.cons rfl .nil), rfl, [7], (RetC.own' rfl (by first | rfl | (congr 1; rw [fill_all' _ _ _ (by omega)]) | (rw [fill_all' _ _ _ (by omega)])) rfl .nil)⟩
theorem ok_laws_szByteS (a : List Int) (left : Int) (h0_ : 0 ≤ left) (h1_ : left ≤ 9223372036854775807) : RO Try.prog 76 [.one (.ints .u8 a), .one (.int .i64 left)] [(false, [.rd (.int .i64 (szB a left))])] := by
 refine RO.intro Try.func76 rfl 12 rfl (le_ok rfl) fun w Z => ?_
 refine T.bnd 0 0 rfl rfl fun hb_0_0 => ?_
 simp only [D.size, List.length_map] at hb_0_0
 refine T.seq ?_
 refine T.region ?_
 refine TL.cons rfl (Step.assign (p := (.one (.d (.int .i64 0)))) rfl rfl (lt_ok rfl) rfl) ?_
 refine TL.nil ?_
 refine T.seq ?_
 refine T.region ?_
 refine TL.cons rfl (Step.move (p := (.one (.d (.int .i64 left)))) rfl rfl (lt_ok rfl) rfl) ?_
 refine TL.cons rfl (Step.move (p := (.one (.d (.ints .u8 a)))) rfl rfl (lt_ok rfl) rfl) ?_
 refine TL.cons rfl (Step.len (e := 5) (z := 1) (d := (.ints .u8 a)) rfl rfl (lt_ok rfl) (by kernel_rfl) rfl rfl) ?_
 refine TL.cons rfl (Step.bin (r := .int .i64 (left - (a.length : Int))) rfl rfl (lt_ok rfl) rfl rfl (Bin.sub (a := left) (b := (a.length : Int)) (by first | exact wrap_ok (by first | omega | (simp; omega)) (by first | omega | (simp; omega)) | rfl))) ?_
 refine TL.cons rfl (Step.assign (p := (.one (.d (.int .i64 (left - (a.length : Int)))))) rfl rfl (lt_ok rfl) rfl) ?_
 refine TL.nil ?_
 refine T.seq ?_
 refine T.seq ?_
 refine T.region ?_
 refine TL.cons rfl (Step.move (p := (.one (.d (.int .i64 (left - (a.length : Int)))))) rfl rfl (lt_ok rfl) rfl) ?_
 refine TL.cons rfl (Step.bin rfl rfl (lt_ok rfl) rfl rfl (Bin.lss (k := .i64) (a := (left - (a.length : Int))) (b := 0))) ?_
 refine TL.nil ?_
 refine T.cond (b := decide ((left - (a.length : Int)) < 0)) rfl (fun h1 => ?_) (fun h1 => ?_)
 ·
  replace h1 := of_decide_eq_true h1
  refine T.seq ?_
  refine T.region ?_
  refine TL.cons rfl (Step.assign (p := (.one (.d (.int .i64 (-1))))) rfl rfl (lt_ok rfl) rfl) ?_
  refine TL.nil ?_
  refine T.ret ?_
  exact ⟨[(false, [.d (.int .i64 (-1))])], (.cons rfl .nil), rfl, [], (RetC.rd' (by (congr 1; unfold szB; split <;> omega)) .nil)⟩
 ·
  replace h1 := of_decide_eq_false h1
  refine T.skip ?_
  refine T.seq ?_
  refine T.region ?_
  refine TL.cons rfl (Step.move (p := (.one (.d (.int .i64 (left - (a.length : Int)))))) rfl rfl (lt_ok rfl) rfl) ?_
  refine TL.cons rfl (Step.assign (p := (.one (.d (.int .i64 (left - (a.length : Int)))))) rfl rfl (lt_ok rfl) rfl) ?_
  refine TL.nil ?_
  refine T.ret ?_
  exact ⟨[(false, [.d (.int .i64 (left - (a.length : Int)))])], (.cons rfl .nil), rfl, [], (RetC.rd' (by (congr 1; unfold szB; split <;> omega)) .nil)⟩
theorem ok_laws_szByteSS (a : List (List Int)) (left : Int) (h0_ : 0 ≤ left) (h1_ : left ≤ 9223372036854775807) : RO Try.prog 77 [.one (.bss a), .one (.int .i64 left)] [(false, [.rd (.int .i64 (szLs szB a left))])] := by
 refine RO.intro Try.func77 rfl 27 rfl (le_ok rfl) fun w Z => ?_
 refine T.bnd 0 0 rfl rfl fun hb_0_0 => ?_
 simp only [D.size, List.length_map] at hb_0_0
 refine T.seq ?_
 refine T.region ?_
 refine TL.cons rfl (Step.assign (p := (.one (.d (.int .i64 0)))) rfl rfl (lt_ok rfl) rfl) ?_
 refine TL.nil ?_
 refine T.seq ?_
 refine T.region ?_
 refine TL.cons rfl (Step.move (p := (.one (.d (.int .i64 left)))) rfl rfl (lt_ok rfl) rfl) ?_
 refine TL.cons rfl (Step.move (p := (.one (.d (.bss a)))) rfl rfl (lt_ok rfl) rfl) ?_
 refine TL.cons rfl (Step.len (e := 22) (z := 1) (d := (.bss a)) rfl rfl (lt_ok rfl) (by kernel_rfl) rfl rfl) ?_
 refine TL.cons rfl (Step.bin (r := .int .i64 (left - (a.length : Int))) rfl rfl (lt_ok rfl) rfl rfl (Bin.sub (a := left) (b := (a.length : Int)) (by first | exact wrap_ok (by first | omega | (simp; omega)) (by first | omega | (simp; omega)) | rfl))) ?_
 refine TL.cons rfl (Step.assign (p := (.one (.d (.int .i64 (left - (a.length : Int)))))) rfl rfl (lt_ok rfl) rfl) ?_
 refine TL.nil ?_
 refine T.seq ?_
 refine T.seq ?_
 refine T.region ?_
 refine TL.cons rfl (Step.move (p := (.one (.d (.int .i64 (left - (a.length : Int)))))) rfl rfl (lt_ok rfl) rfl) ?_
 refine TL.cons rfl (Step.bin rfl rfl (lt_ok rfl) rfl rfl (Bin.lss (k := .i64) (a := (left - (a.length : Int))) (b := 0))) ?_
 refine TL.nil ?_
 refine T.cond (b := decide ((left - (a.length : Int)) < 0)) rfl (fun h1 => ?_) (fun h1 => ?_)
 ·
  replace h1 := of_decide_eq_true h1
  refine T.seq ?_
  refine T.region ?_
  refine TL.cons rfl (Step.assign (p := (.one (.d (.int .i64 (-1))))) rfl rfl (lt_ok rfl) rfl) ?_
  refine TL.nil ?_
  refine T.ret ?_
  exact ⟨[(false, [.d (.int .i64 (-1))])], (.cons rfl .nil), rfl, [], (RetC.rd' (by (congr 1; first | (rw [← hx4, szL_drop (dflt := []) a i l (by omega), if_pos (by omega)]; done) | (rw [← hx4, List.drop_of_length_le (by omega)]; rfl) | (unfold szLs; rw [if_pos (by omega)]; done))) .nil)⟩
 ·
  replace h1 := of_decide_eq_false h1
  refine T.skip ?_
  refine T.seq ?_
  refine T.seq ?_
  refine T.region ?_
  refine TL.cons rfl (Step.assign (p := (.one (.d (.int .i64 0)))) rfl rfl (lt_ok rfl) rfl) ?_
  refine TL.nil ?_
  refine T.block ?_
  refine T.loop (ι := Nat × Int) (fun xx_ => { tm := [(0, (.one (.d (.bss a)))), (5, (.one (.d (.int .i64 ((xx_.1) : Int))))), (1, (.one (.d (.int .i64 (xx_.2)))))], rows := [], boxes := [] }) (fun xx_ => (xx_.1) ≤ a.length ∧ 0 ≤ (xx_.2) ∧ (xx_.2) ≤ 9223372036854775807 ∧ szL szB (a.drop (xx_.1)) (xx_.2) = szLs szB a left) (fun xx_ => a.length - (xx_.1)) (0, left - (a.length : Int)) ?_ ?_ ?_
  · exact Env.le_mk ⟨rfl, by first | rfl | (simp; done) | (congr 3; omega), by first | rfl | (simp; done) | (congr 3; omega), trivial⟩ trivial trivial
  · (refine ⟨Nat.zero_le _, by omega, by omega, ?_⟩; unfold szLs; rw [if_neg (by omega), List.drop_zero])
  ·
   intro xx_ hx
   obtain ⟨i, l⟩ := xx_
   try dsimp only at hx ⊢
   obtain ⟨hx1, hx2, hx3, hx4⟩ := hx
   refine T.seq ?_
   refine T.seq ?_
   refine T.region ?_
   refine TL.cons rfl (Step.move (p := (.one (.d (.int .i64 (i : Int))))) rfl rfl (lt_ok rfl) rfl) ?_
   refine TL.cons rfl (Step.move (p := (.one (.d (.bss a)))) rfl rfl (lt_ok rfl) rfl) ?_
   refine TL.cons rfl (Step.len (e := 22) (z := 1) (d := (.bss a)) rfl rfl (lt_ok rfl) (by kernel_rfl) rfl rfl) ?_
   refine TL.cons rfl (Step.bin rfl rfl (lt_ok rfl) rfl rfl (Bin.lss (k := .i64) (a := (i : Int)) (b := (a.length : Int)))) ?_
   refine TL.nil ?_
   refine T.cond (b := decide ((i : Int) < (a.length : Int))) rfl (fun h2 => ?_) (fun h2 => ?_)
   ·
    replace h2 := of_decide_eq_true h2
    refine T.skip ?_
    refine T.seq ?_
    refine T.block ?_
    refine T.seq ?_
    refine T.region ?_
    refine TL.cons rfl (Step.move (p := (.one (.d (.bss a)))) rfl rfl (lt_ok rfl) rfl) ?_
    refine TL.cons rfl (Step.move (p := (.one (.d (.int .i64 (i : Int))))) rfl rfl (lt_ok rfl) rfl) ?_
    refine TL.cons rfl (Step.index (e := 22) (z := 1) (i := (i : Int)) rfl rfl (lt_ok rfl) (by kernel_rfl) rfl rfl rfl (lt_ok rfl) rfl (by first | omega | (simp; omega)) (by simp only [D.size]; first | omega | (simp; omega))) ?_
    refine TL.cons rfl (Step.load (e := (.ints .u8 (a.getD i []))) rfl rfl (lt_ok rfl) (by kernel_rfl) rfl rfl) ?_
    refine TL.cons rfl (Step.move (p := (.one (.d (.int .i64 l)))) rfl rfl (lt_ok rfl) rfl) ?_
    refine TL.cons rfl (Step.call (f := 76) (xs := [.tmp 21, .tmp 22]) (ps := [(.one (.d (.ints .u8 (a.getD i [])))), (.one (.d (.int .i64 l)))]) false (g := .func 76) rfl rfl (lt_ok rfl) rfl (by kernel_rfl) rfl (.cons (.one (.d _)) (.cons (.one (.d _)) .nil)) (ok_laws_szByteS (a.getD i []) l (by omega) (by omega)) (.inr rfl) rfl (by simp) rfl) ?_
    refine TL.cons rfl (Step.assign (p := (.one (.d (.int .i64 (szB (a.getD i []) l))))) rfl rfl (lt_ok rfl) rfl) ?_
    refine TL.nil ?_
    refine T.seq ?_
    refine T.region ?_
    refine TL.cons rfl (Step.move (p := (.one (.d (.int .i64 (szB (a.getD i []) l))))) rfl rfl (lt_ok rfl) rfl) ?_
    refine TL.cons rfl (Step.bin rfl rfl (lt_ok rfl) rfl rfl (Bin.lss (k := .i64) (a := (szB (a.getD i []) l)) (b := 0))) ?_
    refine TL.nil ?_
    refine T.cond (b := decide ((szB (a.getD i []) l) < 0)) rfl (fun h4 => ?_) (fun h4 => ?_)
    ·
     replace h4 := of_decide_eq_true h4
     refine T.seq ?_
     refine T.region ?_
     refine TL.cons rfl (Step.assign (p := (.one (.d (.int .i64 (-1))))) rfl rfl (lt_ok rfl) rfl) ?_
     refine TL.nil ?_
     refine T.ret ?_
     exact ⟨[(false, [.d (.int .i64 (-1))])], (.cons rfl .nil), rfl, [], (RetC.rd' (by (congr 1; first | (rw [← hx4, szL_drop (dflt := []) a i l (by omega), if_pos (by omega)]; done) | (rw [← hx4, List.drop_of_length_le (by omega)]; rfl) | (unfold szLs; rw [if_pos (by omega)]; done))) .nil)⟩
    ·
     replace h4 := of_decide_eq_false h4
     have z3_le : szB (a.getD i []) l ≤ l := szB_le _ (by omega)
     refine T.skip ?_
     refine T.region ?_
     refine TL.cons rfl (Step.move (p := (.one (.d (.int .i64 (i : Int))))) rfl rfl (lt_ok rfl) rfl) ?_
     refine TL.cons rfl (Step.bin (r := .int .i64 ((i : Int) + 1)) rfl rfl (lt_ok rfl) rfl rfl (Bin.add (a := (i : Int)) (b := 1) (by first | exact wrap_ok (by first | omega | (simp; omega)) (by first | omega | (simp; omega)) | rfl))) ?_
     refine TL.cons rfl (Step.assign (p := (.one (.d (.int .i64 ((i : Int) + 1))))) rfl rfl (lt_ok rfl) rfl) ?_
     refine TL.nil ?_
     exact ⟨(i + 1, (szB (a.getD i []) l)), by (refine ⟨by omega, by omega, by omega, ?_⟩; rw [← hx4, szL_drop (dflt := []) a i l (by omega), if_neg (by omega)]), by (dsimp only; omega), Env.le_mk ⟨rfl, by first | rfl | (simp; done) | (congr 3; omega), by first | rfl | (simp; done) | (congr 3; omega), trivial⟩ trivial trivial⟩
   ·
    replace h2 := of_decide_eq_false h2
    refine T.exit ?_
    refine T.seq ?_
    refine T.region ?_
    refine TL.cons rfl (Step.move (p := (.one (.d (.int .i64 l)))) rfl rfl (lt_ok rfl) rfl) ?_
    refine TL.cons rfl (Step.assign (p := (.one (.d (.int .i64 l)))) rfl rfl (lt_ok rfl) rfl) ?_
    refine TL.nil ?_
    refine T.ret ?_
    exact ⟨[(false, [.d (.int .i64 l)])], (.cons rfl .nil), rfl, [], (RetC.rd' (by (congr 1; first | (rw [← hx4, szL_drop (dflt := []) a i l (by omega), if_pos (by omega)]; done) | (rw [← hx4, List.drop_of_length_le (by omega)]; rfl) | (unfold szLs; rw [if_pos (by omega)]; done))) .nil)⟩
theorem ok_laws_szIncl (a : SIncl) (left : Int) (h0_ : 0 ≤ left) (h1_ : left ≤ 9223372036854775807) : RO Try.prog 53 [.agg a.cells, .one (.int .i64 left)] [(false, [.rd (.int .i64 (a.sz left))])] := by
 refine RO.intro Try.func53 rfl 18 rfl (le_ok rfl) fun w Z => ?_
 refine T.seq ?_
 refine T.region ?_
 refine TL.cons rfl (Step.box (p := (.agg [.d (.int .i64 a.f0), .d (.int .i64 a.f1), .d (.int .i64 a.f2), .d (.ints .u8 a.f3), .d (.bss a.f4)])) (ps := [.d (.int .i64 a.f0), .d (.int .i64 a.f1), .d (.int .i64 a.f2), .d (.ints .u8 a.f3), .d (.bss a.f4)]) rfl rfl (lt_ok rfl) rfl rfl rfl rfl rfl) ?_
 refine TL.cons rfl (Step.assign (p := (.one (.d (.int .i64 0)))) rfl rfl (lt_ok rfl) rfl) ?_
 refine TL.nil ?_
 refine T.seq ?_
 refine T.region ?_
 refine TL.cons rfl (Step.fieldAddr (q := 0) (off := 3) (n := 1) (one := true) rfl rfl (lt_ok rfl) (by kernel_rfl) (Nat.succ_ne_zero _) rfl) ?_
 refine TL.cons rfl (Step.load_box (c := .d (.ints .u8 a.f3)) rfl rfl (lt_ok rfl) (by kernel_rfl) rfl rfl rfl) ?_
 refine TL.cons rfl (Step.move (p := (.one (.d (.int .i64 left)))) rfl rfl (lt_ok rfl) rfl) ?_
 refine TL.cons rfl (Step.call (f := 76) (xs := [.tmp 6, .tmp 7]) (ps := [(.one (.d (.ints .u8 a.f3))), (.one (.d (.int .i64 left)))]) false (g := .func 76) rfl rfl (lt_ok rfl) rfl (by kernel_rfl) rfl (.cons (.one (.d _)) (.cons (.one (.d _)) .nil)) (ok_laws_szByteS a.f3 left (by omega) (by omega)) (.inr rfl) rfl (by simp) rfl) ?_
 refine TL.cons rfl (Step.assign (p := (.one (.d (.int .i64 (szB a.f3 left))))) rfl rfl (lt_ok rfl) rfl) ?_
 refine TL.nil ?_
 refine T.seq ?_
 refine T.seq ?_
 refine T.region ?_
 refine TL.cons rfl (Step.move (p := (.one (.d (.int .i64 (szB a.f3 left))))) rfl rfl (lt_ok rfl) rfl) ?_
 refine TL.cons rfl (Step.bin rfl rfl (lt_ok rfl) rfl rfl (Bin.lss (k := .i64) (a := (szB a.f3 left)) (b := 0))) ?_
 refine TL.nil ?_
 refine T.cond (b := decide ((szB a.f3 left) < 0)) rfl (fun h2 => ?_) (fun h2 => ?_)
 ·
  replace h2 := of_decide_eq_true h2
  refine T.seq ?_
  refine T.region ?_
  refine TL.cons rfl (Step.assign (p := (.one (.d (.int .i64 (-1))))) rfl rfl (lt_ok rfl) rfl) ?_
  refine TL.nil ?_
  refine T.ret ?_
  exact ⟨[(false, [.d (.int .i64 (-1))])], (.cons rfl .nil), rfl, [], (RetC.rd' (by first | rfl | (congr 1; simp only [SIncl.sz, szThen]; repeat' (split <;> try omega))) .nil)⟩
 ·
  replace h2 := of_decide_eq_false h2
  have z1_le : szB a.f3 left ≤ left := szB_le _ (by omega)
  refine T.skip ?_
  refine T.seq ?_
  refine T.region ?_
  refine TL.cons rfl (Step.fieldAddr (q := 0) (off := 4) (n := 1) (one := true) rfl rfl (lt_ok rfl) (by kernel_rfl) (Nat.succ_ne_zero _) rfl) ?_
  refine TL.cons rfl (Step.load_box (c := .d (.bss a.f4)) rfl rfl (lt_ok rfl) (by kernel_rfl) rfl rfl rfl) ?_
  refine TL.cons rfl (Step.move (p := (.one (.d (.int .i64 (szB a.f3 left))))) rfl rfl (lt_ok rfl) rfl) ?_
  refine TL.cons rfl (Step.call (f := 77) (xs := [.tmp 12, .tmp 13]) (ps := [(.one (.d (.bss a.f4))), (.one (.d (.int .i64 (szB a.f3 left))))]) false (g := .func 77) rfl rfl (lt_ok rfl) rfl (by kernel_rfl) rfl (.cons (.one (.d _)) (.cons (.one (.d _)) .nil)) (ok_laws_szByteSS a.f4 (szB a.f3 left) (by omega) (by omega)) (.inr rfl) rfl (by simp) rfl) ?_
  refine TL.cons rfl (Step.assign (p := (.one (.d (.int .i64 (szLs szB a.f4 (szB a.f3 left)))))) rfl rfl (lt_ok rfl) rfl) ?_
  refine TL.nil ?_
  refine T.seq ?_
  refine T.seq ?_
  refine T.region ?_
  refine TL.cons rfl (Step.move (p := (.one (.d (.int .i64 (szLs szB a.f4 (szB a.f3 left)))))) rfl rfl (lt_ok rfl) rfl) ?_
  refine TL.cons rfl (Step.bin rfl rfl (lt_ok rfl) rfl rfl (Bin.lss (k := .i64) (a := (szLs szB a.f4 (szB a.f3 left))) (b := 0))) ?_
  refine TL.nil ?_
  refine T.cond (b := decide ((szLs szB a.f4 (szB a.f3 left)) < 0)) rfl (fun h4 => ?_) (fun h4 => ?_)
  ·
   replace h4 := of_decide_eq_true h4
   refine T.seq ?_
   refine T.region ?_
   refine TL.cons rfl (Step.assign (p := (.one (.d (.int .i64 (-1))))) rfl rfl (lt_ok rfl) rfl) ?_
   refine TL.nil ?_
   refine T.ret ?_
   exact ⟨[(false, [.d (.int .i64 (-1))])], (.cons rfl .nil), rfl, [], (RetC.rd' (by first | rfl | (congr 1; simp only [SIncl.sz, szThen]; repeat' (split <;> try omega))) .nil)⟩
  ·
   replace h4 := of_decide_eq_false h4
   have z3_le : szLs szB a.f4 (szB a.f3 left) ≤ (szB a.f3 left) := szLs_le (fun x l h => szB_le x h) _ (by omega)
   refine T.skip ?_
   refine T.seq ?_
   refine T.region ?_
   refine TL.cons rfl (Step.move (p := (.one (.d (.int .i64 (szLs szB a.f4 (szB a.f3 left)))))) rfl rfl (lt_ok rfl) rfl) ?_
   refine TL.cons rfl (Step.assign (p := (.one (.d (.int .i64 (szLs szB a.f4 (szB a.f3 left)))))) rfl rfl (lt_ok rfl) rfl) ?_
   refine TL.nil ?_
   refine T.ret ?_
   exact ⟨[(false, [.d (.int .i64 (szLs szB a.f4 (szB a.f3 left)))])], (.cons rfl .nil), rfl, [], (RetC.rd' (by first | rfl | (congr 1; simp only [SIncl.sz, szThen]; repeat' (split <;> try omega))) .nil)⟩
theorem ok_spec_l01Copy (a : List Int) (h0_ : a.length ≤ 17592186044416) : RO Try.prog 79 [.one (.ints .u8 a)] [(false, [.own 5 (.ints .u8 a)])] := by
 refine RO.intro Try.func79 rfl 6 rfl (le_ok rfl) fun w Z => ?_
 refine T.bnd 0 0 rfl rfl fun hb_0_0 => ?_
 simp only [D.size, List.length_map] at hb_0_0
 refine T.seq ?_
 refine T.region ?_
 refine TL.cons rfl (Step.assign (p := (.one (.nil))) rfl rfl (lt_ok rfl) rfl) ?_
 refine TL.nil ?_
 refine T.seq ?_
 refine T.region ?_
 refine TL.cons rfl (Step.lit (e := 5) (z := 1) (by_ := 1) (xs := []) (pss := []) (es := []) (ss := []) (d := (.ints .u8 [])) rfl rfl (lt_ok rfl) (by kernel_rfl) rfl rfl .nil (by simp) (le_ok rfl) (le_ok rfl) rfl .nil rfl (by simp) (by simp) rfl trivial rfl rfl) ?_
 refine TL.cons rfl (Step.move (p := (.one (.d (.ints .u8 a)))) rfl rfl (lt_ok rfl) rfl) ?_
 refine TL.cons rfl (Step.append (e := 5) (z := 1) (by_ := 1) (d := (.ints .u8 [])) (dy := (.ints .u8 a)) (d' := (.ints .u8 ([] ++ a))) (ss := []) rfl rfl (lt_ok rfl) (by kernel_rfl) rfl rfl rfl (lt_ok rfl) rfl (.froz rfl (by simp [D.flat, D.val])) (by simp) rfl (by simp only [D.size, List.length_map]; first | omega | (simp; omega) | (simp only [List.length_append] at *; omega)) (by simp only [D.size, List.length_map]; first | omega | (simp; omega) | (simp only [List.length_append] at *; omega)) (by simp)) ?_
 refine TL.cons rfl (Step.assign (p := (.one (.row 3 []))) rfl rfl (lt_ok rfl) rfl) ?_
 refine TL.nil ?_
 refine T.ret ?_
 exact ⟨[(false, [.row 3 []])], (.cons rfl .nil), rfl, [3], (RetC.own' rfl (by rfl) rfl .nil)⟩
theorem ok_spec_l01In (n : Int) (lo : Int) (hi : Int) : RO Try.prog 138 [.one (.int .i64 n), .one (.int .i64 lo), .one (.int .i64 hi)] [(false, [.rd (.bool (decide (lo ≤ n ∧ n ≤ hi)))])] := by
 refine RO.intro Try.func138 rfl 15 rfl (le_ok rfl) fun w Z => ?_
 refine T.seq ?_
 refine T.region ?_
 refine TL.cons rfl (Step.assign (p := (.one (.d (.bool false)))) rfl rfl (lt_ok rfl) rfl) ?_
 refine TL.nil ?_
 refine T.seq ?_
 refine T.region ?_
 refine TL.cons rfl (Step.move (p := (.one (.d (.int .i64 n)))) rfl rfl (lt_ok rfl) rfl) ?_
 refine TL.cons rfl (Step.move (p := (.one (.d (.int .i64 lo)))) rfl rfl (lt_ok rfl) rfl) ?_
 refine TL.cons rfl (Step.bin rfl rfl (lt_ok rfl) rfl rfl (Bin.geq (k := .i64) (a := n) (b := lo))) ?_
 refine TL.cons rfl (Step.move (p := (.one (.d (.bool (decide (lo ≤ n)))))) rfl rfl (lt_ok rfl) rfl) ?_
 rcases Bool.eq_false_or_eq_true (decide (lo ≤ n)) with hb1 | hb1
 ·
  refine TL.known 10 hb1 rfl ?_
  refine TL.gyes 10 rfl rfl (lt_ok rfl) rfl (Step.move (p := (.one (.d (.int .i64 n)))) rfl rfl (lt_ok rfl) rfl) ?_
  refine TL.gyes 10 rfl rfl (lt_ok rfl) rfl (Step.move (p := (.one (.d (.int .i64 hi)))) rfl rfl (lt_ok rfl) rfl) ?_
  refine TL.gyes 10 rfl rfl (lt_ok rfl) rfl (Step.bin rfl rfl (lt_ok rfl) rfl rfl (Bin.leq (k := .i64) (a := n) (b := hi))) ?_
  refine TL.cons rfl (Step.pick (b := true) (p := (.one (.d (.bool (decide (n ≤ hi)))))) rfl rfl (lt_ok rfl) rfl rfl) ?_
  refine TL.cons rfl (Step.assign (p := (.one (.d (.bool (decide (n ≤ hi)))))) rfl rfl (lt_ok rfl) rfl) ?_
  refine TL.nil ?_
  refine T.ret ?_
  exact ⟨[(false, [.d (.bool (decide (n ≤ hi)))])], (.cons rfl .nil), rfl, [], (RetC.rd' (by first | (congr 1; simp_all; done) | (congr 1; simp_all; omega)) .nil)⟩
 ·
  refine TL.known 10 hb1 rfl ?_
  refine TL.gno 10 rfl rfl (lt_ok rfl) rfl rfl rfl (lt_ok rfl) ?_
  refine TL.gno 10 rfl rfl (lt_ok rfl) rfl rfl rfl (lt_ok rfl) ?_
  refine TL.gno 10 rfl rfl (lt_ok rfl) rfl rfl rfl (lt_ok rfl) ?_
  refine TL.cons rfl (Step.pick (b := false) (p := (.one (.d (.bool false)))) rfl rfl (lt_ok rfl) rfl rfl) ?_
  refine TL.cons rfl (Step.assign (p := (.one (.d (.bool false)))) rfl rfl (lt_ok rfl) rfl) ?_
  refine TL.nil ?_
  refine T.ret ?_
  exact ⟨[(false, [.d (.bool false)])], (.cons rfl .nil), rfl, [], (RetC.rd' (by first | (congr 1; simp_all; done) | (congr 1; simp_all; omega)) .nil)⟩
theorem ok_spec_l01Num (n : Int) : RO Try.prog 137 [.one (.int .i64 n)] [(false, [.rd (.bool (decide (0 ≤ n ∧ n ≤ 1152921504606846975)))])] := by
 refine RO.intro Try.func137 rfl 5 rfl (le_ok rfl) fun w Z => ?_
 refine T.seq ?_
 refine T.region ?_
 refine TL.cons rfl (Step.assign (p := (.one (.d (.bool false)))) rfl rfl (lt_ok rfl) rfl) ?_
 refine TL.nil ?_
 refine T.seq ?_
 refine T.region ?_
 refine TL.cons rfl (Step.move (p := (.one (.d (.int .i64 n)))) rfl rfl (lt_ok rfl) rfl) ?_
 refine TL.cons rfl (Step.call (f := 138) (xs := [.tmp 3, .const (.int .i64 0), .const (.int .i64 1152921504606846975)]) (ps := [(.one (.d (.int .i64 n))), (.one (.d (.int .i64 0))), (.one (.d (.int .i64 1152921504606846975)))]) false (g := .func 138) rfl rfl (lt_ok rfl) rfl (by kernel_rfl) rfl (.cons (.one (.d _)) (.cons (.one (.d _)) (.cons (.one (.d _)) .nil))) (ok_spec_l01In n 0 1152921504606846975) (.inr rfl) rfl (by simp) rfl) ?_
 refine TL.cons rfl (Step.assign (p := (.one (.d (.bool (decide (0 ≤ n ∧ n ≤ 1152921504606846975)))))) rfl rfl (lt_ok rfl) rfl) ?_
 refine TL.nil ?_
 refine T.ret ?_
 exact ⟨[(false, [.d (.bool (decide (0 ≤ n ∧ n ≤ 1152921504606846975)))])], (.cons rfl .nil), rfl, [], (RetC.rd' (by rfl) .nil)⟩
theorem ok_spec_PutVar (b : List Int) (n : Int) (h0_ : b.length ≤ 17592186044416) : RO Try.prog 159 [.one (.ints .u8 b), .one (.int .i64 n)] [(false, [.own 5 (.ints .u8 (putVar b n))]), (false, [.rd (.bool (decide (0 ≤ n ∧ n ≤ 1152921504606846975)))])] := by
 refine RO.intro Try.func159 rfl 28 rfl (le_ok rfl) fun w Z => ?_
 refine T.bnd 0 0 rfl rfl fun hb_0_0 => ?_
 simp only [D.size, List.length_map] at hb_0_0
 refine T.seq ?_
 refine T.region ?_
 refine TL.cons rfl (Step.assign (p := (.one (.nil))) rfl rfl (lt_ok rfl) rfl) ?_
 refine TL.cons rfl (Step.assign (p := (.one (.d (.bool false)))) rfl rfl (lt_ok rfl) rfl) ?_
 refine TL.nil ?_
 refine T.seq ?_
 refine T.seq ?_
 refine T.region ?_
 refine TL.cons rfl (Step.move (p := (.one (.d (.int .i64 n)))) rfl rfl (lt_ok rfl) rfl) ?_
 refine TL.cons rfl (Step.call (f := 137) (xs := [.tmp 7]) (ps := [(.one (.d (.int .i64 n)))]) false (g := .func 137) rfl rfl (lt_ok rfl) rfl (by kernel_rfl) rfl (.cons (.one (.d _)) .nil) (ok_spec_l01Num n) (.inr rfl) rfl (by simp) rfl) ?_
 refine TL.cons rfl (Step.not (b := (decide (0 ≤ n ∧ n ≤ 1152921504606846975))) rfl rfl (lt_ok rfl) rfl) ?_
 refine TL.nil ?_
 refine T.cond (b := !(decide (0 ≤ n ∧ n ≤ 1152921504606846975))) rfl (fun h1 => ?_) (fun h1 => ?_)
 ·
  replace h1 : (decide (0 ≤ n ∧ n ≤ 1152921504606846975)) = false := by simpa only [Bool.not_eq_true', Bool.not_eq_false'] using h1
  replace h1 := of_decide_eq_false h1
  refine T.seq ?_
  refine T.region ?_
  refine TL.cons rfl (Step.assign (p := (.one (.nil))) rfl rfl (lt_ok rfl) rfl) ?_
  refine TL.cons rfl (Step.assign (p := (.one (.d (.bool false)))) rfl rfl (lt_ok rfl) rfl) ?_
  refine TL.nil ?_
  refine T.ret ?_
  exact ⟨[(false, [.nil]), (false, [.d (.bool false)])], (.cons rfl (.cons rfl .nil)), rfl, [], (RetC.nilown' rfl (by first | rfl | (congr 1; unfold putVar; rw [if_pos (decide_eq_true (by assumption))]; rw [← hx3, varW_last (n := m) (by omega)]; done) | (show (putVar b n).length = 0; rw [putVar, if_neg (by rw [decide_eq_true_eq]; assumption)]; rfl) | (congr 1; symm; first | exact decide_eq_true ‹_› | exact decide_eq_false ‹_›)) (by first | exact trivial | exact D.wf_nil _) (RetC.rd' (by first | rfl | (congr 1; unfold putVar; rw [if_pos (decide_eq_true (by assumption))]; rw [← hx3, varW_last (n := m) (by omega)]; done) | (show (putVar b n).length = 0; rw [putVar, if_neg (by rw [decide_eq_true_eq]; assumption)]; rfl) | (congr 1; symm; first | exact decide_eq_true ‹_› | exact decide_eq_false ‹_›)) .nil))⟩
 ·
  replace h1 : (decide (0 ≤ n ∧ n ≤ 1152921504606846975)) = true := by simpa only [Bool.not_eq_true', Bool.not_eq_false'] using h1
  replace h1 := of_decide_eq_true h1
  refine T.skip ?_
  refine T.seq ?_
  refine T.region ?_
  refine TL.cons rfl (Step.move (p := (.one (.d (.ints .u8 b)))) rfl rfl (lt_ok rfl) rfl) ?_
  refine TL.cons rfl (Step.call (f := 79) (xs := [.tmp 10]) (ps := [(.one (.d (.ints .u8 b)))]) false (g := .func 79) rfl rfl (lt_ok rfl) rfl (by kernel_rfl) rfl (.cons (.one (.d _)) .nil) (ok_spec_l01Copy b (by first | omega | assumption)) (.inr rfl) rfl (by simp) rfl) ?_
  refine TL.cons rfl (Step.assign (p := (.one (.row 1011 []))) rfl rfl (lt_ok rfl) rfl) ?_
  refine TL.nil ?_
  refine T.seq ?_
  refine T.block ?_
  refine T.loop (ι := (List Int) × Int) (fun xx_ => { tm := [(4, (.one (.nil))), (5, (.one (.d (.bool false)))), (1, (.one (.d (.int .i64 (xx_.2))))), (6, (.one (.row 1011 [])))], rows := [(1011, (5, (.ints .u8 (xx_.1))))], boxes := [] }) (fun xx_ => 0 ≤ (xx_.2) ∧ (xx_.2) ≤ 1152921504606846975 ∧ (xx_.1) ++ varW (xx_.2) = b ++ varW n ∧ (xx_.1).length ≤ b.length + 9) (fun xx_ => (xx_.2).toNat) (b, n) ?_ ?_ ?_
  · exact Env.le_mk ⟨rfl, rfl, by first | rfl | (refine congrArg (fun x => some (_, D.ints .u8 x)) ?_; rfl), rfl, trivial⟩ ⟨by first | rfl | (refine congrArg (fun x => some (_, D.ints .u8 x)) ?_; rfl), trivial⟩ trivial
  · (dsimp only; refine ⟨by omega, by omega, rfl, by omega⟩)
  ·
   intro xx_ hx
   obtain ⟨o, m⟩ := xx_
   try dsimp only at hx ⊢
   obtain ⟨hx1, hx2, hx3, hx4⟩ := hx
   refine T.seq ?_
   refine T.seq ?_
   refine T.region ?_
   refine TL.cons rfl (Step.move (p := (.one (.d (.int .i64 m)))) rfl rfl (lt_ok rfl) rfl) ?_
   refine TL.cons rfl (Step.bin rfl rfl (lt_ok rfl) rfl rfl (Bin.gtr (k := .i64) (a := m) (b := 127))) ?_
   refine TL.nil ?_
   refine T.cond (b := decide (127 < m)) rfl (fun h2 => ?_) (fun h2 => ?_)
   ·
    replace h2 := of_decide_eq_true h2
    refine T.skip ?_
    refine T.block ?_
    refine T.seq ?_
    refine T.region ?_
    refine TL.cons rfl (Step.move (p := (.one (.row 1011 []))) rfl rfl (lt_ok rfl) rfl) ?_
    refine TL.cons rfl (Step.move (p := (.one (.d (.int .i64 m)))) rfl rfl (lt_ok rfl) rfl) ?_
    refine TL.cons rfl (Step.bin (r := .int .i64 (m % 128)) rfl rfl (lt_ok rfl) rfl rfl (Bin.rem (k := .i64) (a := m) (b := 128) (by decide) (Int.tmod_eq_emod_of_nonneg (by first | omega | (simp; omega))))) ?_
    refine TL.cons rfl (Step.bin (r := .int .i64 (128 + (m % 128))) rfl rfl (lt_ok rfl) rfl rfl (Bin.add (a := 128) (b := (m % 128)) (by first | exact wrap_ok (by first | omega | (simp; omega)) (by first | omega | (simp; omega)) | rfl))) ?_
    refine TL.cons rfl (Step.conv (c := (128 + (m % 128))) rfl rfl (lt_ok rfl) (by kernel_rfl) (by kernel_rfl) rfl (wrap_u8 (by first | omega | (simp; omega)) (by first | omega | (simp; omega)))) ?_
    refine TL.cons rfl (Step.lit (e := 5) (z := 1) (by_ := 1) (xs := [.tmp 18]) (pss := [[.d (.int .u8 (128 + (m % 128)))]]) (es := [(.int .u8 (128 + (m % 128)))]) (ss := []) (d := (.ints .u8 [128 + (m % 128)])) rfl rfl (lt_ok rfl) (by kernel_rfl) rfl rfl (.cons rfl .nil) (by simp) (le_ok rfl) (le_ok rfl) rfl (.val rfl .nil) rfl (by simp) (by simp) rfl trivial rfl rfl) ?_
    refine TL.cons rfl (Step.append (e := 5) (z := 1) (by_ := 1) (d := (.ints .u8 o)) (dy := (.ints .u8 [128 + (m % 128)])) (d' := (.ints .u8 (o ++ [128 + (m % 128)]))) (ss := []) rfl rfl (lt_ok rfl) (by kernel_rfl) rfl rfl rfl (lt_ok rfl) rfl (.copy rfl rfl rfl (by simp [D.flat, D.val])) (by simp) rfl (by simp only [D.size, List.length_map]; first | omega | (simp; omega) | (simp only [List.length_append] at *; omega)) (by simp only [D.size, List.length_map]; first | omega | (simp; omega) | (simp only [List.length_append] at *; omega)) (by simp)) ?_
    refine TL.cons rfl (Step.assign (p := (.one (.row 1011 []))) rfl rfl (lt_ok rfl) rfl) ?_
    refine TL.nil ?_
    refine T.region ?_
    refine TL.cons rfl (Step.move (p := (.one (.d (.int .i64 m)))) rfl rfl (lt_ok rfl) rfl) ?_
    refine TL.cons rfl (Step.bin (r := .int .i64 (m / 128)) rfl rfl (lt_ok rfl) rfl rfl (Bin.quo (k := .i64) (a := m) (b := 128) (by decide) (by rw [Int.tdiv_eq_ediv_of_nonneg (by first | omega | (simp; omega))]; exact wrap_ok (by first | omega | (simp; omega)) (by first | omega | (simp; omega))))) ?_
    refine TL.cons rfl (Step.assign (p := (.one (.d (.int .i64 (m / 128))))) rfl rfl (lt_ok rfl) rfl) ?_
    refine TL.nil ?_
    exact ⟨(o ++ [128 + (m % 128)], m / 128), by (refine ⟨by omega, by omega, by rw [← hx3, varW_next (n := m) (by omega)]; simp [Int.add_comm], ?_⟩; have e_ := congrArg List.length hx3; rw [varW_next (n := m) (by omega)] at e_; have := varW_len9 (n := n) (by omega); simp only [List.length_append, List.length_cons, List.length_nil] at e_ ⊢; omega), by (dsimp only; omega), Env.le_mk ⟨rfl, rfl, by first | rfl | (refine congrArg (fun x => some (_, D.ints .u8 x)) ?_; rfl), rfl, trivial⟩ ⟨by first | rfl | (refine congrArg (fun x => some (_, D.ints .u8 x)) ?_; rfl), trivial⟩ trivial⟩
   ·
    replace h2 := of_decide_eq_false h2
    refine T.exit ?_
    refine T.seq ?_
    refine T.region ?_
    refine TL.cons rfl (Step.move (p := (.one (.row 1011 []))) rfl rfl (lt_ok rfl) rfl) ?_
    refine TL.cons rfl (Step.move (p := (.one (.d (.int .i64 m)))) rfl rfl (lt_ok rfl) rfl) ?_
    refine TL.cons rfl (Step.conv (c := m) rfl rfl (lt_ok rfl) (by kernel_rfl) (by kernel_rfl) rfl (wrap_u8 (by first | omega | (simp; omega)) (by first | omega | (simp; omega)))) ?_
    refine TL.cons rfl (Step.lit (e := 5) (z := 1) (by_ := 1) (xs := [.tmp 25]) (pss := [[.d (.int .u8 m)]]) (es := [(.int .u8 m)]) (ss := []) (d := (.ints .u8 [m])) rfl rfl (lt_ok rfl) (by kernel_rfl) rfl rfl (.cons rfl .nil) (by simp) (le_ok rfl) (le_ok rfl) rfl (.val rfl .nil) rfl (by simp) (by simp) rfl trivial rfl rfl) ?_
    refine TL.cons rfl (Step.append (e := 5) (z := 1) (by_ := 1) (d := (.ints .u8 o)) (dy := (.ints .u8 [m])) (d' := (.ints .u8 (o ++ [m]))) (ss := []) rfl rfl (lt_ok rfl) (by kernel_rfl) rfl rfl rfl (lt_ok rfl) rfl (.copy rfl rfl rfl (by simp [D.flat, D.val])) (by simp) rfl (by simp only [D.size, List.length_map]; first | omega | (simp; omega) | (simp only [List.length_append] at *; omega)) (by simp only [D.size, List.length_map]; first | omega | (simp; omega) | (simp only [List.length_append] at *; omega)) (by simp)) ?_
    refine TL.cons rfl (Step.assign (p := (.one (.row 1011 []))) rfl rfl (lt_ok rfl) rfl) ?_
    refine TL.cons rfl (Step.assign (p := (.one (.d (.bool true)))) rfl rfl (lt_ok rfl) rfl) ?_
    refine TL.nil ?_
    refine T.ret ?_
    exact ⟨[(false, [.row 1011 []]), (false, [.d (.bool true)])], (.cons rfl (.cons rfl .nil)), rfl, [1011], (RetC.own' rfl (by first | rfl | (congr 1; unfold putVar; rw [if_pos (decide_eq_true (by assumption))]; rw [← hx3, varW_last (n := m) (by omega)]; done) | (show (putVar b n).length = 0; rw [putVar, if_neg (by rw [decide_eq_true_eq]; assumption)]; rfl) | (congr 1; symm; first | exact decide_eq_true ‹_› | exact decide_eq_false ‹_›)) rfl (RetC.rd' (by first | rfl | (congr 1; unfold putVar; rw [if_pos (decide_eq_true (by assumption))]; rw [← hx3, varW_last (n := m) (by omega)]; done) | (show (putVar b n).length = 0; rw [putVar, if_neg (by rw [decide_eq_true_eq]; assumption)]; rfl) | (congr 1; symm; first | exact decide_eq_true ‹_› | exact decide_eq_false ‹_›)) .nil))⟩
theorem ok_spec_l11Num (b : List Int) (n : Int) (h0_ : b.length ≤ 17592186044416) : RO Try.prog 108 [.one (.ints .u8 b), .one (.int .i64 n)] [(false, [.own 5 (.ints .u8 (putVar b n))])] := by
 refine RO.intro Try.func108 rfl 14 rfl (le_ok rfl) fun w Z => ?_
 refine T.bnd 0 0 rfl rfl fun hb_0_0 => ?_
 simp only [D.size, List.length_map] at hb_0_0
 refine T.seq ?_
 refine T.region ?_
 refine TL.cons rfl (Step.assign (p := (.one (.nil))) rfl rfl (lt_ok rfl) rfl) ?_
 refine TL.nil ?_
 refine T.seq ?_
 refine T.region ?_
 refine TL.cons rfl (Step.move (p := (.one (.d (.ints .u8 b)))) rfl rfl (lt_ok rfl) rfl) ?_
 refine TL.cons rfl (Step.move (p := (.one (.d (.int .i64 n)))) rfl rfl (lt_ok rfl) rfl) ?_
 have nn1 := putVar_len b n
 refine TL.cons rfl (Step.call (f := 159) (xs := [.tmp 8, .tmp 9]) (ps := [(.one (.d (.ints .u8 b))), (.one (.d (.int .i64 n)))]) false (g := .func 159) rfl rfl (lt_ok rfl) rfl (by kernel_rfl) rfl (.cons (.one (.d _)) (.cons (.one (.d _)) .nil)) (ok_spec_PutVar b n (by first | omega | assumption | (simp only [List.length_append] at *; omega))) (.inr rfl) rfl (by simp) rfl) ?_
 refine TL.cons rfl (Step.move (p := (.tup [(false, [.row 1010 []]), (false, [.d (.bool (decide (0 ≤ n ∧ n ≤ 1152921504606846975)))])])) rfl rfl (lt_ok rfl) rfl) ?_
 refine TL.cons rfl (Step.extract (p := (.one (.row 1010 []))) rfl rfl (lt_ok rfl) rfl rfl) ?_
 refine TL.cons rfl (Step.extract (p := (.one (.d (.bool (decide (0 ≤ n ∧ n ≤ 1152921504606846975)))))) rfl rfl (lt_ok rfl) rfl rfl) ?_
 refine TL.cons rfl (Step.assign (p := (.one (.row 1010 []))) rfl rfl (lt_ok rfl) rfl) ?_
 refine TL.cons rfl (Step.assign (p := (.one (.d (.bool (decide (0 ≤ n ∧ n ≤ 1152921504606846975)))))) rfl rfl (lt_ok rfl) rfl) ?_
 refine TL.nil ?_
 refine T.seq ?_
 refine T.region ?_
 refine TL.cons rfl (Step.move (p := (.one (.row 1010 []))) rfl rfl (lt_ok rfl) rfl) ?_
 refine TL.cons rfl (Step.assign (p := (.one (.row 1010 []))) rfl rfl (lt_ok rfl) rfl) ?_
 refine TL.nil ?_
 refine T.ret ?_
 exact ⟨[(false, [.row 1010 []])], (.cons rfl .nil), rfl, [1010], (RetC.own' rfl (by rfl) rfl .nil)⟩
theorem ok_spec_l02Signers (n : Int) : RO Try.prog 141 [.one (.int .i64 n)] [(false, [.rd (.bool (decide (1 ≤ n ∧ n ≤ 10)))])] := by
 refine RO.intro Try.func141 rfl 5 rfl (le_ok rfl) fun w Z => ?_
 refine T.seq ?_
 refine T.region ?_
 refine TL.cons rfl (Step.assign (p := (.one (.d (.bool false)))) rfl rfl (lt_ok rfl) rfl) ?_
 refine TL.nil ?_
 refine T.seq ?_
 refine T.region ?_
 refine TL.cons rfl (Step.move (p := (.one (.d (.int .i64 n)))) rfl rfl (lt_ok rfl) rfl) ?_
 refine TL.cons rfl (Step.call (f := 138) (xs := [.tmp 3, .const (.int .i64 1), .const (.int .i64 10)]) (ps := [(.one (.d (.int .i64 n))), (.one (.d (.int .i64 1))), (.one (.d (.int .i64 10)))]) false (g := .func 138) rfl rfl (lt_ok rfl) rfl (by kernel_rfl) rfl (.cons (.one (.d _)) (.cons (.one (.d _)) (.cons (.one (.d _)) .nil))) (ok_spec_l01In n 1 10) (.inr rfl) rfl (by simp) rfl) ?_
 refine TL.cons rfl (Step.assign (p := (.one (.d (.bool (decide (1 ≤ n ∧ n ≤ 10)))))) rfl rfl (lt_ok rfl) rfl) ?_
 refine TL.nil ?_
 refine T.ret ?_
 exact ⟨[(false, [.d (.bool (decide (1 ≤ n ∧ n ≤ 10)))])], (.cons rfl .nil), rfl, [], (RetC.rd' (by rfl) .nil)⟩
theorem ok_spec_LimitsOk (l : SLimits) : RO Try.prog 94 [.agg l.cells] [(false, [.rd (.bool (limOk l))])] := by
 refine RO.intro Try.func94 rfl 26 rfl (le_ok rfl) fun w Z => ?_
 refine T.seq ?_
 refine T.region ?_
 refine TL.cons rfl (Step.box (p := (.agg [.d (.int .i64 l.f0), .d (.int .i64 l.f1), .d (.int .i64 l.f2), .d (.int .i64 l.f3), .d (.int .i64 l.f4)])) (ps := [.d (.int .i64 l.f0), .d (.int .i64 l.f1), .d (.int .i64 l.f2), .d (.int .i64 l.f3), .d (.int .i64 l.f4)]) rfl rfl (lt_ok rfl) rfl rfl rfl rfl rfl) ?_
 refine TL.cons rfl (Step.assign (p := (.one (.d (.bool false)))) rfl rfl (lt_ok rfl) rfl) ?_
 refine TL.nil ?_
 refine T.seq ?_
 refine T.region ?_
 refine TL.cons rfl (Step.fieldAddr (q := 0) (off := 0) (n := 1) (one := true) rfl rfl (lt_ok rfl) (by kernel_rfl) (Nat.succ_ne_zero _) rfl) ?_
 refine TL.cons rfl (Step.load_box (c := .d (.int .i64 l.f0)) rfl rfl (lt_ok rfl) (by kernel_rfl) rfl rfl rfl) ?_
 refine TL.cons rfl (Step.call (f := 141) (xs := [.tmp 4]) (ps := [(.one (.d (.int .i64 l.f0)))]) false (g := .func 141) rfl rfl (lt_ok rfl) rfl (by kernel_rfl) rfl (.cons (.one (.d _)) .nil) (ok_spec_l02Signers l.f0) (.inr rfl) rfl (by simp) rfl) ?_
 refine TL.cons rfl (Step.move (p := (.one (.d (.bool (decide (1 ≤ l.f0 ∧ l.f0 ≤ 10)))))) rfl rfl (lt_ok rfl) rfl) ?_
 rcases Bool.eq_false_or_eq_true (decide (1 ≤ l.f0 ∧ l.f0 ≤ 10)) with hb1 | hb1
 ·
  refine TL.known 6 hb1 rfl ?_
  refine TL.gyes 6 rfl rfl (lt_ok rfl) rfl (Step.fieldAddr (q := 0) (off := 1) (n := 1) (one := true) rfl rfl (lt_ok rfl) (by kernel_rfl) (Nat.succ_ne_zero _) rfl) ?_
  refine TL.gyes 6 rfl rfl (lt_ok rfl) rfl (Step.load_box (c := .d (.int .i64 l.f1)) rfl rfl (lt_ok rfl) (by kernel_rfl) rfl rfl rfl) ?_
  refine TL.gyes 6 rfl rfl (lt_ok rfl) rfl (Step.call (f := 138) (xs := [.tmp 8, .const (.int .i64 0), .const (.int .i64 40)]) (ps := [(.one (.d (.int .i64 l.f1))), (.one (.d (.int .i64 0))), (.one (.d (.int .i64 40)))]) false (g := .func 138) rfl rfl (lt_ok rfl) rfl (by kernel_rfl) rfl (.cons (.one (.d _)) (.cons (.one (.d _)) (.cons (.one (.d _)) .nil))) (ok_spec_l01In l.f1 0 40) (.inr rfl) rfl (by simp) rfl) ?_
  refine TL.cons rfl (Step.pick (b := true) (p := (.one (.d (.bool (decide (0 ≤ l.f1 ∧ l.f1 ≤ 40)))))) rfl rfl (lt_ok rfl) rfl rfl) ?_
  refine TL.cons rfl (Step.move (p := (.one (.d (.bool (decide (0 ≤ l.f1 ∧ l.f1 ≤ 40)))))) rfl rfl (lt_ok rfl) rfl) ?_
  rcases Bool.eq_false_or_eq_true (decide (0 ≤ l.f1 ∧ l.f1 ≤ 40)) with hb2 | hb2
  ·
   refine TL.known 11 hb2 rfl ?_
   refine TL.gyes 11 rfl rfl (lt_ok rfl) rfl (Step.fieldAddr (q := 0) (off := 2) (n := 1) (one := true) rfl rfl (lt_ok rfl) (by kernel_rfl) (Nat.succ_ne_zero _) rfl) ?_
   refine TL.gyes 11 rfl rfl (lt_ok rfl) rfl (Step.load_box (c := .d (.int .i64 l.f2)) rfl rfl (lt_ok rfl) (by kernel_rfl) rfl rfl rfl) ?_
   refine TL.gyes 11 rfl rfl (lt_ok rfl) rfl (Step.call (f := 138) (xs := [.tmp 13, .const (.int .i64 0), .const (.int .i64 8)]) (ps := [(.one (.d (.int .i64 l.f2))), (.one (.d (.int .i64 0))), (.one (.d (.int .i64 8)))]) false (g := .func 138) rfl rfl (lt_ok rfl) rfl (by kernel_rfl) rfl (.cons (.one (.d _)) (.cons (.one (.d _)) (.cons (.one (.d _)) .nil))) (ok_spec_l01In l.f2 0 8) (.inr rfl) rfl (by simp) rfl) ?_
   refine TL.cons rfl (Step.pick (b := true) (p := (.one (.d (.bool (decide (0 ≤ l.f2 ∧ l.f2 ≤ 8)))))) rfl rfl (lt_ok rfl) rfl rfl) ?_
   refine TL.cons rfl (Step.move (p := (.one (.d (.bool (decide (0 ≤ l.f2 ∧ l.f2 ≤ 8)))))) rfl rfl (lt_ok rfl) rfl) ?_
   rcases Bool.eq_false_or_eq_true (decide (0 ≤ l.f2 ∧ l.f2 ≤ 8)) with hb3 | hb3
   ·
    refine TL.known 16 hb3 rfl ?_
    refine TL.gyes 16 rfl rfl (lt_ok rfl) rfl (Step.fieldAddr (q := 0) (off := 3) (n := 1) (one := true) rfl rfl (lt_ok rfl) (by kernel_rfl) (Nat.succ_ne_zero _) rfl) ?_
    refine TL.gyes 16 rfl rfl (lt_ok rfl) rfl (Step.load_box (c := .d (.int .i64 l.f3)) rfl rfl (lt_ok rfl) (by kernel_rfl) rfl rfl rfl) ?_
    refine TL.gyes 16 rfl rfl (lt_ok rfl) rfl (Step.call (f := 138) (xs := [.tmp 18, .const (.int .i64 1), .const (.int .i64 4000)]) (ps := [(.one (.d (.int .i64 l.f3))), (.one (.d (.int .i64 1))), (.one (.d (.int .i64 4000)))]) false (g := .func 138) rfl rfl (lt_ok rfl) rfl (by kernel_rfl) rfl (.cons (.one (.d _)) (.cons (.one (.d _)) (.cons (.one (.d _)) .nil))) (ok_spec_l01In l.f3 1 4000) (.inr rfl) rfl (by simp) rfl) ?_
    refine TL.cons rfl (Step.pick (b := true) (p := (.one (.d (.bool (decide (1 ≤ l.f3 ∧ l.f3 ≤ 4000)))))) rfl rfl (lt_ok rfl) rfl rfl) ?_
    refine TL.cons rfl (Step.move (p := (.one (.d (.bool (decide (1 ≤ l.f3 ∧ l.f3 ≤ 4000)))))) rfl rfl (lt_ok rfl) rfl) ?_
    rcases Bool.eq_false_or_eq_true (decide (1 ≤ l.f3 ∧ l.f3 ≤ 4000)) with hb4 | hb4
    ·
     refine TL.known 21 hb4 rfl ?_
     refine TL.gyes 21 rfl rfl (lt_ok rfl) rfl (Step.fieldAddr (q := 0) (off := 4) (n := 1) (one := true) rfl rfl (lt_ok rfl) (by kernel_rfl) (Nat.succ_ne_zero _) rfl) ?_
     refine TL.gyes 21 rfl rfl (lt_ok rfl) rfl (Step.load_box (c := .d (.int .i64 l.f4)) rfl rfl (lt_ok rfl) (by kernel_rfl) rfl rfl rfl) ?_
     refine TL.gyes 21 rfl rfl (lt_ok rfl) rfl (Step.call (f := 138) (xs := [.tmp 23, .const (.int .i64 3), .const (.int .i64 5)]) (ps := [(.one (.d (.int .i64 l.f4))), (.one (.d (.int .i64 3))), (.one (.d (.int .i64 5)))]) false (g := .func 138) rfl rfl (lt_ok rfl) rfl (by kernel_rfl) rfl (.cons (.one (.d _)) (.cons (.one (.d _)) (.cons (.one (.d _)) .nil))) (ok_spec_l01In l.f4 3 5) (.inr rfl) rfl (by simp) rfl) ?_
     refine TL.cons rfl (Step.pick (b := true) (p := (.one (.d (.bool (decide (3 ≤ l.f4 ∧ l.f4 ≤ 5)))))) rfl rfl (lt_ok rfl) rfl rfl) ?_
     refine TL.cons rfl (Step.assign (p := (.one (.d (.bool (decide (3 ≤ l.f4 ∧ l.f4 ≤ 5)))))) rfl rfl (lt_ok rfl) rfl) ?_
     refine TL.nil ?_
     refine T.ret ?_
     exact ⟨[(false, [.d (.bool (decide (3 ≤ l.f4 ∧ l.f4 ≤ 5)))])], (.cons rfl .nil), rfl, [], (RetC.rd' (by first | rfl | (congr 1; symm; simp only [limOk, *, Bool.and_true, Bool.true_and, Bool.and_false, Bool.false_and, decide_true, decide_false, and_true, true_and, and_self, and_false, false_and, Bool.and_self, not_true, not_false, Bool.not_true, Bool.not_false, ge_iff_le, gt_iff_lt, if_true, if_false, Bool.false_eq_true, ite_true, ite_false, reduceIte]; done) | (congr 1; symm; simp_all [limOk]; done) | (congr 1; symm; simp_all [limOk]; omega)) .nil)⟩
    ·
     refine TL.known 21 hb4 rfl ?_
     refine TL.gno 21 rfl rfl (lt_ok rfl) rfl rfl rfl (lt_ok rfl) ?_
     refine TL.gno 21 rfl rfl (lt_ok rfl) rfl rfl rfl (lt_ok rfl) ?_
     refine TL.gno 21 rfl rfl (lt_ok rfl) rfl rfl rfl (lt_ok rfl) ?_
     refine TL.cons rfl (Step.pick (b := false) (p := (.one (.d (.bool false)))) rfl rfl (lt_ok rfl) rfl rfl) ?_
     refine TL.cons rfl (Step.assign (p := (.one (.d (.bool false)))) rfl rfl (lt_ok rfl) rfl) ?_
     refine TL.nil ?_
     refine T.ret ?_
     exact ⟨[(false, [.d (.bool false)])], (.cons rfl .nil), rfl, [], (RetC.rd' (by first | rfl | (congr 1; symm; simp only [limOk, *, Bool.and_true, Bool.true_and, Bool.and_false, Bool.false_and, decide_true, decide_false, and_true, true_and, and_self, and_false, false_and, Bool.and_self, not_true, not_false, Bool.not_true, Bool.not_false, ge_iff_le, gt_iff_lt, if_true, if_false, Bool.false_eq_true, ite_true, ite_false, reduceIte]; done) | (congr 1; symm; simp_all [limOk]; done) | (congr 1; symm; simp_all [limOk]; omega)) .nil)⟩
   ·
    refine TL.known 16 hb3 rfl ?_
    refine TL.gno 16 rfl rfl (lt_ok rfl) rfl rfl rfl (lt_ok rfl) ?_
    refine TL.gno 16 rfl rfl (lt_ok rfl) rfl rfl rfl (lt_ok rfl) ?_
    refine TL.gno 16 rfl rfl (lt_ok rfl) rfl rfl rfl (lt_ok rfl) ?_
    refine TL.cons rfl (Step.pick (b := false) (p := (.one (.d (.bool false)))) rfl rfl (lt_ok rfl) rfl rfl) ?_
    refine TL.cons rfl (Step.move (p := (.one (.d (.bool false)))) rfl rfl (lt_ok rfl) rfl) ?_
    refine TL.gno 21 rfl rfl (lt_ok rfl) rfl rfl rfl (lt_ok rfl) ?_
    refine TL.gno 21 rfl rfl (lt_ok rfl) rfl rfl rfl (lt_ok rfl) ?_
    refine TL.gno 21 rfl rfl (lt_ok rfl) rfl rfl rfl (lt_ok rfl) ?_
    refine TL.cons rfl (Step.pick (b := false) (p := (.one (.d (.bool false)))) rfl rfl (lt_ok rfl) rfl rfl) ?_
    refine TL.cons rfl (Step.assign (p := (.one (.d (.bool false)))) rfl rfl (lt_ok rfl) rfl) ?_
    refine TL.nil ?_
    refine T.ret ?_
    exact ⟨[(false, [.d (.bool false)])], (.cons rfl .nil), rfl, [], (RetC.rd' (by first | rfl | (congr 1; symm; simp only [limOk, *, Bool.and_true, Bool.true_and, Bool.and_false, Bool.false_and, decide_true, decide_false, and_true, true_and, and_self, and_false, false_and, Bool.and_self, not_true, not_false, Bool.not_true, Bool.not_false, ge_iff_le, gt_iff_lt, if_true, if_false, Bool.false_eq_true, ite_true, ite_false, reduceIte]; done) | (congr 1; symm; simp_all [limOk]; done) | (congr 1; symm; simp_all [limOk]; omega)) .nil)⟩
  ·
   refine TL.known 11 hb2 rfl ?_
   refine TL.gno 11 rfl rfl (lt_ok rfl) rfl rfl rfl (lt_ok rfl) ?_
   refine TL.gno 11 rfl rfl (lt_ok rfl) rfl rfl rfl (lt_ok rfl) ?_
   refine TL.gno 11 rfl rfl (lt_ok rfl) rfl rfl rfl (lt_ok rfl) ?_
   refine TL.cons rfl (Step.pick (b := false) (p := (.one (.d (.bool false)))) rfl rfl (lt_ok rfl) rfl rfl) ?_
   refine TL.cons rfl (Step.move (p := (.one (.d (.bool false)))) rfl rfl (lt_ok rfl) rfl) ?_
   refine TL.gno 16 rfl rfl (lt_ok rfl) rfl rfl rfl (lt_ok rfl) ?_
   refine TL.gno 16 rfl rfl (lt_ok rfl) rfl rfl rfl (lt_ok rfl) ?_
   refine TL.gno 16 rfl rfl (lt_ok rfl) rfl rfl rfl (lt_ok rfl) ?_
   refine TL.cons rfl (Step.pick (b := false) (p := (.one (.d (.bool false)))) rfl rfl (lt_ok rfl) rfl rfl) ?_
   refine TL.cons rfl (Step.move (p := (.one (.d (.bool false)))) rfl rfl (lt_ok rfl) rfl) ?_
   refine TL.gno 21 rfl rfl (lt_ok rfl) rfl rfl rfl (lt_ok rfl) ?_
   refine TL.gno 21 rfl rfl (lt_ok rfl) rfl rfl rfl (lt_ok rfl) ?_
   refine TL.gno 21 rfl rfl (lt_ok rfl) rfl rfl rfl (lt_ok rfl) ?_
   refine TL.cons rfl (Step.pick (b := false) (p := (.one (.d (.bool false)))) rfl rfl (lt_ok rfl) rfl rfl) ?_
   refine TL.cons rfl (Step.assign (p := (.one (.d (.bool false)))) rfl rfl (lt_ok rfl) rfl) ?_
   refine TL.nil ?_
   refine T.ret ?_
   exact ⟨[(false, [.d (.bool false)])], (.cons rfl .nil), rfl, [], (RetC.rd' (by first | rfl | (congr 1; symm; simp only [limOk, *, Bool.and_true, Bool.true_and, Bool.and_false, Bool.false_and, decide_true, decide_false, and_true, true_and, and_self, and_false, false_and, Bool.and_self, not_true, not_false, Bool.not_true, Bool.not_false, ge_iff_le, gt_iff_lt, if_true, if_false, Bool.false_eq_true, ite_true, ite_false, reduceIte]; done) | (congr 1; symm; simp_all [limOk]; done) | (congr 1; symm; simp_all [limOk]; omega)) .nil)⟩
 ·
  refine TL.known 6 hb1 rfl ?_
  refine TL.gno 6 rfl rfl (lt_ok rfl) rfl rfl rfl (lt_ok rfl) ?_
  refine TL.gno 6 rfl rfl (lt_ok rfl) rfl rfl rfl (lt_ok rfl) ?_
  refine TL.gno 6 rfl rfl (lt_ok rfl) rfl rfl rfl (lt_ok rfl) ?_
  refine TL.cons rfl (Step.pick (b := false) (p := (.one (.d (.bool false)))) rfl rfl (lt_ok rfl) rfl rfl) ?_
  refine TL.cons rfl (Step.move (p := (.one (.d (.bool false)))) rfl rfl (lt_ok rfl) rfl) ?_
  refine TL.gno 11 rfl rfl (lt_ok rfl) rfl rfl rfl (lt_ok rfl) ?_
  refine TL.gno 11 rfl rfl (lt_ok rfl) rfl rfl rfl (lt_ok rfl) ?_
  refine TL.gno 11 rfl rfl (lt_ok rfl) rfl rfl rfl (lt_ok rfl) ?_
  refine TL.cons rfl (Step.pick (b := false) (p := (.one (.d (.bool false)))) rfl rfl (lt_ok rfl) rfl rfl) ?_
  refine TL.cons rfl (Step.move (p := (.one (.d (.bool false)))) rfl rfl (lt_ok rfl) rfl) ?_
  refine TL.gno 16 rfl rfl (lt_ok rfl) rfl rfl rfl (lt_ok rfl) ?_
  refine TL.gno 16 rfl rfl (lt_ok rfl) rfl rfl rfl (lt_ok rfl) ?_
  refine TL.gno 16 rfl rfl (lt_ok rfl) rfl rfl rfl (lt_ok rfl) ?_
  refine TL.cons rfl (Step.pick (b := false) (p := (.one (.d (.bool false)))) rfl rfl (lt_ok rfl) rfl rfl) ?_
  refine TL.cons rfl (Step.move (p := (.one (.d (.bool false)))) rfl rfl (lt_ok rfl) rfl) ?_
  refine TL.gno 21 rfl rfl (lt_ok rfl) rfl rfl rfl (lt_ok rfl) ?_
  refine TL.gno 21 rfl rfl (lt_ok rfl) rfl rfl rfl (lt_ok rfl) ?_
  refine TL.gno 21 rfl rfl (lt_ok rfl) rfl rfl rfl (lt_ok rfl) ?_
  refine TL.cons rfl (Step.pick (b := false) (p := (.one (.d (.bool false)))) rfl rfl (lt_ok rfl) rfl rfl) ?_
  refine TL.cons rfl (Step.assign (p := (.one (.d (.bool false)))) rfl rfl (lt_ok rfl) rfl) ?_
  refine TL.nil ?_
  refine T.ret ?_
  exact ⟨[(false, [.d (.bool false)])], (.cons rfl .nil), rfl, [], (RetC.rd' (by first | rfl | (congr 1; symm; simp only [limOk, *, Bool.and_true, Bool.true_and, Bool.and_false, Bool.false_and, decide_true, decide_false, and_true, true_and, and_self, and_false, false_and, Bool.and_self, not_true, not_false, Bool.not_true, Bool.not_false, ge_iff_le, gt_iff_lt, if_true, if_false, Bool.false_eq_true, ite_true, ite_false, reduceIte]; done) | (congr 1; symm; simp_all [limOk]; done) | (congr 1; symm; simp_all [limOk]; omega)) .nil)⟩
theorem ok_spec_l07Hash (h : List Int) : RO Try.prog 139 [.one (.ints .u8 h)] [(false, [.rd (.bool (decide ((h.length : Int) = 32)))])] := by
 refine RO.intro Try.func139 rfl 6 rfl (le_ok rfl) fun w Z => ?_
 refine T.bnd 0 0 rfl rfl fun hb_0_0 => ?_
 simp only [D.size, List.length_map] at hb_0_0
 refine T.seq ?_
 refine T.region ?_
 refine TL.cons rfl (Step.assign (p := (.one (.d (.bool false)))) rfl rfl (lt_ok rfl) rfl) ?_
 refine TL.nil ?_
 refine T.seq ?_
 refine T.region ?_
 refine TL.cons rfl (Step.move (p := (.one (.d (.ints .u8 h)))) rfl rfl (lt_ok rfl) rfl) ?_
 refine TL.cons rfl (Step.len (e := 5) (z := 1) (d := (.ints .u8 h)) rfl rfl (lt_ok rfl) (by kernel_rfl) rfl rfl) ?_
 refine TL.cons rfl (Step.bin rfl rfl (lt_ok rfl) rfl rfl (Bin.eql (k := .i64) (a := (h.length : Int)) (b := 32))) ?_
 refine TL.cons rfl (Step.assign (p := (.one (.d (.bool (decide ((h.length : Int) = 32)))))) rfl rfl (lt_ok rfl) rfl) ?_
 refine TL.nil ?_
 refine T.ret ?_
 exact ⟨[(false, [.d (.bool (decide ((h.length : Int) = 32)))])], (.cons rfl .nil), rfl, [], (RetC.rd' (by rfl) .nil)⟩
theorem ok_spec_l08Hashes (l : List (List Int)) : RO Try.prog 152 [.one (.bss l)] [(false, [.rd (.bool (hashes l))])] := by
 refine RO.intro Try.func152 rfl 15 rfl (le_ok rfl) fun w Z => ?_
 refine T.bnd 0 0 rfl rfl fun hb_0_0 => ?_
 simp only [D.size, List.length_map] at hb_0_0
 refine T.seq ?_
 refine T.region ?_
 refine TL.cons rfl (Step.assign (p := (.one (.d (.bool false)))) rfl rfl (lt_ok rfl) rfl) ?_
 refine TL.nil ?_
 refine T.seq ?_
 refine T.seq ?_
 refine T.region ?_
 refine TL.cons rfl (Step.move (p := (.one (.d (.bss l)))) rfl rfl (lt_ok rfl) rfl) ?_
 refine TL.cons rfl (Step.len (e := 22) (z := 1) (d := (.bss l)) rfl rfl (lt_ok rfl) (by kernel_rfl) rfl rfl) ?_
 refine TL.cons rfl (Step.move (p := (.one (.d (.int .i64 0)))) rfl rfl (lt_ok rfl) rfl) ?_
 refine TL.nil ?_
 refine T.block ?_
 refine T.loop (ι := Nat) (fun xx_ => { tm := [(5, (.one (.d (.bss l)))), (6, (.one (.d (.int .i64 (l.length : Int))))), (7, (.one (.d (.int .i64 (xx_ : Int)))))], rows := [], boxes := [] }) (fun xx_ => xx_ ≤ l.length ∧ hashes (l.take xx_) = true) (fun xx_ => l.length - xx_) 0 ?_ ?_ ?_
 · exact Env.le_mk ⟨rfl, rfl, by first | rfl | (simp; done) | (congr 3; omega), trivial⟩ trivial trivial
 · (refine ⟨Nat.zero_le _, by rw [List.take_zero]; rfl⟩)
 ·
  intro i hx
  try dsimp only at hx ⊢
  obtain ⟨hx1, hx2⟩ := hx
  refine T.seq ?_
  refine T.region ?_
  refine TL.cons rfl (Step.bin rfl rfl (lt_ok rfl) rfl rfl (Bin.lss (k := .i64) (a := (i : Int)) (b := (l.length : Int)))) ?_
  refine TL.nil ?_
  refine T.seq ?_
  refine T.cond (b := decide ((i : Int) < (l.length : Int))) rfl (fun h1 => ?_) (fun h1 => ?_)
  ·
   replace h1 := of_decide_eq_true h1
   refine T.skip ?_
   refine T.seq ?_
   refine T.block ?_
   refine T.seq ?_
   refine T.region ?_
   refine TL.cons rfl (Step.index (e := 22) (z := 1) (i := (i : Int)) rfl rfl (lt_ok rfl) (by kernel_rfl) rfl rfl rfl (lt_ok rfl) rfl (by first | omega | (simp; omega)) (by simp only [D.size]; first | omega | (simp; omega))) ?_
   refine TL.cons rfl (Step.load (e := (.ints .u8 (l.getD i []))) rfl rfl (lt_ok rfl) (by kernel_rfl) rfl rfl) ?_
   refine TL.cons rfl (Step.assign (p := (.one (.d (.ints .u8 (l.getD i []))))) rfl rfl (lt_ok rfl) rfl) ?_
   refine TL.nil ?_
   refine T.seq ?_
   refine T.region ?_
   refine TL.cons rfl (Step.move (p := (.one (.d (.ints .u8 (l.getD i []))))) rfl rfl (lt_ok rfl) rfl) ?_
   refine TL.cons rfl (Step.call (f := 139) (xs := [.tmp 11]) (ps := [(.one (.d (.ints .u8 (l.getD i []))))]) false (g := .func 139) rfl rfl (lt_ok rfl) rfl (by kernel_rfl) rfl (.cons (.one (.d _)) .nil) (ok_spec_l07Hash (l.getD i [])) (.inr rfl) rfl (by simp) rfl) ?_
   refine TL.cons rfl (Step.not (b := (decide (((l.getD i []).length : Int) = 32))) rfl rfl (lt_ok rfl) rfl) ?_
   refine TL.nil ?_
   refine T.cond (b := !(decide (((l.getD i []).length : Int) = 32))) rfl (fun h2 => ?_) (fun h2 => ?_)
   ·
    replace h2 : (decide (((l.getD i []).length : Int) = 32)) = false := by simpa only [Bool.not_eq_true', Bool.not_eq_false'] using h2
    replace h2 := of_decide_eq_false h2
    refine T.seq ?_
    refine T.region ?_
    refine TL.cons rfl (Step.assign (p := (.one (.d (.bool false)))) rfl rfl (lt_ok rfl) rfl) ?_
    refine TL.nil ?_
    refine T.ret ?_
    exact ⟨[(false, [.d (.bool false)])], (.cons rfl .nil), rfl, [], (RetC.rd' (by (congr 1; symm; first | (exact hashes_no (i := i) (by omega) (by omega)) | (rw [List.take_of_length_le (by omega)] at hx2; exact hx2))) .nil)⟩
   ·
    replace h2 : (decide (((l.getD i []).length : Int) = 32)) = true := by simpa only [Bool.not_eq_true', Bool.not_eq_false'] using h2
    replace h2 := of_decide_eq_true h2
    refine T.skip ?_
    refine T.region ?_
    refine TL.cons rfl (Step.bin (r := .int .i64 ((i : Int) + 1)) rfl rfl (lt_ok rfl) rfl rfl (Bin.add (a := (i : Int)) (b := 1) (by first | exact wrap_ok (by first | omega | (simp; omega)) (by first | omega | (simp; omega)) | rfl))) ?_
    refine TL.cons rfl (Step.move (p := (.one (.d (.int .i64 ((i : Int) + 1))))) rfl rfl (lt_ok rfl) rfl) ?_
    refine TL.nil ?_
    exact ⟨i + 1, by (refine ⟨by omega, hashes_step (by omega) hx2 (by omega)⟩), by first | omega | (dsimp only; omega), Env.le_mk ⟨rfl, rfl, by first | rfl | (simp; done) | (congr 3; omega), trivial⟩ trivial trivial⟩
  ·
   replace h1 := of_decide_eq_false h1
   refine T.exit ?_
   refine T.seq ?_
   refine T.region ?_
   refine TL.cons rfl (Step.assign (p := (.one (.d (.bool true)))) rfl rfl (lt_ok rfl) rfl) ?_
   refine TL.nil ?_
   refine T.ret ?_
   exact ⟨[(false, [.d (.bool true)])], (.cons rfl .nil), rfl, [], (RetC.rd' (by (congr 1; symm; first | (exact hashes_no (i := i) (by omega) (by omega)) | (rw [List.take_of_length_le (by omega)] at hx2; exact hx2))) .nil)⟩
theorem ok_spec_l08In (i : Int) (n : Int) : RO Try.prog 175 [.one (.int .i64 i), .one (.int .i64 n)] [(false, [.rd (.bool (decide (1 ≤ n ∧ n ≤ 1048576) && decide (0 ≤ i ∧ i ≤ n - 1)))])] := by
 refine RO.intro Try.func175 rfl 13 rfl (le_ok rfl) fun w Z => ?_
 refine T.seq ?_
 refine T.region ?_
 refine TL.cons rfl (Step.assign (p := (.one (.d (.bool false)))) rfl rfl (lt_ok rfl) rfl) ?_
 refine TL.nil ?_
 refine T.seq ?_
 refine T.region ?_
 refine TL.cons rfl (Step.move (p := (.one (.d (.int .i64 n)))) rfl rfl (lt_ok rfl) rfl) ?_
 refine TL.cons rfl (Step.call (f := 138) (xs := [.tmp 5, .const (.int .i64 1), .const (.int .i64 1048576)]) (ps := [(.one (.d (.int .i64 n))), (.one (.d (.int .i64 1))), (.one (.d (.int .i64 1048576)))]) false (g := .func 138) rfl rfl (lt_ok rfl) rfl (by kernel_rfl) rfl (.cons (.one (.d _)) (.cons (.one (.d _)) (.cons (.one (.d _)) .nil))) (ok_spec_l01In n 1 1048576) (.inr rfl) rfl (by simp) rfl) ?_
 refine TL.cons rfl (Step.move (p := (.one (.d (.bool (decide (1 ≤ n ∧ n ≤ 1048576)))))) rfl rfl (lt_ok rfl) rfl) ?_
 rcases Bool.eq_false_or_eq_true (decide (1 ≤ n ∧ n ≤ 1048576)) with hb1 | hb1
 ·
  refine TL.known 7 hb1 rfl ?_
  have hb1' := hb1
  replace hb1' := of_decide_eq_true hb1'
  refine TL.gyes 7 rfl rfl (lt_ok rfl) rfl (Step.move (p := (.one (.d (.int .i64 i)))) rfl rfl (lt_ok rfl) rfl) ?_
  refine TL.gyes 7 rfl rfl (lt_ok rfl) rfl (Step.move (p := (.one (.d (.int .i64 n)))) rfl rfl (lt_ok rfl) rfl) ?_
  refine TL.gyes 7 rfl rfl (lt_ok rfl) rfl (Step.bin (r := .int .i64 (n - 1)) rfl rfl (lt_ok rfl) rfl rfl (Bin.sub (a := n) (b := 1) (by first | exact wrap_ok (by first | omega | (simp; omega)) (by first | omega | (simp; omega)) | rfl))) ?_
  refine TL.gyes 7 rfl rfl (lt_ok rfl) rfl (Step.call (f := 138) (xs := [.tmp 8, .const (.int .i64 0), .tmp 10]) (ps := [(.one (.d (.int .i64 i))), (.one (.d (.int .i64 0))), (.one (.d (.int .i64 (n - 1))))]) false (g := .func 138) rfl rfl (lt_ok rfl) rfl (by kernel_rfl) rfl (.cons (.one (.d _)) (.cons (.one (.d _)) (.cons (.one (.d _)) .nil))) (ok_spec_l01In i 0 (n - 1)) (.inr rfl) rfl (by simp) rfl) ?_
  refine TL.cons rfl (Step.pick (b := true) (p := (.one (.d (.bool (decide (0 ≤ i ∧ i ≤ (n - 1))))))) rfl rfl (lt_ok rfl) rfl rfl) ?_
  refine TL.cons rfl (Step.assign (p := (.one (.d (.bool (decide (0 ≤ i ∧ i ≤ (n - 1))))))) rfl rfl (lt_ok rfl) rfl) ?_
  refine TL.nil ?_
  refine T.ret ?_
  exact ⟨[(false, [.d (.bool (decide (0 ≤ i ∧ i ≤ (n - 1))))])], (.cons rfl .nil), rfl, [], (RetC.rd' (by first | rfl | (congr 1; simp [*]; done) | (congr 1; simp_all; done)) .nil)⟩
 ·
  refine TL.known 7 hb1 rfl ?_
  have hb1' := hb1
  replace hb1' := of_decide_eq_false hb1'
  refine TL.gno 7 rfl rfl (lt_ok rfl) rfl rfl rfl (lt_ok rfl) ?_
  refine TL.gno 7 rfl rfl (lt_ok rfl) rfl rfl rfl (lt_ok rfl) ?_
  refine TL.gno 7 rfl rfl (lt_ok rfl) rfl rfl rfl (lt_ok rfl) ?_
  refine TL.gno 7 rfl rfl (lt_ok rfl) rfl rfl rfl (lt_ok rfl) ?_
  refine TL.cons rfl (Step.pick (b := false) (p := (.one (.d (.bool false)))) rfl rfl (lt_ok rfl) rfl rfl) ?_
  refine TL.cons rfl (Step.assign (p := (.one (.d (.bool false)))) rfl rfl (lt_ok rfl) rfl) ?_
  refine TL.nil ?_
  refine T.ret ?_
  exact ⟨[(false, [.d (.bool false)])], (.cons rfl .nil), rfl, [], (RetC.rd' (by first | rfl | (congr 1; simp [*]; done) | (congr 1; simp_all; done)) .nil)⟩
theorem ok_spec_SplitAt (n : Int) (h0_ : n ≤ 9223372036854775807) : RO Try.prog 176 [.one (.int .i64 n)] [(false, [.rd (.int .i64 (splitAtT n))])] := by
 refine RO.intro Try.func176 rfl 14 rfl (le_ok rfl) fun w Z => ?_
 refine T.seq ?_
 refine T.region ?_
 refine TL.cons rfl (Step.assign (p := (.one (.d (.int .i64 0)))) rfl rfl (lt_ok rfl) rfl) ?_
 refine TL.nil ?_
 refine T.seq ?_
 refine T.seq ?_
 refine T.region ?_
 refine TL.cons rfl (Step.move (p := (.one (.d (.int .i64 n)))) rfl rfl (lt_ok rfl) rfl) ?_
 refine TL.cons rfl (Step.bin rfl rfl (lt_ok rfl) rfl rfl (Bin.lss (k := .i64) (a := n) (b := 2))) ?_
 refine TL.nil ?_
 refine T.cond (b := decide (n < 2)) rfl (fun h1 => ?_) (fun h1 => ?_)
 ·
  replace h1 := of_decide_eq_true h1
  refine T.seq ?_
  refine T.region ?_
  refine TL.cons rfl (Step.assign (p := (.one (.d (.int .i64 0)))) rfl rfl (lt_ok rfl) rfl) ?_
  refine TL.nil ?_
  refine T.ret ?_
  exact ⟨[(false, [.d (.int .i64 0)])], (.cons rfl .nil), rfl, [], (RetC.rd' (by (congr 1; unfold splitAtT; first | (rw [if_pos (by omega)]; done) | (rw [if_neg (by omega)]; rw [if_neg (by omega)] at hx4; exact hx4) | (rw [if_neg (by omega)]; omega))) .nil)⟩
 ·
  replace h1 := of_decide_eq_false h1
  refine T.skip ?_
  refine T.seq ?_
  refine T.region ?_
  refine TL.cons rfl (Step.assign (p := (.one (.d (.int .i64 1)))) rfl rfl (lt_ok rfl) rfl) ?_
  refine TL.nil ?_
  refine T.seq ?_
  refine T.block ?_
  refine T.loop (ι := Nat × Int) (fun xx_ => { tm := [(0, (.one (.d (.int .i64 n)))), (2, (.one (.d (.int .i64 0)))), (3, (.one (.d (.int .i64 (xx_.2)))))], rows := [], boxes := [] }) (fun xx_ => 1 ≤ (xx_.2) ∧ (xx_.2) < n ∧ n ≤ (xx_.2) + (xx_.1) ∧ splitGo (xx_.1) n (xx_.2) = splitAt n) (fun xx_ => (xx_.1)) (n.toNat, 1) ?_ ?_ ?_
  · exact Env.le_mk ⟨rfl, rfl, by first | rfl | (refine congrArg (fun n => PV.one (.d (.int .i64 n))) ?_; rfl), trivial⟩ trivial trivial
  · (dsimp only; refine ⟨by omega, by omega, by omega, rfl⟩)
  ·
   intro xx_ hx
   obtain ⟨d, x⟩ := xx_
   try dsimp only at hx ⊢
   obtain ⟨hx1, hx2, hx3, hx4⟩ := hx
   obtain ⟨d', rfl⟩ : ∃ d', d = d' + 1 := ⟨d - 1, by omega⟩
   unfold splitGo at hx4
   refine T.seq ?_
   refine T.seq ?_
   refine T.region ?_
   refine TL.cons rfl (Step.move (p := (.one (.d (.int .i64 x)))) rfl rfl (lt_ok rfl) rfl) ?_
   refine TL.cons rfl (Step.move (p := (.one (.d (.int .i64 n)))) rfl rfl (lt_ok rfl) rfl) ?_
   refine TL.cons rfl (Step.move (p := (.one (.d (.int .i64 x)))) rfl rfl (lt_ok rfl) rfl) ?_
   refine TL.cons rfl (Step.bin (r := .int .i64 (n - x)) rfl rfl (lt_ok rfl) rfl rfl (Bin.sub (a := n) (b := x) (by first | exact wrap_ok (by first | omega | (simp; omega)) (by first | omega | (simp; omega)) | rfl))) ?_
   refine TL.cons rfl (Step.bin rfl rfl (lt_ok rfl) rfl rfl (Bin.lss (k := .i64) (a := x) (b := (n - x)))) ?_
   refine TL.nil ?_
   refine T.cond (b := decide (x < (n - x))) rfl (fun h2 => ?_) (fun h2 => ?_)
   ·
    replace h2 := of_decide_eq_true h2
    refine T.skip ?_
    refine T.block ?_
    refine T.region ?_
    refine TL.cons rfl (Step.move (p := (.one (.d (.int .i64 x)))) rfl rfl (lt_ok rfl) rfl) ?_
    refine TL.cons rfl (Step.bin (r := .int .i64 (2 * x)) rfl rfl (lt_ok rfl) rfl rfl (Bin.mul (a := 2) (b := x) (by first | exact wrap_ok (by first | omega | (simp; omega)) (by first | omega | (simp; omega)) | rfl))) ?_
    refine TL.cons rfl (Step.assign (p := (.one (.d (.int .i64 (2 * x))))) rfl rfl (lt_ok rfl) rfl) ?_
    refine TL.nil ?_
    exact ⟨(d', 2 * x), by (try dsimp only); (rw [if_pos (by omega)] at hx4; refine ⟨by omega, by omega, by omega, ?_⟩; first | exact hx4 | (rw [Int.mul_comm]; exact hx4)), by (dsimp only; omega), Env.le_mk ⟨rfl, rfl, by first | rfl | (refine congrArg (fun n => PV.one (.d (.int .i64 n))) ?_; rfl), trivial⟩ trivial trivial⟩
   ·
    replace h2 := of_decide_eq_false h2
    refine T.exit ?_
    refine T.seq ?_
    refine T.region ?_
    refine TL.cons rfl (Step.move (p := (.one (.d (.int .i64 x)))) rfl rfl (lt_ok rfl) rfl) ?_
    refine TL.cons rfl (Step.assign (p := (.one (.d (.int .i64 x)))) rfl rfl (lt_ok rfl) rfl) ?_
    refine TL.nil ?_
    refine T.ret ?_
    exact ⟨[(false, [.d (.int .i64 x)])], (.cons rfl .nil), rfl, [], (RetC.rd' (by (congr 1; unfold splitAtT; first | (rw [if_pos (by omega)]; done) | (rw [if_neg (by omega)]; rw [if_neg (by omega)] at hx4; exact hx4) | (rw [if_neg (by omega)]; omega))) .nil)⟩
theorem ok_spec_PathLen_r (d_ : Nat) : ∀ (i : Int) (n : Int) (hd_ : n.toNat = d_) , RO Try.prog 161 [.one (.int .i64 i), .one (.int .i64 n)] [(false, [.rd (.int .i64 (pathLenT i n))])] := by
 refine Nat.strongRecOn d_ ?_
 intro d_ ih i n hd_ 
 subst hd_
 refine RO.intro Try.func161 rfl 31 rfl (le_ok rfl) fun w Z => ?_
 have hsb_ := splitAtT_bd n
 refine T.seq ?_
 refine T.region ?_
 refine TL.cons rfl (Step.assign (p := (.one (.d (.int .i64 0)))) rfl rfl (lt_ok rfl) rfl) ?_
 refine TL.nil ?_
 refine T.seq ?_
 refine T.seq ?_
 refine T.region ?_
 refine TL.cons rfl (Step.move (p := (.one (.d (.int .i64 i)))) rfl rfl (lt_ok rfl) rfl) ?_
 refine TL.cons rfl (Step.move (p := (.one (.d (.int .i64 n)))) rfl rfl (lt_ok rfl) rfl) ?_
 refine TL.cons rfl (Step.call (f := 175) (xs := [.tmp 6, .tmp 7]) (ps := [(.one (.d (.int .i64 i))), (.one (.d (.int .i64 n)))]) false (g := .func 175) rfl rfl (lt_ok rfl) rfl (by kernel_rfl) rfl (.cons (.one (.d _)) (.cons (.one (.d _)) .nil)) (ok_spec_l08In i n) (.inr rfl) rfl (by simp) rfl) ?_
 refine TL.cons rfl (Step.not (b := (decide (1 ≤ n ∧ n ≤ 1048576) && decide (0 ≤ i ∧ i ≤ n - 1))) rfl rfl (lt_ok rfl) rfl) ?_
 refine TL.cons rfl (Step.move (p := (.one (.d (.bool (!(decide (1 ≤ n ∧ n ≤ 1048576) && decide (0 ≤ i ∧ i ≤ n - 1))))))) rfl rfl (lt_ok rfl) rfl) ?_
 rcases Bool.eq_false_or_eq_true (!(decide (1 ≤ n ∧ n ≤ 1048576) && decide (0 ≤ i ∧ i ≤ n - 1))) with hb1 | hb1
 ·
  refine TL.known 10 hb1 rfl ?_
  have hb1' := hb1
  replace hb1' : (decide (1 ≤ n ∧ n ≤ 1048576) && decide (0 ≤ i ∧ i ≤ n - 1)) = false := by simpa only [Bool.not_eq_true', Bool.not_eq_false'] using hb1'
  simp only [Bool.and_eq_true, Bool.and_eq_false_iff, decide_eq_true_eq, decide_eq_false_iff_not] at hb1'
  refine TL.gno 10 rfl rfl (lt_ok rfl) rfl rfl rfl (lt_ok rfl) ?_
  refine TL.gno 10 rfl rfl (lt_ok rfl) rfl rfl rfl (lt_ok rfl) ?_
  refine TL.cons rfl (Step.pick (b := true) (p := (.one (.d (.bool true)))) rfl rfl (lt_ok rfl) rfl rfl) ?_
  refine TL.nil ?_
  refine T.cond (b := true) rfl (fun h2_ => ?_) (fun h2_ => absurd h2_ (by simp))
  refine T.seq ?_
  refine T.region ?_
  refine TL.cons rfl (Step.assign (p := (.one (.d (.int .i64 0)))) rfl rfl (lt_ok rfl) rfl) ?_
  refine TL.nil ?_
  refine T.ret ?_
  exact ⟨[(false, [.d (.int .i64 0)])], (.cons rfl .nil), rfl, [], (RetC.rd' (by (congr 1; first | (rw [pathLenT_no (i := i) (n := n) (by omega)]; done) | (rw [pathLenT_one (i := i) (n := n) (by omega)]; done) | (rw [pathLenT_left (i := i) (n := n) (by omega) (by omega) (by omega)]; done) | (rw [pathLenT_right (i := i) (n := n) (by omega) (by omega) (by omega)]; done))) .nil)⟩
 ·
  refine TL.known 10 hb1 rfl ?_
  have hb1' := hb1
  replace hb1' : (decide (1 ≤ n ∧ n ≤ 1048576) && decide (0 ≤ i ∧ i ≤ n - 1)) = true := by simpa only [Bool.not_eq_true', Bool.not_eq_false'] using hb1'
  simp only [Bool.and_eq_true, Bool.and_eq_false_iff, decide_eq_true_eq, decide_eq_false_iff_not] at hb1'
  refine TL.gyes 10 rfl rfl (lt_ok rfl) rfl (Step.move (p := (.one (.d (.int .i64 n)))) rfl rfl (lt_ok rfl) rfl) ?_
  refine TL.gyes 10 rfl rfl (lt_ok rfl) rfl (Step.bin rfl rfl (lt_ok rfl) rfl rfl (Bin.eql (k := .i64) (a := n) (b := 1))) ?_
  refine TL.cons rfl (Step.pick (b := false) (p := (.one (.d (.bool (decide (n = 1)))))) rfl rfl (lt_ok rfl) rfl rfl) ?_
  refine TL.nil ?_
  refine T.cond (b := decide (n = 1)) rfl (fun h3 => ?_) (fun h3 => ?_)
  ·
   replace h3 := of_decide_eq_true h3
   refine T.seq ?_
   refine T.region ?_
   refine TL.cons rfl (Step.assign (p := (.one (.d (.int .i64 0)))) rfl rfl (lt_ok rfl) rfl) ?_
   refine TL.nil ?_
   refine T.ret ?_
   exact ⟨[(false, [.d (.int .i64 0)])], (.cons rfl .nil), rfl, [], (RetC.rd' (by (congr 1; first | (rw [pathLenT_no (i := i) (n := n) (by omega)]; done) | (rw [pathLenT_one (i := i) (n := n) (by omega)]; done) | (rw [pathLenT_left (i := i) (n := n) (by omega) (by omega) (by omega)]; done) | (rw [pathLenT_right (i := i) (n := n) (by omega) (by omega) (by omega)]; done))) .nil)⟩
  ·
   replace h3 := of_decide_eq_false h3
   refine T.skip ?_
   refine T.seq ?_
   refine T.region ?_
   refine TL.cons rfl (Step.move (p := (.one (.d (.int .i64 n)))) rfl rfl (lt_ok rfl) rfl) ?_
   have nn4 := splitAtT_bd n
   refine TL.cons rfl (Step.call (f := 176) (xs := [.tmp 14]) (ps := [(.one (.d (.int .i64 n)))]) false (g := .func 176) rfl rfl (lt_ok rfl) rfl (by kernel_rfl) rfl (.cons (.one (.d _)) .nil) (ok_spec_SplitAt n (by first | omega | assumption | (simp only [List.length_append] at *; omega))) (.inr rfl) rfl (by simp) rfl) ?_
   refine TL.cons rfl (Step.assign (p := (.one (.d (.int .i64 (splitAtT n))))) rfl rfl (lt_ok rfl) rfl) ?_
   refine TL.nil ?_
   refine T.seq ?_
   refine T.seq ?_
   refine T.region ?_
   refine TL.cons rfl (Step.move (p := (.one (.d (.int .i64 i)))) rfl rfl (lt_ok rfl) rfl) ?_
   refine TL.cons rfl (Step.move (p := (.one (.d (.int .i64 (splitAtT n))))) rfl rfl (lt_ok rfl) rfl) ?_
   refine TL.cons rfl (Step.bin rfl rfl (lt_ok rfl) rfl rfl (Bin.lss (k := .i64) (a := i) (b := (splitAtT n)))) ?_
   refine TL.nil ?_
   refine T.cond (b := decide (i < (splitAtT n))) rfl (fun h5 => ?_) (fun h5 => ?_)
   ·
    replace h5 := of_decide_eq_true h5
    refine T.seq ?_
    refine T.region ?_
    refine TL.cons rfl (Step.move (p := (.one (.d (.int .i64 i)))) rfl rfl (lt_ok rfl) rfl) ?_
    refine TL.cons rfl (Step.move (p := (.one (.d (.int .i64 (splitAtT n))))) rfl rfl (lt_ok rfl) rfl) ?_
    have nn6 := pathLenT_bd (i) ((splitAtT n))
    refine TL.cons rfl (Step.call (f := 161) (xs := [.tmp 19, .tmp 20]) (ps := [(.one (.d (.int .i64 i))), (.one (.d (.int .i64 (splitAtT n))))]) false (g := .func 161) rfl rfl (lt_ok rfl) rfl (by kernel_rfl) rfl (.cons (.one (.d _)) (.cons (.one (.d _)) .nil)) (ih (splitAtT n).toNat (by omega) i (splitAtT n) rfl) (.inr rfl) rfl (by simp) rfl) ?_
    refine TL.cons rfl (Step.bin (r := .int .i64 (1 + (pathLenT i (splitAtT n)))) rfl rfl (lt_ok rfl) rfl rfl (Bin.add (a := 1) (b := (pathLenT i (splitAtT n))) (by first | exact wrap_ok (by first | omega | (simp; omega)) (by first | omega | (simp; omega)) | rfl))) ?_
    refine TL.cons rfl (Step.assign (p := (.one (.d (.int .i64 (1 + (pathLenT i (splitAtT n))))))) rfl rfl (lt_ok rfl) rfl) ?_
    refine TL.nil ?_
    refine T.ret ?_
    exact ⟨[(false, [.d (.int .i64 (1 + (pathLenT i (splitAtT n))))])], (.cons rfl .nil), rfl, [], (RetC.rd' (by (congr 1; first | (rw [pathLenT_no (i := i) (n := n) (by omega)]; done) | (rw [pathLenT_one (i := i) (n := n) (by omega)]; done) | (rw [pathLenT_left (i := i) (n := n) (by omega) (by omega) (by omega)]; done) | (rw [pathLenT_right (i := i) (n := n) (by omega) (by omega) (by omega)]; done))) .nil)⟩
   ·
    replace h5 := of_decide_eq_false h5
    refine T.skip ?_
    refine T.seq ?_
    refine T.region ?_
    refine TL.cons rfl (Step.move (p := (.one (.d (.int .i64 i)))) rfl rfl (lt_ok rfl) rfl) ?_
    refine TL.cons rfl (Step.move (p := (.one (.d (.int .i64 (splitAtT n))))) rfl rfl (lt_ok rfl) rfl) ?_
    refine TL.cons rfl (Step.bin (r := .int .i64 (i - (splitAtT n))) rfl rfl (lt_ok rfl) rfl rfl (Bin.sub (a := i) (b := (splitAtT n)) (by first | exact wrap_ok (by first | omega | (simp; omega)) (by first | omega | (simp; omega)) | rfl))) ?_
    refine TL.cons rfl (Step.move (p := (.one (.d (.int .i64 n)))) rfl rfl (lt_ok rfl) rfl) ?_
    refine TL.cons rfl (Step.move (p := (.one (.d (.int .i64 (splitAtT n))))) rfl rfl (lt_ok rfl) rfl) ?_
    refine TL.cons rfl (Step.bin (r := .int .i64 (n - (splitAtT n))) rfl rfl (lt_ok rfl) rfl rfl (Bin.sub (a := n) (b := (splitAtT n)) (by first | exact wrap_ok (by first | omega | (simp; omega)) (by first | omega | (simp; omega)) | rfl))) ?_
    have nn7 := pathLenT_bd ((i - (splitAtT n))) ((n - (splitAtT n)))
    refine TL.cons rfl (Step.call (f := 161) (xs := [.tmp 25, .tmp 28]) (ps := [(.one (.d (.int .i64 (i - (splitAtT n))))), (.one (.d (.int .i64 (n - (splitAtT n)))))]) false (g := .func 161) rfl rfl (lt_ok rfl) rfl (by kernel_rfl) rfl (.cons (.one (.d _)) (.cons (.one (.d _)) .nil)) (ih (n - (splitAtT n)).toNat (by omega) (i - (splitAtT n)) (n - (splitAtT n)) rfl) (.inr rfl) rfl (by simp) rfl) ?_
    refine TL.cons rfl (Step.bin (r := .int .i64 (1 + (pathLenT (i - (splitAtT n)) (n - (splitAtT n))))) rfl rfl (lt_ok rfl) rfl rfl (Bin.add (a := 1) (b := (pathLenT (i - (splitAtT n)) (n - (splitAtT n)))) (by first | exact wrap_ok (by first | omega | (simp; omega)) (by first | omega | (simp; omega)) | rfl))) ?_
    refine TL.cons rfl (Step.assign (p := (.one (.d (.int .i64 (1 + (pathLenT (i - (splitAtT n)) (n - (splitAtT n)))))))) rfl rfl (lt_ok rfl) rfl) ?_
    refine TL.nil ?_
    refine T.ret ?_
    exact ⟨[(false, [.d (.int .i64 (1 + (pathLenT (i - (splitAtT n)) (n - (splitAtT n)))))])], (.cons rfl .nil), rfl, [], (RetC.rd' (by (congr 1; first | (rw [pathLenT_no (i := i) (n := n) (by omega)]; done) | (rw [pathLenT_one (i := i) (n := n) (by omega)]; done) | (rw [pathLenT_left (i := i) (n := n) (by omega) (by omega) (by omega)]; done) | (rw [pathLenT_right (i := i) (n := n) (by omega) (by omega) (by omega)]; done))) .nil)⟩
theorem ok_spec_PathLen (i : Int) (n : Int) : RO Try.prog 161 [.one (.int .i64 i), .one (.int .i64 n)] [(false, [.rd (.int .i64 (pathLenT i n))])] := ok_spec_PathLen_r _ i n rfl 
theorem ok_spec_InclOk (l : SLimits) (x : SIncl) : RO Try.prog 112 [.agg l.cells, .agg x.cells] [(false, [.rd (.bool (inclOk l x))])] := by
 refine RO.intro Try.func112 rfl 51 rfl (le_ok rfl) fun w Z => ?_
 refine T.seq ?_
 refine T.region ?_
 refine TL.cons rfl (Step.box (p := (.agg [.d (.int .i64 l.f0), .d (.int .i64 l.f1), .d (.int .i64 l.f2), .d (.int .i64 l.f3), .d (.int .i64 l.f4)])) (ps := [.d (.int .i64 l.f0), .d (.int .i64 l.f1), .d (.int .i64 l.f2), .d (.int .i64 l.f3), .d (.int .i64 l.f4)]) rfl rfl (lt_ok rfl) rfl rfl rfl rfl rfl) ?_
 refine TL.cons rfl (Step.box (p := (.agg [.d (.int .i64 x.f0), .d (.int .i64 x.f1), .d (.int .i64 x.f2), .d (.ints .u8 x.f3), .d (.bss x.f4)])) (ps := [.d (.int .i64 x.f0), .d (.int .i64 x.f1), .d (.int .i64 x.f2), .d (.ints .u8 x.f3), .d (.bss x.f4)]) rfl rfl (lt_ok rfl) rfl rfl rfl rfl rfl) ?_
 refine TL.cons rfl (Step.assign (p := (.one (.d (.bool false)))) rfl rfl (lt_ok rfl) rfl) ?_
 refine TL.nil ?_
 refine T.seq ?_
 rcases Bool.eq_false_or_eq_true (limOk l) with hb1 | hb1
 ·
  rcases Bool.eq_false_or_eq_true (decide (0 ≤ x.f0 ∧ x.f0 ≤ 1152921504606846975)) with hb2 | hb2
  ·
   rcases Bool.eq_false_or_eq_true (decide (1 ≤ x.f1 ∧ x.f1 ≤ l.f2)) with hb3 | hb3
   ·
    rcases Bool.eq_false_or_eq_true (decide (0 ≤ x.f2 ∧ x.f2 ≤ (IntKind.i64.wrap (x.f1 - 1)))) with hb4 | hb4
    ·
     rcases Bool.eq_false_or_eq_true (decide ((x.f3.length : Int) ≤ l.f1)) with hb5 | hb5
     ·
      have nn6 := pathLenT_bd (x.f2) (x.f1)
      rcases Bool.eq_false_or_eq_true (decide ((x.f4.length : Int) = (pathLenT x.f2 x.f1))) with hb7 | hb7
      ·
       have nn8 := pathLenT_bd (x.f2) (x.f1)
       refine T.draw [⟨5, (.agg [.d (.int .i64 l.f0), .d (.int .i64 l.f1), .d (.int .i64 l.f2), .d (.int .i64 l.f3), .d (.int .i64 l.f4)]), []⟩, ⟨6, (.one (.d (.bool true))), []⟩, ⟨7, (.one (.d (.bool true))), []⟩, ⟨8, (.one (.ptr 3 0)), []⟩, ⟨9, (.one (.d (.int .i64 x.f0))), []⟩, ⟨10, (.one (.d (.bool true))), []⟩, ⟨11, (.one (.d (.bool true))), []⟩, ⟨12, (.one (.d (.bool true))), []⟩, ⟨13, (.one (.ptr 3 1)), []⟩, ⟨14, (.one (.d (.int .i64 x.f1))), []⟩, ⟨15, (.one (.ptr 2 2)), []⟩, ⟨16, (.one (.d (.int .i64 l.f2))), []⟩, ⟨17, (.one (.d (.bool true))), []⟩, ⟨18, (.one (.d (.bool true))), []⟩, ⟨19, (.one (.d (.bool true))), []⟩, ⟨20, (.one (.ptr 3 2)), []⟩, ⟨21, (.one (.d (.int .i64 x.f2))), []⟩, ⟨22, (.one (.ptr 3 1)), []⟩, ⟨23, (.one (.d (.int .i64 x.f1))), []⟩, ⟨24, (.one (.d (.int .i64 (IntKind.i64.wrap (x.f1 - 1))))), []⟩, ⟨25, (.one (.d (.bool true))), []⟩, ⟨26, (.one (.d (.bool true))), []⟩, ⟨27, (.one (.d (.bool true))), []⟩, ⟨28, (.one (.ptr 3 3)), []⟩, ⟨29, (.one (.d (.ints .u8 x.f3))), []⟩, ⟨30, (.one (.d (.int .i64 (x.f3.length : Int)))), []⟩, ⟨31, (.one (.ptr 2 1)), []⟩, ⟨32, (.one (.d (.int .i64 l.f1))), []⟩, ⟨33, (.one (.d (.bool true))), []⟩, ⟨34, (.one (.d (.bool true))), []⟩, ⟨35, (.one (.d (.bool true))), []⟩, ⟨36, (.one (.ptr 3 4)), []⟩, ⟨37, (.one (.d (.bss x.f4))), []⟩, ⟨38, (.one (.d (.int .i64 (x.f4.length : Int)))), []⟩, ⟨39, (.one (.ptr 3 2)), []⟩, ⟨40, (.one (.d (.int .i64 x.f2))), []⟩, ⟨41, (.one (.ptr 3 1)), []⟩, ⟨42, (.one (.d (.int .i64 x.f1))), []⟩, ⟨43, (.one (.d (.int .i64 (pathLenT x.f2 x.f1)))), []⟩, ⟨44, (.one (.d (.bool true))), []⟩, ⟨45, (.one (.d (.bool true))), []⟩, ⟨46, (.one (.d (.bool true))), []⟩, ⟨47, (.one (.ptr 3 4)), []⟩, ⟨48, (.one (.d (.bss x.f4))), []⟩, ⟨49, (.one (.d (.bool (hashes x.f4)))), []⟩, ⟨50, (.one (.d (.bool (hashes x.f4)))), []⟩, ⟨4, (.one (.d (.bool (hashes x.f4)))), []⟩] (by kernel_rfl) (by kernel_rfl) ?_ ?_
       ·
        refine .cons (fun E h => by have g2 := h.get 2 (by decide); exact OpStep.plain rfl (Step.load_box_agg (n := 5) (qs := [.d (.int .i64 l.f0), .d (.int .i64 l.f1), .d (.int .i64 l.f2), .d (.int .i64 l.f3), .d (.int .i64 l.f4)]) (t := 5) rfl rfl (by exact lt_ok rfl) (by kernel_rfl) (show Env.ev E (.tmp 2) = _ from g2.trans rfl) (by exact h.box rfl) rfl rfl)) ?_
        refine .cons (fun E h => by have g5 := h.get 5 (by decide); exact OpStep.plain rfl (Step.to (E1 := E.set 6 (.one (.d (.bool (limOk l))))) (congrArg (fun b_ => E.set 6 (.one (.d (.bool b_)))) hb1) (Step.call (f := 94) (xs := [.tmp 5]) (ps := [(.agg [.d (.int .i64 l.f0), .d (.int .i64 l.f1), .d (.int .i64 l.f2), .d (.int .i64 l.f3), .d (.int .i64 l.f4)])]) false (g := .func 94) (t := 6) rfl rfl (by exact lt_ok rfl) rfl (by kernel_rfl) (evs_cons (show Env.ev E (.tmp 5) = _ from g5.trans rfl) (rfl)) (.cons (.agg (.cons (.d _) (.cons (.d _) (.cons (.d _) (.cons (.d _) (.cons (.d _) .nil)))))) .nil) (ok_spec_LimitsOk l) (.inr rfl) (At.freshRows h rfl) (by simp) rfl))) ?_
        refine .cons (fun E h => by have g6 := h.get 6 (by decide); exact OpStep.plain rfl (Step.move (p := (.one (.d (.bool true)))) (t := 7) rfl rfl (by exact lt_ok rfl) (show Env.ev E (.tmp 6) = _ from g6.trans rfl))) ?_
        refine .cons (fun E h => by have g3 := h.get 3 (by decide); have g7 := h.get 7 (by decide); exact OpStep.yes (t := 7) rfl rfl (lt_ok rfl) (g7.trans rfl) (Step.fieldAddr (q := 0) (off := 0) (n := 1) (one := true) (t := 8) rfl rfl (by exact lt_ok rfl) (by kernel_rfl) (Nat.succ_ne_zero _) (show Env.ev E (.tmp 3) = _ from g3.trans rfl))) ?_
        refine .cons (fun E h => by have g7 := h.get 7 (by decide); have g8 := h.get 8 (by decide); exact OpStep.yes (t := 7) rfl rfl (lt_ok rfl) (g7.trans rfl) (Step.load_box (c := .d (.int .i64 x.f0)) (t := 9) rfl rfl (by exact lt_ok rfl) (by kernel_rfl) (show Env.ev E (.tmp 8) = _ from g8.trans rfl) (by exact h.box rfl) rfl)) ?_
        refine .cons (fun E h => by have g7 := h.get 7 (by decide); have g9 := h.get 9 (by decide); exact OpStep.yes (t := 7) rfl rfl (lt_ok rfl) (g7.trans rfl) (Step.to (E1 := E.set 10 (.one (.d (.bool (decide (0 ≤ x.f0 ∧ x.f0 ≤ 1152921504606846975)))))) (congrArg (fun b_ => E.set 10 (.one (.d (.bool b_)))) hb2) (Step.call (f := 137) (xs := [.tmp 9]) (ps := [(.one (.d (.int .i64 x.f0)))]) false (g := .func 137) (t := 10) rfl rfl (by exact lt_ok rfl) rfl (by kernel_rfl) (evs_cons (show Env.ev E (.tmp 9) = _ from g9.trans rfl) (rfl)) (.cons (.one (.d _)) .nil) (ok_spec_l01Num x.f0) (.inr rfl) (At.freshRows h rfl) (by simp) rfl))) ?_
        refine .cons (fun E h => by have g7 := h.get 7 (by decide); have g10 := h.get 10 (by decide); exact OpStep.plain rfl (Step.pick (b := true) (p := (.one (.d (.bool true)))) (t := 11) rfl rfl (by exact lt_ok rfl) (show Env.ev E (.tmp 7) = _ from g7.trans rfl) (show Env.ev E (.tmp 10) = _ from g10.trans rfl))) ?_
        refine .cons (fun E h => by have g11 := h.get 11 (by decide); exact OpStep.plain rfl (Step.move (p := (.one (.d (.bool true)))) (t := 12) rfl rfl (by exact lt_ok rfl) (show Env.ev E (.tmp 11) = _ from g11.trans rfl))) ?_
        refine .cons (fun E h => by have g3 := h.get 3 (by decide); have g12 := h.get 12 (by decide); exact OpStep.yes (t := 12) rfl rfl (lt_ok rfl) (g12.trans rfl) (Step.fieldAddr (q := 0) (off := 1) (n := 1) (one := true) (t := 13) rfl rfl (by exact lt_ok rfl) (by kernel_rfl) (Nat.succ_ne_zero _) (show Env.ev E (.tmp 3) = _ from g3.trans rfl))) ?_
        refine .cons (fun E h => by have g12 := h.get 12 (by decide); have g13 := h.get 13 (by decide); exact OpStep.yes (t := 12) rfl rfl (lt_ok rfl) (g12.trans rfl) (Step.load_box (c := .d (.int .i64 x.f1)) (t := 14) rfl rfl (by exact lt_ok rfl) (by kernel_rfl) (show Env.ev E (.tmp 13) = _ from g13.trans rfl) (by exact h.box rfl) rfl)) ?_
        refine .cons (fun E h => by have g2 := h.get 2 (by decide); have g12 := h.get 12 (by decide); exact OpStep.yes (t := 12) rfl rfl (lt_ok rfl) (g12.trans rfl) (Step.fieldAddr (q := 0) (off := 2) (n := 1) (one := true) (t := 15) rfl rfl (by exact lt_ok rfl) (by kernel_rfl) (Nat.succ_ne_zero _) (show Env.ev E (.tmp 2) = _ from g2.trans rfl))) ?_
        refine .cons (fun E h => by have g12 := h.get 12 (by decide); have g15 := h.get 15 (by decide); exact OpStep.yes (t := 12) rfl rfl (lt_ok rfl) (g12.trans rfl) (Step.load_box (c := .d (.int .i64 l.f2)) (t := 16) rfl rfl (by exact lt_ok rfl) (by kernel_rfl) (show Env.ev E (.tmp 15) = _ from g15.trans rfl) (by exact h.box rfl) rfl)) ?_
        refine .cons (fun E h => by have g12 := h.get 12 (by decide); have g14 := h.get 14 (by decide); have g16 := h.get 16 (by decide); exact OpStep.yes (t := 12) rfl rfl (lt_ok rfl) (g12.trans rfl) (Step.to (E1 := E.set 17 (.one (.d (.bool (decide (1 ≤ x.f1 ∧ x.f1 ≤ l.f2)))))) (congrArg (fun b_ => E.set 17 (.one (.d (.bool b_)))) hb3) (Step.call (f := 138) (xs := [.tmp 14, .const (.int .i64 1), .tmp 16]) (ps := [(.one (.d (.int .i64 x.f1))), (.one (.d (.int .i64 1))), (.one (.d (.int .i64 l.f2)))]) false (g := .func 138) (t := 17) rfl rfl (by exact lt_ok rfl) rfl (by kernel_rfl) (evs_cons (show Env.ev E (.tmp 14) = _ from g14.trans rfl) (evs_cons rfl (evs_cons (show Env.ev E (.tmp 16) = _ from g16.trans rfl) (rfl)))) (.cons (.one (.d _)) (.cons (.one (.d _)) (.cons (.one (.d _)) .nil))) (ok_spec_l01In x.f1 1 l.f2) (.inr rfl) (At.freshRows h rfl) (by simp) rfl))) ?_
        refine .cons (fun E h => by have g12 := h.get 12 (by decide); have g17 := h.get 17 (by decide); exact OpStep.plain rfl (Step.pick (b := true) (p := (.one (.d (.bool true)))) (t := 18) rfl rfl (by exact lt_ok rfl) (show Env.ev E (.tmp 12) = _ from g12.trans rfl) (show Env.ev E (.tmp 17) = _ from g17.trans rfl))) ?_
        refine .cons (fun E h => by have g18 := h.get 18 (by decide); exact OpStep.plain rfl (Step.move (p := (.one (.d (.bool true)))) (t := 19) rfl rfl (by exact lt_ok rfl) (show Env.ev E (.tmp 18) = _ from g18.trans rfl))) ?_
        refine .cons (fun E h => by have g3 := h.get 3 (by decide); have g19 := h.get 19 (by decide); exact OpStep.yes (t := 19) rfl rfl (lt_ok rfl) (g19.trans rfl) (Step.fieldAddr (q := 0) (off := 2) (n := 1) (one := true) (t := 20) rfl rfl (by exact lt_ok rfl) (by kernel_rfl) (Nat.succ_ne_zero _) (show Env.ev E (.tmp 3) = _ from g3.trans rfl))) ?_
        refine .cons (fun E h => by have g19 := h.get 19 (by decide); have g20 := h.get 20 (by decide); exact OpStep.yes (t := 19) rfl rfl (lt_ok rfl) (g19.trans rfl) (Step.load_box (c := .d (.int .i64 x.f2)) (t := 21) rfl rfl (by exact lt_ok rfl) (by kernel_rfl) (show Env.ev E (.tmp 20) = _ from g20.trans rfl) (by exact h.box rfl) rfl)) ?_
        refine .cons (fun E h => by have g3 := h.get 3 (by decide); have g19 := h.get 19 (by decide); exact OpStep.yes (t := 19) rfl rfl (lt_ok rfl) (g19.trans rfl) (Step.fieldAddr (q := 0) (off := 1) (n := 1) (one := true) (t := 22) rfl rfl (by exact lt_ok rfl) (by kernel_rfl) (Nat.succ_ne_zero _) (show Env.ev E (.tmp 3) = _ from g3.trans rfl))) ?_
        refine .cons (fun E h => by have g19 := h.get 19 (by decide); have g22 := h.get 22 (by decide); exact OpStep.yes (t := 19) rfl rfl (lt_ok rfl) (g19.trans rfl) (Step.load_box (c := .d (.int .i64 x.f1)) (t := 23) rfl rfl (by exact lt_ok rfl) (by kernel_rfl) (show Env.ev E (.tmp 22) = _ from g22.trans rfl) (by exact h.box rfl) rfl)) ?_
        refine .cons (fun E h => by have g19 := h.get 19 (by decide); have g23 := h.get 23 (by decide); exact OpStep.yes (t := 19) rfl rfl (lt_ok rfl) (g19.trans rfl) (Step.bin (r := .int .i64 (IntKind.i64.wrap (x.f1 - 1))) (t := 24) rfl rfl (by exact lt_ok rfl) (show Env.ev E (.tmp 23) = _ from g23.trans rfl) rfl (Bin.sub (a := x.f1) (b := 1) (rfl)))) ?_
        refine .cons (fun E h => by have g19 := h.get 19 (by decide); have g21 := h.get 21 (by decide); have g24 := h.get 24 (by decide); exact OpStep.yes (t := 19) rfl rfl (lt_ok rfl) (g19.trans rfl) (Step.to (E1 := E.set 25 (.one (.d (.bool (decide (0 ≤ x.f2 ∧ x.f2 ≤ (IntKind.i64.wrap (x.f1 - 1)))))))) (congrArg (fun b_ => E.set 25 (.one (.d (.bool b_)))) hb4) (Step.call (f := 138) (xs := [.tmp 21, .const (.int .i64 0), .tmp 24]) (ps := [(.one (.d (.int .i64 x.f2))), (.one (.d (.int .i64 0))), (.one (.d (.int .i64 (IntKind.i64.wrap (x.f1 - 1)))))]) false (g := .func 138) (t := 25) rfl rfl (by exact lt_ok rfl) rfl (by kernel_rfl) (evs_cons (show Env.ev E (.tmp 21) = _ from g21.trans rfl) (evs_cons rfl (evs_cons (show Env.ev E (.tmp 24) = _ from g24.trans rfl) (rfl)))) (.cons (.one (.d _)) (.cons (.one (.d _)) (.cons (.one (.d _)) .nil))) (ok_spec_l01In x.f2 0 (IntKind.i64.wrap (x.f1 - 1))) (.inr rfl) (At.freshRows h rfl) (by simp) rfl))) ?_
        refine .cons (fun E h => by have g19 := h.get 19 (by decide); have g25 := h.get 25 (by decide); exact OpStep.plain rfl (Step.pick (b := true) (p := (.one (.d (.bool true)))) (t := 26) rfl rfl (by exact lt_ok rfl) (show Env.ev E (.tmp 19) = _ from g19.trans rfl) (show Env.ev E (.tmp 25) = _ from g25.trans rfl))) ?_
        refine .cons (fun E h => by have g26 := h.get 26 (by decide); exact OpStep.plain rfl (Step.move (p := (.one (.d (.bool true)))) (t := 27) rfl rfl (by exact lt_ok rfl) (show Env.ev E (.tmp 26) = _ from g26.trans rfl))) ?_
        refine .cons (fun E h => by have g3 := h.get 3 (by decide); have g27 := h.get 27 (by decide); exact OpStep.yes (t := 27) rfl rfl (lt_ok rfl) (g27.trans rfl) (Step.fieldAddr (q := 0) (off := 3) (n := 1) (one := true) (t := 28) rfl rfl (by exact lt_ok rfl) (by kernel_rfl) (Nat.succ_ne_zero _) (show Env.ev E (.tmp 3) = _ from g3.trans rfl))) ?_
        refine .cons (fun E h => by have g27 := h.get 27 (by decide); have g28 := h.get 28 (by decide); exact OpStep.yes (t := 27) rfl rfl (lt_ok rfl) (g27.trans rfl) (Step.load_box (c := .d (.ints .u8 x.f3)) (t := 29) rfl rfl (by exact lt_ok rfl) (by kernel_rfl) (show Env.ev E (.tmp 28) = _ from g28.trans rfl) (by exact h.box rfl) rfl)) ?_
        refine .cons (fun E h => by have g27 := h.get 27 (by decide); have g29 := h.get 29 (by decide); exact OpStep.yes (t := 27) rfl rfl (lt_ok rfl) (g27.trans rfl) (Step.len (e := 5) (z := 1) (d := (.ints .u8 x.f3)) (t := 30) rfl rfl (by exact lt_ok rfl) (by kernel_rfl) (show Env.ev E (.tmp 29) = _ from g29.trans rfl) rfl)) ?_
        refine .cons (fun E h => by have g2 := h.get 2 (by decide); have g27 := h.get 27 (by decide); exact OpStep.yes (t := 27) rfl rfl (lt_ok rfl) (g27.trans rfl) (Step.fieldAddr (q := 0) (off := 1) (n := 1) (one := true) (t := 31) rfl rfl (by exact lt_ok rfl) (by kernel_rfl) (Nat.succ_ne_zero _) (show Env.ev E (.tmp 2) = _ from g2.trans rfl))) ?_
        refine .cons (fun E h => by have g27 := h.get 27 (by decide); have g31 := h.get 31 (by decide); exact OpStep.yes (t := 27) rfl rfl (lt_ok rfl) (g27.trans rfl) (Step.load_box (c := .d (.int .i64 l.f1)) (t := 32) rfl rfl (by exact lt_ok rfl) (by kernel_rfl) (show Env.ev E (.tmp 31) = _ from g31.trans rfl) (by exact h.box rfl) rfl)) ?_
        refine .cons (fun E h => by have g27 := h.get 27 (by decide); have g30 := h.get 30 (by decide); have g32 := h.get 32 (by decide); exact OpStep.yes (t := 27) rfl rfl (lt_ok rfl) (g27.trans rfl) (Step.to (E1 := E.set 33 (.one (.d (.bool (decide ((x.f3.length : Int) ≤ l.f1)))))) (congrArg (fun b_ => E.set 33 (.one (.d (.bool b_)))) hb5) (Step.bin (t := 33) rfl rfl (by exact lt_ok rfl) (show Env.ev E (.tmp 30) = _ from g30.trans rfl) (show Env.ev E (.tmp 32) = _ from g32.trans rfl) (Bin.leq (k := .i64) (a := (x.f3.length : Int)) (b := l.f1))))) ?_
        refine .cons (fun E h => by have g27 := h.get 27 (by decide); have g33 := h.get 33 (by decide); exact OpStep.plain rfl (Step.pick (b := true) (p := (.one (.d (.bool true)))) (t := 34) rfl rfl (by exact lt_ok rfl) (show Env.ev E (.tmp 27) = _ from g27.trans rfl) (show Env.ev E (.tmp 33) = _ from g33.trans rfl))) ?_
        refine .cons (fun E h => by have g34 := h.get 34 (by decide); exact OpStep.plain rfl (Step.move (p := (.one (.d (.bool true)))) (t := 35) rfl rfl (by exact lt_ok rfl) (show Env.ev E (.tmp 34) = _ from g34.trans rfl))) ?_
        refine .cons (fun E h => by have g3 := h.get 3 (by decide); have g35 := h.get 35 (by decide); exact OpStep.yes (t := 35) rfl rfl (lt_ok rfl) (g35.trans rfl) (Step.fieldAddr (q := 0) (off := 4) (n := 1) (one := true) (t := 36) rfl rfl (by exact lt_ok rfl) (by kernel_rfl) (Nat.succ_ne_zero _) (show Env.ev E (.tmp 3) = _ from g3.trans rfl))) ?_
        refine .cons (fun E h => by have g35 := h.get 35 (by decide); have g36 := h.get 36 (by decide); exact OpStep.yes (t := 35) rfl rfl (lt_ok rfl) (g35.trans rfl) (Step.load_box (c := .d (.bss x.f4)) (t := 37) rfl rfl (by exact lt_ok rfl) (by kernel_rfl) (show Env.ev E (.tmp 36) = _ from g36.trans rfl) (by exact h.box rfl) rfl)) ?_
        refine .cons (fun E h => by have g35 := h.get 35 (by decide); have g37 := h.get 37 (by decide); exact OpStep.yes (t := 35) rfl rfl (lt_ok rfl) (g35.trans rfl) (Step.len (e := 22) (z := 1) (d := (.bss x.f4)) (t := 38) rfl rfl (by exact lt_ok rfl) (by kernel_rfl) (show Env.ev E (.tmp 37) = _ from g37.trans rfl) rfl)) ?_
        refine .cons (fun E h => by have g3 := h.get 3 (by decide); have g35 := h.get 35 (by decide); exact OpStep.yes (t := 35) rfl rfl (lt_ok rfl) (g35.trans rfl) (Step.fieldAddr (q := 0) (off := 2) (n := 1) (one := true) (t := 39) rfl rfl (by exact lt_ok rfl) (by kernel_rfl) (Nat.succ_ne_zero _) (show Env.ev E (.tmp 3) = _ from g3.trans rfl))) ?_
        refine .cons (fun E h => by have g35 := h.get 35 (by decide); have g39 := h.get 39 (by decide); exact OpStep.yes (t := 35) rfl rfl (lt_ok rfl) (g35.trans rfl) (Step.load_box (c := .d (.int .i64 x.f2)) (t := 40) rfl rfl (by exact lt_ok rfl) (by kernel_rfl) (show Env.ev E (.tmp 39) = _ from g39.trans rfl) (by exact h.box rfl) rfl)) ?_
        refine .cons (fun E h => by have g3 := h.get 3 (by decide); have g35 := h.get 35 (by decide); exact OpStep.yes (t := 35) rfl rfl (lt_ok rfl) (g35.trans rfl) (Step.fieldAddr (q := 0) (off := 1) (n := 1) (one := true) (t := 41) rfl rfl (by exact lt_ok rfl) (by kernel_rfl) (Nat.succ_ne_zero _) (show Env.ev E (.tmp 3) = _ from g3.trans rfl))) ?_
        refine .cons (fun E h => by have g35 := h.get 35 (by decide); have g41 := h.get 41 (by decide); exact OpStep.yes (t := 35) rfl rfl (lt_ok rfl) (g35.trans rfl) (Step.load_box (c := .d (.int .i64 x.f1)) (t := 42) rfl rfl (by exact lt_ok rfl) (by kernel_rfl) (show Env.ev E (.tmp 41) = _ from g41.trans rfl) (by exact h.box rfl) rfl)) ?_
        refine .cons (fun E h => by have g35 := h.get 35 (by decide); have g40 := h.get 40 (by decide); have g42 := h.get 42 (by decide); exact OpStep.yes (t := 35) rfl rfl (lt_ok rfl) (g35.trans rfl) (Step.call (f := 161) (xs := [.tmp 40, .tmp 42]) (ps := [(.one (.d (.int .i64 x.f2))), (.one (.d (.int .i64 x.f1)))]) false (g := .func 161) (t := 43) rfl rfl (by exact lt_ok rfl) rfl (by kernel_rfl) (evs_cons (show Env.ev E (.tmp 40) = _ from g40.trans rfl) (evs_cons (show Env.ev E (.tmp 42) = _ from g42.trans rfl) (rfl))) (.cons (.one (.d _)) (.cons (.one (.d _)) .nil)) (ok_spec_PathLen x.f2 x.f1) (.inr rfl) (At.freshRows h rfl) (by simp) rfl)) ?_
        refine .cons (fun E h => by have g35 := h.get 35 (by decide); have g38 := h.get 38 (by decide); have g43 := h.get 43 (by decide); exact OpStep.yes (t := 35) rfl rfl (lt_ok rfl) (g35.trans rfl) (Step.to (E1 := E.set 44 (.one (.d (.bool (decide ((x.f4.length : Int) = (pathLenT x.f2 x.f1))))))) (congrArg (fun b_ => E.set 44 (.one (.d (.bool b_)))) hb7) (Step.bin (t := 44) rfl rfl (by exact lt_ok rfl) (show Env.ev E (.tmp 38) = _ from g38.trans rfl) (show Env.ev E (.tmp 43) = _ from g43.trans rfl) (Bin.eql (k := .i64) (a := (x.f4.length : Int)) (b := (pathLenT x.f2 x.f1)))))) ?_
        refine .cons (fun E h => by have g35 := h.get 35 (by decide); have g44 := h.get 44 (by decide); exact OpStep.plain rfl (Step.pick (b := true) (p := (.one (.d (.bool true)))) (t := 45) rfl rfl (by exact lt_ok rfl) (show Env.ev E (.tmp 35) = _ from g35.trans rfl) (show Env.ev E (.tmp 44) = _ from g44.trans rfl))) ?_
        refine .cons (fun E h => by have g45 := h.get 45 (by decide); exact OpStep.plain rfl (Step.move (p := (.one (.d (.bool true)))) (t := 46) rfl rfl (by exact lt_ok rfl) (show Env.ev E (.tmp 45) = _ from g45.trans rfl))) ?_
        refine .cons (fun E h => by have g3 := h.get 3 (by decide); have g46 := h.get 46 (by decide); exact OpStep.yes (t := 46) rfl rfl (lt_ok rfl) (g46.trans rfl) (Step.fieldAddr (q := 0) (off := 4) (n := 1) (one := true) (t := 47) rfl rfl (by exact lt_ok rfl) (by kernel_rfl) (Nat.succ_ne_zero _) (show Env.ev E (.tmp 3) = _ from g3.trans rfl))) ?_
        refine .cons (fun E h => by have g46 := h.get 46 (by decide); have g47 := h.get 47 (by decide); exact OpStep.yes (t := 46) rfl rfl (lt_ok rfl) (g46.trans rfl) (Step.load_box (c := .d (.bss x.f4)) (t := 48) rfl rfl (by exact lt_ok rfl) (by kernel_rfl) (show Env.ev E (.tmp 47) = _ from g47.trans rfl) (by exact h.box rfl) rfl)) ?_
        refine .cons (fun E h => by have g46 := h.get 46 (by decide); have g48 := h.get 48 (by decide); exact OpStep.yes (t := 46) rfl rfl (lt_ok rfl) (g46.trans rfl) (Step.call (f := 152) (xs := [.tmp 48]) (ps := [(.one (.d (.bss x.f4)))]) false (g := .func 152) (t := 49) rfl rfl (by exact lt_ok rfl) rfl (by kernel_rfl) (evs_cons (show Env.ev E (.tmp 48) = _ from g48.trans rfl) (rfl)) (.cons (.one (.d _)) .nil) (ok_spec_l08Hashes x.f4) (.inr rfl) (At.freshRows h rfl) (by simp) rfl)) ?_
        refine .cons (fun E h => by have g46 := h.get 46 (by decide); have g49 := h.get 49 (by decide); exact OpStep.plain rfl (Step.pick (b := true) (p := (.one (.d (.bool (hashes x.f4))))) (t := 50) rfl rfl (by exact lt_ok rfl) (show Env.ev E (.tmp 46) = _ from g46.trans rfl) (show Env.ev E (.tmp 49) = _ from g49.trans rfl))) ?_
        refine .cons (fun E h => by have g50 := h.get 50 (by decide); exact OpStep.plain rfl (Step.assign (p := (.one (.d (.bool (hashes x.f4))))) (t := 4) rfl rfl (by exact lt_ok rfl) (show Env.ev E (.tmp 50) = _ from g50.trans rfl))) ?_
        exact .nil _ _
       refine TL.nil ?_
       refine T.weaken (E' := { tm := [(4, (.one (.d (.bool (hashes x.f4)))))], rows := [], boxes := [] }) (Env.le_mk ⟨by kernel_rfl, trivial⟩ trivial trivial) ?_
       refine T.ret ?_
       exact ⟨[(false, [.d (.bool (hashes x.f4))])], (.cons rfl .nil), rfl, [], (RetC.rd' (by first | rfl | (congr 1; symm; simp only [inclOk, *, Bool.and_true, Bool.true_and, Bool.and_false, Bool.false_and, decide_true, decide_false, and_true, true_and, and_self, and_false, false_and, Bool.and_self, not_true, not_false, Bool.not_true, Bool.not_false, ge_iff_le, gt_iff_lt, if_true, if_false, Bool.false_eq_true, ite_true, ite_false, reduceIte]; done) | (congr 1; symm; simp_all [inclOk]; done) | (congr 1; symm; simp_all [inclOk]; omega)) .nil)⟩
      ·
       have nn9 := pathLenT_bd (x.f2) (x.f1)
       refine T.draw [⟨5, (.agg [.d (.int .i64 l.f0), .d (.int .i64 l.f1), .d (.int .i64 l.f2), .d (.int .i64 l.f3), .d (.int .i64 l.f4)]), []⟩, ⟨6, (.one (.d (.bool true))), []⟩, ⟨7, (.one (.d (.bool true))), []⟩, ⟨8, (.one (.ptr 3 0)), []⟩, ⟨9, (.one (.d (.int .i64 x.f0))), []⟩, ⟨10, (.one (.d (.bool true))), []⟩, ⟨11, (.one (.d (.bool true))), []⟩, ⟨12, (.one (.d (.bool true))), []⟩, ⟨13, (.one (.ptr 3 1)), []⟩, ⟨14, (.one (.d (.int .i64 x.f1))), []⟩, ⟨15, (.one (.ptr 2 2)), []⟩, ⟨16, (.one (.d (.int .i64 l.f2))), []⟩, ⟨17, (.one (.d (.bool true))), []⟩, ⟨18, (.one (.d (.bool true))), []⟩, ⟨19, (.one (.d (.bool true))), []⟩, ⟨20, (.one (.ptr 3 2)), []⟩, ⟨21, (.one (.d (.int .i64 x.f2))), []⟩, ⟨22, (.one (.ptr 3 1)), []⟩, ⟨23, (.one (.d (.int .i64 x.f1))), []⟩, ⟨24, (.one (.d (.int .i64 (IntKind.i64.wrap (x.f1 - 1))))), []⟩, ⟨25, (.one (.d (.bool true))), []⟩, ⟨26, (.one (.d (.bool true))), []⟩, ⟨27, (.one (.d (.bool true))), []⟩, ⟨28, (.one (.ptr 3 3)), []⟩, ⟨29, (.one (.d (.ints .u8 x.f3))), []⟩, ⟨30, (.one (.d (.int .i64 (x.f3.length : Int)))), []⟩, ⟨31, (.one (.ptr 2 1)), []⟩, ⟨32, (.one (.d (.int .i64 l.f1))), []⟩, ⟨33, (.one (.d (.bool true))), []⟩, ⟨34, (.one (.d (.bool true))), []⟩, ⟨35, (.one (.d (.bool true))), []⟩, ⟨36, (.one (.ptr 3 4)), []⟩, ⟨37, (.one (.d (.bss x.f4))), []⟩, ⟨38, (.one (.d (.int .i64 (x.f4.length : Int)))), []⟩, ⟨39, (.one (.ptr 3 2)), []⟩, ⟨40, (.one (.d (.int .i64 x.f2))), []⟩, ⟨41, (.one (.ptr 3 1)), []⟩, ⟨42, (.one (.d (.int .i64 x.f1))), []⟩, ⟨43, (.one (.d (.int .i64 (pathLenT x.f2 x.f1)))), []⟩, ⟨44, (.one (.d (.bool false))), []⟩, ⟨45, (.one (.d (.bool false))), []⟩, ⟨46, (.one (.d (.bool false))), []⟩, ⟨47, (.one (.und)), []⟩, ⟨48, (.one (.und)), []⟩, ⟨49, (.one (.und)), []⟩, ⟨50, (.one (.d (.bool false))), []⟩, ⟨4, (.one (.d (.bool false))), []⟩] (by kernel_rfl) (by kernel_rfl) ?_ ?_
       ·
        refine .cons (fun E h => by have g2 := h.get 2 (by decide); exact OpStep.plain rfl (Step.load_box_agg (n := 5) (qs := [.d (.int .i64 l.f0), .d (.int .i64 l.f1), .d (.int .i64 l.f2), .d (.int .i64 l.f3), .d (.int .i64 l.f4)]) (t := 5) rfl rfl (by exact lt_ok rfl) (by kernel_rfl) (show Env.ev E (.tmp 2) = _ from g2.trans rfl) (by exact h.box rfl) rfl rfl)) ?_
        refine .cons (fun E h => by have g5 := h.get 5 (by decide); exact OpStep.plain rfl (Step.to (E1 := E.set 6 (.one (.d (.bool (limOk l))))) (congrArg (fun b_ => E.set 6 (.one (.d (.bool b_)))) hb1) (Step.call (f := 94) (xs := [.tmp 5]) (ps := [(.agg [.d (.int .i64 l.f0), .d (.int .i64 l.f1), .d (.int .i64 l.f2), .d (.int .i64 l.f3), .d (.int .i64 l.f4)])]) false (g := .func 94) (t := 6) rfl rfl (by exact lt_ok rfl) rfl (by kernel_rfl) (evs_cons (show Env.ev E (.tmp 5) = _ from g5.trans rfl) (rfl)) (.cons (.agg (.cons (.d _) (.cons (.d _) (.cons (.d _) (.cons (.d _) (.cons (.d _) .nil)))))) .nil) (ok_spec_LimitsOk l) (.inr rfl) (At.freshRows h rfl) (by simp) rfl))) ?_
        refine .cons (fun E h => by have g6 := h.get 6 (by decide); exact OpStep.plain rfl (Step.move (p := (.one (.d (.bool true)))) (t := 7) rfl rfl (by exact lt_ok rfl) (show Env.ev E (.tmp 6) = _ from g6.trans rfl))) ?_
        refine .cons (fun E h => by have g3 := h.get 3 (by decide); have g7 := h.get 7 (by decide); exact OpStep.yes (t := 7) rfl rfl (lt_ok rfl) (g7.trans rfl) (Step.fieldAddr (q := 0) (off := 0) (n := 1) (one := true) (t := 8) rfl rfl (by exact lt_ok rfl) (by kernel_rfl) (Nat.succ_ne_zero _) (show Env.ev E (.tmp 3) = _ from g3.trans rfl))) ?_
        refine .cons (fun E h => by have g7 := h.get 7 (by decide); have g8 := h.get 8 (by decide); exact OpStep.yes (t := 7) rfl rfl (lt_ok rfl) (g7.trans rfl) (Step.load_box (c := .d (.int .i64 x.f0)) (t := 9) rfl rfl (by exact lt_ok rfl) (by kernel_rfl) (show Env.ev E (.tmp 8) = _ from g8.trans rfl) (by exact h.box rfl) rfl)) ?_
        refine .cons (fun E h => by have g7 := h.get 7 (by decide); have g9 := h.get 9 (by decide); exact OpStep.yes (t := 7) rfl rfl (lt_ok rfl) (g7.trans rfl) (Step.to (E1 := E.set 10 (.one (.d (.bool (decide (0 ≤ x.f0 ∧ x.f0 ≤ 1152921504606846975)))))) (congrArg (fun b_ => E.set 10 (.one (.d (.bool b_)))) hb2) (Step.call (f := 137) (xs := [.tmp 9]) (ps := [(.one (.d (.int .i64 x.f0)))]) false (g := .func 137) (t := 10) rfl rfl (by exact lt_ok rfl) rfl (by kernel_rfl) (evs_cons (show Env.ev E (.tmp 9) = _ from g9.trans rfl) (rfl)) (.cons (.one (.d _)) .nil) (ok_spec_l01Num x.f0) (.inr rfl) (At.freshRows h rfl) (by simp) rfl))) ?_
        refine .cons (fun E h => by have g7 := h.get 7 (by decide); have g10 := h.get 10 (by decide); exact OpStep.plain rfl (Step.pick (b := true) (p := (.one (.d (.bool true)))) (t := 11) rfl rfl (by exact lt_ok rfl) (show Env.ev E (.tmp 7) = _ from g7.trans rfl) (show Env.ev E (.tmp 10) = _ from g10.trans rfl))) ?_
        refine .cons (fun E h => by have g11 := h.get 11 (by decide); exact OpStep.plain rfl (Step.move (p := (.one (.d (.bool true)))) (t := 12) rfl rfl (by exact lt_ok rfl) (show Env.ev E (.tmp 11) = _ from g11.trans rfl))) ?_
        refine .cons (fun E h => by have g3 := h.get 3 (by decide); have g12 := h.get 12 (by decide); exact OpStep.yes (t := 12) rfl rfl (lt_ok rfl) (g12.trans rfl) (Step.fieldAddr (q := 0) (off := 1) (n := 1) (one := true) (t := 13) rfl rfl (by exact lt_ok rfl) (by kernel_rfl) (Nat.succ_ne_zero _) (show Env.ev E (.tmp 3) = _ from g3.trans rfl))) ?_
        refine .cons (fun E h => by have g12 := h.get 12 (by decide); have g13 := h.get 13 (by decide); exact OpStep.yes (t := 12) rfl rfl (lt_ok rfl) (g12.trans rfl) (Step.load_box (c := .d (.int .i64 x.f1)) (t := 14) rfl rfl (by exact lt_ok rfl) (by kernel_rfl) (show Env.ev E (.tmp 13) = _ from g13.trans rfl) (by exact h.box rfl) rfl)) ?_
        refine .cons (fun E h => by have g2 := h.get 2 (by decide); have g12 := h.get 12 (by decide); exact OpStep.yes (t := 12) rfl rfl (lt_ok rfl) (g12.trans rfl) (Step.fieldAddr (q := 0) (off := 2) (n := 1) (one := true) (t := 15) rfl rfl (by exact lt_ok rfl) (by kernel_rfl) (Nat.succ_ne_zero _) (show Env.ev E (.tmp 2) = _ from g2.trans rfl))) ?_
        refine .cons (fun E h => by have g12 := h.get 12 (by decide); have g15 := h.get 15 (by decide); exact OpStep.yes (t := 12) rfl rfl (lt_ok rfl) (g12.trans rfl) (Step.load_box (c := .d (.int .i64 l.f2)) (t := 16) rfl rfl (by exact lt_ok rfl) (by kernel_rfl) (show Env.ev E (.tmp 15) = _ from g15.trans rfl) (by exact h.box rfl) rfl)) ?_
        refine .cons (fun E h => by have g12 := h.get 12 (by decide); have g14 := h.get 14 (by decide); have g16 := h.get 16 (by decide); exact OpStep.yes (t := 12) rfl rfl (lt_ok rfl) (g12.trans rfl) (Step.to (E1 := E.set 17 (.one (.d (.bool (decide (1 ≤ x.f1 ∧ x.f1 ≤ l.f2)))))) (congrArg (fun b_ => E.set 17 (.one (.d (.bool b_)))) hb3) (Step.call (f := 138) (xs := [.tmp 14, .const (.int .i64 1), .tmp 16]) (ps := [(.one (.d (.int .i64 x.f1))), (.one (.d (.int .i64 1))), (.one (.d (.int .i64 l.f2)))]) false (g := .func 138) (t := 17) rfl rfl (by exact lt_ok rfl) rfl (by kernel_rfl) (evs_cons (show Env.ev E (.tmp 14) = _ from g14.trans rfl) (evs_cons rfl (evs_cons (show Env.ev E (.tmp 16) = _ from g16.trans rfl) (rfl)))) (.cons (.one (.d _)) (.cons (.one (.d _)) (.cons (.one (.d _)) .nil))) (ok_spec_l01In x.f1 1 l.f2) (.inr rfl) (At.freshRows h rfl) (by simp) rfl))) ?_
        refine .cons (fun E h => by have g12 := h.get 12 (by decide); have g17 := h.get 17 (by decide); exact OpStep.plain rfl (Step.pick (b := true) (p := (.one (.d (.bool true)))) (t := 18) rfl rfl (by exact lt_ok rfl) (show Env.ev E (.tmp 12) = _ from g12.trans rfl) (show Env.ev E (.tmp 17) = _ from g17.trans rfl))) ?_
        refine .cons (fun E h => by have g18 := h.get 18 (by decide); exact OpStep.plain rfl (Step.move (p := (.one (.d (.bool true)))) (t := 19) rfl rfl (by exact lt_ok rfl) (show Env.ev E (.tmp 18) = _ from g18.trans rfl))) ?_
        refine .cons (fun E h => by have g3 := h.get 3 (by decide); have g19 := h.get 19 (by decide); exact OpStep.yes (t := 19) rfl rfl (lt_ok rfl) (g19.trans rfl) (Step.fieldAddr (q := 0) (off := 2) (n := 1) (one := true) (t := 20) rfl rfl (by exact lt_ok rfl) (by kernel_rfl) (Nat.succ_ne_zero _) (show Env.ev E (.tmp 3) = _ from g3.trans rfl))) ?_
        refine .cons (fun E h => by have g19 := h.get 19 (by decide); have g20 := h.get 20 (by decide); exact OpStep.yes (t := 19) rfl rfl (lt_ok rfl) (g19.trans rfl) (Step.load_box (c := .d (.int .i64 x.f2)) (t := 21) rfl rfl (by exact lt_ok rfl) (by kernel_rfl) (show Env.ev E (.tmp 20) = _ from g20.trans rfl) (by exact h.box rfl) rfl)) ?_
        refine .cons (fun E h => by have g3 := h.get 3 (by decide); have g19 := h.get 19 (by decide); exact OpStep.yes (t := 19) rfl rfl (lt_ok rfl) (g19.trans rfl) (Step.fieldAddr (q := 0) (off := 1) (n := 1) (one := true) (t := 22) rfl rfl (by exact lt_ok rfl) (by kernel_rfl) (Nat.succ_ne_zero _) (show Env.ev E (.tmp 3) = _ from g3.trans rfl))) ?_
        refine .cons (fun E h => by have g19 := h.get 19 (by decide); have g22 := h.get 22 (by decide); exact OpStep.yes (t := 19) rfl rfl (lt_ok rfl) (g19.trans rfl) (Step.load_box (c := .d (.int .i64 x.f1)) (t := 23) rfl rfl (by exact lt_ok rfl) (by kernel_rfl) (show Env.ev E (.tmp 22) = _ from g22.trans rfl) (by exact h.box rfl) rfl)) ?_
        refine .cons (fun E h => by have g19 := h.get 19 (by decide); have g23 := h.get 23 (by decide); exact OpStep.yes (t := 19) rfl rfl (lt_ok rfl) (g19.trans rfl) (Step.bin (r := .int .i64 (IntKind.i64.wrap (x.f1 - 1))) (t := 24) rfl rfl (by exact lt_ok rfl) (show Env.ev E (.tmp 23) = _ from g23.trans rfl) rfl (Bin.sub (a := x.f1) (b := 1) (rfl)))) ?_
        refine .cons (fun E h => by have g19 := h.get 19 (by decide); have g21 := h.get 21 (by decide); have g24 := h.get 24 (by decide); exact OpStep.yes (t := 19) rfl rfl (lt_ok rfl) (g19.trans rfl) (Step.to (E1 := E.set 25 (.one (.d (.bool (decide (0 ≤ x.f2 ∧ x.f2 ≤ (IntKind.i64.wrap (x.f1 - 1)))))))) (congrArg (fun b_ => E.set 25 (.one (.d (.bool b_)))) hb4) (Step.call (f := 138) (xs := [.tmp 21, .const (.int .i64 0), .tmp 24]) (ps := [(.one (.d (.int .i64 x.f2))), (.one (.d (.int .i64 0))), (.one (.d (.int .i64 (IntKind.i64.wrap (x.f1 - 1)))))]) false (g := .func 138) (t := 25) rfl rfl (by exact lt_ok rfl) rfl (by kernel_rfl) (evs_cons (show Env.ev E (.tmp 21) = _ from g21.trans rfl) (evs_cons rfl (evs_cons (show Env.ev E (.tmp 24) = _ from g24.trans rfl) (rfl)))) (.cons (.one (.d _)) (.cons (.one (.d _)) (.cons (.one (.d _)) .nil))) (ok_spec_l01In x.f2 0 (IntKind.i64.wrap (x.f1 - 1))) (.inr rfl) (At.freshRows h rfl) (by simp) rfl))) ?_
        refine .cons (fun E h => by have g19 := h.get 19 (by decide); have g25 := h.get 25 (by decide); exact OpStep.plain rfl (Step.pick (b := true) (p := (.one (.d (.bool true)))) (t := 26) rfl rfl (by exact lt_ok rfl) (show Env.ev E (.tmp 19) = _ from g19.trans rfl) (show Env.ev E (.tmp 25) = _ from g25.trans rfl))) ?_
        refine .cons (fun E h => by have g26 := h.get 26 (by decide); exact OpStep.plain rfl (Step.move (p := (.one (.d (.bool true)))) (t := 27) rfl rfl (by exact lt_ok rfl) (show Env.ev E (.tmp 26) = _ from g26.trans rfl))) ?_
        refine .cons (fun E h => by have g3 := h.get 3 (by decide); have g27 := h.get 27 (by decide); exact OpStep.yes (t := 27) rfl rfl (lt_ok rfl) (g27.trans rfl) (Step.fieldAddr (q := 0) (off := 3) (n := 1) (one := true) (t := 28) rfl rfl (by exact lt_ok rfl) (by kernel_rfl) (Nat.succ_ne_zero _) (show Env.ev E (.tmp 3) = _ from g3.trans rfl))) ?_
        refine .cons (fun E h => by have g27 := h.get 27 (by decide); have g28 := h.get 28 (by decide); exact OpStep.yes (t := 27) rfl rfl (lt_ok rfl) (g27.trans rfl) (Step.load_box (c := .d (.ints .u8 x.f3)) (t := 29) rfl rfl (by exact lt_ok rfl) (by kernel_rfl) (show Env.ev E (.tmp 28) = _ from g28.trans rfl) (by exact h.box rfl) rfl)) ?_
        refine .cons (fun E h => by have g27 := h.get 27 (by decide); have g29 := h.get 29 (by decide); exact OpStep.yes (t := 27) rfl rfl (lt_ok rfl) (g27.trans rfl) (Step.len (e := 5) (z := 1) (d := (.ints .u8 x.f3)) (t := 30) rfl rfl (by exact lt_ok rfl) (by kernel_rfl) (show Env.ev E (.tmp 29) = _ from g29.trans rfl) rfl)) ?_
        refine .cons (fun E h => by have g2 := h.get 2 (by decide); have g27 := h.get 27 (by decide); exact OpStep.yes (t := 27) rfl rfl (lt_ok rfl) (g27.trans rfl) (Step.fieldAddr (q := 0) (off := 1) (n := 1) (one := true) (t := 31) rfl rfl (by exact lt_ok rfl) (by kernel_rfl) (Nat.succ_ne_zero _) (show Env.ev E (.tmp 2) = _ from g2.trans rfl))) ?_
        refine .cons (fun E h => by have g27 := h.get 27 (by decide); have g31 := h.get 31 (by decide); exact OpStep.yes (t := 27) rfl rfl (lt_ok rfl) (g27.trans rfl) (Step.load_box (c := .d (.int .i64 l.f1)) (t := 32) rfl rfl (by exact lt_ok rfl) (by kernel_rfl) (show Env.ev E (.tmp 31) = _ from g31.trans rfl) (by exact h.box rfl) rfl)) ?_
        refine .cons (fun E h => by have g27 := h.get 27 (by decide); have g30 := h.get 30 (by decide); have g32 := h.get 32 (by decide); exact OpStep.yes (t := 27) rfl rfl (lt_ok rfl) (g27.trans rfl) (Step.to (E1 := E.set 33 (.one (.d (.bool (decide ((x.f3.length : Int) ≤ l.f1)))))) (congrArg (fun b_ => E.set 33 (.one (.d (.bool b_)))) hb5) (Step.bin (t := 33) rfl rfl (by exact lt_ok rfl) (show Env.ev E (.tmp 30) = _ from g30.trans rfl) (show Env.ev E (.tmp 32) = _ from g32.trans rfl) (Bin.leq (k := .i64) (a := (x.f3.length : Int)) (b := l.f1))))) ?_
        refine .cons (fun E h => by have g27 := h.get 27 (by decide); have g33 := h.get 33 (by decide); exact OpStep.plain rfl (Step.pick (b := true) (p := (.one (.d (.bool true)))) (t := 34) rfl rfl (by exact lt_ok rfl) (show Env.ev E (.tmp 27) = _ from g27.trans rfl) (show Env.ev E (.tmp 33) = _ from g33.trans rfl))) ?_
        refine .cons (fun E h => by have g34 := h.get 34 (by decide); exact OpStep.plain rfl (Step.move (p := (.one (.d (.bool true)))) (t := 35) rfl rfl (by exact lt_ok rfl) (show Env.ev E (.tmp 34) = _ from g34.trans rfl))) ?_
        refine .cons (fun E h => by have g3 := h.get 3 (by decide); have g35 := h.get 35 (by decide); exact OpStep.yes (t := 35) rfl rfl (lt_ok rfl) (g35.trans rfl) (Step.fieldAddr (q := 0) (off := 4) (n := 1) (one := true) (t := 36) rfl rfl (by exact lt_ok rfl) (by kernel_rfl) (Nat.succ_ne_zero _) (show Env.ev E (.tmp 3) = _ from g3.trans rfl))) ?_
        refine .cons (fun E h => by have g35 := h.get 35 (by decide); have g36 := h.get 36 (by decide); exact OpStep.yes (t := 35) rfl rfl (lt_ok rfl) (g35.trans rfl) (Step.load_box (c := .d (.bss x.f4)) (t := 37) rfl rfl (by exact lt_ok rfl) (by kernel_rfl) (show Env.ev E (.tmp 36) = _ from g36.trans rfl) (by exact h.box rfl) rfl)) ?_
        refine .cons (fun E h => by have g35 := h.get 35 (by decide); have g37 := h.get 37 (by decide); exact OpStep.yes (t := 35) rfl rfl (lt_ok rfl) (g35.trans rfl) (Step.len (e := 22) (z := 1) (d := (.bss x.f4)) (t := 38) rfl rfl (by exact lt_ok rfl) (by kernel_rfl) (show Env.ev E (.tmp 37) = _ from g37.trans rfl) rfl)) ?_
        refine .cons (fun E h => by have g3 := h.get 3 (by decide); have g35 := h.get 35 (by decide); exact OpStep.yes (t := 35) rfl rfl (lt_ok rfl) (g35.trans rfl) (Step.fieldAddr (q := 0) (off := 2) (n := 1) (one := true) (t := 39) rfl rfl (by exact lt_ok rfl) (by kernel_rfl) (Nat.succ_ne_zero _) (show Env.ev E (.tmp 3) = _ from g3.trans rfl))) ?_
        refine .cons (fun E h => by have g35 := h.get 35 (by decide); have g39 := h.get 39 (by decide); exact OpStep.yes (t := 35) rfl rfl (lt_ok rfl) (g35.trans rfl) (Step.load_box (c := .d (.int .i64 x.f2)) (t := 40) rfl rfl (by exact lt_ok rfl) (by kernel_rfl) (show Env.ev E (.tmp 39) = _ from g39.trans rfl) (by exact h.box rfl) rfl)) ?_
        refine .cons (fun E h => by have g3 := h.get 3 (by decide); have g35 := h.get 35 (by decide); exact OpStep.yes (t := 35) rfl rfl (lt_ok rfl) (g35.trans rfl) (Step.fieldAddr (q := 0) (off := 1) (n := 1) (one := true) (t := 41) rfl rfl (by exact lt_ok rfl) (by kernel_rfl) (Nat.succ_ne_zero _) (show Env.ev E (.tmp 3) = _ from g3.trans rfl))) ?_
        refine .cons (fun E h => by have g35 := h.get 35 (by decide); have g41 := h.get 41 (by decide); exact OpStep.yes (t := 35) rfl rfl (lt_ok rfl) (g35.trans rfl) (Step.load_box (c := .d (.int .i64 x.f1)) (t := 42) rfl rfl (by exact lt_ok rfl) (by kernel_rfl) (show Env.ev E (.tmp 41) = _ from g41.trans rfl) (by exact h.box rfl) rfl)) ?_
        refine .cons (fun E h => by have g35 := h.get 35 (by decide); have g40 := h.get 40 (by decide); have g42 := h.get 42 (by decide); exact OpStep.yes (t := 35) rfl rfl (lt_ok rfl) (g35.trans rfl) (Step.call (f := 161) (xs := [.tmp 40, .tmp 42]) (ps := [(.one (.d (.int .i64 x.f2))), (.one (.d (.int .i64 x.f1)))]) false (g := .func 161) (t := 43) rfl rfl (by exact lt_ok rfl) rfl (by kernel_rfl) (evs_cons (show Env.ev E (.tmp 40) = _ from g40.trans rfl) (evs_cons (show Env.ev E (.tmp 42) = _ from g42.trans rfl) (rfl))) (.cons (.one (.d _)) (.cons (.one (.d _)) .nil)) (ok_spec_PathLen x.f2 x.f1) (.inr rfl) (At.freshRows h rfl) (by simp) rfl)) ?_
        refine .cons (fun E h => by have g35 := h.get 35 (by decide); have g38 := h.get 38 (by decide); have g43 := h.get 43 (by decide); exact OpStep.yes (t := 35) rfl rfl (lt_ok rfl) (g35.trans rfl) (Step.to (E1 := E.set 44 (.one (.d (.bool (decide ((x.f4.length : Int) = (pathLenT x.f2 x.f1))))))) (congrArg (fun b_ => E.set 44 (.one (.d (.bool b_)))) hb7) (Step.bin (t := 44) rfl rfl (by exact lt_ok rfl) (show Env.ev E (.tmp 38) = _ from g38.trans rfl) (show Env.ev E (.tmp 43) = _ from g43.trans rfl) (Bin.eql (k := .i64) (a := (x.f4.length : Int)) (b := (pathLenT x.f2 x.f1)))))) ?_
        refine .cons (fun E h => by have g35 := h.get 35 (by decide); have g44 := h.get 44 (by decide); exact OpStep.plain rfl (Step.pick (b := true) (p := (.one (.d (.bool false)))) (t := 45) rfl rfl (by exact lt_ok rfl) (show Env.ev E (.tmp 35) = _ from g35.trans rfl) (show Env.ev E (.tmp 44) = _ from g44.trans rfl))) ?_
        refine .cons (fun E h => by have g45 := h.get 45 (by decide); exact OpStep.plain rfl (Step.move (p := (.one (.d (.bool false)))) (t := 46) rfl rfl (by exact lt_ok rfl) (show Env.ev E (.tmp 45) = _ from g45.trans rfl))) ?_
        refine .cons (fun E h => OpStep.no (t := 46) rfl rfl (lt_ok rfl) ((h.get 46 (by decide)).trans rfl) (by decide) rfl (lt_ok rfl)) ?_
        refine .cons (fun E h => OpStep.no (t := 46) rfl rfl (lt_ok rfl) ((h.get 46 (by decide)).trans rfl) (by decide) rfl (lt_ok rfl)) ?_
        refine .cons (fun E h => OpStep.no (t := 46) rfl rfl (lt_ok rfl) ((h.get 46 (by decide)).trans rfl) (by decide) rfl (lt_ok rfl)) ?_
        refine .cons (fun E h => by have g46 := h.get 46 (by decide); have g49 := h.get 49 (by decide); exact OpStep.plain rfl (Step.pick (b := false) (p := (.one (.d (.bool false)))) (t := 50) rfl rfl (by exact lt_ok rfl) (show Env.ev E (.tmp 46) = _ from g46.trans rfl) rfl)) ?_
        refine .cons (fun E h => by have g50 := h.get 50 (by decide); exact OpStep.plain rfl (Step.assign (p := (.one (.d (.bool false)))) (t := 4) rfl rfl (by exact lt_ok rfl) (show Env.ev E (.tmp 50) = _ from g50.trans rfl))) ?_
        exact .nil _ _
       refine TL.nil ?_
       refine T.weaken (E' := { tm := [(4, (.one (.d (.bool false))))], rows := [], boxes := [] }) (Env.le_mk ⟨by kernel_rfl, trivial⟩ trivial trivial) ?_
       refine T.ret ?_
       exact ⟨[(false, [.d (.bool false)])], (.cons rfl .nil), rfl, [], (RetC.rd' (by first | rfl | (congr 1; symm; simp only [inclOk, *, Bool.and_true, Bool.true_and, Bool.and_false, Bool.false_and, decide_true, decide_false, and_true, true_and, and_self, and_false, false_and, Bool.and_self, not_true, not_false, Bool.not_true, Bool.not_false, ge_iff_le, gt_iff_lt, if_true, if_false, Bool.false_eq_true, ite_true, ite_false, reduceIte]; done) | (congr 1; symm; simp_all [inclOk]; done) | (congr 1; symm; simp_all [inclOk]; omega)) .nil)⟩
     ·
      refine T.draw [⟨5, (.agg [.d (.int .i64 l.f0), .d (.int .i64 l.f1), .d (.int .i64 l.f2), .d (.int .i64 l.f3), .d (.int .i64 l.f4)]), []⟩, ⟨6, (.one (.d (.bool true))), []⟩, ⟨7, (.one (.d (.bool true))), []⟩, ⟨8, (.one (.ptr 3 0)), []⟩, ⟨9, (.one (.d (.int .i64 x.f0))), []⟩, ⟨10, (.one (.d (.bool true))), []⟩, ⟨11, (.one (.d (.bool true))), []⟩, ⟨12, (.one (.d (.bool true))), []⟩, ⟨13, (.one (.ptr 3 1)), []⟩, ⟨14, (.one (.d (.int .i64 x.f1))), []⟩, ⟨15, (.one (.ptr 2 2)), []⟩, ⟨16, (.one (.d (.int .i64 l.f2))), []⟩, ⟨17, (.one (.d (.bool true))), []⟩, ⟨18, (.one (.d (.bool true))), []⟩, ⟨19, (.one (.d (.bool true))), []⟩, ⟨20, (.one (.ptr 3 2)), []⟩, ⟨21, (.one (.d (.int .i64 x.f2))), []⟩, ⟨22, (.one (.ptr 3 1)), []⟩, ⟨23, (.one (.d (.int .i64 x.f1))), []⟩, ⟨24, (.one (.d (.int .i64 (IntKind.i64.wrap (x.f1 - 1))))), []⟩, ⟨25, (.one (.d (.bool true))), []⟩, ⟨26, (.one (.d (.bool true))), []⟩, ⟨27, (.one (.d (.bool true))), []⟩, ⟨28, (.one (.ptr 3 3)), []⟩, ⟨29, (.one (.d (.ints .u8 x.f3))), []⟩, ⟨30, (.one (.d (.int .i64 (x.f3.length : Int)))), []⟩, ⟨31, (.one (.ptr 2 1)), []⟩, ⟨32, (.one (.d (.int .i64 l.f1))), []⟩, ⟨33, (.one (.d (.bool false))), []⟩, ⟨34, (.one (.d (.bool false))), []⟩, ⟨35, (.one (.d (.bool false))), []⟩, ⟨36, (.one (.und)), []⟩, ⟨37, (.one (.und)), []⟩, ⟨38, (.one (.und)), []⟩, ⟨39, (.one (.und)), []⟩, ⟨40, (.one (.und)), []⟩, ⟨41, (.one (.und)), []⟩, ⟨42, (.one (.und)), []⟩, ⟨43, (.one (.und)), []⟩, ⟨44, (.one (.und)), []⟩, ⟨45, (.one (.d (.bool false))), []⟩, ⟨46, (.one (.d (.bool false))), []⟩, ⟨47, (.one (.und)), []⟩, ⟨48, (.one (.und)), []⟩, ⟨49, (.one (.und)), []⟩, ⟨50, (.one (.d (.bool false))), []⟩, ⟨4, (.one (.d (.bool false))), []⟩] (by kernel_rfl) (by kernel_rfl) ?_ ?_
      ·
       refine .cons (fun E h => by have g2 := h.get 2 (by decide); exact OpStep.plain rfl (Step.load_box_agg (n := 5) (qs := [.d (.int .i64 l.f0), .d (.int .i64 l.f1), .d (.int .i64 l.f2), .d (.int .i64 l.f3), .d (.int .i64 l.f4)]) (t := 5) rfl rfl (by exact lt_ok rfl) (by kernel_rfl) (show Env.ev E (.tmp 2) = _ from g2.trans rfl) (by exact h.box rfl) rfl rfl)) ?_
       refine .cons (fun E h => by have g5 := h.get 5 (by decide); exact OpStep.plain rfl (Step.to (E1 := E.set 6 (.one (.d (.bool (limOk l))))) (congrArg (fun b_ => E.set 6 (.one (.d (.bool b_)))) hb1) (Step.call (f := 94) (xs := [.tmp 5]) (ps := [(.agg [.d (.int .i64 l.f0), .d (.int .i64 l.f1), .d (.int .i64 l.f2), .d (.int .i64 l.f3), .d (.int .i64 l.f4)])]) false (g := .func 94) (t := 6) rfl rfl (by exact lt_ok rfl) rfl (by kernel_rfl) (evs_cons (show Env.ev E (.tmp 5) = _ from g5.trans rfl) (rfl)) (.cons (.agg (.cons (.d _) (.cons (.d _) (.cons (.d _) (.cons (.d _) (.cons (.d _) .nil)))))) .nil) (ok_spec_LimitsOk l) (.inr rfl) (At.freshRows h rfl) (by simp) rfl))) ?_
       refine .cons (fun E h => by have g6 := h.get 6 (by decide); exact OpStep.plain rfl (Step.move (p := (.one (.d (.bool true)))) (t := 7) rfl rfl (by exact lt_ok rfl) (show Env.ev E (.tmp 6) = _ from g6.trans rfl))) ?_
       refine .cons (fun E h => by have g3 := h.get 3 (by decide); have g7 := h.get 7 (by decide); exact OpStep.yes (t := 7) rfl rfl (lt_ok rfl) (g7.trans rfl) (Step.fieldAddr (q := 0) (off := 0) (n := 1) (one := true) (t := 8) rfl rfl (by exact lt_ok rfl) (by kernel_rfl) (Nat.succ_ne_zero _) (show Env.ev E (.tmp 3) = _ from g3.trans rfl))) ?_
       refine .cons (fun E h => by have g7 := h.get 7 (by decide); have g8 := h.get 8 (by decide); exact OpStep.yes (t := 7) rfl rfl (lt_ok rfl) (g7.trans rfl) (Step.load_box (c := .d (.int .i64 x.f0)) (t := 9) rfl rfl (by exact lt_ok rfl) (by kernel_rfl) (show Env.ev E (.tmp 8) = _ from g8.trans rfl) (by exact h.box rfl) rfl)) ?_
       refine .cons (fun E h => by have g7 := h.get 7 (by decide); have g9 := h.get 9 (by decide); exact OpStep.yes (t := 7) rfl rfl (lt_ok rfl) (g7.trans rfl) (Step.to (E1 := E.set 10 (.one (.d (.bool (decide (0 ≤ x.f0 ∧ x.f0 ≤ 1152921504606846975)))))) (congrArg (fun b_ => E.set 10 (.one (.d (.bool b_)))) hb2) (Step.call (f := 137) (xs := [.tmp 9]) (ps := [(.one (.d (.int .i64 x.f0)))]) false (g := .func 137) (t := 10) rfl rfl (by exact lt_ok rfl) rfl (by kernel_rfl) (evs_cons (show Env.ev E (.tmp 9) = _ from g9.trans rfl) (rfl)) (.cons (.one (.d _)) .nil) (ok_spec_l01Num x.f0) (.inr rfl) (At.freshRows h rfl) (by simp) rfl))) ?_
       refine .cons (fun E h => by have g7 := h.get 7 (by decide); have g10 := h.get 10 (by decide); exact OpStep.plain rfl (Step.pick (b := true) (p := (.one (.d (.bool true)))) (t := 11) rfl rfl (by exact lt_ok rfl) (show Env.ev E (.tmp 7) = _ from g7.trans rfl) (show Env.ev E (.tmp 10) = _ from g10.trans rfl))) ?_
       refine .cons (fun E h => by have g11 := h.get 11 (by decide); exact OpStep.plain rfl (Step.move (p := (.one (.d (.bool true)))) (t := 12) rfl rfl (by exact lt_ok rfl) (show Env.ev E (.tmp 11) = _ from g11.trans rfl))) ?_
       refine .cons (fun E h => by have g3 := h.get 3 (by decide); have g12 := h.get 12 (by decide); exact OpStep.yes (t := 12) rfl rfl (lt_ok rfl) (g12.trans rfl) (Step.fieldAddr (q := 0) (off := 1) (n := 1) (one := true) (t := 13) rfl rfl (by exact lt_ok rfl) (by kernel_rfl) (Nat.succ_ne_zero _) (show Env.ev E (.tmp 3) = _ from g3.trans rfl))) ?_
       refine .cons (fun E h => by have g12 := h.get 12 (by decide); have g13 := h.get 13 (by decide); exact OpStep.yes (t := 12) rfl rfl (lt_ok rfl) (g12.trans rfl) (Step.load_box (c := .d (.int .i64 x.f1)) (t := 14) rfl rfl (by exact lt_ok rfl) (by kernel_rfl) (show Env.ev E (.tmp 13) = _ from g13.trans rfl) (by exact h.box rfl) rfl)) ?_
       refine .cons (fun E h => by have g2 := h.get 2 (by decide); have g12 := h.get 12 (by decide); exact OpStep.yes (t := 12) rfl rfl (lt_ok rfl) (g12.trans rfl) (Step.fieldAddr (q := 0) (off := 2) (n := 1) (one := true) (t := 15) rfl rfl (by exact lt_ok rfl) (by kernel_rfl) (Nat.succ_ne_zero _) (show Env.ev E (.tmp 2) = _ from g2.trans rfl))) ?_
       refine .cons (fun E h => by have g12 := h.get 12 (by decide); have g15 := h.get 15 (by decide); exact OpStep.yes (t := 12) rfl rfl (lt_ok rfl) (g12.trans rfl) (Step.load_box (c := .d (.int .i64 l.f2)) (t := 16) rfl rfl (by exact lt_ok rfl) (by kernel_rfl) (show Env.ev E (.tmp 15) = _ from g15.trans rfl) (by exact h.box rfl) rfl)) ?_
       refine .cons (fun E h => by have g12 := h.get 12 (by decide); have g14 := h.get 14 (by decide); have g16 := h.get 16 (by decide); exact OpStep.yes (t := 12) rfl rfl (lt_ok rfl) (g12.trans rfl) (Step.to (E1 := E.set 17 (.one (.d (.bool (decide (1 ≤ x.f1 ∧ x.f1 ≤ l.f2)))))) (congrArg (fun b_ => E.set 17 (.one (.d (.bool b_)))) hb3) (Step.call (f := 138) (xs := [.tmp 14, .const (.int .i64 1), .tmp 16]) (ps := [(.one (.d (.int .i64 x.f1))), (.one (.d (.int .i64 1))), (.one (.d (.int .i64 l.f2)))]) false (g := .func 138) (t := 17) rfl rfl (by exact lt_ok rfl) rfl (by kernel_rfl) (evs_cons (show Env.ev E (.tmp 14) = _ from g14.trans rfl) (evs_cons rfl (evs_cons (show Env.ev E (.tmp 16) = _ from g16.trans rfl) (rfl)))) (.cons (.one (.d _)) (.cons (.one (.d _)) (.cons (.one (.d _)) .nil))) (ok_spec_l01In x.f1 1 l.f2) (.inr rfl) (At.freshRows h rfl) (by simp) rfl))) ?_
       refine .cons (fun E h => by have g12 := h.get 12 (by decide); have g17 := h.get 17 (by decide); exact OpStep.plain rfl (Step.pick (b := true) (p := (.one (.d (.bool true)))) (t := 18) rfl rfl (by exact lt_ok rfl) (show Env.ev E (.tmp 12) = _ from g12.trans rfl) (show Env.ev E (.tmp 17) = _ from g17.trans rfl))) ?_
       refine .cons (fun E h => by have g18 := h.get 18 (by decide); exact OpStep.plain rfl (Step.move (p := (.one (.d (.bool true)))) (t := 19) rfl rfl (by exact lt_ok rfl) (show Env.ev E (.tmp 18) = _ from g18.trans rfl))) ?_
       refine .cons (fun E h => by have g3 := h.get 3 (by decide); have g19 := h.get 19 (by decide); exact OpStep.yes (t := 19) rfl rfl (lt_ok rfl) (g19.trans rfl) (Step.fieldAddr (q := 0) (off := 2) (n := 1) (one := true) (t := 20) rfl rfl (by exact lt_ok rfl) (by kernel_rfl) (Nat.succ_ne_zero _) (show Env.ev E (.tmp 3) = _ from g3.trans rfl))) ?_
       refine .cons (fun E h => by have g19 := h.get 19 (by decide); have g20 := h.get 20 (by decide); exact OpStep.yes (t := 19) rfl rfl (lt_ok rfl) (g19.trans rfl) (Step.load_box (c := .d (.int .i64 x.f2)) (t := 21) rfl rfl (by exact lt_ok rfl) (by kernel_rfl) (show Env.ev E (.tmp 20) = _ from g20.trans rfl) (by exact h.box rfl) rfl)) ?_
       refine .cons (fun E h => by have g3 := h.get 3 (by decide); have g19 := h.get 19 (by decide); exact OpStep.yes (t := 19) rfl rfl (lt_ok rfl) (g19.trans rfl) (Step.fieldAddr (q := 0) (off := 1) (n := 1) (one := true) (t := 22) rfl rfl (by exact lt_ok rfl) (by kernel_rfl) (Nat.succ_ne_zero _) (show Env.ev E (.tmp 3) = _ from g3.trans rfl))) ?_
       refine .cons (fun E h => by have g19 := h.get 19 (by decide); have g22 := h.get 22 (by decide); exact OpStep.yes (t := 19) rfl rfl (lt_ok rfl) (g19.trans rfl) (Step.load_box (c := .d (.int .i64 x.f1)) (t := 23) rfl rfl (by exact lt_ok rfl) (by kernel_rfl) (show Env.ev E (.tmp 22) = _ from g22.trans rfl) (by exact h.box rfl) rfl)) ?_
       refine .cons (fun E h => by have g19 := h.get 19 (by decide); have g23 := h.get 23 (by decide); exact OpStep.yes (t := 19) rfl rfl (lt_ok rfl) (g19.trans rfl) (Step.bin (r := .int .i64 (IntKind.i64.wrap (x.f1 - 1))) (t := 24) rfl rfl (by exact lt_ok rfl) (show Env.ev E (.tmp 23) = _ from g23.trans rfl) rfl (Bin.sub (a := x.f1) (b := 1) (rfl)))) ?_
       refine .cons (fun E h => by have g19 := h.get 19 (by decide); have g21 := h.get 21 (by decide); have g24 := h.get 24 (by decide); exact OpStep.yes (t := 19) rfl rfl (lt_ok rfl) (g19.trans rfl) (Step.to (E1 := E.set 25 (.one (.d (.bool (decide (0 ≤ x.f2 ∧ x.f2 ≤ (IntKind.i64.wrap (x.f1 - 1)))))))) (congrArg (fun b_ => E.set 25 (.one (.d (.bool b_)))) hb4) (Step.call (f := 138) (xs := [.tmp 21, .const (.int .i64 0), .tmp 24]) (ps := [(.one (.d (.int .i64 x.f2))), (.one (.d (.int .i64 0))), (.one (.d (.int .i64 (IntKind.i64.wrap (x.f1 - 1)))))]) false (g := .func 138) (t := 25) rfl rfl (by exact lt_ok rfl) rfl (by kernel_rfl) (evs_cons (show Env.ev E (.tmp 21) = _ from g21.trans rfl) (evs_cons rfl (evs_cons (show Env.ev E (.tmp 24) = _ from g24.trans rfl) (rfl)))) (.cons (.one (.d _)) (.cons (.one (.d _)) (.cons (.one (.d _)) .nil))) (ok_spec_l01In x.f2 0 (IntKind.i64.wrap (x.f1 - 1))) (.inr rfl) (At.freshRows h rfl) (by simp) rfl))) ?_
       refine .cons (fun E h => by have g19 := h.get 19 (by decide); have g25 := h.get 25 (by decide); exact OpStep.plain rfl (Step.pick (b := true) (p := (.one (.d (.bool true)))) (t := 26) rfl rfl (by exact lt_ok rfl) (show Env.ev E (.tmp 19) = _ from g19.trans rfl) (show Env.ev E (.tmp 25) = _ from g25.trans rfl))) ?_
       refine .cons (fun E h => by have g26 := h.get 26 (by decide); exact OpStep.plain rfl (Step.move (p := (.one (.d (.bool true)))) (t := 27) rfl rfl (by exact lt_ok rfl) (show Env.ev E (.tmp 26) = _ from g26.trans rfl))) ?_
       refine .cons (fun E h => by have g3 := h.get 3 (by decide); have g27 := h.get 27 (by decide); exact OpStep.yes (t := 27) rfl rfl (lt_ok rfl) (g27.trans rfl) (Step.fieldAddr (q := 0) (off := 3) (n := 1) (one := true) (t := 28) rfl rfl (by exact lt_ok rfl) (by kernel_rfl) (Nat.succ_ne_zero _) (show Env.ev E (.tmp 3) = _ from g3.trans rfl))) ?_
       refine .cons (fun E h => by have g27 := h.get 27 (by decide); have g28 := h.get 28 (by decide); exact OpStep.yes (t := 27) rfl rfl (lt_ok rfl) (g27.trans rfl) (Step.load_box (c := .d (.ints .u8 x.f3)) (t := 29) rfl rfl (by exact lt_ok rfl) (by kernel_rfl) (show Env.ev E (.tmp 28) = _ from g28.trans rfl) (by exact h.box rfl) rfl)) ?_
       refine .cons (fun E h => by have g27 := h.get 27 (by decide); have g29 := h.get 29 (by decide); exact OpStep.yes (t := 27) rfl rfl (lt_ok rfl) (g27.trans rfl) (Step.len (e := 5) (z := 1) (d := (.ints .u8 x.f3)) (t := 30) rfl rfl (by exact lt_ok rfl) (by kernel_rfl) (show Env.ev E (.tmp 29) = _ from g29.trans rfl) rfl)) ?_
       refine .cons (fun E h => by have g2 := h.get 2 (by decide); have g27 := h.get 27 (by decide); exact OpStep.yes (t := 27) rfl rfl (lt_ok rfl) (g27.trans rfl) (Step.fieldAddr (q := 0) (off := 1) (n := 1) (one := true) (t := 31) rfl rfl (by exact lt_ok rfl) (by kernel_rfl) (Nat.succ_ne_zero _) (show Env.ev E (.tmp 2) = _ from g2.trans rfl))) ?_
       refine .cons (fun E h => by have g27 := h.get 27 (by decide); have g31 := h.get 31 (by decide); exact OpStep.yes (t := 27) rfl rfl (lt_ok rfl) (g27.trans rfl) (Step.load_box (c := .d (.int .i64 l.f1)) (t := 32) rfl rfl (by exact lt_ok rfl) (by kernel_rfl) (show Env.ev E (.tmp 31) = _ from g31.trans rfl) (by exact h.box rfl) rfl)) ?_
       refine .cons (fun E h => by have g27 := h.get 27 (by decide); have g30 := h.get 30 (by decide); have g32 := h.get 32 (by decide); exact OpStep.yes (t := 27) rfl rfl (lt_ok rfl) (g27.trans rfl) (Step.to (E1 := E.set 33 (.one (.d (.bool (decide ((x.f3.length : Int) ≤ l.f1)))))) (congrArg (fun b_ => E.set 33 (.one (.d (.bool b_)))) hb5) (Step.bin (t := 33) rfl rfl (by exact lt_ok rfl) (show Env.ev E (.tmp 30) = _ from g30.trans rfl) (show Env.ev E (.tmp 32) = _ from g32.trans rfl) (Bin.leq (k := .i64) (a := (x.f3.length : Int)) (b := l.f1))))) ?_
       refine .cons (fun E h => by have g27 := h.get 27 (by decide); have g33 := h.get 33 (by decide); exact OpStep.plain rfl (Step.pick (b := true) (p := (.one (.d (.bool false)))) (t := 34) rfl rfl (by exact lt_ok rfl) (show Env.ev E (.tmp 27) = _ from g27.trans rfl) (show Env.ev E (.tmp 33) = _ from g33.trans rfl))) ?_
       refine .cons (fun E h => by have g34 := h.get 34 (by decide); exact OpStep.plain rfl (Step.move (p := (.one (.d (.bool false)))) (t := 35) rfl rfl (by exact lt_ok rfl) (show Env.ev E (.tmp 34) = _ from g34.trans rfl))) ?_
       refine .cons (fun E h => OpStep.no (t := 35) rfl rfl (lt_ok rfl) ((h.get 35 (by decide)).trans rfl) (by decide) rfl (lt_ok rfl)) ?_
       refine .cons (fun E h => OpStep.no (t := 35) rfl rfl (lt_ok rfl) ((h.get 35 (by decide)).trans rfl) (by decide) rfl (lt_ok rfl)) ?_
       refine .cons (fun E h => OpStep.no (t := 35) rfl rfl (lt_ok rfl) ((h.get 35 (by decide)).trans rfl) (by decide) rfl (lt_ok rfl)) ?_
       refine .cons (fun E h => OpStep.no (t := 35) rfl rfl (lt_ok rfl) ((h.get 35 (by decide)).trans rfl) (by decide) rfl (lt_ok rfl)) ?_
       refine .cons (fun E h => OpStep.no (t := 35) rfl rfl (lt_ok rfl) ((h.get 35 (by decide)).trans rfl) (by decide) rfl (lt_ok rfl)) ?_
       refine .cons (fun E h => OpStep.no (t := 35) rfl rfl (lt_ok rfl) ((h.get 35 (by decide)).trans rfl) (by decide) rfl (lt_ok rfl)) ?_
       refine .cons (fun E h => OpStep.no (t := 35) rfl rfl (lt_ok rfl) ((h.get 35 (by decide)).trans rfl) (by decide) rfl (lt_ok rfl)) ?_
       refine .cons (fun E h => OpStep.no (t := 35) rfl rfl (lt_ok rfl) ((h.get 35 (by decide)).trans rfl) (by decide) rfl (lt_ok rfl)) ?_
       refine .cons (fun E h => OpStep.no (t := 35) rfl rfl (lt_ok rfl) ((h.get 35 (by decide)).trans rfl) (by decide) rfl (lt_ok rfl)) ?_
       refine .cons (fun E h => by have g35 := h.get 35 (by decide); have g44 := h.get 44 (by decide); exact OpStep.plain rfl (Step.pick (b := false) (p := (.one (.d (.bool false)))) (t := 45) rfl rfl (by exact lt_ok rfl) (show Env.ev E (.tmp 35) = _ from g35.trans rfl) rfl)) ?_
       refine .cons (fun E h => by have g45 := h.get 45 (by decide); exact OpStep.plain rfl (Step.move (p := (.one (.d (.bool false)))) (t := 46) rfl rfl (by exact lt_ok rfl) (show Env.ev E (.tmp 45) = _ from g45.trans rfl))) ?_
       refine .cons (fun E h => OpStep.no (t := 46) rfl rfl (lt_ok rfl) ((h.get 46 (by decide)).trans rfl) (by decide) rfl (lt_ok rfl)) ?_
       refine .cons (fun E h => OpStep.no (t := 46) rfl rfl (lt_ok rfl) ((h.get 46 (by decide)).trans rfl) (by decide) rfl (lt_ok rfl)) ?_
       refine .cons (fun E h => OpStep.no (t := 46) rfl rfl (lt_ok rfl) ((h.get 46 (by decide)).trans rfl) (by decide) rfl (lt_ok rfl)) ?_
       refine .cons (fun E h => by have g46 := h.get 46 (by decide); have g49 := h.get 49 (by decide); exact OpStep.plain rfl (Step.pick (b := false) (p := (.one (.d (.bool false)))) (t := 50) rfl rfl (by exact lt_ok rfl) (show Env.ev E (.tmp 46) = _ from g46.trans rfl) rfl)) ?_
       refine .cons (fun E h => by have g50 := h.get 50 (by decide); exact OpStep.plain rfl (Step.assign (p := (.one (.d (.bool false)))) (t := 4) rfl rfl (by exact lt_ok rfl) (show Env.ev E (.tmp 50) = _ from g50.trans rfl))) ?_
       exact .nil _ _
      refine TL.nil ?_
      refine T.weaken (E' := { tm := [(4, (.one (.d (.bool false))))], rows := [], boxes := [] }) (Env.le_mk ⟨by kernel_rfl, trivial⟩ trivial trivial) ?_
      refine T.ret ?_
      exact ⟨[(false, [.d (.bool false)])], (.cons rfl .nil), rfl, [], (RetC.rd' (by first | rfl | (congr 1; symm; simp only [inclOk, *, Bool.and_true, Bool.true_and, Bool.and_false, Bool.false_and, decide_true, decide_false, and_true, true_and, and_self, and_false, false_and, Bool.and_self, not_true, not_false, Bool.not_true, Bool.not_false, ge_iff_le, gt_iff_lt, if_true, if_false, Bool.false_eq_true, ite_true, ite_false, reduceIte]; done) | (congr 1; symm; simp_all [inclOk]; done) | (congr 1; symm; simp_all [inclOk]; omega)) .nil)⟩
    ·
     refine T.draw [⟨5, (.agg [.d (.int .i64 l.f0), .d (.int .i64 l.f1), .d (.int .i64 l.f2), .d (.int .i64 l.f3), .d (.int .i64 l.f4)]), []⟩, ⟨6, (.one (.d (.bool true))), []⟩, ⟨7, (.one (.d (.bool true))), []⟩, ⟨8, (.one (.ptr 3 0)), []⟩, ⟨9, (.one (.d (.int .i64 x.f0))), []⟩, ⟨10, (.one (.d (.bool true))), []⟩, ⟨11, (.one (.d (.bool true))), []⟩, ⟨12, (.one (.d (.bool true))), []⟩, ⟨13, (.one (.ptr 3 1)), []⟩, ⟨14, (.one (.d (.int .i64 x.f1))), []⟩, ⟨15, (.one (.ptr 2 2)), []⟩, ⟨16, (.one (.d (.int .i64 l.f2))), []⟩, ⟨17, (.one (.d (.bool true))), []⟩, ⟨18, (.one (.d (.bool true))), []⟩, ⟨19, (.one (.d (.bool true))), []⟩, ⟨20, (.one (.ptr 3 2)), []⟩, ⟨21, (.one (.d (.int .i64 x.f2))), []⟩, ⟨22, (.one (.ptr 3 1)), []⟩, ⟨23, (.one (.d (.int .i64 x.f1))), []⟩, ⟨24, (.one (.d (.int .i64 (IntKind.i64.wrap (x.f1 - 1))))), []⟩, ⟨25, (.one (.d (.bool false))), []⟩, ⟨26, (.one (.d (.bool false))), []⟩, ⟨27, (.one (.d (.bool false))), []⟩, ⟨28, (.one (.und)), []⟩, ⟨29, (.one (.und)), []⟩, ⟨30, (.one (.und)), []⟩, ⟨31, (.one (.und)), []⟩, ⟨32, (.one (.und)), []⟩, ⟨33, (.one (.und)), []⟩, ⟨34, (.one (.d (.bool false))), []⟩, ⟨35, (.one (.d (.bool false))), []⟩, ⟨36, (.one (.und)), []⟩, ⟨37, (.one (.und)), []⟩, ⟨38, (.one (.und)), []⟩, ⟨39, (.one (.und)), []⟩, ⟨40, (.one (.und)), []⟩, ⟨41, (.one (.und)), []⟩, ⟨42, (.one (.und)), []⟩, ⟨43, (.one (.und)), []⟩, ⟨44, (.one (.und)), []⟩, ⟨45, (.one (.d (.bool false))), []⟩, ⟨46, (.one (.d (.bool false))), []⟩, ⟨47, (.one (.und)), []⟩, ⟨48, (.one (.und)), []⟩, ⟨49, (.one (.und)), []⟩, ⟨50, (.one (.d (.bool false))), []⟩, ⟨4, (.one (.d (.bool false))), []⟩] (by kernel_rfl) (by kernel_rfl) ?_ ?_
     ·
      refine .cons (fun E h => by have g2 := h.get 2 (by decide); exact OpStep.plain rfl (Step.load_box_agg (n := 5) (qs := [.d (.int .i64 l.f0), .d (.int .i64 l.f1), .d (.int .i64 l.f2), .d (.int .i64 l.f3), .d (.int .i64 l.f4)]) (t := 5) rfl rfl (by exact lt_ok rfl) (by kernel_rfl) (show Env.ev E (.tmp 2) = _ from g2.trans rfl) (by exact h.box rfl) rfl rfl)) ?_
      refine .cons (fun E h => by have g5 := h.get 5 (by decide); exact OpStep.plain rfl (Step.to (E1 := E.set 6 (.one (.d (.bool (limOk l))))) (congrArg (fun b_ => E.set 6 (.one (.d (.bool b_)))) hb1) (Step.call (f := 94) (xs := [.tmp 5]) (ps := [(.agg [.d (.int .i64 l.f0), .d (.int .i64 l.f1), .d (.int .i64 l.f2), .d (.int .i64 l.f3), .d (.int .i64 l.f4)])]) false (g := .func 94) (t := 6) rfl rfl (by exact lt_ok rfl) rfl (by kernel_rfl) (evs_cons (show Env.ev E (.tmp 5) = _ from g5.trans rfl) (rfl)) (.cons (.agg (.cons (.d _) (.cons (.d _) (.cons (.d _) (.cons (.d _) (.cons (.d _) .nil)))))) .nil) (ok_spec_LimitsOk l) (.inr rfl) (At.freshRows h rfl) (by simp) rfl))) ?_
      refine .cons (fun E h => by have g6 := h.get 6 (by decide); exact OpStep.plain rfl (Step.move (p := (.one (.d (.bool true)))) (t := 7) rfl rfl (by exact lt_ok rfl) (show Env.ev E (.tmp 6) = _ from g6.trans rfl))) ?_
      refine .cons (fun E h => by have g3 := h.get 3 (by decide); have g7 := h.get 7 (by decide); exact OpStep.yes (t := 7) rfl rfl (lt_ok rfl) (g7.trans rfl) (Step.fieldAddr (q := 0) (off := 0) (n := 1) (one := true) (t := 8) rfl rfl (by exact lt_ok rfl) (by kernel_rfl) (Nat.succ_ne_zero _) (show Env.ev E (.tmp 3) = _ from g3.trans rfl))) ?_
      refine .cons (fun E h => by have g7 := h.get 7 (by decide); have g8 := h.get 8 (by decide); exact OpStep.yes (t := 7) rfl rfl (lt_ok rfl) (g7.trans rfl) (Step.load_box (c := .d (.int .i64 x.f0)) (t := 9) rfl rfl (by exact lt_ok rfl) (by kernel_rfl) (show Env.ev E (.tmp 8) = _ from g8.trans rfl) (by exact h.box rfl) rfl)) ?_
      refine .cons (fun E h => by have g7 := h.get 7 (by decide); have g9 := h.get 9 (by decide); exact OpStep.yes (t := 7) rfl rfl (lt_ok rfl) (g7.trans rfl) (Step.to (E1 := E.set 10 (.one (.d (.bool (decide (0 ≤ x.f0 ∧ x.f0 ≤ 1152921504606846975)))))) (congrArg (fun b_ => E.set 10 (.one (.d (.bool b_)))) hb2) (Step.call (f := 137) (xs := [.tmp 9]) (ps := [(.one (.d (.int .i64 x.f0)))]) false (g := .func 137) (t := 10) rfl rfl (by exact lt_ok rfl) rfl (by kernel_rfl) (evs_cons (show Env.ev E (.tmp 9) = _ from g9.trans rfl) (rfl)) (.cons (.one (.d _)) .nil) (ok_spec_l01Num x.f0) (.inr rfl) (At.freshRows h rfl) (by simp) rfl))) ?_
      refine .cons (fun E h => by have g7 := h.get 7 (by decide); have g10 := h.get 10 (by decide); exact OpStep.plain rfl (Step.pick (b := true) (p := (.one (.d (.bool true)))) (t := 11) rfl rfl (by exact lt_ok rfl) (show Env.ev E (.tmp 7) = _ from g7.trans rfl) (show Env.ev E (.tmp 10) = _ from g10.trans rfl))) ?_
      refine .cons (fun E h => by have g11 := h.get 11 (by decide); exact OpStep.plain rfl (Step.move (p := (.one (.d (.bool true)))) (t := 12) rfl rfl (by exact lt_ok rfl) (show Env.ev E (.tmp 11) = _ from g11.trans rfl))) ?_
      refine .cons (fun E h => by have g3 := h.get 3 (by decide); have g12 := h.get 12 (by decide); exact OpStep.yes (t := 12) rfl rfl (lt_ok rfl) (g12.trans rfl) (Step.fieldAddr (q := 0) (off := 1) (n := 1) (one := true) (t := 13) rfl rfl (by exact lt_ok rfl) (by kernel_rfl) (Nat.succ_ne_zero _) (show Env.ev E (.tmp 3) = _ from g3.trans rfl))) ?_
      refine .cons (fun E h => by have g12 := h.get 12 (by decide); have g13 := h.get 13 (by decide); exact OpStep.yes (t := 12) rfl rfl (lt_ok rfl) (g12.trans rfl) (Step.load_box (c := .d (.int .i64 x.f1)) (t := 14) rfl rfl (by exact lt_ok rfl) (by kernel_rfl) (show Env.ev E (.tmp 13) = _ from g13.trans rfl) (by exact h.box rfl) rfl)) ?_
      refine .cons (fun E h => by have g2 := h.get 2 (by decide); have g12 := h.get 12 (by decide); exact OpStep.yes (t := 12) rfl rfl (lt_ok rfl) (g12.trans rfl) (Step.fieldAddr (q := 0) (off := 2) (n := 1) (one := true) (t := 15) rfl rfl (by exact lt_ok rfl) (by kernel_rfl) (Nat.succ_ne_zero _) (show Env.ev E (.tmp 2) = _ from g2.trans rfl))) ?_
      refine .cons (fun E h => by have g12 := h.get 12 (by decide); have g15 := h.get 15 (by decide); exact OpStep.yes (t := 12) rfl rfl (lt_ok rfl) (g12.trans rfl) (Step.load_box (c := .d (.int .i64 l.f2)) (t := 16) rfl rfl (by exact lt_ok rfl) (by kernel_rfl) (show Env.ev E (.tmp 15) = _ from g15.trans rfl) (by exact h.box rfl) rfl)) ?_
      refine .cons (fun E h => by have g12 := h.get 12 (by decide); have g14 := h.get 14 (by decide); have g16 := h.get 16 (by decide); exact OpStep.yes (t := 12) rfl rfl (lt_ok rfl) (g12.trans rfl) (Step.to (E1 := E.set 17 (.one (.d (.bool (decide (1 ≤ x.f1 ∧ x.f1 ≤ l.f2)))))) (congrArg (fun b_ => E.set 17 (.one (.d (.bool b_)))) hb3) (Step.call (f := 138) (xs := [.tmp 14, .const (.int .i64 1), .tmp 16]) (ps := [(.one (.d (.int .i64 x.f1))), (.one (.d (.int .i64 1))), (.one (.d (.int .i64 l.f2)))]) false (g := .func 138) (t := 17) rfl rfl (by exact lt_ok rfl) rfl (by kernel_rfl) (evs_cons (show Env.ev E (.tmp 14) = _ from g14.trans rfl) (evs_cons rfl (evs_cons (show Env.ev E (.tmp 16) = _ from g16.trans rfl) (rfl)))) (.cons (.one (.d _)) (.cons (.one (.d _)) (.cons (.one (.d _)) .nil))) (ok_spec_l01In x.f1 1 l.f2) (.inr rfl) (At.freshRows h rfl) (by simp) rfl))) ?_
      refine .cons (fun E h => by have g12 := h.get 12 (by decide); have g17 := h.get 17 (by decide); exact OpStep.plain rfl (Step.pick (b := true) (p := (.one (.d (.bool true)))) (t := 18) rfl rfl (by exact lt_ok rfl) (show Env.ev E (.tmp 12) = _ from g12.trans rfl) (show Env.ev E (.tmp 17) = _ from g17.trans rfl))) ?_
      refine .cons (fun E h => by have g18 := h.get 18 (by decide); exact OpStep.plain rfl (Step.move (p := (.one (.d (.bool true)))) (t := 19) rfl rfl (by exact lt_ok rfl) (show Env.ev E (.tmp 18) = _ from g18.trans rfl))) ?_
      refine .cons (fun E h => by have g3 := h.get 3 (by decide); have g19 := h.get 19 (by decide); exact OpStep.yes (t := 19) rfl rfl (lt_ok rfl) (g19.trans rfl) (Step.fieldAddr (q := 0) (off := 2) (n := 1) (one := true) (t := 20) rfl rfl (by exact lt_ok rfl) (by kernel_rfl) (Nat.succ_ne_zero _) (show Env.ev E (.tmp 3) = _ from g3.trans rfl))) ?_
      refine .cons (fun E h => by have g19 := h.get 19 (by decide); have g20 := h.get 20 (by decide); exact OpStep.yes (t := 19) rfl rfl (lt_ok rfl) (g19.trans rfl) (Step.load_box (c := .d (.int .i64 x.f2)) (t := 21) rfl rfl (by exact lt_ok rfl) (by kernel_rfl) (show Env.ev E (.tmp 20) = _ from g20.trans rfl) (by exact h.box rfl) rfl)) ?_
      refine .cons (fun E h => by have g3 := h.get 3 (by decide); have g19 := h.get 19 (by decide); exact OpStep.yes (t := 19) rfl rfl (lt_ok rfl) (g19.trans rfl) (Step.fieldAddr (q := 0) (off := 1) (n := 1) (one := true) (t := 22) rfl rfl (by exact lt_ok rfl) (by kernel_rfl) (Nat.succ_ne_zero _) (show Env.ev E (.tmp 3) = _ from g3.trans rfl))) ?_
      refine .cons (fun E h => by have g19 := h.get 19 (by decide); have g22 := h.get 22 (by decide); exact OpStep.yes (t := 19) rfl rfl (lt_ok rfl) (g19.trans rfl) (Step.load_box (c := .d (.int .i64 x.f1)) (t := 23) rfl rfl (by exact lt_ok rfl) (by kernel_rfl) (show Env.ev E (.tmp 22) = _ from g22.trans rfl) (by exact h.box rfl) rfl)) ?_
      refine .cons (fun E h => by have g19 := h.get 19 (by decide); have g23 := h.get 23 (by decide); exact OpStep.yes (t := 19) rfl rfl (lt_ok rfl) (g19.trans rfl) (Step.bin (r := .int .i64 (IntKind.i64.wrap (x.f1 - 1))) (t := 24) rfl rfl (by exact lt_ok rfl) (show Env.ev E (.tmp 23) = _ from g23.trans rfl) rfl (Bin.sub (a := x.f1) (b := 1) (rfl)))) ?_
      refine .cons (fun E h => by have g19 := h.get 19 (by decide); have g21 := h.get 21 (by decide); have g24 := h.get 24 (by decide); exact OpStep.yes (t := 19) rfl rfl (lt_ok rfl) (g19.trans rfl) (Step.to (E1 := E.set 25 (.one (.d (.bool (decide (0 ≤ x.f2 ∧ x.f2 ≤ (IntKind.i64.wrap (x.f1 - 1)))))))) (congrArg (fun b_ => E.set 25 (.one (.d (.bool b_)))) hb4) (Step.call (f := 138) (xs := [.tmp 21, .const (.int .i64 0), .tmp 24]) (ps := [(.one (.d (.int .i64 x.f2))), (.one (.d (.int .i64 0))), (.one (.d (.int .i64 (IntKind.i64.wrap (x.f1 - 1)))))]) false (g := .func 138) (t := 25) rfl rfl (by exact lt_ok rfl) rfl (by kernel_rfl) (evs_cons (show Env.ev E (.tmp 21) = _ from g21.trans rfl) (evs_cons rfl (evs_cons (show Env.ev E (.tmp 24) = _ from g24.trans rfl) (rfl)))) (.cons (.one (.d _)) (.cons (.one (.d _)) (.cons (.one (.d _)) .nil))) (ok_spec_l01In x.f2 0 (IntKind.i64.wrap (x.f1 - 1))) (.inr rfl) (At.freshRows h rfl) (by simp) rfl))) ?_
      refine .cons (fun E h => by have g19 := h.get 19 (by decide); have g25 := h.get 25 (by decide); exact OpStep.plain rfl (Step.pick (b := true) (p := (.one (.d (.bool false)))) (t := 26) rfl rfl (by exact lt_ok rfl) (show Env.ev E (.tmp 19) = _ from g19.trans rfl) (show Env.ev E (.tmp 25) = _ from g25.trans rfl))) ?_
      refine .cons (fun E h => by have g26 := h.get 26 (by decide); exact OpStep.plain rfl (Step.move (p := (.one (.d (.bool false)))) (t := 27) rfl rfl (by exact lt_ok rfl) (show Env.ev E (.tmp 26) = _ from g26.trans rfl))) ?_
      refine .cons (fun E h => OpStep.no (t := 27) rfl rfl (lt_ok rfl) ((h.get 27 (by decide)).trans rfl) (by decide) rfl (lt_ok rfl)) ?_
      refine .cons (fun E h => OpStep.no (t := 27) rfl rfl (lt_ok rfl) ((h.get 27 (by decide)).trans rfl) (by decide) rfl (lt_ok rfl)) ?_
      refine .cons (fun E h => OpStep.no (t := 27) rfl rfl (lt_ok rfl) ((h.get 27 (by decide)).trans rfl) (by decide) rfl (lt_ok rfl)) ?_
      refine .cons (fun E h => OpStep.no (t := 27) rfl rfl (lt_ok rfl) ((h.get 27 (by decide)).trans rfl) (by decide) rfl (lt_ok rfl)) ?_
      refine .cons (fun E h => OpStep.no (t := 27) rfl rfl (lt_ok rfl) ((h.get 27 (by decide)).trans rfl) (by decide) rfl (lt_ok rfl)) ?_
      refine .cons (fun E h => OpStep.no (t := 27) rfl rfl (lt_ok rfl) ((h.get 27 (by decide)).trans rfl) (by decide) rfl (lt_ok rfl)) ?_
      refine .cons (fun E h => by have g27 := h.get 27 (by decide); have g33 := h.get 33 (by decide); exact OpStep.plain rfl (Step.pick (b := false) (p := (.one (.d (.bool false)))) (t := 34) rfl rfl (by exact lt_ok rfl) (show Env.ev E (.tmp 27) = _ from g27.trans rfl) rfl)) ?_
      refine .cons (fun E h => by have g34 := h.get 34 (by decide); exact OpStep.plain rfl (Step.move (p := (.one (.d (.bool false)))) (t := 35) rfl rfl (by exact lt_ok rfl) (show Env.ev E (.tmp 34) = _ from g34.trans rfl))) ?_
      refine .cons (fun E h => OpStep.no (t := 35) rfl rfl (lt_ok rfl) ((h.get 35 (by decide)).trans rfl) (by decide) rfl (lt_ok rfl)) ?_
      refine .cons (fun E h => OpStep.no (t := 35) rfl rfl (lt_ok rfl) ((h.get 35 (by decide)).trans rfl) (by decide) rfl (lt_ok rfl)) ?_
      refine .cons (fun E h => OpStep.no (t := 35) rfl rfl (lt_ok rfl) ((h.get 35 (by decide)).trans rfl) (by decide) rfl (lt_ok rfl)) ?_
      refine .cons (fun E h => OpStep.no (t := 35) rfl rfl (lt_ok rfl) ((h.get 35 (by decide)).trans rfl) (by decide) rfl (lt_ok rfl)) ?_
      refine .cons (fun E h => OpStep.no (t := 35) rfl rfl (lt_ok rfl) ((h.get 35 (by decide)).trans rfl) (by decide) rfl (lt_ok rfl)) ?_
      refine .cons (fun E h => OpStep.no (t := 35) rfl rfl (lt_ok rfl) ((h.get 35 (by decide)).trans rfl) (by decide) rfl (lt_ok rfl)) ?_
      refine .cons (fun E h => OpStep.no (t := 35) rfl rfl (lt_ok rfl) ((h.get 35 (by decide)).trans rfl) (by decide) rfl (lt_ok rfl)) ?_
      refine .cons (fun E h => OpStep.no (t := 35) rfl rfl (lt_ok rfl) ((h.get 35 (by decide)).trans rfl) (by decide) rfl (lt_ok rfl)) ?_
      refine .cons (fun E h => OpStep.no (t := 35) rfl rfl (lt_ok rfl) ((h.get 35 (by decide)).trans rfl) (by decide) rfl (lt_ok rfl)) ?_
      refine .cons (fun E h => by have g35 := h.get 35 (by decide); have g44 := h.get 44 (by decide); exact OpStep.plain rfl (Step.pick (b := false) (p := (.one (.d (.bool false)))) (t := 45) rfl rfl (by exact lt_ok rfl) (show Env.ev E (.tmp 35) = _ from g35.trans rfl) rfl)) ?_
      refine .cons (fun E h => by have g45 := h.get 45 (by decide); exact OpStep.plain rfl (Step.move (p := (.one (.d (.bool false)))) (t := 46) rfl rfl (by exact lt_ok rfl) (show Env.ev E (.tmp 45) = _ from g45.trans rfl))) ?_
      refine .cons (fun E h => OpStep.no (t := 46) rfl rfl (lt_ok rfl) ((h.get 46 (by decide)).trans rfl) (by decide) rfl (lt_ok rfl)) ?_
      refine .cons (fun E h => OpStep.no (t := 46) rfl rfl (lt_ok rfl) ((h.get 46 (by decide)).trans rfl) (by decide) rfl (lt_ok rfl)) ?_
      refine .cons (fun E h => OpStep.no (t := 46) rfl rfl (lt_ok rfl) ((h.get 46 (by decide)).trans rfl) (by decide) rfl (lt_ok rfl)) ?_
      refine .cons (fun E h => by have g46 := h.get 46 (by decide); have g49 := h.get 49 (by decide); exact OpStep.plain rfl (Step.pick (b := false) (p := (.one (.d (.bool false)))) (t := 50) rfl rfl (by exact lt_ok rfl) (show Env.ev E (.tmp 46) = _ from g46.trans rfl) rfl)) ?_
      refine .cons (fun E h => by have g50 := h.get 50 (by decide); exact OpStep.plain rfl (Step.assign (p := (.one (.d (.bool false)))) (t := 4) rfl rfl (by exact lt_ok rfl) (show Env.ev E (.tmp 50) = _ from g50.trans rfl))) ?_
      exact .nil _ _
     refine TL.nil ?_
     refine T.weaken (E' := { tm := [(4, (.one (.d (.bool false))))], rows := [], boxes := [] }) (Env.le_mk ⟨by kernel_rfl, trivial⟩ trivial trivial) ?_
     refine T.ret ?_
     exact ⟨[(false, [.d (.bool false)])], (.cons rfl .nil), rfl, [], (RetC.rd' (by first | rfl | (congr 1; symm; simp only [inclOk, *, Bool.and_true, Bool.true_and, Bool.and_false, Bool.false_and, decide_true, decide_false, and_true, true_and, and_self, and_false, false_and, Bool.and_self, not_true, not_false, Bool.not_true, Bool.not_false, ge_iff_le, gt_iff_lt, if_true, if_false, Bool.false_eq_true, ite_true, ite_false, reduceIte]; done) | (congr 1; symm; simp_all [inclOk]; done) | (congr 1; symm; simp_all [inclOk]; omega)) .nil)⟩
   ·
    refine T.draw [⟨5, (.agg [.d (.int .i64 l.f0), .d (.int .i64 l.f1), .d (.int .i64 l.f2), .d (.int .i64 l.f3), .d (.int .i64 l.f4)]), []⟩, ⟨6, (.one (.d (.bool true))), []⟩, ⟨7, (.one (.d (.bool true))), []⟩, ⟨8, (.one (.ptr 3 0)), []⟩, ⟨9, (.one (.d (.int .i64 x.f0))), []⟩, ⟨10, (.one (.d (.bool true))), []⟩, ⟨11, (.one (.d (.bool true))), []⟩, ⟨12, (.one (.d (.bool true))), []⟩, ⟨13, (.one (.ptr 3 1)), []⟩, ⟨14, (.one (.d (.int .i64 x.f1))), []⟩, ⟨15, (.one (.ptr 2 2)), []⟩, ⟨16, (.one (.d (.int .i64 l.f2))), []⟩, ⟨17, (.one (.d (.bool false))), []⟩, ⟨18, (.one (.d (.bool false))), []⟩, ⟨19, (.one (.d (.bool false))), []⟩, ⟨20, (.one (.und)), []⟩, ⟨21, (.one (.und)), []⟩, ⟨22, (.one (.und)), []⟩, ⟨23, (.one (.und)), []⟩, ⟨24, (.one (.und)), []⟩, ⟨25, (.one (.und)), []⟩, ⟨26, (.one (.d (.bool false))), []⟩, ⟨27, (.one (.d (.bool false))), []⟩, ⟨28, (.one (.und)), []⟩, ⟨29, (.one (.und)), []⟩, ⟨30, (.one (.und)), []⟩, ⟨31, (.one (.und)), []⟩, ⟨32, (.one (.und)), []⟩, ⟨33, (.one (.und)), []⟩, ⟨34, (.one (.d (.bool false))), []⟩, ⟨35, (.one (.d (.bool false))), []⟩, ⟨36, (.one (.und)), []⟩, ⟨37, (.one (.und)), []⟩, ⟨38, (.one (.und)), []⟩, ⟨39, (.one (.und)), []⟩, ⟨40, (.one (.und)), []⟩, ⟨41, (.one (.und)), []⟩, ⟨42, (.one (.und)), []⟩, ⟨43, (.one (.und)), []⟩, ⟨44, (.one (.und)), []⟩, ⟨45, (.one (.d (.bool false))), []⟩, ⟨46, (.one (.d (.bool false))), []⟩, ⟨47, (.one (.und)), []⟩, ⟨48, (.one (.und)), []⟩, ⟨49, (.one (.und)), []⟩, ⟨50, (.one (.d (.bool false))), []⟩, ⟨4, (.one (.d (.bool false))), []⟩] (by kernel_rfl) (by kernel_rfl) ?_ ?_
    ·
     refine .cons (fun E h => by have g2 := h.get 2 (by decide); exact OpStep.plain rfl (Step.load_box_agg (n := 5) (qs := [.d (.int .i64 l.f0), .d (.int .i64 l.f1), .d (.int .i64 l.f2), .d (.int .i64 l.f3), .d (.int .i64 l.f4)]) (t := 5) rfl rfl (by exact lt_ok rfl) (by kernel_rfl) (show Env.ev E (.tmp 2) = _ from g2.trans rfl) (by exact h.box rfl) rfl rfl)) ?_
     refine .cons (fun E h => by have g5 := h.get 5 (by decide); exact OpStep.plain rfl (Step.to (E1 := E.set 6 (.one (.d (.bool (limOk l))))) (congrArg (fun b_ => E.set 6 (.one (.d (.bool b_)))) hb1) (Step.call (f := 94) (xs := [.tmp 5]) (ps := [(.agg [.d (.int .i64 l.f0), .d (.int .i64 l.f1), .d (.int .i64 l.f2), .d (.int .i64 l.f3), .d (.int .i64 l.f4)])]) false (g := .func 94) (t := 6) rfl rfl (by exact lt_ok rfl) rfl (by kernel_rfl) (evs_cons (show Env.ev E (.tmp 5) = _ from g5.trans rfl) (rfl)) (.cons (.agg (.cons (.d _) (.cons (.d _) (.cons (.d _) (.cons (.d _) (.cons (.d _) .nil)))))) .nil) (ok_spec_LimitsOk l) (.inr rfl) (At.freshRows h rfl) (by simp) rfl))) ?_
     refine .cons (fun E h => by have g6 := h.get 6 (by decide); exact OpStep.plain rfl (Step.move (p := (.one (.d (.bool true)))) (t := 7) rfl rfl (by exact lt_ok rfl) (show Env.ev E (.tmp 6) = _ from g6.trans rfl))) ?_
     refine .cons (fun E h => by have g3 := h.get 3 (by decide); have g7 := h.get 7 (by decide); exact OpStep.yes (t := 7) rfl rfl (lt_ok rfl) (g7.trans rfl) (Step.fieldAddr (q := 0) (off := 0) (n := 1) (one := true) (t := 8) rfl rfl (by exact lt_ok rfl) (by kernel_rfl) (Nat.succ_ne_zero _) (show Env.ev E (.tmp 3) = _ from g3.trans rfl))) ?_
     refine .cons (fun E h => by have g7 := h.get 7 (by decide); have g8 := h.get 8 (by decide); exact OpStep.yes (t := 7) rfl rfl (lt_ok rfl) (g7.trans rfl) (Step.load_box (c := .d (.int .i64 x.f0)) (t := 9) rfl rfl (by exact lt_ok rfl) (by kernel_rfl) (show Env.ev E (.tmp 8) = _ from g8.trans rfl) (by exact h.box rfl) rfl)) ?_
     refine .cons (fun E h => by have g7 := h.get 7 (by decide); have g9 := h.get 9 (by decide); exact OpStep.yes (t := 7) rfl rfl (lt_ok rfl) (g7.trans rfl) (Step.to (E1 := E.set 10 (.one (.d (.bool (decide (0 ≤ x.f0 ∧ x.f0 ≤ 1152921504606846975)))))) (congrArg (fun b_ => E.set 10 (.one (.d (.bool b_)))) hb2) (Step.call (f := 137) (xs := [.tmp 9]) (ps := [(.one (.d (.int .i64 x.f0)))]) false (g := .func 137) (t := 10) rfl rfl (by exact lt_ok rfl) rfl (by kernel_rfl) (evs_cons (show Env.ev E (.tmp 9) = _ from g9.trans rfl) (rfl)) (.cons (.one (.d _)) .nil) (ok_spec_l01Num x.f0) (.inr rfl) (At.freshRows h rfl) (by simp) rfl))) ?_
     refine .cons (fun E h => by have g7 := h.get 7 (by decide); have g10 := h.get 10 (by decide); exact OpStep.plain rfl (Step.pick (b := true) (p := (.one (.d (.bool true)))) (t := 11) rfl rfl (by exact lt_ok rfl) (show Env.ev E (.tmp 7) = _ from g7.trans rfl) (show Env.ev E (.tmp 10) = _ from g10.trans rfl))) ?_
     refine .cons (fun E h => by have g11 := h.get 11 (by decide); exact OpStep.plain rfl (Step.move (p := (.one (.d (.bool true)))) (t := 12) rfl rfl (by exact lt_ok rfl) (show Env.ev E (.tmp 11) = _ from g11.trans rfl))) ?_
     refine .cons (fun E h => by have g3 := h.get 3 (by decide); have g12 := h.get 12 (by decide); exact OpStep.yes (t := 12) rfl rfl (lt_ok rfl) (g12.trans rfl) (Step.fieldAddr (q := 0) (off := 1) (n := 1) (one := true) (t := 13) rfl rfl (by exact lt_ok rfl) (by kernel_rfl) (Nat.succ_ne_zero _) (show Env.ev E (.tmp 3) = _ from g3.trans rfl))) ?_
     refine .cons (fun E h => by have g12 := h.get 12 (by decide); have g13 := h.get 13 (by decide); exact OpStep.yes (t := 12) rfl rfl (lt_ok rfl) (g12.trans rfl) (Step.load_box (c := .d (.int .i64 x.f1)) (t := 14) rfl rfl (by exact lt_ok rfl) (by kernel_rfl) (show Env.ev E (.tmp 13) = _ from g13.trans rfl) (by exact h.box rfl) rfl)) ?_
     refine .cons (fun E h => by have g2 := h.get 2 (by decide); have g12 := h.get 12 (by decide); exact OpStep.yes (t := 12) rfl rfl (lt_ok rfl) (g12.trans rfl) (Step.fieldAddr (q := 0) (off := 2) (n := 1) (one := true) (t := 15) rfl rfl (by exact lt_ok rfl) (by kernel_rfl) (Nat.succ_ne_zero _) (show Env.ev E (.tmp 2) = _ from g2.trans rfl))) ?_
     refine .cons (fun E h => by have g12 := h.get 12 (by decide); have g15 := h.get 15 (by decide); exact OpStep.yes (t := 12) rfl rfl (lt_ok rfl) (g12.trans rfl) (Step.load_box (c := .d (.int .i64 l.f2)) (t := 16) rfl rfl (by exact lt_ok rfl) (by kernel_rfl) (show Env.ev E (.tmp 15) = _ from g15.trans rfl) (by exact h.box rfl) rfl)) ?_
     refine .cons (fun E h => by have g12 := h.get 12 (by decide); have g14 := h.get 14 (by decide); have g16 := h.get 16 (by decide); exact OpStep.yes (t := 12) rfl rfl (lt_ok rfl) (g12.trans rfl) (Step.to (E1 := E.set 17 (.one (.d (.bool (decide (1 ≤ x.f1 ∧ x.f1 ≤ l.f2)))))) (congrArg (fun b_ => E.set 17 (.one (.d (.bool b_)))) hb3) (Step.call (f := 138) (xs := [.tmp 14, .const (.int .i64 1), .tmp 16]) (ps := [(.one (.d (.int .i64 x.f1))), (.one (.d (.int .i64 1))), (.one (.d (.int .i64 l.f2)))]) false (g := .func 138) (t := 17) rfl rfl (by exact lt_ok rfl) rfl (by kernel_rfl) (evs_cons (show Env.ev E (.tmp 14) = _ from g14.trans rfl) (evs_cons rfl (evs_cons (show Env.ev E (.tmp 16) = _ from g16.trans rfl) (rfl)))) (.cons (.one (.d _)) (.cons (.one (.d _)) (.cons (.one (.d _)) .nil))) (ok_spec_l01In x.f1 1 l.f2) (.inr rfl) (At.freshRows h rfl) (by simp) rfl))) ?_
     refine .cons (fun E h => by have g12 := h.get 12 (by decide); have g17 := h.get 17 (by decide); exact OpStep.plain rfl (Step.pick (b := true) (p := (.one (.d (.bool false)))) (t := 18) rfl rfl (by exact lt_ok rfl) (show Env.ev E (.tmp 12) = _ from g12.trans rfl) (show Env.ev E (.tmp 17) = _ from g17.trans rfl))) ?_
     refine .cons (fun E h => by have g18 := h.get 18 (by decide); exact OpStep.plain rfl (Step.move (p := (.one (.d (.bool false)))) (t := 19) rfl rfl (by exact lt_ok rfl) (show Env.ev E (.tmp 18) = _ from g18.trans rfl))) ?_
     refine .cons (fun E h => OpStep.no (t := 19) rfl rfl (lt_ok rfl) ((h.get 19 (by decide)).trans rfl) (by decide) rfl (lt_ok rfl)) ?_
     refine .cons (fun E h => OpStep.no (t := 19) rfl rfl (lt_ok rfl) ((h.get 19 (by decide)).trans rfl) (by decide) rfl (lt_ok rfl)) ?_
     refine .cons (fun E h => OpStep.no (t := 19) rfl rfl (lt_ok rfl) ((h.get 19 (by decide)).trans rfl) (by decide) rfl (lt_ok rfl)) ?_
     refine .cons (fun E h => OpStep.no (t := 19) rfl rfl (lt_ok rfl) ((h.get 19 (by decide)).trans rfl) (by decide) rfl (lt_ok rfl)) ?_
     refine .cons (fun E h => OpStep.no (t := 19) rfl rfl (lt_ok rfl) ((h.get 19 (by decide)).trans rfl) (by decide) rfl (lt_ok rfl)) ?_
     refine .cons (fun E h => OpStep.no (t := 19) rfl rfl (lt_ok rfl) ((h.get 19 (by decide)).trans rfl) (by decide) rfl (lt_ok rfl)) ?_
     refine .cons (fun E h => by have g19 := h.get 19 (by decide); have g25 := h.get 25 (by decide); exact OpStep.plain rfl (Step.pick (b := false) (p := (.one (.d (.bool false)))) (t := 26) rfl rfl (by exact lt_ok rfl) (show Env.ev E (.tmp 19) = _ from g19.trans rfl) rfl)) ?_
     refine .cons (fun E h => by have g26 := h.get 26 (by decide); exact OpStep.plain rfl (Step.move (p := (.one (.d (.bool false)))) (t := 27) rfl rfl (by exact lt_ok rfl) (show Env.ev E (.tmp 26) = _ from g26.trans rfl))) ?_
     refine .cons (fun E h => OpStep.no (t := 27) rfl rfl (lt_ok rfl) ((h.get 27 (by decide)).trans rfl) (by decide) rfl (lt_ok rfl)) ?_
     refine .cons (fun E h => OpStep.no (t := 27) rfl rfl (lt_ok rfl) ((h.get 27 (by decide)).trans rfl) (by decide) rfl (lt_ok rfl)) ?_
     refine .cons (fun E h => OpStep.no (t := 27) rfl rfl (lt_ok rfl) ((h.get 27 (by decide)).trans rfl) (by decide) rfl (lt_ok rfl)) ?_
     refine .cons (fun E h => OpStep.no (t := 27) rfl rfl (lt_ok rfl) ((h.get 27 (by decide)).trans rfl) (by decide) rfl (lt_ok rfl)) ?_
     refine .cons (fun E h => OpStep.no (t := 27) rfl rfl (lt_ok rfl) ((h.get 27 (by decide)).trans rfl) (by decide) rfl (lt_ok rfl)) ?_
     refine .cons (fun E h => OpStep.no (t := 27) rfl rfl (lt_ok rfl) ((h.get 27 (by decide)).trans rfl) (by decide) rfl (lt_ok rfl)) ?_
     refine .cons (fun E h => by have g27 := h.get 27 (by decide); have g33 := h.get 33 (by decide); exact OpStep.plain rfl (Step.pick (b := false) (p := (.one (.d (.bool false)))) (t := 34) rfl rfl (by exact lt_ok rfl) (show Env.ev E (.tmp 27) = _ from g27.trans rfl) rfl)) ?_
     refine .cons (fun E h => by have g34 := h.get 34 (by decide); exact OpStep.plain rfl (Step.move (p := (.one (.d (.bool false)))) (t := 35) rfl rfl (by exact lt_ok rfl) (show Env.ev E (.tmp 34) = _ from g34.trans rfl))) ?_
     refine .cons (fun E h => OpStep.no (t := 35) rfl rfl (lt_ok rfl) ((h.get 35 (by decide)).trans rfl) (by decide) rfl (lt_ok rfl)) ?_
     refine .cons (fun E h => OpStep.no (t := 35) rfl rfl (lt_ok rfl) ((h.get 35 (by decide)).trans rfl) (by decide) rfl (lt_ok rfl)) ?_
     refine .cons (fun E h => OpStep.no (t := 35) rfl rfl (lt_ok rfl) ((h.get 35 (by decide)).trans rfl) (by decide) rfl (lt_ok rfl)) ?_
     refine .cons (fun E h => OpStep.no (t := 35) rfl rfl (lt_ok rfl) ((h.get 35 (by decide)).trans rfl) (by decide) rfl (lt_ok rfl)) ?_
     refine .cons (fun E h => OpStep.no (t := 35) rfl rfl (lt_ok rfl) ((h.get 35 (by decide)).trans rfl) (by decide) rfl (lt_ok rfl)) ?_
     refine .cons (fun E h => OpStep.no (t := 35) rfl rfl (lt_ok rfl) ((h.get 35 (by decide)).trans rfl) (by decide) rfl (lt_ok rfl)) ?_
     refine .cons (fun E h => OpStep.no (t := 35) rfl rfl (lt_ok rfl) ((h.get 35 (by decide)).trans rfl) (by decide) rfl (lt_ok rfl)) ?_
     refine .cons (fun E h => OpStep.no (t := 35) rfl rfl (lt_ok rfl) ((h.get 35 (by decide)).trans rfl) (by decide) rfl (lt_ok rfl)) ?_
     refine .cons (fun E h => OpStep.no (t := 35) rfl rfl (lt_ok rfl) ((h.get 35 (by decide)).trans rfl) (by decide) rfl (lt_ok rfl)) ?_
     refine .cons (fun E h => by have g35 := h.get 35 (by decide); have g44 := h.get 44 (by decide); exact OpStep.plain rfl (Step.pick (b := false) (p := (.one (.d (.bool false)))) (t := 45) rfl rfl (by exact lt_ok rfl) (show Env.ev E (.tmp 35) = _ from g35.trans rfl) rfl)) ?_
     refine .cons (fun E h => by have g45 := h.get 45 (by decide); exact OpStep.plain rfl (Step.move (p := (.one (.d (.bool false)))) (t := 46) rfl rfl (by exact lt_ok rfl) (show Env.ev E (.tmp 45) = _ from g45.trans rfl))) ?_
     refine .cons (fun E h => OpStep.no (t := 46) rfl rfl (lt_ok rfl) ((h.get 46 (by decide)).trans rfl) (by decide) rfl (lt_ok rfl)) ?_
     refine .cons (fun E h => OpStep.no (t := 46) rfl rfl (lt_ok rfl) ((h.get 46 (by decide)).trans rfl) (by decide) rfl (lt_ok rfl)) ?_
     refine .cons (fun E h => OpStep.no (t := 46) rfl rfl (lt_ok rfl) ((h.get 46 (by decide)).trans rfl) (by decide) rfl (lt_ok rfl)) ?_
     refine .cons (fun E h => by have g46 := h.get 46 (by decide); have g49 := h.get 49 (by decide); exact OpStep.plain rfl (Step.pick (b := false) (p := (.one (.d (.bool false)))) (t := 50) rfl rfl (by exact lt_ok rfl) (show Env.ev E (.tmp 46) = _ from g46.trans rfl) rfl)) ?_
     refine .cons (fun E h => by have g50 := h.get 50 (by decide); exact OpStep.plain rfl (Step.assign (p := (.one (.d (.bool false)))) (t := 4) rfl rfl (by exact lt_ok rfl) (show Env.ev E (.tmp 50) = _ from g50.trans rfl))) ?_
     exact .nil _ _
    refine TL.nil ?_
    refine T.weaken (E' := { tm := [(4, (.one (.d (.bool false))))], rows := [], boxes := [] }) (Env.le_mk ⟨by kernel_rfl, trivial⟩ trivial trivial) ?_
    refine T.ret ?_
    exact ⟨[(false, [.d (.bool false)])], (.cons rfl .nil), rfl, [], (RetC.rd' (by first | rfl | (congr 1; symm; simp only [inclOk, *, Bool.and_true, Bool.true_and, Bool.and_false, Bool.false_and, decide_true, decide_false, and_true, true_and, and_self, and_false, false_and, Bool.and_self, not_true, not_false, Bool.not_true, Bool.not_false, ge_iff_le, gt_iff_lt, if_true, if_false, Bool.false_eq_true, ite_true, ite_false, reduceIte]; done) | (congr 1; symm; simp_all [inclOk]; done) | (congr 1; symm; simp_all [inclOk]; omega)) .nil)⟩
  ·
   refine T.draw [⟨5, (.agg [.d (.int .i64 l.f0), .d (.int .i64 l.f1), .d (.int .i64 l.f2), .d (.int .i64 l.f3), .d (.int .i64 l.f4)]), []⟩, ⟨6, (.one (.d (.bool true))), []⟩, ⟨7, (.one (.d (.bool true))), []⟩, ⟨8, (.one (.ptr 3 0)), []⟩, ⟨9, (.one (.d (.int .i64 x.f0))), []⟩, ⟨10, (.one (.d (.bool false))), []⟩, ⟨11, (.one (.d (.bool false))), []⟩, ⟨12, (.one (.d (.bool false))), []⟩, ⟨13, (.one (.und)), []⟩, ⟨14, (.one (.und)), []⟩, ⟨15, (.one (.und)), []⟩, ⟨16, (.one (.und)), []⟩, ⟨17, (.one (.und)), []⟩, ⟨18, (.one (.d (.bool false))), []⟩, ⟨19, (.one (.d (.bool false))), []⟩, ⟨20, (.one (.und)), []⟩, ⟨21, (.one (.und)), []⟩, ⟨22, (.one (.und)), []⟩, ⟨23, (.one (.und)), []⟩, ⟨24, (.one (.und)), []⟩, ⟨25, (.one (.und)), []⟩, ⟨26, (.one (.d (.bool false))), []⟩, ⟨27, (.one (.d (.bool false))), []⟩, ⟨28, (.one (.und)), []⟩, ⟨29, (.one (.und)), []⟩, ⟨30, (.one (.und)), []⟩, ⟨31, (.one (.und)), []⟩, ⟨32, (.one (.und)), []⟩, ⟨33, (.one (.und)), []⟩, ⟨34, (.one (.d (.bool false))), []⟩, ⟨35, (.one (.d (.bool false))), []⟩, ⟨36, (.one (.und)), []⟩, ⟨37, (.one (.und)), []⟩, ⟨38, (.one (.und)), []⟩, ⟨39, (.one (.und)), []⟩, ⟨40, (.one (.und)), []⟩, ⟨41, (.one (.und)), []⟩, ⟨42, (.one (.und)), []⟩, ⟨43, (.one (.und)), []⟩, ⟨44, (.one (.und)), []⟩, ⟨45, (.one (.d (.bool false))), []⟩, ⟨46, (.one (.d (.bool false))), []⟩, ⟨47, (.one (.und)), []⟩, ⟨48, (.one (.und)), []⟩, ⟨49, (.one (.und)), []⟩, ⟨50, (.one (.d (.bool false))), []⟩, ⟨4, (.one (.d (.bool false))), []⟩] (by kernel_rfl) (by kernel_rfl) ?_ ?_
   ·
    refine .cons (fun E h => by have g2 := h.get 2 (by decide); exact OpStep.plain rfl (Step.load_box_agg (n := 5) (qs := [.d (.int .i64 l.f0), .d (.int .i64 l.f1), .d (.int .i64 l.f2), .d (.int .i64 l.f3), .d (.int .i64 l.f4)]) (t := 5) rfl rfl (by exact lt_ok rfl) (by kernel_rfl) (show Env.ev E (.tmp 2) = _ from g2.trans rfl) (by exact h.box rfl) rfl rfl)) ?_
    refine .cons (fun E h => by have g5 := h.get 5 (by decide); exact OpStep.plain rfl (Step.to (E1 := E.set 6 (.one (.d (.bool (limOk l))))) (congrArg (fun b_ => E.set 6 (.one (.d (.bool b_)))) hb1) (Step.call (f := 94) (xs := [.tmp 5]) (ps := [(.agg [.d (.int .i64 l.f0), .d (.int .i64 l.f1), .d (.int .i64 l.f2), .d (.int .i64 l.f3), .d (.int .i64 l.f4)])]) false (g := .func 94) (t := 6) rfl rfl (by exact lt_ok rfl) rfl (by kernel_rfl) (evs_cons (show Env.ev E (.tmp 5) = _ from g5.trans rfl) (rfl)) (.cons (.agg (.cons (.d _) (.cons (.d _) (.cons (.d _) (.cons (.d _) (.cons (.d _) .nil)))))) .nil) (ok_spec_LimitsOk l) (.inr rfl) (At.freshRows h rfl) (by simp) rfl))) ?_
    refine .cons (fun E h => by have g6 := h.get 6 (by decide); exact OpStep.plain rfl (Step.move (p := (.one (.d (.bool true)))) (t := 7) rfl rfl (by exact lt_ok rfl) (show Env.ev E (.tmp 6) = _ from g6.trans rfl))) ?_
    refine .cons (fun E h => by have g3 := h.get 3 (by decide); have g7 := h.get 7 (by decide); exact OpStep.yes (t := 7) rfl rfl (lt_ok rfl) (g7.trans rfl) (Step.fieldAddr (q := 0) (off := 0) (n := 1) (one := true) (t := 8) rfl rfl (by exact lt_ok rfl) (by kernel_rfl) (Nat.succ_ne_zero _) (show Env.ev E (.tmp 3) = _ from g3.trans rfl))) ?_
    refine .cons (fun E h => by have g7 := h.get 7 (by decide); have g8 := h.get 8 (by decide); exact OpStep.yes (t := 7) rfl rfl (lt_ok rfl) (g7.trans rfl) (Step.load_box (c := .d (.int .i64 x.f0)) (t := 9) rfl rfl (by exact lt_ok rfl) (by kernel_rfl) (show Env.ev E (.tmp 8) = _ from g8.trans rfl) (by exact h.box rfl) rfl)) ?_
    refine .cons (fun E h => by have g7 := h.get 7 (by decide); have g9 := h.get 9 (by decide); exact OpStep.yes (t := 7) rfl rfl (lt_ok rfl) (g7.trans rfl) (Step.to (E1 := E.set 10 (.one (.d (.bool (decide (0 ≤ x.f0 ∧ x.f0 ≤ 1152921504606846975)))))) (congrArg (fun b_ => E.set 10 (.one (.d (.bool b_)))) hb2) (Step.call (f := 137) (xs := [.tmp 9]) (ps := [(.one (.d (.int .i64 x.f0)))]) false (g := .func 137) (t := 10) rfl rfl (by exact lt_ok rfl) rfl (by kernel_rfl) (evs_cons (show Env.ev E (.tmp 9) = _ from g9.trans rfl) (rfl)) (.cons (.one (.d _)) .nil) (ok_spec_l01Num x.f0) (.inr rfl) (At.freshRows h rfl) (by simp) rfl))) ?_
    refine .cons (fun E h => by have g7 := h.get 7 (by decide); have g10 := h.get 10 (by decide); exact OpStep.plain rfl (Step.pick (b := true) (p := (.one (.d (.bool false)))) (t := 11) rfl rfl (by exact lt_ok rfl) (show Env.ev E (.tmp 7) = _ from g7.trans rfl) (show Env.ev E (.tmp 10) = _ from g10.trans rfl))) ?_
    refine .cons (fun E h => by have g11 := h.get 11 (by decide); exact OpStep.plain rfl (Step.move (p := (.one (.d (.bool false)))) (t := 12) rfl rfl (by exact lt_ok rfl) (show Env.ev E (.tmp 11) = _ from g11.trans rfl))) ?_
    refine .cons (fun E h => OpStep.no (t := 12) rfl rfl (lt_ok rfl) ((h.get 12 (by decide)).trans rfl) (by decide) rfl (lt_ok rfl)) ?_
    refine .cons (fun E h => OpStep.no (t := 12) rfl rfl (lt_ok rfl) ((h.get 12 (by decide)).trans rfl) (by decide) rfl (lt_ok rfl)) ?_
    refine .cons (fun E h => OpStep.no (t := 12) rfl rfl (lt_ok rfl) ((h.get 12 (by decide)).trans rfl) (by decide) rfl (lt_ok rfl)) ?_
    refine .cons (fun E h => OpStep.no (t := 12) rfl rfl (lt_ok rfl) ((h.get 12 (by decide)).trans rfl) (by decide) rfl (lt_ok rfl)) ?_
    refine .cons (fun E h => OpStep.no (t := 12) rfl rfl (lt_ok rfl) ((h.get 12 (by decide)).trans rfl) (by decide) rfl (lt_ok rfl)) ?_
    refine .cons (fun E h => by have g12 := h.get 12 (by decide); have g17 := h.get 17 (by decide); exact OpStep.plain rfl (Step.pick (b := false) (p := (.one (.d (.bool false)))) (t := 18) rfl rfl (by exact lt_ok rfl) (show Env.ev E (.tmp 12) = _ from g12.trans rfl) rfl)) ?_
    refine .cons (fun E h => by have g18 := h.get 18 (by decide); exact OpStep.plain rfl (Step.move (p := (.one (.d (.bool false)))) (t := 19) rfl rfl (by exact lt_ok rfl) (show Env.ev E (.tmp 18) = _ from g18.trans rfl))) ?_
    refine .cons (fun E h => OpStep.no (t := 19) rfl rfl (lt_ok rfl) ((h.get 19 (by decide)).trans rfl) (by decide) rfl (lt_ok rfl)) ?_
    refine .cons (fun E h => OpStep.no (t := 19) rfl rfl (lt_ok rfl) ((h.get 19 (by decide)).trans rfl) (by decide) rfl (lt_ok rfl)) ?_
    refine .cons (fun E h => OpStep.no (t := 19) rfl rfl (lt_ok rfl) ((h.get 19 (by decide)).trans rfl) (by decide) rfl (lt_ok rfl)) ?_
    refine .cons (fun E h => OpStep.no (t := 19) rfl rfl (lt_ok rfl) ((h.get 19 (by decide)).trans rfl) (by decide) rfl (lt_ok rfl)) ?_
    refine .cons (fun E h => OpStep.no (t := 19) rfl rfl (lt_ok rfl) ((h.get 19 (by decide)).trans rfl) (by decide) rfl (lt_ok rfl)) ?_
    refine .cons (fun E h => OpStep.no (t := 19) rfl rfl (lt_ok rfl) ((h.get 19 (by decide)).trans rfl) (by decide) rfl (lt_ok rfl)) ?_
    refine .cons (fun E h => by have g19 := h.get 19 (by decide); have g25 := h.get 25 (by decide); exact OpStep.plain rfl (Step.pick (b := false) (p := (.one (.d (.bool false)))) (t := 26) rfl rfl (by exact lt_ok rfl) (show Env.ev E (.tmp 19) = _ from g19.trans rfl) rfl)) ?_
    refine .cons (fun E h => by have g26 := h.get 26 (by decide); exact OpStep.plain rfl (Step.move (p := (.one (.d (.bool false)))) (t := 27) rfl rfl (by exact lt_ok rfl) (show Env.ev E (.tmp 26) = _ from g26.trans rfl))) ?_
    refine .cons (fun E h => OpStep.no (t := 27) rfl rfl (lt_ok rfl) ((h.get 27 (by decide)).trans rfl) (by decide) rfl (lt_ok rfl)) ?_
    refine .cons (fun E h => OpStep.no (t := 27) rfl rfl (lt_ok rfl) ((h.get 27 (by decide)).trans rfl) (by decide) rfl (lt_ok rfl)) ?_
    refine .cons (fun E h => OpStep.no (t := 27) rfl rfl (lt_ok rfl) ((h.get 27 (by decide)).trans rfl) (by decide) rfl (lt_ok rfl)) ?_
    refine .cons (fun E h => OpStep.no (t := 27) rfl rfl (lt_ok rfl) ((h.get 27 (by decide)).trans rfl) (by decide) rfl (lt_ok rfl)) ?_
    refine .cons (fun E h => OpStep.no (t := 27) rfl rfl (lt_ok rfl) ((h.get 27 (by decide)).trans rfl) (by decide) rfl (lt_ok rfl)) ?_
    refine .cons (fun E h => OpStep.no (t := 27) rfl rfl (lt_ok rfl) ((h.get 27 (by decide)).trans rfl) (by decide) rfl (lt_ok rfl)) ?_
    refine .cons (fun E h => by have g27 := h.get 27 (by decide); have g33 := h.get 33 (by decide); exact OpStep.plain rfl (Step.pick (b := false) (p := (.one (.d (.bool false)))) (t := 34) rfl rfl (by exact lt_ok rfl) (show Env.ev E (.tmp 27) = _ from g27.trans rfl) rfl)) ?_
    refine .cons (fun E h => by have g34 := h.get 34 (by decide); exact OpStep.plain rfl (Step.move (p := (.one (.d (.bool false)))) (t := 35) rfl rfl (by exact lt_ok rfl) (show Env.ev E (.tmp 34) = _ from g34.trans rfl))) ?_
    refine .cons (fun E h => OpStep.no (t := 35) rfl rfl (lt_ok rfl) ((h.get 35 (by decide)).trans rfl) (by decide) rfl (lt_ok rfl)) ?_
    refine .cons (fun E h => OpStep.no (t := 35) rfl rfl (lt_ok rfl) ((h.get 35 (by decide)).trans rfl) (by decide) rfl (lt_ok rfl)) ?_
    refine .cons (fun E h => OpStep.no (t := 35) rfl rfl (lt_ok rfl) ((h.get 35 (by decide)).trans rfl) (by decide) rfl (lt_ok rfl)) ?_
    refine .cons (fun E h => OpStep.no (t := 35) rfl rfl (lt_ok rfl) ((h.get 35 (by decide)).trans rfl) (by decide) rfl (lt_ok rfl)) ?_
    refine .cons (fun E h => OpStep.no (t := 35) rfl rfl (lt_ok rfl) ((h.get 35 (by decide)).trans rfl) (by decide) rfl (lt_ok rfl)) ?_
    refine .cons (fun E h => OpStep.no (t := 35) rfl rfl (lt_ok rfl) ((h.get 35 (by decide)).trans rfl) (by decide) rfl (lt_ok rfl)) ?_
    refine .cons (fun E h => OpStep.no (t := 35) rfl rfl (lt_ok rfl) ((h.get 35 (by decide)).trans rfl) (by decide) rfl (lt_ok rfl)) ?_
    refine .cons (fun E h => OpStep.no (t := 35) rfl rfl (lt_ok rfl) ((h.get 35 (by decide)).trans rfl) (by decide) rfl (lt_ok rfl)) ?_
    refine .cons (fun E h => OpStep.no (t := 35) rfl rfl (lt_ok rfl) ((h.get 35 (by decide)).trans rfl) (by decide) rfl (lt_ok rfl)) ?_
    refine .cons (fun E h => by have g35 := h.get 35 (by decide); have g44 := h.get 44 (by decide); exact OpStep.plain rfl (Step.pick (b := false) (p := (.one (.d (.bool false)))) (t := 45) rfl rfl (by exact lt_ok rfl) (show Env.ev E (.tmp 35) = _ from g35.trans rfl) rfl)) ?_
    refine .cons (fun E h => by have g45 := h.get 45 (by decide); exact OpStep.plain rfl (Step.move (p := (.one (.d (.bool false)))) (t := 46) rfl rfl (by exact lt_ok rfl) (show Env.ev E (.tmp 45) = _ from g45.trans rfl))) ?_
    refine .cons (fun E h => OpStep.no (t := 46) rfl rfl (lt_ok rfl) ((h.get 46 (by decide)).trans rfl) (by decide) rfl (lt_ok rfl)) ?_
    refine .cons (fun E h => OpStep.no (t := 46) rfl rfl (lt_ok rfl) ((h.get 46 (by decide)).trans rfl) (by decide) rfl (lt_ok rfl)) ?_
    refine .cons (fun E h => OpStep.no (t := 46) rfl rfl (lt_ok rfl) ((h.get 46 (by decide)).trans rfl) (by decide) rfl (lt_ok rfl)) ?_
    refine .cons (fun E h => by have g46 := h.get 46 (by decide); have g49 := h.get 49 (by decide); exact OpStep.plain rfl (Step.pick (b := false) (p := (.one (.d (.bool false)))) (t := 50) rfl rfl (by exact lt_ok rfl) (show Env.ev E (.tmp 46) = _ from g46.trans rfl) rfl)) ?_
    refine .cons (fun E h => by have g50 := h.get 50 (by decide); exact OpStep.plain rfl (Step.assign (p := (.one (.d (.bool false)))) (t := 4) rfl rfl (by exact lt_ok rfl) (show Env.ev E (.tmp 50) = _ from g50.trans rfl))) ?_
    exact .nil _ _
   refine TL.nil ?_
   refine T.weaken (E' := { tm := [(4, (.one (.d (.bool false))))], rows := [], boxes := [] }) (Env.le_mk ⟨by kernel_rfl, trivial⟩ trivial trivial) ?_
   refine T.ret ?_
   exact ⟨[(false, [.d (.bool false)])], (.cons rfl .nil), rfl, [], (RetC.rd' (by first | rfl | (congr 1; symm; simp only [inclOk, *, Bool.and_true, Bool.true_and, Bool.and_false, Bool.false_and, decide_true, decide_false, and_true, true_and, and_self, and_false, false_and, Bool.and_self, not_true, not_false, Bool.not_true, Bool.not_false, ge_iff_le, gt_iff_lt, if_true, if_false, Bool.false_eq_true, ite_true, ite_false, reduceIte]; done) | (congr 1; symm; simp_all [inclOk]; done) | (congr 1; symm; simp_all [inclOk]; omega)) .nil)⟩
 ·
  refine T.draw [⟨5, (.agg [.d (.int .i64 l.f0), .d (.int .i64 l.f1), .d (.int .i64 l.f2), .d (.int .i64 l.f3), .d (.int .i64 l.f4)]), []⟩, ⟨6, (.one (.d (.bool false))), []⟩, ⟨7, (.one (.d (.bool false))), []⟩, ⟨8, (.one (.und)), []⟩, ⟨9, (.one (.und)), []⟩, ⟨10, (.one (.und)), []⟩, ⟨11, (.one (.d (.bool false))), []⟩, ⟨12, (.one (.d (.bool false))), []⟩, ⟨13, (.one (.und)), []⟩, ⟨14, (.one (.und)), []⟩, ⟨15, (.one (.und)), []⟩, ⟨16, (.one (.und)), []⟩, ⟨17, (.one (.und)), []⟩, ⟨18, (.one (.d (.bool false))), []⟩, ⟨19, (.one (.d (.bool false))), []⟩, ⟨20, (.one (.und)), []⟩, ⟨21, (.one (.und)), []⟩, ⟨22, (.one (.und)), []⟩, ⟨23, (.one (.und)), []⟩, ⟨24, (.one (.und)), []⟩, ⟨25, (.one (.und)), []⟩, ⟨26, (.one (.d (.bool false))), []⟩, ⟨27, (.one (.d (.bool false))), []⟩, ⟨28, (.one (.und)), []⟩, ⟨29, (.one (.und)), []⟩, ⟨30, (.one (.und)), []⟩, ⟨31, (.one (.und)), []⟩, ⟨32, (.one (.und)), []⟩, ⟨33, (.one (.und)), []⟩, ⟨34, (.one (.d (.bool false))), []⟩, ⟨35, (.one (.d (.bool false))), []⟩, ⟨36, (.one (.und)), []⟩, ⟨37, (.one (.und)), []⟩, ⟨38, (.one (.und)), []⟩, ⟨39, (.one (.und)), []⟩, ⟨40, (.one (.und)), []⟩, ⟨41, (.one (.und)), []⟩, ⟨42, (.one (.und)), []⟩, ⟨43, (.one (.und)), []⟩, ⟨44, (.one (.und)), []⟩, ⟨45, (.one (.d (.bool false))), []⟩, ⟨46, (.one (.d (.bool false))), []⟩, ⟨47, (.one (.und)), []⟩, ⟨48, (.one (.und)), []⟩, ⟨49, (.one (.und)), []⟩, ⟨50, (.one (.d (.bool false))), []⟩, ⟨4, (.one (.d (.bool false))), []⟩] (by kernel_rfl) (by kernel_rfl) ?_ ?_
  ·
   refine .cons (fun E h => by have g2 := h.get 2 (by decide); exact OpStep.plain rfl (Step.load_box_agg (n := 5) (qs := [.d (.int .i64 l.f0), .d (.int .i64 l.f1), .d (.int .i64 l.f2), .d (.int .i64 l.f3), .d (.int .i64 l.f4)]) (t := 5) rfl rfl (by exact lt_ok rfl) (by kernel_rfl) (show Env.ev E (.tmp 2) = _ from g2.trans rfl) (by exact h.box rfl) rfl rfl)) ?_
   refine .cons (fun E h => by have g5 := h.get 5 (by decide); exact OpStep.plain rfl (Step.to (E1 := E.set 6 (.one (.d (.bool (limOk l))))) (congrArg (fun b_ => E.set 6 (.one (.d (.bool b_)))) hb1) (Step.call (f := 94) (xs := [.tmp 5]) (ps := [(.agg [.d (.int .i64 l.f0), .d (.int .i64 l.f1), .d (.int .i64 l.f2), .d (.int .i64 l.f3), .d (.int .i64 l.f4)])]) false (g := .func 94) (t := 6) rfl rfl (by exact lt_ok rfl) rfl (by kernel_rfl) (evs_cons (show Env.ev E (.tmp 5) = _ from g5.trans rfl) (rfl)) (.cons (.agg (.cons (.d _) (.cons (.d _) (.cons (.d _) (.cons (.d _) (.cons (.d _) .nil)))))) .nil) (ok_spec_LimitsOk l) (.inr rfl) (At.freshRows h rfl) (by simp) rfl))) ?_
   refine .cons (fun E h => by have g6 := h.get 6 (by decide); exact OpStep.plain rfl (Step.move (p := (.one (.d (.bool false)))) (t := 7) rfl rfl (by exact lt_ok rfl) (show Env.ev E (.tmp 6) = _ from g6.trans rfl))) ?_
   refine .cons (fun E h => OpStep.no (t := 7) rfl rfl (lt_ok rfl) ((h.get 7 (by decide)).trans rfl) (by decide) rfl (lt_ok rfl)) ?_
   refine .cons (fun E h => OpStep.no (t := 7) rfl rfl (lt_ok rfl) ((h.get 7 (by decide)).trans rfl) (by decide) rfl (lt_ok rfl)) ?_
   refine .cons (fun E h => OpStep.no (t := 7) rfl rfl (lt_ok rfl) ((h.get 7 (by decide)).trans rfl) (by decide) rfl (lt_ok rfl)) ?_
   refine .cons (fun E h => by have g7 := h.get 7 (by decide); have g10 := h.get 10 (by decide); exact OpStep.plain rfl (Step.pick (b := false) (p := (.one (.d (.bool false)))) (t := 11) rfl rfl (by exact lt_ok rfl) (show Env.ev E (.tmp 7) = _ from g7.trans rfl) rfl)) ?_
   refine .cons (fun E h => by have g11 := h.get 11 (by decide); exact OpStep.plain rfl (Step.move (p := (.one (.d (.bool false)))) (t := 12) rfl rfl (by exact lt_ok rfl) (show Env.ev E (.tmp 11) = _ from g11.trans rfl))) ?_
   refine .cons (fun E h => OpStep.no (t := 12) rfl rfl (lt_ok rfl) ((h.get 12 (by decide)).trans rfl) (by decide) rfl (lt_ok rfl)) ?_
   refine .cons (fun E h => OpStep.no (t := 12) rfl rfl (lt_ok rfl) ((h.get 12 (by decide)).trans rfl) (by decide) rfl (lt_ok rfl)) ?_
   refine .cons (fun E h => OpStep.no (t := 12) rfl rfl (lt_ok rfl) ((h.get 12 (by decide)).trans rfl) (by decide) rfl (lt_ok rfl)) ?_
   refine .cons (fun E h => OpStep.no (t := 12) rfl rfl (lt_ok rfl) ((h.get 12 (by decide)).trans rfl) (by decide) rfl (lt_ok rfl)) ?_
   refine .cons (fun E h => OpStep.no (t := 12) rfl rfl (lt_ok rfl) ((h.get 12 (by decide)).trans rfl) (by decide) rfl (lt_ok rfl)) ?_
   refine .cons (fun E h => by have g12 := h.get 12 (by decide); have g17 := h.get 17 (by decide); exact OpStep.plain rfl (Step.pick (b := false) (p := (.one (.d (.bool false)))) (t := 18) rfl rfl (by exact lt_ok rfl) (show Env.ev E (.tmp 12) = _ from g12.trans rfl) rfl)) ?_
   refine .cons (fun E h => by have g18 := h.get 18 (by decide); exact OpStep.plain rfl (Step.move (p := (.one (.d (.bool false)))) (t := 19) rfl rfl (by exact lt_ok rfl) (show Env.ev E (.tmp 18) = _ from g18.trans rfl))) ?_
   refine .cons (fun E h => OpStep.no (t := 19) rfl rfl (lt_ok rfl) ((h.get 19 (by decide)).trans rfl) (by decide) rfl (lt_ok rfl)) ?_
   refine .cons (fun E h => OpStep.no (t := 19) rfl rfl (lt_ok rfl) ((h.get 19 (by decide)).trans rfl) (by decide) rfl (lt_ok rfl)) ?_
   refine .cons (fun E h => OpStep.no (t := 19) rfl rfl (lt_ok rfl) ((h.get 19 (by decide)).trans rfl) (by decide) rfl (lt_ok rfl)) ?_
   refine .cons (fun E h => OpStep.no (t := 19) rfl rfl (lt_ok rfl) ((h.get 19 (by decide)).trans rfl) (by decide) rfl (lt_ok rfl)) ?_
   refine .cons (fun E h => OpStep.no (t := 19) rfl rfl (lt_ok rfl) ((h.get 19 (by decide)).trans rfl) (by decide) rfl (lt_ok rfl)) ?_
   refine .cons (fun E h => OpStep.no (t := 19) rfl rfl (lt_ok rfl) ((h.get 19 (by decide)).trans rfl) (by decide) rfl (lt_ok rfl)) ?_
   refine .cons (fun E h => by have g19 := h.get 19 (by decide); have g25 := h.get 25 (by decide); exact OpStep.plain rfl (Step.pick (b := false) (p := (.one (.d (.bool false)))) (t := 26) rfl rfl (by exact lt_ok rfl) (show Env.ev E (.tmp 19) = _ from g19.trans rfl) rfl)) ?_
   refine .cons (fun E h => by have g26 := h.get 26 (by decide); exact OpStep.plain rfl (Step.move (p := (.one (.d (.bool false)))) (t := 27) rfl rfl (by exact lt_ok rfl) (show Env.ev E (.tmp 26) = _ from g26.trans rfl))) ?_
   refine .cons (fun E h => OpStep.no (t := 27) rfl rfl (lt_ok rfl) ((h.get 27 (by decide)).trans rfl) (by decide) rfl (lt_ok rfl)) ?_
   refine .cons (fun E h => OpStep.no (t := 27) rfl rfl (lt_ok rfl) ((h.get 27 (by decide)).trans rfl) (by decide) rfl (lt_ok rfl)) ?_
   refine .cons (fun E h => OpStep.no (t := 27) rfl rfl (lt_ok rfl) ((h.get 27 (by decide)).trans rfl) (by decide) rfl (lt_ok rfl)) ?_
   refine .cons (fun E h => OpStep.no (t := 27) rfl rfl (lt_ok rfl) ((h.get 27 (by decide)).trans rfl) (by decide) rfl (lt_ok rfl)) ?_
   refine .cons (fun E h => OpStep.no (t := 27) rfl rfl (lt_ok rfl) ((h.get 27 (by decide)).trans rfl) (by decide) rfl (lt_ok rfl)) ?_
   refine .cons (fun E h => OpStep.no (t := 27) rfl rfl (lt_ok rfl) ((h.get 27 (by decide)).trans rfl) (by decide) rfl (lt_ok rfl)) ?_
   refine .cons (fun E h => by have g27 := h.get 27 (by decide); have g33 := h.get 33 (by decide); exact OpStep.plain rfl (Step.pick (b := false) (p := (.one (.d (.bool false)))) (t := 34) rfl rfl (by exact lt_ok rfl) (show Env.ev E (.tmp 27) = _ from g27.trans rfl) rfl)) ?_
   refine .cons (fun E h => by have g34 := h.get 34 (by decide); exact OpStep.plain rfl (Step.move (p := (.one (.d (.bool false)))) (t := 35) rfl rfl (by exact lt_ok rfl) (show Env.ev E (.tmp 34) = _ from g34.trans rfl))) ?_
   refine .cons (fun E h => OpStep.no (t := 35) rfl rfl (lt_ok rfl) ((h.get 35 (by decide)).trans rfl) (by decide) rfl (lt_ok rfl)) ?_
   refine .cons (fun E h => OpStep.no (t := 35) rfl rfl (lt_ok rfl) ((h.get 35 (by decide)).trans rfl) (by decide) rfl (lt_ok rfl)) ?_
   refine .cons (fun E h => OpStep.no (t := 35) rfl rfl (lt_ok rfl) ((h.get 35 (by decide)).trans rfl) (by decide) rfl (lt_ok rfl)) ?_
   refine .cons (fun E h => OpStep.no (t := 35) rfl rfl (lt_ok rfl) ((h.get 35 (by decide)).trans rfl) (by decide) rfl (lt_ok rfl)) ?_
   refine .cons (fun E h => OpStep.no (t := 35) rfl rfl (lt_ok rfl) ((h.get 35 (by decide)).trans rfl) (by decide) rfl (lt_ok rfl)) ?_
   refine .cons (fun E h => OpStep.no (t := 35) rfl rfl (lt_ok rfl) ((h.get 35 (by decide)).trans rfl) (by decide) rfl (lt_ok rfl)) ?_
   refine .cons (fun E h => OpStep.no (t := 35) rfl rfl (lt_ok rfl) ((h.get 35 (by decide)).trans rfl) (by decide) rfl (lt_ok rfl)) ?_
   refine .cons (fun E h => OpStep.no (t := 35) rfl rfl (lt_ok rfl) ((h.get 35 (by decide)).trans rfl) (by decide) rfl (lt_ok rfl)) ?_
   refine .cons (fun E h => OpStep.no (t := 35) rfl rfl (lt_ok rfl) ((h.get 35 (by decide)).trans rfl) (by decide) rfl (lt_ok rfl)) ?_
   refine .cons (fun E h => by have g35 := h.get 35 (by decide); have g44 := h.get 44 (by decide); exact OpStep.plain rfl (Step.pick (b := false) (p := (.one (.d (.bool false)))) (t := 45) rfl rfl (by exact lt_ok rfl) (show Env.ev E (.tmp 35) = _ from g35.trans rfl) rfl)) ?_
   refine .cons (fun E h => by have g45 := h.get 45 (by decide); exact OpStep.plain rfl (Step.move (p := (.one (.d (.bool false)))) (t := 46) rfl rfl (by exact lt_ok rfl) (show Env.ev E (.tmp 45) = _ from g45.trans rfl))) ?_
   refine .cons (fun E h => OpStep.no (t := 46) rfl rfl (lt_ok rfl) ((h.get 46 (by decide)).trans rfl) (by decide) rfl (lt_ok rfl)) ?_
   refine .cons (fun E h => OpStep.no (t := 46) rfl rfl (lt_ok rfl) ((h.get 46 (by decide)).trans rfl) (by decide) rfl (lt_ok rfl)) ?_
   refine .cons (fun E h => OpStep.no (t := 46) rfl rfl (lt_ok rfl) ((h.get 46 (by decide)).trans rfl) (by decide) rfl (lt_ok rfl)) ?_
   refine .cons (fun E h => by have g46 := h.get 46 (by decide); have g49 := h.get 49 (by decide); exact OpStep.plain rfl (Step.pick (b := false) (p := (.one (.d (.bool false)))) (t := 50) rfl rfl (by exact lt_ok rfl) (show Env.ev E (.tmp 46) = _ from g46.trans rfl) rfl)) ?_
   refine .cons (fun E h => by have g50 := h.get 50 (by decide); exact OpStep.plain rfl (Step.assign (p := (.one (.d (.bool false)))) (t := 4) rfl rfl (by exact lt_ok rfl) (show Env.ev E (.tmp 50) = _ from g50.trans rfl))) ?_
   exact .nil _ _
  refine TL.nil ?_
  refine T.weaken (E' := { tm := [(4, (.one (.d (.bool false))))], rows := [], boxes := [] }) (Env.le_mk ⟨by kernel_rfl, trivial⟩ trivial trivial) ?_
  refine T.ret ?_
  exact ⟨[(false, [.d (.bool false)])], (.cons rfl .nil), rfl, [], (RetC.rd' (by first | rfl | (congr 1; symm; simp only [inclOk, *, Bool.and_true, Bool.true_and, Bool.and_false, Bool.false_and, decide_true, decide_false, and_true, true_and, and_self, and_false, false_and, Bool.and_self, not_true, not_false, Bool.not_true, Bool.not_false, ge_iff_le, gt_iff_lt, if_true, if_false, Bool.false_eq_true, ite_true, ite_false, reduceIte]; done) | (congr 1; symm; simp_all [inclOk]; done) | (congr 1; symm; simp_all [inclOk]; omega)) .nil)⟩
theorem ok_spec_PutText (b : List Int) (x : List Int) (h0_ : b.length ≤ 1099511627776) (h1_ : x.length ≤ 1099511627776) : RO Try.prog 113 [.one (.ints .u8 b), .one (.ints .u8 x)] [(false, [.own 5 (.ints .u8 (putVar b (x.length : Int) ++ x))])] := by
 refine RO.intro Try.func113 rfl 17 rfl (le_ok rfl) fun w Z => ?_
 refine T.bnd 0 0 rfl rfl fun hb_0_0 => ?_
 simp only [D.size, List.length_map] at hb_0_0
 refine T.bnd 1 0 rfl rfl fun hb_1_0 => ?_
 simp only [D.size, List.length_map] at hb_1_0
 refine T.seq ?_
 refine T.region ?_
 refine TL.cons rfl (Step.assign (p := (.one (.nil))) rfl rfl (lt_ok rfl) rfl) ?_
 refine TL.nil ?_
 refine T.seq ?_
 refine T.region ?_
 refine TL.cons rfl (Step.move (p := (.one (.d (.ints .u8 b)))) rfl rfl (lt_ok rfl) rfl) ?_
 refine TL.cons rfl (Step.move (p := (.one (.d (.ints .u8 x)))) rfl rfl (lt_ok rfl) rfl) ?_
 refine TL.cons rfl (Step.len (e := 5) (z := 1) (d := (.ints .u8 x)) rfl rfl (lt_ok rfl) (by kernel_rfl) rfl rfl) ?_
 have nn1 := putVar_len b (x.length : Int)
 refine TL.cons rfl (Step.call (f := 159) (xs := [.tmp 8, .tmp 10]) (ps := [(.one (.d (.ints .u8 b))), (.one (.d (.int .i64 (x.length : Int))))]) false (g := .func 159) rfl rfl (lt_ok rfl) rfl (by kernel_rfl) rfl (.cons (.one (.d _)) (.cons (.one (.d _)) .nil)) (ok_spec_PutVar b (x.length : Int) (by first | omega | assumption | (simp only [List.length_append] at *; omega))) (.inr rfl) rfl (by simp) rfl) ?_
 refine TL.cons rfl (Step.move (p := (.tup [(false, [.row 1011 []]), (false, [.d (.bool (decide (0 ≤ (x.length : Int) ∧ (x.length : Int) ≤ 1152921504606846975)))])])) rfl rfl (lt_ok rfl) rfl) ?_
 refine TL.cons rfl (Step.extract (p := (.one (.row 1011 []))) rfl rfl (lt_ok rfl) rfl rfl) ?_
 refine TL.cons rfl (Step.extract (p := (.one (.d (.bool (decide (0 ≤ (x.length : Int) ∧ (x.length : Int) ≤ 1152921504606846975)))))) rfl rfl (lt_ok rfl) rfl rfl) ?_
 refine TL.cons rfl (Step.assign (p := (.one (.row 1011 []))) rfl rfl (lt_ok rfl) rfl) ?_
 refine TL.cons rfl (Step.assign (p := (.one (.d (.bool (decide (0 ≤ (x.length : Int) ∧ (x.length : Int) ≤ 1152921504606846975)))))) rfl rfl (lt_ok rfl) rfl) ?_
 refine TL.nil ?_
 refine T.seq ?_
 refine T.region ?_
 refine TL.cons rfl (Step.move (p := (.one (.row 1011 []))) rfl rfl (lt_ok rfl) rfl) ?_
 refine TL.cons rfl (Step.move (p := (.one (.d (.ints .u8 x)))) rfl rfl (lt_ok rfl) rfl) ?_
 refine TL.cons rfl (Step.append (e := 5) (z := 1) (by_ := 1) (d := (.ints .u8 (putVar b (x.length : Int)))) (dy := (.ints .u8 x)) (d' := (.ints .u8 ((putVar b (x.length : Int)) ++ x))) (ss := []) rfl rfl (lt_ok rfl) (by kernel_rfl) rfl rfl rfl (lt_ok rfl) rfl (.froz rfl (by simp [D.flat, D.val])) (by simp) rfl (by simp only [D.size, List.length_map]; first | omega | (simp; omega) | (simp only [List.length_append] at *; omega)) (by simp only [D.size, List.length_map]; first | omega | (simp; omega) | (simp only [List.length_append] at *; omega)) (by simp)) ?_
 refine TL.cons rfl (Step.assign (p := (.one (.row 1011 []))) rfl rfl (lt_ok rfl) rfl) ?_
 refine TL.nil ?_
 refine T.ret ?_
 exact ⟨[(false, [.row 1011 []])], (.cons rfl .nil), rfl, [1011], (RetC.own' rfl (by rfl) rfl .nil)⟩
theorem ok_spec_PutIncl (l : SLimits) (b : List Int) (x : SIncl) (h0_ : b.length ≤ 549755813888) (h1_ : x.sm) : RO Try.prog 54 [.agg l.cells, .one (.ints .u8 b), .agg x.cells] [(false, [.own 5 (.ints .u8 (putIncl l b x))]), (false, [.rd (.bool (inclOk l x))])] := by
 refine RO.intro Try.func54 rfl 40 rfl (le_ok rfl) fun w Z => ?_
 refine T.bnd 1 0 rfl rfl fun hb_1_0 => ?_
 simp only [D.size, List.length_map] at hb_1_0
 refine T.bnd 2 3 rfl rfl fun hb_2_3 => ?_
 simp only [D.size, List.length_map] at hb_2_3
 refine T.bnd 2 4 rfl rfl fun hb_2_4 => ?_
 simp only [D.size, List.length_map] at hb_2_4
 obtain ⟨s0, s1⟩ := h1_
 refine T.seq ?_
 refine T.region ?_
 refine TL.cons rfl (Step.box (p := (.agg [.d (.int .i64 l.f0), .d (.int .i64 l.f1), .d (.int .i64 l.f2), .d (.int .i64 l.f3), .d (.int .i64 l.f4)])) (ps := [.d (.int .i64 l.f0), .d (.int .i64 l.f1), .d (.int .i64 l.f2), .d (.int .i64 l.f3), .d (.int .i64 l.f4)]) rfl rfl (lt_ok rfl) rfl rfl rfl rfl rfl) ?_
 refine TL.cons rfl (Step.box (p := (.agg [.d (.int .i64 x.f0), .d (.int .i64 x.f1), .d (.int .i64 x.f2), .d (.ints .u8 x.f3), .d (.bss x.f4)])) (ps := [.d (.int .i64 x.f0), .d (.int .i64 x.f1), .d (.int .i64 x.f2), .d (.ints .u8 x.f3), .d (.bss x.f4)]) rfl rfl (lt_ok rfl) rfl rfl rfl rfl rfl) ?_
 refine TL.cons rfl (Step.assign (p := (.one (.nil))) rfl rfl (lt_ok rfl) rfl) ?_
 refine TL.cons rfl (Step.assign (p := (.one (.d (.bool false)))) rfl rfl (lt_ok rfl) rfl) ?_
 refine TL.nil ?_
 refine T.seq ?_
 refine T.seq ?_
 refine T.region ?_
 refine TL.cons rfl (Step.load_box_agg (n := 5) (qs := [.d (.int .i64 l.f0), .d (.int .i64 l.f1), .d (.int .i64 l.f2), .d (.int .i64 l.f3), .d (.int .i64 l.f4)]) rfl rfl (lt_ok rfl) (by kernel_rfl) rfl rfl rfl rfl) ?_
 refine TL.cons rfl (Step.load_box_agg (n := 5) (qs := [.d (.int .i64 x.f0), .d (.int .i64 x.f1), .d (.int .i64 x.f2), .d (.ints .u8 x.f3), .d (.bss x.f4)]) rfl rfl (lt_ok rfl) (by kernel_rfl) rfl rfl rfl rfl) ?_
 refine TL.cons rfl (Step.call (f := 112) (xs := [.tmp 11, .tmp 12]) (ps := [(.agg [.d (.int .i64 l.f0), .d (.int .i64 l.f1), .d (.int .i64 l.f2), .d (.int .i64 l.f3), .d (.int .i64 l.f4)]), (.agg [.d (.int .i64 x.f0), .d (.int .i64 x.f1), .d (.int .i64 x.f2), .d (.ints .u8 x.f3), .d (.bss x.f4)])]) false (g := .func 112) rfl rfl (lt_ok rfl) rfl (by kernel_rfl) rfl (.cons (.agg (.cons (.d _) (.cons (.d _) (.cons (.d _) (.cons (.d _) (.cons (.d _) .nil)))))) (.cons (.agg (.cons (.d _) (.cons (.d _) (.cons (.d _) (.cons (.d _) (.cons (.d _) .nil)))))) .nil)) (ok_spec_InclOk l x) (.inr rfl) rfl (by simp) rfl) ?_
 refine TL.cons rfl (Step.not (b := (inclOk l x)) rfl rfl (lt_ok rfl) rfl) ?_
 refine TL.nil ?_
 refine T.cond (b := !(inclOk l x)) rfl (fun h1 => ?_) (fun h1 => ?_)
 ·
  replace h1 : (inclOk l x) = false := by simpa only [Bool.not_eq_true', Bool.not_eq_false'] using h1
  refine T.seq ?_
  refine T.region ?_
  refine TL.cons rfl (Step.assign (p := (.one (.nil))) rfl rfl (lt_ok rfl) rfl) ?_
  refine TL.cons rfl (Step.assign (p := (.one (.d (.bool false)))) rfl rfl (lt_ok rfl) rfl) ?_
  refine TL.nil ?_
  refine T.ret ?_
  exact ⟨[(false, [.nil]), (false, [.d (.bool false)])], (.cons rfl (.cons rfl .nil)), rfl, [], (RetC.nilown' rfl (by first | rfl | (congr 1; unfold putIncl putInclB rawsB; rw [if_pos (by assumption), foldl_all _ _ _ i (by omega)]) | (show (putIncl l b x).length = 0; unfold putIncl; rw [if_neg (by simp [*])]; rfl) | (congr 1; symm; assumption)) (by first | exact trivial | exact D.wf_nil _) (RetC.rd' (by first | rfl | (congr 1; unfold putIncl putInclB rawsB; rw [if_pos (by assumption), foldl_all _ _ _ i (by omega)]) | (show (putIncl l b x).length = 0; unfold putIncl; rw [if_neg (by simp [*])]; rfl) | (congr 1; symm; assumption)) .nil))⟩
 ·
  replace h1 : (inclOk l x) = true := by simpa only [Bool.not_eq_true', Bool.not_eq_false'] using h1
  refine T.skip ?_
  refine T.seq ?_
  have nn2 := putVar_len b x.f0
  have nn3 := putVar_len (putVar b x.f0) x.f1
  have nn4 := putVar_len (putVar (putVar b x.f0) x.f1) x.f2
  have nn5 := putVar_len (putVar (putVar (putVar b x.f0) x.f1) x.f2) ((x.f3).length : Int)
  refine T.draw [⟨15, (.one (.d (.ints .u8 b))), []⟩, ⟨16, (.one (.ptr 5 0)), []⟩, ⟨17, (.one (.d (.int .i64 x.f0))), []⟩, ⟨18, (.one (.row 1018 [])), [(1018, (5, (.ints .u8 (putVar b x.f0))))]⟩, ⟨19, (.one (.ptr 5 1)), []⟩, ⟨20, (.one (.d (.int .i64 x.f1))), []⟩, ⟨21, (.one (.row 1021 [])), [(1021, (5, (.ints .u8 (putVar (putVar b x.f0) x.f1))))]⟩, ⟨22, (.one (.ptr 5 2)), []⟩, ⟨23, (.one (.d (.int .i64 x.f2))), []⟩, ⟨24, (.one (.row 1024 [])), [(1024, (5, (.ints .u8 (putVar (putVar (putVar b x.f0) x.f1) x.f2))))]⟩, ⟨25, (.one (.ptr 5 3)), []⟩, ⟨26, (.one (.d (.ints .u8 x.f3))), []⟩, ⟨27, (.one (.row 1027 [])), [(1027, (5, (.ints .u8 (putVar (putVar (putVar (putVar b x.f0) x.f1) x.f2) (x.f3.length : Int) ++ x.f3))))]⟩, ⟨8, (.one (.row 1027 [])), []⟩] (by kernel_rfl) (by kernel_rfl) ?_ ?_
  ·
   refine .cons (fun E h => by have g1 := h.get 1 (by decide); exact OpStep.plain rfl (Step.move (p := (.one (.d (.ints .u8 b)))) (t := 15) rfl rfl (by exact lt_ok rfl) (show Env.ev E (.tmp 1) = _ from g1.trans rfl))) ?_
   refine .cons (fun E h => by have g5 := h.get 5 (by decide); exact OpStep.plain rfl (Step.fieldAddr (q := 0) (off := 0) (n := 1) (one := true) (t := 16) rfl rfl (by exact lt_ok rfl) (by kernel_rfl) (Nat.succ_ne_zero _) (show Env.ev E (.tmp 5) = _ from g5.trans rfl))) ?_
   refine .cons (fun E h => by have g16 := h.get 16 (by decide); exact OpStep.plain rfl (Step.load_box (c := .d (.int .i64 x.f0)) (t := 17) rfl rfl (by exact lt_ok rfl) (by kernel_rfl) (show Env.ev E (.tmp 16) = _ from g16.trans rfl) (by exact h.box rfl) rfl)) ?_
   refine .cons (fun E h => by have g15 := h.get 15 (by decide); have g17 := h.get 17 (by decide); exact OpStep.plain rfl (Step.call (f := 108) (xs := [.tmp 15, .tmp 17]) (ps := [(.one (.d (.ints .u8 b))), (.one (.d (.int .i64 x.f0)))]) false (g := .func 108) (t := 18) rfl rfl (by exact lt_ok rfl) rfl (by kernel_rfl) (evs_cons (show Env.ev E (.tmp 15) = _ from g15.trans rfl) (evs_cons (show Env.ev E (.tmp 17) = _ from g17.trans rfl) (rfl))) (.cons (.one (.d _)) (.cons (.one (.d _)) .nil)) (ok_spec_l11Num b x.f0 (by first | omega | assumption | (simp only [List.length_append] at *; omega))) (.inr rfl) (At.freshRows h rfl) (by simp) rfl)) ?_
   refine .cons (fun E h => by have g5 := h.get 5 (by decide); exact OpStep.plain rfl (Step.fieldAddr (q := 0) (off := 1) (n := 1) (one := true) (t := 19) rfl rfl (by exact lt_ok rfl) (by kernel_rfl) (Nat.succ_ne_zero _) (show Env.ev E (.tmp 5) = _ from g5.trans rfl))) ?_
   refine .cons (fun E h => by have g19 := h.get 19 (by decide); exact OpStep.plain rfl (Step.load_box (c := .d (.int .i64 x.f1)) (t := 20) rfl rfl (by exact lt_ok rfl) (by kernel_rfl) (show Env.ev E (.tmp 19) = _ from g19.trans rfl) (by exact h.box rfl) rfl)) ?_
   refine .cons (fun E h => by have g18 := h.get 18 (by decide); have g20 := h.get 20 (by decide); exact OpStep.plain rfl (Step.call (f := 108) (xs := [.tmp 18, .tmp 20]) (ps := [(.one (.row 1018 [])), (.one (.d (.int .i64 x.f1)))]) false (g := .func 108) (t := 21) rfl rfl (by exact lt_ok rfl) rfl (by kernel_rfl) (evs_cons (show Env.ev E (.tmp 18) = _ from g18.trans rfl) (evs_cons (show Env.ev E (.tmp 20) = _ from g20.trans rfl) (rfl))) (.cons (.one (.row rfl (by exact (h.row 1018 (by kernel_rfl)).trans rfl) rfl rfl)) (.cons (.one (.d _)) .nil)) (ok_spec_l11Num (putVar b x.f0) x.f1 (by first | omega | assumption | (simp only [List.length_append] at *; omega))) (.inr rfl) (At.freshRows h rfl) (by simp) rfl)) ?_
   refine .cons (fun E h => by have g5 := h.get 5 (by decide); exact OpStep.plain rfl (Step.fieldAddr (q := 0) (off := 2) (n := 1) (one := true) (t := 22) rfl rfl (by exact lt_ok rfl) (by kernel_rfl) (Nat.succ_ne_zero _) (show Env.ev E (.tmp 5) = _ from g5.trans rfl))) ?_
   refine .cons (fun E h => by have g22 := h.get 22 (by decide); exact OpStep.plain rfl (Step.load_box (c := .d (.int .i64 x.f2)) (t := 23) rfl rfl (by exact lt_ok rfl) (by kernel_rfl) (show Env.ev E (.tmp 22) = _ from g22.trans rfl) (by exact h.box rfl) rfl)) ?_
   refine .cons (fun E h => by have g21 := h.get 21 (by decide); have g23 := h.get 23 (by decide); exact OpStep.plain rfl (Step.call (f := 108) (xs := [.tmp 21, .tmp 23]) (ps := [(.one (.row 1021 [])), (.one (.d (.int .i64 x.f2)))]) false (g := .func 108) (t := 24) rfl rfl (by exact lt_ok rfl) rfl (by kernel_rfl) (evs_cons (show Env.ev E (.tmp 21) = _ from g21.trans rfl) (evs_cons (show Env.ev E (.tmp 23) = _ from g23.trans rfl) (rfl))) (.cons (.one (.row rfl (by exact (h.row 1021 (by kernel_rfl)).trans rfl) rfl rfl)) (.cons (.one (.d _)) .nil)) (ok_spec_l11Num (putVar (putVar b x.f0) x.f1) x.f2 (by first | omega | assumption | (simp only [List.length_append] at *; omega))) (.inr rfl) (At.freshRows h rfl) (by simp) rfl)) ?_
   refine .cons (fun E h => by have g5 := h.get 5 (by decide); exact OpStep.plain rfl (Step.fieldAddr (q := 0) (off := 3) (n := 1) (one := true) (t := 25) rfl rfl (by exact lt_ok rfl) (by kernel_rfl) (Nat.succ_ne_zero _) (show Env.ev E (.tmp 5) = _ from g5.trans rfl))) ?_
   refine .cons (fun E h => by have g25 := h.get 25 (by decide); exact OpStep.plain rfl (Step.load_box (c := .d (.ints .u8 x.f3)) (t := 26) rfl rfl (by exact lt_ok rfl) (by kernel_rfl) (show Env.ev E (.tmp 25) = _ from g25.trans rfl) (by exact h.box rfl) rfl)) ?_
   refine .cons (fun E h => by have g24 := h.get 24 (by decide); have g26 := h.get 26 (by decide); exact OpStep.plain rfl (Step.call (f := 113) (xs := [.tmp 24, .tmp 26]) (ps := [(.one (.row 1024 [])), (.one (.d (.ints .u8 x.f3)))]) false (g := .func 113) (t := 27) rfl rfl (by exact lt_ok rfl) rfl (by kernel_rfl) (evs_cons (show Env.ev E (.tmp 24) = _ from g24.trans rfl) (evs_cons (show Env.ev E (.tmp 26) = _ from g26.trans rfl) (rfl))) (.cons (.one (.row rfl (by exact (h.row 1024 (by kernel_rfl)).trans rfl) rfl rfl)) (.cons (.one (.d _)) .nil)) (ok_spec_PutText (putVar (putVar (putVar b x.f0) x.f1) x.f2) x.f3 (by first | omega | assumption | (simp only [List.length_append] at *; omega)) (by first | omega | assumption | (simp only [List.length_append] at *; omega))) (.inr rfl) (At.freshRows h rfl) (by simp) rfl)) ?_
   refine .cons (fun E h => by have g27 := h.get 27 (by decide); exact OpStep.plain rfl (Step.assign (p := (.one (.row 1027 []))) (t := 8) rfl rfl (by exact lt_ok rfl) (show Env.ev E (.tmp 27) = _ from g27.trans rfl))) ?_
   exact .nil _ _
  refine TL.nil ?_
  refine T.seq ?_
  refine T.seq ?_
  refine T.region ?_
  refine TL.cons rfl (Step.fieldAddr (q := 0) (off := 4) (n := 1) (one := true) rfl rfl (lt_ok rfl) (by kernel_rfl) (Nat.succ_ne_zero _) rfl) ?_
  refine TL.cons rfl (Step.load_box (c := .d (.bss x.f4)) rfl rfl (lt_ok rfl) (by kernel_rfl) rfl rfl rfl) ?_
  refine TL.cons rfl (Step.len (e := 22) (z := 1) (d := (.bss x.f4)) rfl rfl (lt_ok rfl) (by kernel_rfl) rfl rfl) ?_
  refine TL.cons rfl (Step.move (p := (.one (.d (.int .i64 0)))) rfl rfl (lt_ok rfl) rfl) ?_
  refine TL.nil ?_
  refine T.block ?_
  refine T.loop (ι := Nat) (fun xx_ => { tm := [(6, (.one (.nil))), (7, (.one (.d (.bool false)))), (29, (.one (.d (.bss x.f4)))), (30, (.one (.d (.int .i64 (x.f4.length : Int))))), (31, (.one (.d (.int .i64 (xx_ : Int))))), (8, (.one (.row 1027 [])))], rows := [(1018, (5, (.ints .u8 (putVar b x.f0)))), (1021, (5, (.ints .u8 (putVar (putVar b x.f0) x.f1)))), (1024, (5, (.ints .u8 (putVar (putVar (putVar b x.f0) x.f1) x.f2)))), (1027, (5, (.ints .u8 ((x.f4.take xx_).foldl (fun b x => b ++ x) (putVar (putVar (putVar (putVar b x.f0) x.f1) x.f2) (x.f3.length : Int) ++ x.f3)))))], boxes := [(3, (44, [.d (.int .i64 l.f0), .d (.int .i64 l.f1), .d (.int .i64 l.f2), .d (.int .i64 l.f3), .d (.int .i64 l.f4)])), (5, (73, [.d (.int .i64 x.f0), .d (.int .i64 x.f1), .d (.int .i64 x.f2), .d (.ints .u8 x.f3), .d (.bss x.f4)]))] }) (fun xx_ => xx_ ≤ x.f4.length) (fun xx_ => x.f4.length - xx_) 0 ?_ ?_ ?_
  · exact Env.le_mk ⟨rfl, rfl, rfl, rfl, by first | (refine congrArg (fun x => some (_, D.ints .u8 x)) ?_; first | (rw [foldl_take_succ _ _ _ i [] (by omega)]; done) | rfl) | rfl | (refine congrArg (fun n => PV.one (.d (.int .i64 n))) ?_; first | omega | (simp; done)), rfl, trivial⟩ ⟨rfl, rfl, rfl, by first | (refine congrArg (fun x => some (_, D.ints .u8 x)) ?_; first | (rw [foldl_take_succ _ _ _ i [] (by omega)]; done) | rfl) | rfl | (refine congrArg (fun n => PV.one (.d (.int .i64 n))) ?_; first | omega | (simp; done)), trivial⟩ ⟨rfl, rfl, trivial⟩
  · exact Nat.zero_le _
  ·
   intro i hx
   try dsimp only at hx ⊢
   have hw_ := raws_len (b := putVar (putVar (putVar (putVar b x.f0) x.f1) x.f2) (x.f3.length : Int) ++ x.f3) s1.1 s1.2 i
   have hy_ := mem_len s1.2 i
   simp only [List.length_append] at hw_
   refine T.seq ?_
   refine T.region ?_
   refine TL.cons rfl (Step.bin rfl rfl (lt_ok rfl) rfl rfl (Bin.lss (k := .i64) (a := (i : Int)) (b := (x.f4.length : Int)))) ?_
   refine TL.nil ?_
   refine T.seq ?_
   refine T.cond (b := decide ((i : Int) < (x.f4.length : Int))) rfl (fun h6 => ?_) (fun h6 => ?_)
   ·
    replace h6 := of_decide_eq_true h6
    refine T.skip ?_
    refine T.seq ?_
    refine T.block ?_
    refine T.seq ?_
    refine T.region ?_
    refine TL.cons rfl (Step.index (e := 22) (z := 1) (i := (i : Int)) rfl rfl (lt_ok rfl) (by kernel_rfl) rfl rfl rfl (lt_ok rfl) rfl (by first | omega | (simp only [List.length_append] at *; omega) | (simp; omega)) (by simp only [D.size]; first | omega | (simp only [List.length_append] at *; omega) | (simp; omega))) ?_
    refine TL.cons rfl (Step.load (e := (.ints .u8 (x.f4.getD i []))) rfl rfl (lt_ok rfl) (by kernel_rfl) rfl rfl) ?_
    refine TL.cons rfl (Step.assign (p := (.one (.d (.ints .u8 (x.f4.getD i []))))) rfl rfl (lt_ok rfl) rfl) ?_
    refine TL.nil ?_
    refine T.region ?_
    refine TL.cons rfl (Step.move (p := (.one (.row 1027 []))) rfl rfl (lt_ok rfl) rfl) ?_
    refine TL.cons rfl (Step.move (p := (.one (.d (.ints .u8 (x.f4.getD i []))))) rfl rfl (lt_ok rfl) rfl) ?_
    refine TL.cons rfl (Step.append (e := 5) (z := 1) (by_ := 1) (d := (.ints .u8 ((x.f4.take i).foldl (fun b x => b ++ x) (putVar (putVar (putVar (putVar b x.f0) x.f1) x.f2) (x.f3.length : Int) ++ x.f3)))) (dy := (.ints .u8 (x.f4.getD i []))) (d' := (.ints .u8 (((x.f4.take i).foldl (fun b x => b ++ x) (putVar (putVar (putVar (putVar b x.f0) x.f1) x.f2) (x.f3.length : Int) ++ x.f3)) ++ (x.f4.getD i [])))) (ss := []) rfl rfl (lt_ok rfl) (by kernel_rfl) rfl rfl rfl (lt_ok rfl) rfl (.froz rfl (by simp [D.flat, D.val])) (by simp) rfl (by simp only [D.size, List.length_map]; first | omega | (simp; omega) | (simp only [List.length_append] at *; omega)) (by simp only [D.size, List.length_map]; first | omega | (simp; omega) | (simp only [List.length_append] at *; omega)) (by simp)) ?_
    refine TL.cons rfl (Step.assign (p := (.one (.row 1027 []))) rfl rfl (lt_ok rfl) rfl) ?_
    refine TL.nil ?_
    refine T.region ?_
    refine TL.cons rfl (Step.bin (r := .int .i64 ((i : Int) + 1)) rfl rfl (lt_ok rfl) rfl rfl (Bin.add (a := (i : Int)) (b := 1) (by first | exact wrap_ok (by first | omega | (simp only [List.length_append] at *; omega) | (simp; omega)) (by first | omega | (simp only [List.length_append] at *; omega) | (simp; omega)) | rfl))) ?_
    refine TL.cons rfl (Step.move (p := (.one (.d (.int .i64 ((i : Int) + 1))))) rfl rfl (lt_ok rfl) rfl) ?_
    refine TL.nil ?_
    exact ⟨i + 1, by omega, by first | omega | (dsimp only; omega), Env.le_mk ⟨rfl, rfl, rfl, rfl, by first | (refine congrArg (fun x => some (_, D.ints .u8 x)) ?_; first | (rw [foldl_take_succ _ _ _ i [] (by omega)]; done) | rfl) | rfl | (refine congrArg (fun n => PV.one (.d (.int .i64 n))) ?_; first | omega | (simp; done)), rfl, trivial⟩ ⟨rfl, rfl, rfl, by first | (refine congrArg (fun x => some (_, D.ints .u8 x)) ?_; first | (rw [foldl_take_succ _ _ _ i [] (by omega)]; done) | rfl) | rfl | (refine congrArg (fun n => PV.one (.d (.int .i64 n))) ?_; first | omega | (simp; done)), trivial⟩ ⟨rfl, rfl, trivial⟩⟩
   ·
    replace h6 := of_decide_eq_false h6
    refine T.exit ?_
    refine T.seq ?_
    refine T.region ?_
    refine TL.cons rfl (Step.move (p := (.one (.row 1027 []))) rfl rfl (lt_ok rfl) rfl) ?_
    refine TL.cons rfl (Step.assign (p := (.one (.row 1027 []))) rfl rfl (lt_ok rfl) rfl) ?_
    refine TL.cons rfl (Step.assign (p := (.one (.d (.bool true)))) rfl rfl (lt_ok rfl) rfl) ?_
    refine TL.nil ?_
    refine T.ret ?_
    exact ⟨[(false, [.row 1027 []]), (false, [.d (.bool true)])], (.cons rfl (.cons rfl .nil)), rfl, [1027], (RetC.own' rfl (by first | rfl | (congr 1; unfold putIncl putInclB rawsB; rw [if_pos (by assumption), foldl_all _ _ _ i (by omega)]) | (show (putIncl l b x).length = 0; unfold putIncl; rw [if_neg (by simp [*])]; rfl) | (congr 1; symm; assumption)) rfl (RetC.rd' (by first | rfl | (congr 1; unfold putIncl putInclB rawsB; rw [if_pos (by assumption), foldl_all _ _ _ i (by omega)]) | (show (putIncl l b x).length = 0; unfold putIncl; rw [if_neg (by simp [*])]; rfl) | (congr 1; symm; assumption)) .nil))⟩
theorem ok_laws_toByteSS (a : List (List Int)) (h0_ : a.length ≤ 1048576 ∧ ∀ y ∈ a, y.length ≤ 1048576) : RO Try.prog 80 [.one (.bss a)] [(false, [.own 22 (.bss a)])] := by
 refine RO.intro Try.func80 rfl 23 rfl (le_ok rfl) fun w Z => ?_
 refine T.bnd 0 0 rfl rfl fun hb_0_0 => ?_
 simp only [D.size, List.length_map] at hb_0_0
 have h0b := h0_.1
 refine T.seq ?_
 refine T.region ?_
 refine TL.cons rfl (Step.assign (p := (.one (.nil))) rfl rfl (lt_ok rfl) rfl) ?_
 refine TL.nil ?_
 refine T.seq ?_
 refine T.region ?_
 refine TL.cons rfl (Step.move (p := (.one (.d (.bss a)))) rfl rfl (lt_ok rfl) rfl) ?_
 refine TL.cons rfl (Step.len (e := 22) (z := 1) (d := (.bss a)) rfl rfl (lt_ok rfl) (by kernel_rfl) rfl rfl) ?_
 refine TL.cons rfl (Step.make (e := 22) (z := 1) (by_ := 24) (n := (a.length : Int)) (zs := [.slice none 0 0]) (zd := [.ints .u8 []]) (d := (.bss (List.replicate a.length []))) rfl rfl (lt_ok rfl) (by kernel_rfl) (lt_ok rfl) rfl (by first | omega | (simp; omega)) (by first | omega | (simp; omega)) (by first | omega | (simp; omega)) (by kernel_rfl) (.empty rfl rfl trivial .nil) rfl (by simp) (by simp [D.flat, List.flatten_replicate_singleton]) (by simp [D.size]) rfl trivial) ?_
 refine TL.cons rfl (Step.assign (p := (.one (.row 7 []))) rfl rfl (lt_ok rfl) rfl) ?_
 refine TL.nil ?_
 refine T.seq ?_
 refine T.seq ?_
 refine T.region ?_
 refine TL.cons rfl (Step.assign (p := (.one (.d (.int .i64 0)))) rfl rfl (lt_ok rfl) rfl) ?_
 refine TL.nil ?_
 refine T.block ?_
 refine T.loop (ι := Nat) (fun xx_ => { tm := [(0, (.one (.d (.bss a)))), (2, (.one (.nil))), (3, (.one (.row 7 []))), (4, (.one (.d (.int .i64 (xx_ : Int)))))], rows := [(7, (22, (.bss (a.take xx_ ++ List.replicate (a.length - xx_) [] : List (List Int)))))], boxes := [] }) (fun xx_ => xx_ ≤ a.length) (fun xx_ => a.length - xx_) 0 ?_ ?_ ?_
 · exact Env.le_mk ⟨rfl, rfl, rfl, by first | rfl | exact congrArg (fun x => some (22, ((.bss x) : D))) (fill_set a [] [] i (by omega)), trivial⟩ ⟨by first | rfl | exact congrArg (fun x => some (22, ((.bss x) : D))) (fill_set a [] [] i (by omega)), trivial⟩ trivial
 · exact Nat.zero_le _
 ·
  intro i hx
  try dsimp only at hx ⊢
  refine T.seq ?_
  refine T.seq ?_
  refine T.region ?_
  refine TL.cons rfl (Step.move (p := (.one (.d (.int .i64 (i : Int))))) rfl rfl (lt_ok rfl) rfl) ?_
  refine TL.cons rfl (Step.move (p := (.one (.d (.bss a)))) rfl rfl (lt_ok rfl) rfl) ?_
  refine TL.cons rfl (Step.len (e := 22) (z := 1) (d := (.bss a)) rfl rfl (lt_ok rfl) (by kernel_rfl) rfl rfl) ?_
  refine TL.cons rfl (Step.bin rfl rfl (lt_ok rfl) rfl rfl (Bin.lss (k := .i64) (a := (i : Int)) (b := (a.length : Int)))) ?_
  refine TL.nil ?_
  refine T.cond (b := decide ((i : Int) < (a.length : Int))) rfl (fun h1 => ?_) (fun h1 => ?_)
  ·
   replace h1 := of_decide_eq_true h1
   refine T.skip ?_
   refine T.seq ?_
   refine T.block ?_
   refine T.region ?_
   refine TL.cons rfl (Step.move (p := (.one (.row 7 []))) rfl rfl (lt_ok rfl) rfl) ?_
   refine TL.cons rfl (Step.move (p := (.one (.d (.int .i64 (i : Int))))) rfl rfl (lt_ok rfl) rfl) ?_
   refine TL.cons rfl (Step.move (p := (.one (.d (.bss a)))) rfl rfl (lt_ok rfl) rfl) ?_
   refine TL.cons rfl (Step.move (p := (.one (.d (.int .i64 (i : Int))))) rfl rfl (lt_ok rfl) rfl) ?_
   refine TL.cons rfl (Step.index (e := 22) (z := 1) (i := (i : Int)) rfl rfl (lt_ok rfl) (by kernel_rfl) rfl rfl rfl (lt_ok rfl) rfl (by first | omega | (simp; omega)) (by simp only [D.size]; first | omega | (simp; omega))) ?_
   refine TL.cons rfl (Step.load (e := (.ints .u8 (a.getD i []))) rfl rfl (lt_ok rfl) (by kernel_rfl) rfl rfl) ?_
   refine TL.cons rfl (Step.call (f := 49) (xs := [.tmp 19]) (ps := [(.one (.d (.ints .u8 (a.getD i []))))]) false (g := .func 49) rfl rfl (lt_ok rfl) rfl (by kernel_rfl) rfl (.cons (.one (.d _)) .nil) (ok_laws_toByteS (a.getD i []) (by first | omega | assumption | exact mem_getD h0_.2 (by omega))) (.inr rfl) rfl (by simp) rfl) ?_
   refine TL.cons rfl (Step.index_row (e := 22) (z := 1) (i := (i : Int)) rfl rfl (lt_ok rfl) (by kernel_rfl) rfl rfl rfl rfl (lt_ok rfl) rfl (by first | omega | (simp; omega)) (by simp only [D.at_, D.cell, D.size]; first | omega | (simp; omega))) ?_
   refine TL.cons rfl (Step.store_row (n := 1) (p := (.one (.row 1020 []))) (ps := [.row 1020 []]) (es := [(.ints .u8 (a.getD i []))]) (ss := [1020]) (d1 := (.bss ((a.take i ++ List.replicate (a.length - i) [] : List (List Int)).set i (a.getD i [])))) (d' := (.bss ((a.take i ++ List.replicate (a.length - i) [] : List (List Int)).set i (a.getD i [])))) rfl rfl (by kernel_rfl) rfl rfl rfl rfl rfl rfl (.row rfl (by simp) .nil) (by simp) (Putd.one rfl trivial rfl (by simp only [D.at_, D.size, List.length_set, upTo_length]; first | omega | (simp; omega)) (lt_ok rfl)) rfl) ?_
   refine TL.nil ?_
   refine T.region ?_
   refine TL.cons rfl (Step.move (p := (.one (.d (.int .i64 (i : Int))))) rfl rfl (lt_ok rfl) rfl) ?_
   refine TL.cons rfl (Step.bin (r := .int .i64 ((i : Int) + 1)) rfl rfl (lt_ok rfl) rfl rfl (Bin.add (a := (i : Int)) (b := 1) (by first | exact wrap_ok (by first | omega | (simp; omega)) (by first | omega | (simp; omega)) | rfl))) ?_
   refine TL.cons rfl (Step.assign (p := (.one (.d (.int .i64 ((i : Int) + 1))))) rfl rfl (lt_ok rfl) rfl) ?_
   refine TL.nil ?_
   exact ⟨i + 1, by omega, by omega, Env.le_mk ⟨rfl, rfl, rfl, by first | rfl | exact congrArg (fun x => some (22, ((.bss x) : D))) (fill_set a [] [] i (by omega)), trivial⟩ ⟨by first | rfl | exact congrArg (fun x => some (22, ((.bss x) : D))) (fill_set a [] [] i (by omega)), trivial⟩ trivial⟩
  ·
   replace h1 := of_decide_eq_false h1
   refine T.exit ?_
   refine T.seq ?_
   refine T.region ?_
   refine TL.cons rfl (Step.move (p := (.one (.row 7 []))) rfl rfl (lt_ok rfl) rfl) ?_
   refine TL.cons rfl (Step.assign (p := (.one (.row 7 []))) rfl rfl (lt_ok rfl) rfl) ?_
   refine TL.nil ?_
   refine T.ret ?_
   exact ⟨[(false, [.row 7 []])], (.cons rfl .nil), rfl, [7], (RetC.own' rfl (by first | rfl | (congr 1; rw [fill_all' _ _ _ (by omega)]) | (rw [fill_all' _ _ _ (by omega)])) rfl .nil)⟩
theorem ok_laws_toIncl (a : SIncl) (h0_ : a.sm) : RO Try.prog 55 [.agg a.cells] [(true, [.rd (.int .i64 a.f0), .rd (.int .i64 a.f1), .rd (.int .i64 a.f2), .own 5 (.ints .u8 a.f3), .own 22 (.bss a.f4)])] := by
 refine RO.intro Try.func55 rfl 22 rfl (le_ok rfl) fun w Z => ?_
 obtain ⟨s0, s1⟩ := h0_
 refine T.seq ?_
 refine T.region ?_
 refine TL.cons rfl (Step.box (p := (.agg [.d (.int .i64 a.f0), .d (.int .i64 a.f1), .d (.int .i64 a.f2), .d (.ints .u8 a.f3), .d (.bss a.f4)])) (ps := [.d (.int .i64 a.f0), .d (.int .i64 a.f1), .d (.int .i64 a.f2), .d (.ints .u8 a.f3), .d (.bss a.f4)]) rfl rfl (lt_ok rfl) rfl rfl rfl rfl rfl) ?_
 refine TL.cons rfl (Step.alloc (cs := [.int .i64 0, .int .i64 0, .int .i64 0, .slice none 0 0, .slice none 0 0]) (ps := [.d (.int .i64 0), .d (.int .i64 0), .d (.int .i64 0), .nil, .nil]) rfl rfl (lt_ok rfl) (by kernel_rfl) rfl rfl rfl rfl) ?_
 refine TL.nil ?_
 refine T.seq ?_
 refine T.region ?_
 refine TL.cons rfl (Step.alloc (cs := [.int .i64 0, .int .i64 0, .int .i64 0, .slice none 0 0, .slice none 0 0]) (ps := [.d (.int .i64 0), .d (.int .i64 0), .d (.int .i64 0), .nil, .nil]) rfl rfl (lt_ok rfl) (by kernel_rfl) rfl rfl rfl rfl) ?_
 refine TL.nil ?_
 refine T.seq ?_
 refine T.region ?_
 refine TL.cons rfl (Step.fieldAddr (q := 0) (off := 0) (n := 1) (one := true) rfl rfl (lt_ok rfl) (by kernel_rfl) (Nat.succ_ne_zero _) rfl) ?_
 refine TL.cons rfl (Step.load_box (c := .d (.int .i64 a.f0)) rfl rfl (lt_ok rfl) (by kernel_rfl) rfl rfl rfl) ?_
 refine TL.cons rfl (Step.fieldAddr (q := 0) (off := 0) (n := 1) (one := true) rfl rfl (lt_ok rfl) (by kernel_rfl) (Nat.succ_ne_zero _) rfl) ?_
 refine TL.cons rfl (Step.store_box (n := 1) (p := (.one (.d (.int .i64 a.f0)))) (qs := [.d (.int .i64 a.f0)]) (ps' := [.d (.int .i64 a.f0), .d (.int .i64 0), .d (.int .i64 0), .nil, .nil]) rfl rfl (by kernel_rfl) rfl rfl rfl rfl rfl rfl (le_ok rfl) rfl) ?_
 refine TL.nil ?_
 refine T.seq ?_
 refine T.region ?_
 refine TL.cons rfl (Step.fieldAddr (q := 0) (off := 1) (n := 1) (one := true) rfl rfl (lt_ok rfl) (by kernel_rfl) (Nat.succ_ne_zero _) rfl) ?_
 refine TL.cons rfl (Step.load_box (c := .d (.int .i64 a.f1)) rfl rfl (lt_ok rfl) (by kernel_rfl) rfl rfl rfl) ?_
 refine TL.cons rfl (Step.fieldAddr (q := 0) (off := 1) (n := 1) (one := true) rfl rfl (lt_ok rfl) (by kernel_rfl) (Nat.succ_ne_zero _) rfl) ?_
 refine TL.cons rfl (Step.store_box (n := 1) (p := (.one (.d (.int .i64 a.f1)))) (qs := [.d (.int .i64 a.f1)]) (ps' := [.d (.int .i64 a.f0), .d (.int .i64 a.f1), .d (.int .i64 0), .nil, .nil]) rfl rfl (by kernel_rfl) rfl rfl rfl rfl rfl rfl (le_ok rfl) rfl) ?_
 refine TL.nil ?_
 refine T.seq ?_
 refine T.region ?_
 refine TL.cons rfl (Step.fieldAddr (q := 0) (off := 2) (n := 1) (one := true) rfl rfl (lt_ok rfl) (by kernel_rfl) (Nat.succ_ne_zero _) rfl) ?_
 refine TL.cons rfl (Step.load_box (c := .d (.int .i64 a.f2)) rfl rfl (lt_ok rfl) (by kernel_rfl) rfl rfl rfl) ?_
 refine TL.cons rfl (Step.fieldAddr (q := 0) (off := 2) (n := 1) (one := true) rfl rfl (lt_ok rfl) (by kernel_rfl) (Nat.succ_ne_zero _) rfl) ?_
 refine TL.cons rfl (Step.store_box (n := 1) (p := (.one (.d (.int .i64 a.f2)))) (qs := [.d (.int .i64 a.f2)]) (ps' := [.d (.int .i64 a.f0), .d (.int .i64 a.f1), .d (.int .i64 a.f2), .nil, .nil]) rfl rfl (by kernel_rfl) rfl rfl rfl rfl rfl rfl (le_ok rfl) rfl) ?_
 refine TL.nil ?_
 refine T.seq ?_
 refine T.region ?_
 refine TL.cons rfl (Step.fieldAddr (q := 0) (off := 3) (n := 1) (one := true) rfl rfl (lt_ok rfl) (by kernel_rfl) (Nat.succ_ne_zero _) rfl) ?_
 refine TL.cons rfl (Step.load_box (c := .d (.ints .u8 a.f3)) rfl rfl (lt_ok rfl) (by kernel_rfl) rfl rfl rfl) ?_
 refine TL.cons rfl (Step.call (f := 49) (xs := [.tmp 14]) (ps := [(.one (.d (.ints .u8 a.f3)))]) false (g := .func 49) rfl rfl (lt_ok rfl) rfl (by kernel_rfl) rfl (.cons (.one (.d _)) .nil) (ok_laws_toByteS a.f3 (by first | omega | assumption | exact mem_getD h0_.2 (by omega))) (.inr rfl) rfl (by simp) rfl) ?_
 refine TL.cons rfl (Step.fieldAddr (q := 0) (off := 3) (n := 1) (one := true) rfl rfl (lt_ok rfl) (by kernel_rfl) (Nat.succ_ne_zero _) rfl) ?_
 refine TL.cons rfl (Step.store_box (n := 1) (p := (.one (.row 1015 []))) (qs := [.row 1015 []]) (ps' := [.d (.int .i64 a.f0), .d (.int .i64 a.f1), .d (.int .i64 a.f2), .row 1015 [], .nil]) rfl rfl (by kernel_rfl) rfl rfl rfl rfl rfl rfl (le_ok rfl) rfl) ?_
 refine TL.nil ?_
 refine T.seq ?_
 refine T.region ?_
 refine TL.cons rfl (Step.fieldAddr (q := 0) (off := 4) (n := 1) (one := true) rfl rfl (lt_ok rfl) (by kernel_rfl) (Nat.succ_ne_zero _) rfl) ?_
 refine TL.cons rfl (Step.load_box (c := .d (.bss a.f4)) rfl rfl (lt_ok rfl) (by kernel_rfl) rfl rfl rfl) ?_
 refine TL.cons rfl (Step.call (f := 80) (xs := [.tmp 18]) (ps := [(.one (.d (.bss a.f4)))]) false (g := .func 80) rfl rfl (lt_ok rfl) rfl (by kernel_rfl) rfl (.cons (.one (.d _)) .nil) (ok_laws_toByteSS a.f4 (by first | assumption | exact ⟨‹_›, ‹_›⟩ | exact mem_getD h0_.2 (by omega))) (.inr rfl) rfl (by simp) rfl) ?_
 refine TL.cons rfl (Step.fieldAddr (q := 0) (off := 4) (n := 1) (one := true) rfl rfl (lt_ok rfl) (by kernel_rfl) (Nat.succ_ne_zero _) rfl) ?_
 refine TL.cons rfl (Step.store_box (n := 1) (p := (.one (.row 1019 []))) (qs := [.row 1019 []]) (ps' := [.d (.int .i64 a.f0), .d (.int .i64 a.f1), .d (.int .i64 a.f2), .row 1015 [], .row 1019 []]) rfl rfl (by kernel_rfl) rfl rfl rfl rfl rfl rfl (le_ok rfl) rfl) ?_
 refine TL.nil ?_
 refine T.seq ?_
 refine T.region ?_
 refine TL.cons rfl (Step.load_box_agg (n := 5) (qs := [.d (.int .i64 a.f0), .d (.int .i64 a.f1), .d (.int .i64 a.f2), .row 1015 [], .row 1019 []]) rfl rfl (lt_ok rfl) (by kernel_rfl) rfl rfl rfl rfl) ?_
 refine TL.cons rfl (Step.store_box (n := 5) (p := (.agg [.d (.int .i64 a.f0), .d (.int .i64 a.f1), .d (.int .i64 a.f2), .row 1015 [], .row 1019 []])) (qs := [.d (.int .i64 a.f0), .d (.int .i64 a.f1), .d (.int .i64 a.f2), .row 1015 [], .row 1019 []]) (ps' := [.d (.int .i64 a.f0), .d (.int .i64 a.f1), .d (.int .i64 a.f2), .row 1015 [], .row 1019 []]) rfl rfl (by kernel_rfl) rfl rfl rfl rfl rfl rfl (le_ok rfl) rfl) ?_
 refine TL.nil ?_
 refine T.ret ?_
 exact ⟨[(true, [.d (.int .i64 a.f0), .d (.int .i64 a.f1), .d (.int .i64 a.f2), .row 1015 [], .row 1019 []])], (.cons rfl .nil), rfl, [1015, 1019], (RetC.rd' (by rfl) (RetC.rd' (by rfl) (RetC.rd' (by rfl) (RetC.own' rfl (by rfl) rfl (RetC.own' rfl (by rfl) rfl .nil)))))⟩
theorem ok_impl_copyBytes (a : List Int) (h0_ : a.length ≤ 17592186044416) : RO Try.prog 83 [.one (.ints .u8 a)] [(false, [.own 5 (.ints .u8 a)])] := by
 refine RO.intro Try.func83 rfl 6 rfl (le_ok rfl) fun w Z => ?_
 refine T.bnd 0 0 rfl rfl fun hb_0_0 => ?_
 simp only [D.size, List.length_map] at hb_0_0
 refine T.seq ?_
 refine T.region ?_
 refine TL.cons rfl (Step.assign (p := (.one (.nil))) rfl rfl (lt_ok rfl) rfl) ?_
 refine TL.nil ?_
 refine T.seq ?_
 refine T.region ?_
 refine TL.cons rfl (Step.lit (e := 5) (z := 1) (by_ := 1) (xs := []) (pss := []) (es := []) (ss := []) (d := (.ints .u8 [])) rfl rfl (lt_ok rfl) (by kernel_rfl) rfl rfl .nil (by simp) (le_ok rfl) (le_ok rfl) rfl .nil rfl (by simp) (by simp) rfl trivial rfl rfl) ?_
 refine TL.cons rfl (Step.move (p := (.one (.d (.ints .u8 a)))) rfl rfl (lt_ok rfl) rfl) ?_
 refine TL.cons rfl (Step.append (e := 5) (z := 1) (by_ := 1) (d := (.ints .u8 [])) (dy := (.ints .u8 a)) (d' := (.ints .u8 ([] ++ a))) (ss := []) rfl rfl (lt_ok rfl) (by kernel_rfl) rfl rfl rfl (lt_ok rfl) rfl (.froz rfl (by simp [D.flat, D.val])) (by simp) rfl (by simp only [D.size, List.length_map]; first | omega | (simp; omega) | (simp only [List.length_append] at *; omega)) (by simp only [D.size, List.length_map]; first | omega | (simp; omega) | (simp only [List.length_append] at *; omega)) (by simp)) ?_
 refine TL.cons rfl (Step.assign (p := (.one (.row 3 []))) rfl rfl (lt_ok rfl) rfl) ?_
 refine TL.nil ?_
 refine T.ret ?_
 exact ⟨[(false, [.row 3 []])], (.cons rfl .nil), rfl, [3], (RetC.own' rfl (by rfl) rfl .nil)⟩
theorem ok_impl_within (n : Int) (low : Int) (high : Int) : RO Try.prog 144 [.one (.int .i64 n), .one (.int .i64 low), .one (.int .i64 high)] [(false, [.rd (.bool (decide (low ≤ n ∧ n ≤ high)))])] := by
 refine RO.intro Try.func144 rfl 15 rfl (le_ok rfl) fun w Z => ?_
 refine T.seq ?_
 refine T.region ?_
 refine TL.cons rfl (Step.assign (p := (.one (.d (.bool false)))) rfl rfl (lt_ok rfl) rfl) ?_
 refine TL.nil ?_
 refine T.seq ?_
 refine T.region ?_
 refine TL.cons rfl (Step.move (p := (.one (.d (.int .i64 low)))) rfl rfl (lt_ok rfl) rfl) ?_
 refine TL.cons rfl (Step.move (p := (.one (.d (.int .i64 n)))) rfl rfl (lt_ok rfl) rfl) ?_
 refine TL.cons rfl (Step.bin rfl rfl (lt_ok rfl) rfl rfl (Bin.leq (k := .i64) (a := low) (b := n))) ?_
 refine TL.cons rfl (Step.move (p := (.one (.d (.bool (decide (low ≤ n)))))) rfl rfl (lt_ok rfl) rfl) ?_
 rcases Bool.eq_false_or_eq_true (decide (low ≤ n)) with hb1 | hb1
 ·
  refine TL.known 10 hb1 rfl ?_
  refine TL.gyes 10 rfl rfl (lt_ok rfl) rfl (Step.move (p := (.one (.d (.int .i64 n)))) rfl rfl (lt_ok rfl) rfl) ?_
  refine TL.gyes 10 rfl rfl (lt_ok rfl) rfl (Step.move (p := (.one (.d (.int .i64 high)))) rfl rfl (lt_ok rfl) rfl) ?_
  refine TL.gyes 10 rfl rfl (lt_ok rfl) rfl (Step.bin rfl rfl (lt_ok rfl) rfl rfl (Bin.leq (k := .i64) (a := n) (b := high))) ?_
  refine TL.cons rfl (Step.pick (b := true) (p := (.one (.d (.bool (decide (n ≤ high)))))) rfl rfl (lt_ok rfl) rfl rfl) ?_
  refine TL.cons rfl (Step.assign (p := (.one (.d (.bool (decide (n ≤ high)))))) rfl rfl (lt_ok rfl) rfl) ?_
  refine TL.nil ?_
  refine T.ret ?_
  exact ⟨[(false, [.d (.bool (decide (n ≤ high)))])], (.cons rfl .nil), rfl, [], (RetC.rd' (by first | (congr 1; simp_all; done) | (congr 1; simp_all; omega)) .nil)⟩
 ·
  refine TL.known 10 hb1 rfl ?_
  refine TL.gno 10 rfl rfl (lt_ok rfl) rfl rfl rfl (lt_ok rfl) ?_
  refine TL.gno 10 rfl rfl (lt_ok rfl) rfl rfl rfl (lt_ok rfl) ?_
  refine TL.gno 10 rfl rfl (lt_ok rfl) rfl rfl rfl (lt_ok rfl) ?_
  refine TL.cons rfl (Step.pick (b := false) (p := (.one (.d (.bool false)))) rfl rfl (lt_ok rfl) rfl rfl) ?_
  refine TL.cons rfl (Step.assign (p := (.one (.d (.bool false)))) rfl rfl (lt_ok rfl) rfl) ?_
  refine TL.nil ?_
  refine T.ret ?_
  exact ⟨[(false, [.d (.bool false)])], (.cons rfl .nil), rfl, [], (RetC.rd' (by first | (congr 1; simp_all; done) | (congr 1; simp_all; omega)) .nil)⟩
theorem ok_impl_isNum (n : Int) : RO Try.prog 147 [.one (.int .i64 n)] [(false, [.rd (.bool (decide (0 ≤ n ∧ n ≤ 1152921504606846975)))])] := by
 refine RO.intro Try.func147 rfl 5 rfl (le_ok rfl) fun w Z => ?_
 refine T.seq ?_
 refine T.region ?_
 refine TL.cons rfl (Step.assign (p := (.one (.d (.bool false)))) rfl rfl (lt_ok rfl) rfl) ?_
 refine TL.nil ?_
 refine T.seq ?_
 refine T.region ?_
 refine TL.cons rfl (Step.move (p := (.one (.d (.int .i64 n)))) rfl rfl (lt_ok rfl) rfl) ?_
 refine TL.cons rfl (Step.call (f := 144) (xs := [.tmp 3, .const (.int .i64 0), .const (.int .i64 1152921504606846975)]) (ps := [(.one (.d (.int .i64 n))), (.one (.d (.int .i64 0))), (.one (.d (.int .i64 1152921504606846975)))]) false (g := .func 144) rfl rfl (lt_ok rfl) rfl (by kernel_rfl) rfl (.cons (.one (.d _)) (.cons (.one (.d _)) (.cons (.one (.d _)) .nil))) (ok_impl_within n 0 1152921504606846975) (.inr rfl) rfl (by simp) rfl) ?_
 refine TL.cons rfl (Step.assign (p := (.one (.d (.bool (decide (0 ≤ n ∧ n ≤ 1152921504606846975)))))) rfl rfl (lt_ok rfl) rfl) ?_
 refine TL.nil ?_
 refine T.ret ?_
 exact ⟨[(false, [.d (.bool (decide (0 ≤ n ∧ n ≤ 1152921504606846975)))])], (.cons rfl .nil), rfl, [], (RetC.rd' (by rfl) .nil)⟩
theorem ok_impl_PutVar (b : List Int) (n : Int) (h0_ : b.length ≤ 17592186044416) : RO Try.prog 160 [.one (.ints .u8 b), .one (.int .i64 n)] [(false, [.own 5 (.ints .u8 (putVar b n))]), (false, [.rd (.bool (decide (0 ≤ n ∧ n ≤ 1152921504606846975)))])] := by
 refine RO.intro Try.func160 rfl 28 rfl (le_ok rfl) fun w Z => ?_
 refine T.bnd 0 0 rfl rfl fun hb_0_0 => ?_
 simp only [D.size, List.length_map] at hb_0_0
 refine T.seq ?_
 refine T.region ?_
 refine TL.cons rfl (Step.assign (p := (.one (.nil))) rfl rfl (lt_ok rfl) rfl) ?_
 refine TL.cons rfl (Step.assign (p := (.one (.d (.bool false)))) rfl rfl (lt_ok rfl) rfl) ?_
 refine TL.nil ?_
 refine T.seq ?_
 refine T.seq ?_
 refine T.region ?_
 refine TL.cons rfl (Step.move (p := (.one (.d (.int .i64 n)))) rfl rfl (lt_ok rfl) rfl) ?_
 refine TL.cons rfl (Step.call (f := 147) (xs := [.tmp 7]) (ps := [(.one (.d (.int .i64 n)))]) false (g := .func 147) rfl rfl (lt_ok rfl) rfl (by kernel_rfl) rfl (.cons (.one (.d _)) .nil) (ok_impl_isNum n) (.inr rfl) rfl (by simp) rfl) ?_
 refine TL.cons rfl (Step.not (b := (decide (0 ≤ n ∧ n ≤ 1152921504606846975))) rfl rfl (lt_ok rfl) rfl) ?_
 refine TL.nil ?_
 refine T.cond (b := !(decide (0 ≤ n ∧ n ≤ 1152921504606846975))) rfl (fun h1 => ?_) (fun h1 => ?_)
 ·
  replace h1 : (decide (0 ≤ n ∧ n ≤ 1152921504606846975)) = false := by simpa only [Bool.not_eq_true', Bool.not_eq_false'] using h1
  replace h1 := of_decide_eq_false h1
  refine T.seq ?_
  refine T.region ?_
  refine TL.cons rfl (Step.assign (p := (.one (.nil))) rfl rfl (lt_ok rfl) rfl) ?_
  refine TL.cons rfl (Step.assign (p := (.one (.d (.bool false)))) rfl rfl (lt_ok rfl) rfl) ?_
  refine TL.nil ?_
  refine T.ret ?_
  exact ⟨[(false, [.nil]), (false, [.d (.bool false)])], (.cons rfl (.cons rfl .nil)), rfl, [], (RetC.nilown' rfl (by first | rfl | (congr 1; unfold putVar; rw [if_pos (decide_eq_true (by assumption))]; rw [← hx3, varW_last (n := m) (by omega)]; done) | (show (putVar b n).length = 0; rw [putVar, if_neg (by rw [decide_eq_true_eq]; assumption)]; rfl) | (congr 1; symm; first | exact decide_eq_true ‹_› | exact decide_eq_false ‹_›)) (by first | exact trivial | exact D.wf_nil _) (RetC.rd' (by first | rfl | (congr 1; unfold putVar; rw [if_pos (decide_eq_true (by assumption))]; rw [← hx3, varW_last (n := m) (by omega)]; done) | (show (putVar b n).length = 0; rw [putVar, if_neg (by rw [decide_eq_true_eq]; assumption)]; rfl) | (congr 1; symm; first | exact decide_eq_true ‹_› | exact decide_eq_false ‹_›)) .nil))⟩
 ·
  replace h1 : (decide (0 ≤ n ∧ n ≤ 1152921504606846975)) = true := by simpa only [Bool.not_eq_true', Bool.not_eq_false'] using h1
  replace h1 := of_decide_eq_true h1
  refine T.skip ?_
  refine T.seq ?_
  refine T.region ?_
  refine TL.cons rfl (Step.move (p := (.one (.d (.ints .u8 b)))) rfl rfl (lt_ok rfl) rfl) ?_
  refine TL.cons rfl (Step.call (f := 83) (xs := [.tmp 10]) (ps := [(.one (.d (.ints .u8 b)))]) false (g := .func 83) rfl rfl (lt_ok rfl) rfl (by kernel_rfl) rfl (.cons (.one (.d _)) .nil) (ok_impl_copyBytes b (by first | omega | assumption)) (.inr rfl) rfl (by simp) rfl) ?_
  refine TL.cons rfl (Step.assign (p := (.one (.row 1011 []))) rfl rfl (lt_ok rfl) rfl) ?_
  refine TL.nil ?_
  refine T.seq ?_
  refine T.block ?_
  refine T.loop (ι := (List Int) × Int) (fun xx_ => { tm := [(4, (.one (.nil))), (5, (.one (.d (.bool false)))), (1, (.one (.d (.int .i64 (xx_.2))))), (6, (.one (.row 1011 [])))], rows := [(1011, (5, (.ints .u8 (xx_.1))))], boxes := [] }) (fun xx_ => 0 ≤ (xx_.2) ∧ (xx_.2) ≤ 1152921504606846975 ∧ (xx_.1) ++ varW (xx_.2) = b ++ varW n ∧ (xx_.1).length ≤ b.length + 9) (fun xx_ => (xx_.2).toNat) (b, n) ?_ ?_ ?_
  · exact Env.le_mk ⟨rfl, rfl, by first | rfl | (refine congrArg (fun x => some (_, D.ints .u8 x)) ?_; rfl), rfl, trivial⟩ ⟨by first | rfl | (refine congrArg (fun x => some (_, D.ints .u8 x)) ?_; rfl), trivial⟩ trivial
  · (dsimp only; refine ⟨by omega, by omega, rfl, by omega⟩)
  ·
   intro xx_ hx
   obtain ⟨o, m⟩ := xx_
   try dsimp only at hx ⊢
   obtain ⟨hx1, hx2, hx3, hx4⟩ := hx
   refine T.seq ?_
   refine T.seq ?_
   refine T.region ?_
   refine TL.cons rfl (Step.move (p := (.one (.d (.int .i64 m)))) rfl rfl (lt_ok rfl) rfl) ?_
   refine TL.cons rfl (Step.bin rfl rfl (lt_ok rfl) rfl rfl (Bin.geq (k := .i64) (a := m) (b := 128))) ?_
   refine TL.nil ?_
   refine T.cond (b := decide (128 ≤ m)) rfl (fun h2 => ?_) (fun h2 => ?_)
   ·
    replace h2 := of_decide_eq_true h2
    refine T.skip ?_
    refine T.block ?_
    refine T.seq ?_
    refine T.region ?_
    refine TL.cons rfl (Step.move (p := (.one (.row 1011 []))) rfl rfl (lt_ok rfl) rfl) ?_
    refine TL.cons rfl (Step.move (p := (.one (.d (.int .i64 m)))) rfl rfl (lt_ok rfl) rfl) ?_
    refine TL.cons rfl (Step.bin (r := .int .i64 (m % 128)) rfl rfl (lt_ok rfl) rfl rfl (Bin.rem (k := .i64) (a := m) (b := 128) (by decide) (Int.tmod_eq_emod_of_nonneg (by first | omega | (simp; omega))))) ?_
    refine TL.cons rfl (Step.bin (r := .int .i64 ((m % 128) + 128)) rfl rfl (lt_ok rfl) rfl rfl (Bin.add (a := (m % 128)) (b := 128) (by first | exact wrap_ok (by first | omega | (simp; omega)) (by first | omega | (simp; omega)) | rfl))) ?_
    refine TL.cons rfl (Step.conv (c := ((m % 128) + 128)) rfl rfl (lt_ok rfl) (by kernel_rfl) (by kernel_rfl) rfl (wrap_u8 (by first | omega | (simp; omega)) (by first | omega | (simp; omega)))) ?_
    refine TL.cons rfl (Step.lit (e := 5) (z := 1) (by_ := 1) (xs := [.tmp 18]) (pss := [[.d (.int .u8 ((m % 128) + 128))]]) (es := [(.int .u8 ((m % 128) + 128))]) (ss := []) (d := (.ints .u8 [(m % 128) + 128])) rfl rfl (lt_ok rfl) (by kernel_rfl) rfl rfl (.cons rfl .nil) (by simp) (le_ok rfl) (le_ok rfl) rfl (.val rfl .nil) rfl (by simp) (by simp) rfl trivial rfl rfl) ?_
    refine TL.cons rfl (Step.append (e := 5) (z := 1) (by_ := 1) (d := (.ints .u8 o)) (dy := (.ints .u8 [(m % 128) + 128])) (d' := (.ints .u8 (o ++ [(m % 128) + 128]))) (ss := []) rfl rfl (lt_ok rfl) (by kernel_rfl) rfl rfl rfl (lt_ok rfl) rfl (.copy rfl rfl rfl (by simp [D.flat, D.val])) (by simp) rfl (by simp only [D.size, List.length_map]; first | omega | (simp; omega) | (simp only [List.length_append] at *; omega)) (by simp only [D.size, List.length_map]; first | omega | (simp; omega) | (simp only [List.length_append] at *; omega)) (by simp)) ?_
    refine TL.cons rfl (Step.assign (p := (.one (.row 1011 []))) rfl rfl (lt_ok rfl) rfl) ?_
    refine TL.nil ?_
    refine T.region ?_
    refine TL.cons rfl (Step.move (p := (.one (.d (.int .i64 m)))) rfl rfl (lt_ok rfl) rfl) ?_
    refine TL.cons rfl (Step.bin (r := .int .i64 (m / 128)) rfl rfl (lt_ok rfl) rfl rfl (Bin.quo (k := .i64) (a := m) (b := 128) (by decide) (by rw [Int.tdiv_eq_ediv_of_nonneg (by first | omega | (simp; omega))]; exact wrap_ok (by first | omega | (simp; omega)) (by first | omega | (simp; omega))))) ?_
    refine TL.cons rfl (Step.assign (p := (.one (.d (.int .i64 (m / 128))))) rfl rfl (lt_ok rfl) rfl) ?_
    refine TL.nil ?_
    exact ⟨(o ++ [(m % 128) + 128], m / 128), by (refine ⟨by omega, by omega, by rw [← hx3, varW_next (n := m) (by omega)]; simp [Int.add_comm], ?_⟩; have e_ := congrArg List.length hx3; rw [varW_next (n := m) (by omega)] at e_; have := varW_len9 (n := n) (by omega); simp only [List.length_append, List.length_cons, List.length_nil] at e_ ⊢; omega), by (dsimp only; omega), Env.le_mk ⟨rfl, rfl, by first | rfl | (refine congrArg (fun x => some (_, D.ints .u8 x)) ?_; rfl), rfl, trivial⟩ ⟨by first | rfl | (refine congrArg (fun x => some (_, D.ints .u8 x)) ?_; rfl), trivial⟩ trivial⟩
   ·
    replace h2 := of_decide_eq_false h2
    refine T.exit ?_
    refine T.seq ?_
    refine T.region ?_
    refine TL.cons rfl (Step.move (p := (.one (.row 1011 []))) rfl rfl (lt_ok rfl) rfl) ?_
    refine TL.cons rfl (Step.move (p := (.one (.d (.int .i64 m)))) rfl rfl (lt_ok rfl) rfl) ?_
    refine TL.cons rfl (Step.conv (c := m) rfl rfl (lt_ok rfl) (by kernel_rfl) (by kernel_rfl) rfl (wrap_u8 (by first | omega | (simp; omega)) (by first | omega | (simp; omega)))) ?_
    refine TL.cons rfl (Step.lit (e := 5) (z := 1) (by_ := 1) (xs := [.tmp 25]) (pss := [[.d (.int .u8 m)]]) (es := [(.int .u8 m)]) (ss := []) (d := (.ints .u8 [m])) rfl rfl (lt_ok rfl) (by kernel_rfl) rfl rfl (.cons rfl .nil) (by simp) (le_ok rfl) (le_ok rfl) rfl (.val rfl .nil) rfl (by simp) (by simp) rfl trivial rfl rfl) ?_
    refine TL.cons rfl (Step.append (e := 5) (z := 1) (by_ := 1) (d := (.ints .u8 o)) (dy := (.ints .u8 [m])) (d' := (.ints .u8 (o ++ [m]))) (ss := []) rfl rfl (lt_ok rfl) (by kernel_rfl) rfl rfl rfl (lt_ok rfl) rfl (.copy rfl rfl rfl (by simp [D.flat, D.val])) (by simp) rfl (by simp only [D.size, List.length_map]; first | omega | (simp; omega) | (simp only [List.length_append] at *; omega)) (by simp only [D.size, List.length_map]; first | omega | (simp; omega) | (simp only [List.length_append] at *; omega)) (by simp)) ?_
    refine TL.cons rfl (Step.assign (p := (.one (.row 1011 []))) rfl rfl (lt_ok rfl) rfl) ?_
    refine TL.cons rfl (Step.assign (p := (.one (.d (.bool true)))) rfl rfl (lt_ok rfl) rfl) ?_
    refine TL.nil ?_
    refine T.ret ?_
    exact ⟨[(false, [.row 1011 []]), (false, [.d (.bool true)])], (.cons rfl (.cons rfl .nil)), rfl, [1011], (RetC.own' rfl (by first | rfl | (congr 1; unfold putVar; rw [if_pos (decide_eq_true (by assumption))]; rw [← hx3, varW_last (n := m) (by omega)]; done) | (show (putVar b n).length = 0; rw [putVar, if_neg (by rw [decide_eq_true_eq]; assumption)]; rfl) | (congr 1; symm; first | exact decide_eq_true ‹_› | exact decide_eq_false ‹_›)) rfl (RetC.rd' (by first | rfl | (congr 1; unfold putVar; rw [if_pos (decide_eq_true (by assumption))]; rw [← hx3, varW_last (n := m) (by omega)]; done) | (show (putVar b n).length = 0; rw [putVar, if_neg (by rw [decide_eq_true_eq]; assumption)]; rfl) | (congr 1; symm; first | exact decide_eq_true ‹_› | exact decide_eq_false ‹_›)) .nil))⟩
theorem ok_impl_writer__num (b : List Int) (n : Int) (h0_ : b.length ≤ 17592186044416) : BX Try.prog 110 [.bx, .rd (.one (.int .i64 n))] 136 [.own 5 (.ints .u8 b)] [.own 5 (.ints .u8 (putVar b n))] [] := by
 refine BX.intro Try.func110 rfl 16 rfl (le_ok rfl) (le_ok rfl) fun w Z IX pin hp => ?_
 refine T.bndRow 900 rfl fun hb_900 => ?_
 simp only [D.size, List.length_map] at hb_900
 refine T.region ?_
 refine TL.cons rfl (Step.move (p := (.one (.ptr 800 0))) rfl rfl (lt_ok rfl) rfl) ?_
 refine TL.cons rfl (Step.move (p := (.one (.ptr 800 0))) rfl rfl (lt_ok rfl) rfl) ?_
 refine TL.cons rfl (Step.nilCheck rfl rfl (lt_ok rfl) rfl) ?_
 refine TL.cons rfl (Step.fieldAddr (q := 0) (off := 0) (n := 1) (one := true) rfl rfl (lt_ok rfl) (by kernel_rfl) (Nat.succ_ne_zero _) rfl) ?_
 refine TL.cons rfl (Step.load_box (c := .row 900 []) rfl rfl (lt_ok rfl) (by kernel_rfl) rfl rfl rfl) ?_
 refine TL.cons rfl (Step.move (p := (.one (.d (.int .i64 n)))) rfl rfl (lt_ok rfl) rfl) ?_
 have nn1 := putVar_len b n
 refine TL.cons rfl (Step.call (f := 160) (xs := [.tmp 9, .tmp 10]) (ps := [(.one (.row 900 [])), (.one (.d (.int .i64 n)))]) false (g := .func 160) rfl rfl (lt_ok rfl) rfl (by kernel_rfl) rfl (.cons (.one (.row rfl rfl rfl rfl)) (.cons (.one (.d _)) .nil)) (ok_impl_PutVar b n (by first | omega | assumption | (simp only [List.length_append] at *; omega))) (.inr rfl) rfl (fun x hx => by have := hp x hx; omega) rfl) ?_
 refine TL.cons rfl (Step.move (p := (.tup [(false, [.row 1011 []]), (false, [.d (.bool (decide (0 ≤ n ∧ n ≤ 1152921504606846975)))])])) rfl rfl (lt_ok rfl) rfl) ?_
 refine TL.cons rfl (Step.extract (p := (.one (.row 1011 []))) rfl rfl (lt_ok rfl) rfl rfl) ?_
 refine TL.cons rfl (Step.extract (p := (.one (.d (.bool (decide (0 ≤ n ∧ n ≤ 1152921504606846975)))))) rfl rfl (lt_ok rfl) rfl rfl) ?_
 refine TL.cons rfl (Step.nilCheck rfl rfl (lt_ok rfl) rfl) ?_
 refine TL.cons rfl (Step.fieldAddr (q := 0) (off := 0) (n := 1) (one := true) rfl rfl (lt_ok rfl) (by kernel_rfl) (Nat.succ_ne_zero _) rfl) ?_
 refine TL.cons rfl (Step.store_box (n := 1) (p := (.one (.row 1011 []))) (qs := [.row 1011 []]) (ps' := [.row 1011 []]) rfl rfl (by kernel_rfl) rfl rfl rfl rfl rfl rfl (le_ok rfl) rfl) ?_
 refine TL.nil ?_
 exact ⟨[.row 1011 []], [], rfl, rfl, .nil, rfl, [1011], (RetC.own' rfl (by rfl) rfl .nil)⟩
end Go.Proofs.Ythaagegnobegjaa.Rf
