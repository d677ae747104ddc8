/- The functions that FnExactPathRoot calls, each held to what it answers. Printed by a program of this session; Lean checks it. -/
import Derived.Test.YtmdojlglemnijaaProg
import Derived.Test.YtmdojlglemnijaaRf32
namespace Go.Proofs.Ytmdojlglemnijaa.Rf
open Go.RowKit
set_option linter.unusedVariables false
set_option linter.unnecessarySimpa false
set_option linter.unusedSimpArgs false
set_option maxRecDepth 100000
set_option maxHeartbeats 400000
def splitAtT (n : Int) : Int := if n < 2 then 0 else splitAt n
theorem splitAtT_bd (n : Int) : (n < 2 → splitAtT n = 0) ∧ (2 ≤ n → 1 ≤ splitAtT n ∧ splitAtT n < n) := by
  unfold splitAtT
  refine ⟨fun h => by rw [if_pos h], fun h => ?_⟩
  rw [if_neg (by omega)]
  exact splitAt_bd n h
def pathLenT (i n : Int) : Int := if 1 ≤ n ∧ n ≤ 1048576 ∧ 0 ≤ i ∧ i ≤ n - 1 then pathLen n.toNat i n else 0
theorem pathLen_fuel : ∀ (d e : Nat) (i n : Int), n ≤ d → n ≤ e → 1 ≤ n → pathLen d i n = pathLen e i n
  | 0, _, i, n, h, _, h1 => by omega
  | _, 0, i, n, _, h, h1 => by omega
  | d + 1, e + 1, i, n, h, h', h1 => by
    unfold pathLen
    by_cases h2 : n < 2
    · rw [if_pos h2, if_pos h2]
    · have := splitAt_bd n (by omega)
      rw [if_neg h2, if_neg h2]
      split
      · rw [pathLen_fuel d e _ _ (by omega) (by omega) (by omega)]
      · rw [pathLen_fuel d e _ _ (by omega) (by omega) (by omega)]
theorem pathLenT_bd (i n : Int) : 0 ≤ pathLenT i n ∧ pathLenT i n ≤ 1048576 := by
  unfold pathLenT
  split
  · have := pathLen_bd n.toNat i n; omega
  · omega
theorem pathLenT_no {i n : Int} (h : ¬ (1 ≤ n ∧ n ≤ 1048576 ∧ 0 ≤ i ∧ i ≤ n - 1)) : pathLenT i n = 0 := by unfold pathLenT; rw [if_neg h]
theorem pathLenT_one {i n : Int} (h : n < 2) : pathLenT i n = 0 := by
  unfold pathLenT
  split
  · rw [show n = 1 from by omega]; rfl
  · rfl
theorem pathLenT_left {i n : Int} (h : 1 ≤ n ∧ n ≤ 1048576 ∧ 0 ≤ i ∧ i ≤ n - 1) (h2 : 2 ≤ n) (hi : i < splitAtT n) : pathLenT i n = 1 + pathLenT i (splitAtT n) := by
  have hb := splitAt_bd n h2
  have e : splitAtT n = splitAt n := by unfold splitAtT; rw [if_neg (by omega)]
  rw [e] at hi ⊢
  unfold pathLenT
  rw [if_pos h, if_pos (by omega)]
  obtain ⟨d, hd⟩ : ∃ d, n.toNat = d + 1 := ⟨n.toNat - 1, by omega⟩
  rw [hd]
  conv => lhs; unfold pathLen
  rw [if_neg (by omega), if_pos hi, pathLen_fuel d (splitAt n).toNat _ _ (by omega) (by omega) (by omega)]
theorem pathLenT_right {i n : Int} (h : 1 ≤ n ∧ n ≤ 1048576 ∧ 0 ≤ i ∧ i ≤ n - 1) (h2 : 2 ≤ n) (hi : ¬ i < splitAtT n) : pathLenT i n = 1 + pathLenT (i - splitAtT n) (n - splitAtT n) := by
  have hb := splitAt_bd n h2
  have e : splitAtT n = splitAt n := by unfold splitAtT; rw [if_neg (by omega)]
  rw [e] at hi ⊢
  unfold pathLenT
  rw [if_pos h, if_pos (by omega)]
  obtain ⟨d, hd⟩ : ∃ d, n.toNat = d + 1 := ⟨n.toNat - 1, by omega⟩
  rw [hd]
  conv => lhs; unfold pathLen
  rw [if_neg (by omega), if_neg hi, pathLen_fuel d (n - splitAt n).toNat _ _ (by omega) (by omega) (by omega)]
def hashes (l : List (List Int)) : Bool := l.all fun x => decide ((x.length : Int) = 32)
theorem hashes_step {l : List (List Int)} {i : Nat} (hi : i < l.length) (h : hashes (l.take i) = true) (hx : ((l.getD i []).length : Int) = 32) : hashes (l.take (i + 1)) = true := by
  rw [take_succ' (df := []) hi]; simp only [hashes, List.all_append, List.all_cons, List.all_nil, Bool.and_true, Bool.and_eq_true] at h ⊢; exact ⟨h, decide_eq_true hx⟩
theorem hashes_no {l : List (List Int)} {i : Nat} (hi : i < l.length) (hx : ¬ ((l.getD i []).length : Int) = 32) : hashes l = false := by
  cases h : hashes l with
  | false => rfl
  | true =>
    rw [hashes, List.all_eq_true] at h
    have := h (l.getD i []) (by rw [List.getD_eq_getElem?_getD, List.getElem?_eq_getElem hi]; exact List.getElem_mem hi)
    exact absurd (of_decide_eq_true this) hx
def leafHash (x : List Int) : List Int := sha ([0] ++ x)
def nodeHash (a b : List Int) : List Int := sha ([1] ++ a ++ b)
theorem leafHash_len (x : List Int) : (leafHash x).length ≤ 32 := sha_len _
theorem leafHash_u8 (x : List Int) : U8s (leafHash x) := sha_u8 _
theorem nodeHash_len (a b : List Int) : (nodeHash a b).length ≤ 32 := sha_len _
theorem nodeHash_u8 (a b : List Int) : U8s (nodeHash a b) := sha_u8 _
theorem u8_cons {x : Int} {a : List Int} (h0 : 0 ≤ x ∧ x ≤ 255) (h : U8s a) : U8s ([x] ++ a) := fun y hy => by
  rcases List.mem_append.1 hy with hy | hy
  · rcases List.mem_singleton.1 hy with rfl; exact h0
  · exact h y hy
theorem u8_app {a b : List Int} (h : U8s a) (h' : U8s b) : U8s (a ++ b) := fun y hy => by
  rcases List.mem_append.1 hy with hy | hy
  · exact h y hy
  · exact h' y hy
theorem mem_sub {α : Type} {p : α → Prop} {l : List α} (h : ∀ y ∈ l, p y) (a b : Nat) : ∀ y ∈ (l.drop a).take b, p y := fun y hy => h y (List.mem_of_mem_drop (List.mem_of_mem_take hy))
theorem splitAtT_le (n : Int) : 0 ≤ splitAtT n ∧ (0 ≤ n → splitAtT n ≤ n) := by have := splitAtT_bd n; omega
theorem part_len {α : Type} (l : List α) : ((l.drop 0).take ((splitAtT (l.length : Int)).toNat - 0)).length = (splitAtT (l.length : Int)).toNat ∧ ((l.drop (splitAtT (l.length : Int)).toNat).take (l.length - (splitAtT (l.length : Int)).toNat)).length = l.length - (splitAtT (l.length : Int)).toNat := by
  have := splitAtT_le (l.length : Int)
  simp only [List.length_take, List.length_drop]
  omega
theorem pre_len {α : Type} (l : List α) : ((l.drop 0).take (((l.length : Int) - 1).toNat - 0)).length = l.length - 1 := by
  simp only [List.length_take, List.length_drop]
  omega
def treeRoot (l : List (List Int)) : List Int :=
  if h0 : l.length = 0 then sha [] else if h1 : l.length = 1 then leafHash (l.getD 0 []) else
  nodeHash (treeRoot ((l.drop 0).take ((splitAtT (l.length : Int)).toNat - 0))) (treeRoot ((l.drop (splitAtT (l.length : Int)).toNat).take (l.length - (splitAtT (l.length : Int)).toNat)))
termination_by l.length
decreasing_by
  · have h1 := part_len l; have h2 := splitAtT_bd (l.length : Int); omega
  · have h1 := part_len l; have h2 := splitAtT_bd (l.length : Int); omega
theorem treeRoot_nil {l : List (List Int)} (h : (l.length : Int) = 0) : treeRoot l = sha [] := by rw [treeRoot, dif_pos (by omega)]
theorem treeRoot_one {l : List (List Int)} (h : (l.length : Int) = 1) : treeRoot l = leafHash (l.getD 0 []) := by rw [treeRoot, dif_neg (by omega), dif_pos (by omega)]
theorem treeRoot_two {l : List (List Int)} (h0 : ¬ (l.length : Int) = 0) (h1 : ¬ (l.length : Int) = 1) : treeRoot l = nodeHash (treeRoot ((l.drop 0).take ((splitAtT (l.length : Int)).toNat - 0))) (treeRoot ((l.drop (splitAtT (l.length : Int)).toNat).take (l.length - (splitAtT (l.length : Int)).toNat))) := by rw [treeRoot, dif_neg (by omega), dif_neg (by omega)]
theorem treeRoot_len (l : List (List Int)) : (treeRoot l).length ≤ 32 := by
  rw [treeRoot]
  split
  · exact sha_len _
  · split
    · exact leafHash_len _
    · exact nodeHash_len _ _
theorem treeRoot_u8 (l : List (List Int)) : U8s (treeRoot l) := by
  rw [treeRoot]
  split
  · exact sha_u8 _
  · split
    · exact leafHash_u8 _
    · exact nodeHash_u8 _ _
def pathOf (l : List (List Int)) (i : Int) : List (List Int) :=
  if h0 : 0 ≤ i ∧ i ≤ (l.length : Int) - 1 then if h1 : (l.length : Int) = 1 then [] else
  if i < splitAtT (l.length : Int) then pathOf ((l.drop 0).take ((splitAtT (l.length : Int)).toNat - 0)) i ++ [treeRoot ((l.drop (splitAtT (l.length : Int)).toNat).take (l.length - (splitAtT (l.length : Int)).toNat))]
  else pathOf ((l.drop (splitAtT (l.length : Int)).toNat).take (l.length - (splitAtT (l.length : Int)).toNat)) (i - splitAtT (l.length : Int)) ++ [treeRoot ((l.drop 0).take ((splitAtT (l.length : Int)).toNat - 0))] else []
termination_by l.length
decreasing_by
  · have h1 := part_len l; have h2 := splitAtT_bd (l.length : Int); omega
  · have h1 := part_len l; have h2 := splitAtT_bd (l.length : Int); omega
theorem pathOf_no {l : List (List Int)} {i : Int} (h : ¬ (0 ≤ i ∧ i ≤ (l.length : Int) - 1)) : pathOf l i = [] := by rw [pathOf, dif_neg h]
theorem pathOf_one {l : List (List Int)} {i : Int} (h : (l.length : Int) = 1) : pathOf l i = [] := by
  by_cases c : 0 ≤ i ∧ i ≤ (l.length : Int) - 1
  · rw [pathOf, dif_pos c, dif_pos h]
  · exact pathOf_no c
theorem pathOf_left {l : List (List Int)} {i : Int} (h : 0 ≤ i ∧ i ≤ (l.length : Int) - 1) (h1 : ¬ (l.length : Int) = 1) (h2 : i < splitAtT (l.length : Int)) : pathOf l i = pathOf ((l.drop 0).take ((splitAtT (l.length : Int)).toNat - 0)) i ++ [treeRoot ((l.drop (splitAtT (l.length : Int)).toNat).take (l.length - (splitAtT (l.length : Int)).toNat))] := by
  rw [pathOf, dif_pos h, dif_neg h1, if_pos h2]
theorem pathOf_right {l : List (List Int)} {i : Int} (h : 0 ≤ i ∧ i ≤ (l.length : Int) - 1) (h1 : ¬ (l.length : Int) = 1) (h2 : ¬ i < splitAtT (l.length : Int)) : pathOf l i = pathOf ((l.drop (splitAtT (l.length : Int)).toNat).take (l.length - (splitAtT (l.length : Int)).toNat)) (i - splitAtT (l.length : Int)) ++ [treeRoot ((l.drop 0).take ((splitAtT (l.length : Int)).toNat - 0))] := by
  rw [pathOf, dif_pos h, dif_neg h1, if_neg h2]
theorem pathOf_len : ∀ (d : Nat) (l : List (List Int)) (i : Int), l.length ≤ d → (pathOf l i).length ≤ l.length - 1
  | 0, l, i, h => by rw [pathOf_no (by omega)]; simp
  | d + 1, l, i, h => by
    by_cases c : 0 ≤ i ∧ i ≤ (l.length : Int) - 1
    · by_cases c1 : (l.length : Int) = 1
      · rw [pathOf_one c1]; simp
      · have hb := splitAtT_bd (l.length : Int)
        have hp := part_len l
        by_cases c2 : i < splitAtT (l.length : Int)
        · rw [pathOf_left c c1 c2, List.length_append]
          have := pathOf_len d ((l.drop 0).take ((splitAtT (l.length : Int)).toNat - 0)) i (by omega)
          simp only [List.length_cons, List.length_nil]
          omega
        · rw [pathOf_right c c1 c2, List.length_append]
          have := pathOf_len d ((l.drop (splitAtT (l.length : Int)).toNat).take (l.length - (splitAtT (l.length : Int)).toNat)) (i - splitAtT (l.length : Int)) (by omega)
          simp only [List.length_cons, List.length_nil]
          omega
    · rw [pathOf_no c]; simp
theorem pathOf_mem {p : List Int → Prop} (hp : ∀ l, p (treeRoot l)) : ∀ (d : Nat) (l : List (List Int)) (i : Int), l.length ≤ d → ∀ y ∈ pathOf l i, p y
  | 0, l, i, h, y, hy => by rw [pathOf_no (by omega)] at hy; cases hy
  | d + 1, l, i, h, y, hy => by
    by_cases c : 0 ≤ i ∧ i ≤ (l.length : Int) - 1
    · by_cases c1 : (l.length : Int) = 1
      · rw [pathOf_one c1] at hy; cases hy
      · have hb := splitAtT_bd (l.length : Int)
        have hq := part_len l
        by_cases c2 : i < splitAtT (l.length : Int)
        · rw [pathOf_left c c1 c2] at hy
          rcases List.mem_append.1 hy with hy | hy
          · exact pathOf_mem hp d _ i (by omega) y hy
          · rcases List.mem_singleton.1 hy with rfl; exact hp _
        · rw [pathOf_right c c1 c2] at hy
          rcases List.mem_append.1 hy with hy | hy
          · exact pathOf_mem hp d _ _ (by omega) y hy
          · rcases List.mem_singleton.1 hy with rfl; exact hp _
    · rw [pathOf_no c] at hy; cases hy
theorem pathOf_sm {l : List (List Int)} {i : Int} (h : l.length ≤ 1048576) : (pathOf l i).length ≤ 1048576 ∧ ∀ y ∈ pathOf l i, y.length ≤ 1048576 := by
  have := pathOf_len l.length l i (Nat.le_refl _)
  exact ⟨by omega, pathOf_mem (p := fun y => y.length ≤ 1048576) (fun l => Nat.le_trans (treeRoot_len l) (by decide)) l.length l i (Nat.le_refl _)⟩
def pRoot (h : List Int) (i n : Int) (path : List (List Int)) : List Int :=
  if hn : n < 2 then h else if i < splitAtT n then nodeHash (pRoot h i (splitAtT n) ((path.drop 0).take (((path.length : Int) - 1).toNat - 0))) (path.getD ((path.length : Int) - 1).toNat [])
  else nodeHash (path.getD ((path.length : Int) - 1).toNat []) (pRoot h (i - splitAtT n) (n - splitAtT n) ((path.drop 0).take (((path.length : Int) - 1).toNat - 0)))
termination_by n.toNat
decreasing_by
  · have h2 := splitAtT_bd n; omega
  · have h2 := splitAtT_bd n; omega
theorem pRoot_one {h : List Int} {i n : Int} {path : List (List Int)} (hn : n < 2) : pRoot h i n path = h := by rw [pRoot, dif_pos hn]
theorem pRoot_left {h : List Int} {i n : Int} {path : List (List Int)} (hn : ¬ n < 2) (hi : i < splitAtT n) : pRoot h i n path = nodeHash (pRoot h i (splitAtT n) ((path.drop 0).take (((path.length : Int) - 1).toNat - 0))) (path.getD ((path.length : Int) - 1).toNat []) := by rw [pRoot, dif_neg hn, if_pos hi]
theorem pRoot_right {h : List Int} {i n : Int} {path : List (List Int)} (hn : ¬ n < 2) (hi : ¬ i < splitAtT n) : pRoot h i n path = nodeHash (path.getD ((path.length : Int) - 1).toNat []) (pRoot h (i - splitAtT n) (n - splitAtT n) ((path.drop 0).take (((path.length : Int) - 1).toNat - 0))) := by rw [pRoot, dif_neg hn, if_neg hi]
theorem pRoot_u8 {h : List Int} (hu : U8s h) (i n : Int) (path : List (List Int)) : U8s (pRoot h i n path) := by
  rw [pRoot]
  split
  · exact hu
  · split
    · exact nodeHash_u8 _ _
    · exact nodeHash_u8 _ _
theorem pRoot_len {h : List Int} (hu : h.length ≤ 1048576) (i n : Int) (path : List (List Int)) : (pRoot h i n path).length ≤ 1048576 := by
  rw [pRoot]
  split
  · exact hu
  · split
    · exact Nat.le_trans (nodeHash_len _ _) (by decide)
    · exact Nat.le_trans (nodeHash_len _ _) (by decide)
def pathFits (h : List Int) (i n : Int) (path : List (List Int)) : Bool := decide ((h.length : Int) = 32) && decide (1 ≤ n ∧ n ≤ 1048576) && decide (0 ≤ i ∧ i ≤ n - 1) && decide ((path.length : Int) = pathLenT i n) && hashes path
theorem pathFits_all {h : List Int} {i n : Int} {path : List (List Int)} (k : pathFits h i n path = true) : (h.length : Int) = 32 ∧ (1 ≤ n ∧ n ≤ 1048576 ∧ 0 ≤ i ∧ i ≤ n - 1) ∧ (path.length : Int) = pathLenT i n ∧ hashes path = true := by
  simp only [pathFits, Bool.and_eq_true, decide_eq_true_eq] at k
  obtain ⟨⟨⟨⟨h1, h2⟩, h3⟩, h4⟩, h5⟩ := k
  exact ⟨h1, ⟨h2.1, h2.2, h3.1, h3.2⟩, h4, h5⟩
theorem pathFits_mk {h : List Int} {i n : Int} {path : List (List Int)} (h1 : (h.length : Int) = 32) (h2 : 1 ≤ n ∧ n ≤ 1048576 ∧ 0 ≤ i ∧ i ≤ n - 1) (h3 : (path.length : Int) = pathLenT i n) (h4 : hashes path = true) : pathFits h i n path = true := by
  simp only [pathFits, Bool.and_eq_true, decide_eq_true_eq]
  exact ⟨⟨⟨⟨h1, h2.1, h2.2.1⟩, h2.2.2.1, h2.2.2.2⟩, h3⟩, h4⟩
theorem hashes_one {h : List Int} : hashes [h] = decide ((h.length : Int) = 32) := by simp [hashes]
theorem bool_ne {b : Bool} (h : b = true) (h' : b = false) : False := by subst h; cases h'
def pathRoot (h : List Int) (i n : Int) (path : List (List Int)) : List Int := if pathFits h i n path = true then pRoot h i n path else []
theorem pathRoot_u8 {h : List Int} (hu : U8s h) (i n : Int) (path : List (List Int)) : U8s (pathRoot h i n path) := by
  unfold pathRoot
  split
  · exact pRoot_u8 hu _ _ _
  · exact fun x hx => by cases hx
theorem pathRoot_len {h : List Int} (hu : h.length ≤ 1048576) (i n : Int) (path : List (List Int)) : (pathRoot h i n path).length ≤ 1048576 := by
  unfold pathRoot
  split
  · exact pRoot_len hu _ _ _
  · simp
theorem pathRoot_yes {h : List Int} {i n : Int} {path : List (List Int)} (k : pathFits h i n path = true) : pathRoot h i n path = pRoot h i n path := if_pos k
theorem pathRoot_no {h : List Int} {i n : Int} {path : List (List Int)} (k : pathFits h i n path = false) : pathRoot h i n path = [] := by unfold pathRoot; rw [k]; rfl
def pathOk (x : List Int) (i n : Int) (path : List (List Int)) (root : List Int) : Bool := pathFits (leafHash x) i n path && decide (pathRoot (leafHash x) i n path = root)

theorem ok_laws_szByteS (a : List Int) (left : Int) (h0_ : 0 ≤ left) (h1_ : left ≤ 9223372036854775807) : RO Try.prog 58 [.one (.ints .u8 a), .one (.int .i64 left)] [(false, [.rd (.int .i64 (szB a left))])] := by
 refine RO.intro Try.func58 rfl 12 rfl (le_ok rfl) fun w Z => ?_
 refine T.bnd 0 0 rfl rfl fun hb_0_0 => ?_
 simp only [D.size, List.length_map] at hb_0_0
 refine T.seq ?_
 refine T.region ?_
 refine TL.cons rfl (Step.assign (p := (.one (.d (.int .i64 0)))) rfl rfl (lt_ok rfl) rfl) ?_
 refine TL.nil ?_
 refine T.seq ?_
 refine T.region ?_
 refine TL.cons rfl (Step.move (p := (.one (.d (.int .i64 left)))) rfl rfl (lt_ok rfl) rfl) ?_
 refine TL.cons rfl (Step.move (p := (.one (.d (.ints .u8 a)))) rfl rfl (lt_ok rfl) rfl) ?_
 refine TL.cons rfl (Step.len (e := 5) (z := 1) (d := (.ints .u8 a)) rfl rfl (lt_ok rfl) (by kernel_rfl) rfl rfl) ?_
 refine TL.cons rfl (Step.bin (r := .int .i64 (left - (a.length : Int))) rfl rfl (lt_ok rfl) rfl rfl (Bin.sub (a := left) (b := (a.length : Int)) (by first | exact wrap_ok (by first | omega | (simp; omega)) (by first | omega | (simp; omega)) | rfl))) ?_
 refine TL.cons rfl (Step.assign (p := (.one (.d (.int .i64 (left - (a.length : Int)))))) rfl rfl (lt_ok rfl) rfl) ?_
 refine TL.nil ?_
 refine T.seq ?_
 refine T.seq ?_
 refine T.region ?_
 refine TL.cons rfl (Step.move (p := (.one (.d (.int .i64 (left - (a.length : Int)))))) rfl rfl (lt_ok rfl) rfl) ?_
 refine TL.cons rfl (Step.bin rfl rfl (lt_ok rfl) rfl rfl (Bin.lss (k := .i64) (a := (left - (a.length : Int))) (b := 0))) ?_
 refine TL.nil ?_
 refine T.cond (b := decide ((left - (a.length : Int)) < 0)) rfl (fun h1 => ?_) (fun h1 => ?_)
 ·
  replace h1 := of_decide_eq_true h1
  refine T.seq ?_
  refine T.region ?_
  refine TL.cons rfl (Step.assign (p := (.one (.d (.int .i64 (-1))))) rfl rfl (lt_ok rfl) rfl) ?_
  refine TL.nil ?_
  refine T.ret ?_
  refine ⟨[(false, [.d (.int .i64 (-1))])], (.cons rfl .nil), rfl, [], (RetC.rd' ?_ .nil)⟩ <;> ((congr 1; unfold szB; split <;> omega))
 ·
  replace h1 := of_decide_eq_false h1
  refine T.skip ?_
  refine T.seq ?_
  refine T.region ?_
  refine TL.cons rfl (Step.move (p := (.one (.d (.int .i64 (left - (a.length : Int)))))) rfl rfl (lt_ok rfl) rfl) ?_
  refine TL.cons rfl (Step.assign (p := (.one (.d (.int .i64 (left - (a.length : Int)))))) rfl rfl (lt_ok rfl) rfl) ?_
  refine TL.nil ?_
  refine T.ret ?_
  refine ⟨[(false, [.d (.int .i64 (left - (a.length : Int)))])], (.cons rfl .nil), rfl, [], (RetC.rd' ?_ .nil)⟩ <;> ((congr 1; unfold szB; split <;> omega))
theorem ok_laws_szByteSS (a : List (List Int)) (left : Int) (h0_ : 0 ≤ left) (h1_ : left ≤ 9223372036854775807) : RO Try.prog 19 [.one (.bss a), .one (.int .i64 left)] [(false, [.rd (.int .i64 (szLs szB a left))])] := by
 refine RO.intro Try.func19 rfl 27 rfl (le_ok rfl) fun w Z => ?_
 refine T.bnd 0 0 rfl rfl fun hb_0_0 => ?_
 simp only [D.size, List.length_map] at hb_0_0
 refine T.seq ?_
 refine T.region ?_
 refine TL.cons rfl (Step.assign (p := (.one (.d (.int .i64 0)))) rfl rfl (lt_ok rfl) rfl) ?_
 refine TL.nil ?_
 refine T.seq ?_
 refine T.region ?_
 refine TL.cons rfl (Step.move (p := (.one (.d (.int .i64 left)))) rfl rfl (lt_ok rfl) rfl) ?_
 refine TL.cons rfl (Step.move (p := (.one (.d (.bss a)))) rfl rfl (lt_ok rfl) rfl) ?_
 refine TL.cons rfl (Step.len (e := 22) (z := 1) (d := (.bss a)) rfl rfl (lt_ok rfl) (by kernel_rfl) rfl rfl) ?_
 refine TL.cons rfl (Step.bin (r := .int .i64 (left - (a.length : Int))) rfl rfl (lt_ok rfl) rfl rfl (Bin.sub (a := left) (b := (a.length : Int)) (by first | exact wrap_ok (by first | omega | (simp; omega)) (by first | omega | (simp; omega)) | rfl))) ?_
 refine TL.cons rfl (Step.assign (p := (.one (.d (.int .i64 (left - (a.length : Int)))))) rfl rfl (lt_ok rfl) rfl) ?_
 refine TL.nil ?_
 refine T.seq ?_
 refine T.seq ?_
 refine T.region ?_
 refine TL.cons rfl (Step.move (p := (.one (.d (.int .i64 (left - (a.length : Int)))))) rfl rfl (lt_ok rfl) rfl) ?_
 refine TL.cons rfl (Step.bin rfl rfl (lt_ok rfl) rfl rfl (Bin.lss (k := .i64) (a := (left - (a.length : Int))) (b := 0))) ?_
 refine TL.nil ?_
 refine T.cond (b := decide ((left - (a.length : Int)) < 0)) rfl (fun h1 => ?_) (fun h1 => ?_)
 ·
  replace h1 := of_decide_eq_true h1
  refine T.seq ?_
  refine T.region ?_
  refine TL.cons rfl (Step.assign (p := (.one (.d (.int .i64 (-1))))) rfl rfl (lt_ok rfl) rfl) ?_
  refine TL.nil ?_
  refine T.ret ?_
  refine ⟨[(false, [.d (.int .i64 (-1))])], (.cons rfl .nil), rfl, [], (RetC.rd' ?_ .nil)⟩ <;> ((congr 1; first | (rw [← hx4, szL_drop (dflt := []) a i l (by omega), if_pos (by omega)]; done) | (rw [← hx4, List.drop_of_length_le (by omega)]; rfl) | (unfold szLs; rw [if_pos (by omega)]; done)))
 ·
  replace h1 := of_decide_eq_false h1
  refine T.skip ?_
  refine T.seq ?_
  refine T.seq ?_
  refine T.region ?_
  refine TL.cons rfl (Step.assign (p := (.one (.d (.int .i64 0)))) rfl rfl (lt_ok rfl) rfl) ?_
  refine TL.nil ?_
  refine T.block ?_
  refine T.loop (ι := Nat × Int) (fun xx_ => { tm := [(0, (.one (.d (.bss a)))), (5, (.one (.d (.int .i64 ((xx_.1) : Int))))), (1, (.one (.d (.int .i64 (xx_.2)))))], rows := [], boxes := [] }) (fun xx_ => (xx_.1) ≤ a.length ∧ 0 ≤ (xx_.2) ∧ (xx_.2) ≤ 9223372036854775807 ∧ szL szB (a.drop (xx_.1)) (xx_.2) = szLs szB a left) (fun xx_ => a.length - (xx_.1)) (0, left - (a.length : Int)) ?_ ?_ ?_
  · refine Env.le_mk ⟨rfl, ?_, ?_, trivial⟩ trivial trivial <;> (first | rfl | (simp; done) | (congr 3; omega))
  · (refine ⟨Nat.zero_le _, by omega, by omega, ?_⟩; unfold szLs; rw [if_neg (by omega), List.drop_zero])
  ·
   intro xx_ hx
   obtain ⟨i, l⟩ := xx_
   try dsimp only at hx ⊢
   obtain ⟨hx1, hx2, hx3, hx4⟩ := hx
   refine T.seq ?_
   refine T.seq ?_
   refine T.region ?_
   refine TL.cons rfl (Step.move (p := (.one (.d (.int .i64 (i : Int))))) rfl rfl (lt_ok rfl) rfl) ?_
   refine TL.cons rfl (Step.move (p := (.one (.d (.bss a)))) rfl rfl (lt_ok rfl) rfl) ?_
   refine TL.cons rfl (Step.len (e := 22) (z := 1) (d := (.bss a)) rfl rfl (lt_ok rfl) (by kernel_rfl) rfl rfl) ?_
   refine TL.cons rfl (Step.bin rfl rfl (lt_ok rfl) rfl rfl (Bin.lss (k := .i64) (a := (i : Int)) (b := (a.length : Int)))) ?_
   refine TL.nil ?_
   refine T.cond (b := decide ((i : Int) < (a.length : Int))) rfl (fun h2 => ?_) (fun h2 => ?_)
   ·
    replace h2 := of_decide_eq_true h2
    refine T.skip ?_
    refine T.seq ?_
    refine T.block ?_
    refine T.seq ?_
    refine T.region ?_
    refine TL.cons rfl (Step.move (p := (.one (.d (.bss a)))) rfl rfl (lt_ok rfl) rfl) ?_
    refine TL.cons rfl (Step.move (p := (.one (.d (.int .i64 (i : Int))))) rfl rfl (lt_ok rfl) rfl) ?_
    refine TL.cons rfl (Step.index (e := 22) (z := 1) (i := (i : Int)) rfl rfl (lt_ok rfl) (by kernel_rfl) rfl rfl rfl (lt_ok rfl) rfl (by first | omega | (simp; omega)) (by simp only [D.size]; first | omega | (simp; omega))) ?_
    refine TL.cons rfl (Step.load (e := (.ints .u8 (a.getD i []))) rfl rfl (lt_ok rfl) (by kernel_rfl) rfl rfl) ?_
    refine TL.cons rfl (Step.move (p := (.one (.d (.int .i64 l)))) rfl rfl (lt_ok rfl) rfl) ?_
    refine TL.cons rfl (Step.call (f := 58) (xs := [.tmp 21, .tmp 22]) (ps := [(.one (.d (.ints .u8 (a.getD i [])))), (.one (.d (.int .i64 l)))]) false (g := .func 58) rfl rfl (lt_ok rfl) rfl (by kernel_rfl) rfl (.cons (.one (.d _)) (.cons (.one (.d _)) .nil)) (ok_laws_szByteS (a.getD i []) l (by omega) (by omega)) (.inr rfl) rfl (by simp) rfl) ?_
    refine TL.cons rfl (Step.assign (p := (.one (.d (.int .i64 (szB (a.getD i []) l))))) rfl rfl (lt_ok rfl) rfl) ?_
    refine TL.nil ?_
    refine T.seq ?_
    refine T.region ?_
    refine TL.cons rfl (Step.move (p := (.one (.d (.int .i64 (szB (a.getD i []) l))))) rfl rfl (lt_ok rfl) rfl) ?_
    refine TL.cons rfl (Step.bin rfl rfl (lt_ok rfl) rfl rfl (Bin.lss (k := .i64) (a := (szB (a.getD i []) l)) (b := 0))) ?_
    refine TL.nil ?_
    refine T.cond (b := decide ((szB (a.getD i []) l) < 0)) rfl (fun h4 => ?_) (fun h4 => ?_)
    ·
     replace h4 := of_decide_eq_true h4
     refine T.seq ?_
     refine T.region ?_
     refine TL.cons rfl (Step.assign (p := (.one (.d (.int .i64 (-1))))) rfl rfl (lt_ok rfl) rfl) ?_
     refine TL.nil ?_
     refine T.ret ?_
     refine ⟨[(false, [.d (.int .i64 (-1))])], (.cons rfl .nil), rfl, [], (RetC.rd' ?_ .nil)⟩ <;> ((congr 1; first | (rw [← hx4, szL_drop (dflt := []) a i l (by omega), if_pos (by omega)]; done) | (rw [← hx4, List.drop_of_length_le (by omega)]; rfl) | (unfold szLs; rw [if_pos (by omega)]; done)))
    ·
     replace h4 := of_decide_eq_false h4
     have z3_le : szB (a.getD i []) l ≤ l := szB_le _ (by omega)
     refine T.skip ?_
     refine T.region ?_
     refine TL.cons rfl (Step.move (p := (.one (.d (.int .i64 (i : Int))))) rfl rfl (lt_ok rfl) rfl) ?_
     refine TL.cons rfl (Step.bin (r := .int .i64 ((i : Int) + 1)) rfl rfl (lt_ok rfl) rfl rfl (Bin.add (a := (i : Int)) (b := 1) (by first | exact wrap_ok (by first | omega | (simp; omega)) (by first | omega | (simp; omega)) | rfl))) ?_
     refine TL.cons rfl (Step.assign (p := (.one (.d (.int .i64 ((i : Int) + 1))))) rfl rfl (lt_ok rfl) rfl) ?_
     refine TL.nil ?_
     refine ⟨(i + 1, (szB (a.getD i []) l)), by (refine ⟨by omega, by omega, by omega, ?_⟩; rw [← hx4, szL_drop (dflt := []) a i l (by omega), if_neg (by omega)]), by (dsimp only; omega), Env.le_mk ⟨rfl, ?_, ?_, trivial⟩ trivial trivial⟩ <;> (first | rfl | (simp; done) | (congr 3; omega))
   ·
    replace h2 := of_decide_eq_false h2
    refine T.exit ?_
    refine T.seq ?_
    refine T.region ?_
    refine TL.cons rfl (Step.move (p := (.one (.d (.int .i64 l)))) rfl rfl (lt_ok rfl) rfl) ?_
    refine TL.cons rfl (Step.assign (p := (.one (.d (.int .i64 l)))) rfl rfl (lt_ok rfl) rfl) ?_
    refine TL.nil ?_
    refine T.ret ?_
    refine ⟨[(false, [.d (.int .i64 l)])], (.cons rfl .nil), rfl, [], (RetC.rd' ?_ .nil)⟩ <;> ((congr 1; first | (rw [← hx4, szL_drop (dflt := []) a i l (by omega), if_pos (by omega)]; done) | (rw [← hx4, List.drop_of_length_le (by omega)]; rfl) | (unfold szLs; rw [if_pos (by omega)]; done)))
theorem ok_laws_toByteS (a : List Int) (h0_ : a.length ≤ 1048576) : RO Try.prog 27 [.one (.ints .u8 a)] [(false, [.own 5 (.ints .u8 a)])] := by
 refine RO.intro Try.func27 rfl 22 rfl (le_ok rfl) fun w Z => ?_
 refine T.bnd 0 0 rfl rfl fun hb_0_0 => ?_
 simp only [D.size, List.length_map] at hb_0_0
 have h0b := h0_
 refine T.seq ?_
 refine T.region ?_
 refine TL.cons rfl (Step.assign (p := (.one (.nil))) rfl rfl (lt_ok rfl) rfl) ?_
 refine TL.nil ?_
 refine T.seq ?_
 refine T.region ?_
 refine TL.cons rfl (Step.move (p := (.one (.d (.ints .u8 a)))) rfl rfl (lt_ok rfl) rfl) ?_
 refine TL.cons rfl (Step.len (e := 5) (z := 1) (d := (.ints .u8 a)) rfl rfl (lt_ok rfl) (by kernel_rfl) rfl rfl) ?_
 refine TL.cons rfl (Step.make (e := 5) (z := 1) (by_ := 1) (n := (a.length : Int)) (zs := [.int .u8 0]) (zd := [.int .u8 0]) (d := (.ints .u8 (List.replicate a.length 0))) rfl rfl (lt_ok rfl) (by kernel_rfl) (lt_ok rfl) rfl (by first | omega | (simp; omega)) (by first | omega | (simp; omega)) (by first | omega | (simp; omega)) (by kernel_rfl) (.val rfl .nil) rfl (by simp) (by simp [D.flat, List.flatten_replicate_singleton]) (by simp [D.size]) rfl trivial) ?_
 refine TL.cons rfl (Step.assign (p := (.one (.row 7 []))) rfl rfl (lt_ok rfl) rfl) ?_
 refine TL.nil ?_
 refine T.seq ?_
 refine T.seq ?_
 refine T.region ?_
 refine TL.cons rfl (Step.assign (p := (.one (.d (.int .i64 0)))) rfl rfl (lt_ok rfl) rfl) ?_
 refine TL.nil ?_
 refine T.block ?_
 refine T.loop (ι := Nat) (fun xx_ => { tm := [(0, (.one (.d (.ints .u8 a)))), (2, (.one (.nil))), (3, (.one (.row 7 []))), (4, (.one (.d (.int .i64 (xx_ : Int)))))], rows := [(7, (5, (.ints .u8 (a.take xx_ ++ List.replicate (a.length - xx_) 0 : List Int))))], boxes := [] }) (fun xx_ => xx_ ≤ a.length) (fun xx_ => a.length - xx_) 0 ?_ ?_ ?_
 · refine Env.le_mk ⟨rfl, rfl, rfl, ?_, trivial⟩ ⟨?_, trivial⟩ trivial <;> (first | rfl | exact congrArg (fun x => some (5, ((.ints .u8 x) : D))) (fill_set a 0 0 i (by omega)))
 · exact Nat.zero_le _
 ·
  intro i hx
  try dsimp only at hx ⊢
  refine T.seq ?_
  refine T.seq ?_
  refine T.region ?_
  refine TL.cons rfl (Step.move (p := (.one (.d (.int .i64 (i : Int))))) rfl rfl (lt_ok rfl) rfl) ?_
  refine TL.cons rfl (Step.move (p := (.one (.d (.ints .u8 a)))) rfl rfl (lt_ok rfl) rfl) ?_
  refine TL.cons rfl (Step.len (e := 5) (z := 1) (d := (.ints .u8 a)) rfl rfl (lt_ok rfl) (by kernel_rfl) rfl rfl) ?_
  refine TL.cons rfl (Step.bin rfl rfl (lt_ok rfl) rfl rfl (Bin.lss (k := .i64) (a := (i : Int)) (b := (a.length : Int)))) ?_
  refine TL.nil ?_
  refine T.cond (b := decide ((i : Int) < (a.length : Int))) rfl (fun h1 => ?_) (fun h1 => ?_)
  ·
   replace h1 := of_decide_eq_true h1
   refine T.skip ?_
   refine T.seq ?_
   refine T.block ?_
   refine T.region ?_
   refine TL.cons rfl (Step.move (p := (.one (.row 7 []))) rfl rfl (lt_ok rfl) rfl) ?_
   refine TL.cons rfl (Step.move (p := (.one (.d (.int .i64 (i : Int))))) rfl rfl (lt_ok rfl) rfl) ?_
   refine TL.cons rfl (Step.move (p := (.one (.d (.ints .u8 a)))) rfl rfl (lt_ok rfl) rfl) ?_
   refine TL.cons rfl (Step.move (p := (.one (.d (.int .i64 (i : Int))))) rfl rfl (lt_ok rfl) rfl) ?_
   refine TL.cons rfl (Step.index (e := 5) (z := 1) (i := (i : Int)) rfl rfl (lt_ok rfl) (by kernel_rfl) rfl rfl rfl (lt_ok rfl) rfl (by first | omega | (simp; omega)) (by simp only [D.size]; first | omega | (simp; omega))) ?_
   refine TL.cons rfl (Step.load (e := (.int .u8 (a.getD i 0))) rfl rfl (lt_ok rfl) (by kernel_rfl) rfl rfl) ?_
   refine TL.cons rfl (Step.index_row (e := 5) (z := 1) (i := (i : Int)) rfl rfl (lt_ok rfl) (by kernel_rfl) rfl rfl rfl rfl (lt_ok rfl) rfl (by first | omega | (simp; omega)) (by simp only [D.at_, D.cell, D.size]; first | omega | (simp; omega))) ?_
   refine TL.cons rfl (Step.store_row (n := 1) (p := (.one (.d (.int .u8 (a.getD i 0))))) (ps := [.d (.int .u8 (a.getD i 0))]) (es := [(.int .u8 (a.getD i 0))]) (ss := []) (d1 := (.ints .u8 ((a.take i ++ List.replicate (a.length - i) 0 : List Int).set i (a.getD i 0)))) (d' := (.ints .u8 ((a.take i ++ List.replicate (a.length - i) 0 : List Int).set i (a.getD i 0)))) rfl rfl (by kernel_rfl) rfl rfl rfl rfl rfl rfl (.val rfl .nil) (by simp) (Putd.one rfl trivial rfl (by simp only [D.at_, D.size, List.length_set, upTo_length]; first | omega | (simp; omega)) (lt_ok rfl)) rfl) ?_
   refine TL.nil ?_
   refine T.region ?_
   refine TL.cons rfl (Step.move (p := (.one (.d (.int .i64 (i : Int))))) rfl rfl (lt_ok rfl) rfl) ?_
   refine TL.cons rfl (Step.bin (r := .int .i64 ((i : Int) + 1)) rfl rfl (lt_ok rfl) rfl rfl (Bin.add (a := (i : Int)) (b := 1) (by first | exact wrap_ok (by first | omega | (simp; omega)) (by first | omega | (simp; omega)) | rfl))) ?_
   refine TL.cons rfl (Step.assign (p := (.one (.d (.int .i64 ((i : Int) + 1))))) rfl rfl (lt_ok rfl) rfl) ?_
   refine TL.nil ?_
   refine ⟨i + 1, by omega, by omega, Env.le_mk ⟨rfl, rfl, rfl, ?_, trivial⟩ ⟨?_, trivial⟩ trivial⟩ <;> (first | rfl | exact congrArg (fun x => some (5, ((.ints .u8 x) : D))) (fill_set a 0 0 i (by omega)))
  ·
   replace h1 := of_decide_eq_false h1
   refine T.exit ?_
   refine T.seq ?_
   refine T.region ?_
   refine TL.cons rfl (Step.move (p := (.one (.row 7 []))) rfl rfl (lt_ok rfl) rfl) ?_
   refine TL.cons rfl (Step.assign (p := (.one (.row 7 []))) rfl rfl (lt_ok rfl) rfl) ?_
   refine TL.nil ?_
   refine T.ret ?_
   refine ⟨[(false, [.row 7 []])], (.cons rfl .nil), rfl, [7], (RetC.own' rfl ?_ rfl .nil)⟩ <;> (first | rfl | (congr 1; rw [fill_all' _ _ _ (by omega)]) | (rw [fill_all' _ _ _ (by omega)]))
theorem ok_laws_toByteSS (a : List (List Int)) (h0_ : a.length ≤ 1048576 ∧ ∀ y ∈ a, y.length ≤ 1048576) : RO Try.prog 21 [.one (.bss a)] [(false, [.own 22 (.bss a)])] := by
 refine RO.intro Try.func21 rfl 23 rfl (le_ok rfl) fun w Z => ?_
 refine T.bnd 0 0 rfl rfl fun hb_0_0 => ?_
 simp only [D.size, List.length_map] at hb_0_0
 have h0b := h0_.1
 refine T.seq ?_
 refine T.region ?_
 refine TL.cons rfl (Step.assign (p := (.one (.nil))) rfl rfl (lt_ok rfl) rfl) ?_
 refine TL.nil ?_
 refine T.seq ?_
 refine T.region ?_
 refine TL.cons rfl (Step.move (p := (.one (.d (.bss a)))) rfl rfl (lt_ok rfl) rfl) ?_
 refine TL.cons rfl (Step.len (e := 22) (z := 1) (d := (.bss a)) rfl rfl (lt_ok rfl) (by kernel_rfl) rfl rfl) ?_
 refine TL.cons rfl (Step.make (e := 22) (z := 1) (by_ := 24) (n := (a.length : Int)) (zs := [.slice none 0 0]) (zd := [.ints .u8 []]) (d := (.bss (List.replicate a.length []))) rfl rfl (lt_ok rfl) (by kernel_rfl) (lt_ok rfl) rfl (by first | omega | (simp; omega)) (by first | omega | (simp; omega)) (by first | omega | (simp; omega)) (by kernel_rfl) (.empty rfl rfl trivial .nil) rfl (by simp) (by simp [D.flat, List.flatten_replicate_singleton]) (by simp [D.size]) rfl trivial) ?_
 refine TL.cons rfl (Step.assign (p := (.one (.row 7 []))) rfl rfl (lt_ok rfl) rfl) ?_
 refine TL.nil ?_
 refine T.seq ?_
 refine T.seq ?_
 refine T.region ?_
 refine TL.cons rfl (Step.assign (p := (.one (.d (.int .i64 0)))) rfl rfl (lt_ok rfl) rfl) ?_
 refine TL.nil ?_
 refine T.block ?_
 refine T.loop (ι := Nat) (fun xx_ => { tm := [(0, (.one (.d (.bss a)))), (2, (.one (.nil))), (3, (.one (.row 7 []))), (4, (.one (.d (.int .i64 (xx_ : Int)))))], rows := [(7, (22, (.bss (a.take xx_ ++ List.replicate (a.length - xx_) [] : List (List Int)))))], boxes := [] }) (fun xx_ => xx_ ≤ a.length) (fun xx_ => a.length - xx_) 0 ?_ ?_ ?_
 · refine Env.le_mk ⟨rfl, rfl, rfl, ?_, trivial⟩ ⟨?_, trivial⟩ trivial <;> (first | rfl | exact congrArg (fun x => some (22, ((.bss x) : D))) (fill_set a [] [] i (by omega)))
 · exact Nat.zero_le _
 ·
  intro i hx
  try dsimp only at hx ⊢
  refine T.seq ?_
  refine T.seq ?_
  refine T.region ?_
  refine TL.cons rfl (Step.move (p := (.one (.d (.int .i64 (i : Int))))) rfl rfl (lt_ok rfl) rfl) ?_
  refine TL.cons rfl (Step.move (p := (.one (.d (.bss a)))) rfl rfl (lt_ok rfl) rfl) ?_
  refine TL.cons rfl (Step.len (e := 22) (z := 1) (d := (.bss a)) rfl rfl (lt_ok rfl) (by kernel_rfl) rfl rfl) ?_
  refine TL.cons rfl (Step.bin rfl rfl (lt_ok rfl) rfl rfl (Bin.lss (k := .i64) (a := (i : Int)) (b := (a.length : Int)))) ?_
  refine TL.nil ?_
  refine T.cond (b := decide ((i : Int) < (a.length : Int))) rfl (fun h1 => ?_) (fun h1 => ?_)
  ·
   replace h1 := of_decide_eq_true h1
   refine T.skip ?_
   refine T.seq ?_
   refine T.block ?_
   refine T.region ?_
   refine TL.cons rfl (Step.move (p := (.one (.row 7 []))) rfl rfl (lt_ok rfl) rfl) ?_
   refine TL.cons rfl (Step.move (p := (.one (.d (.int .i64 (i : Int))))) rfl rfl (lt_ok rfl) rfl) ?_
   refine TL.cons rfl (Step.move (p := (.one (.d (.bss a)))) rfl rfl (lt_ok rfl) rfl) ?_
   refine TL.cons rfl (Step.move (p := (.one (.d (.int .i64 (i : Int))))) rfl rfl (lt_ok rfl) rfl) ?_
   refine TL.cons rfl (Step.index (e := 22) (z := 1) (i := (i : Int)) rfl rfl (lt_ok rfl) (by kernel_rfl) rfl rfl rfl (lt_ok rfl) rfl (by first | omega | (simp; omega)) (by simp only [D.size]; first | omega | (simp; omega))) ?_
   refine TL.cons rfl (Step.load (e := (.ints .u8 (a.getD i []))) rfl rfl (lt_ok rfl) (by kernel_rfl) rfl rfl) ?_
   refine TL.cons rfl (Step.call (f := 27) (xs := [.tmp 19]) (ps := [(.one (.d (.ints .u8 (a.getD i []))))]) false (g := .func 27) rfl rfl (lt_ok rfl) rfl (by kernel_rfl) rfl (.cons (.one (.d _)) .nil) (ok_laws_toByteS (a.getD i []) (by first | omega | assumption | exact mem_getD h0_.2 (by omega))) (.inr rfl) rfl (by simp) rfl) ?_
   refine TL.cons rfl (Step.index_row (e := 22) (z := 1) (i := (i : Int)) rfl rfl (lt_ok rfl) (by kernel_rfl) rfl rfl rfl rfl (lt_ok rfl) rfl (by first | omega | (simp; omega)) (by simp only [D.at_, D.cell, D.size]; first | omega | (simp; omega))) ?_
   refine TL.cons rfl (Step.store_row (n := 1) (p := (.one (.row 1020 []))) (ps := [.row 1020 []]) (es := [(.ints .u8 (a.getD i []))]) (ss := [1020]) (d1 := (.bss ((a.take i ++ List.replicate (a.length - i) [] : List (List Int)).set i (a.getD i [])))) (d' := (.bss ((a.take i ++ List.replicate (a.length - i) [] : List (List Int)).set i (a.getD i [])))) rfl rfl (by kernel_rfl) rfl rfl rfl rfl rfl rfl (.row rfl (by simp) .nil) (by simp) (Putd.one rfl trivial rfl (by simp only [D.at_, D.size, List.length_set, upTo_length]; first | omega | (simp; omega)) (lt_ok rfl)) rfl) ?_
   refine TL.nil ?_
   refine T.region ?_
   refine TL.cons rfl (Step.move (p := (.one (.d (.int .i64 (i : Int))))) rfl rfl (lt_ok rfl) rfl) ?_
   refine TL.cons rfl (Step.bin (r := .int .i64 ((i : Int) + 1)) rfl rfl (lt_ok rfl) rfl rfl (Bin.add (a := (i : Int)) (b := 1) (by first | exact wrap_ok (by first | omega | (simp; omega)) (by first | omega | (simp; omega)) | rfl))) ?_
   refine TL.cons rfl (Step.assign (p := (.one (.d (.int .i64 ((i : Int) + 1))))) rfl rfl (lt_ok rfl) rfl) ?_
   refine TL.nil ?_
   refine ⟨i + 1, by omega, by omega, Env.le_mk ⟨rfl, rfl, rfl, ?_, trivial⟩ ⟨?_, trivial⟩ trivial⟩ <;> (first | rfl | exact congrArg (fun x => some (22, ((.bss x) : D))) (fill_set a [] [] i (by omega)))
  ·
   replace h1 := of_decide_eq_false h1
   refine T.exit ?_
   refine T.seq ?_
   refine T.region ?_
   refine TL.cons rfl (Step.move (p := (.one (.row 7 []))) rfl rfl (lt_ok rfl) rfl) ?_
   refine TL.cons rfl (Step.assign (p := (.one (.row 7 []))) rfl rfl (lt_ok rfl) rfl) ?_
   refine TL.nil ?_
   refine T.ret ?_
   refine ⟨[(false, [.row 7 []])], (.cons rfl .nil), rfl, [7], (RetC.own' rfl ?_ rfl .nil)⟩ <;> (first | rfl | (congr 1; rw [fill_all' _ _ _ (by omega)]) | (rw [fill_all' _ _ _ (by omega)]))
theorem ok_laws_eqByteS (a : List Int) (b : List Int) : RO Try.prog 29 [.one (.ints .u8 a), .one (.ints .u8 b)] [(false, [.rd (.bool (decide (a = b)))])] := by
 refine RO.intro Try.func29 rfl 26 rfl (le_ok rfl) fun w Z => ?_
 refine T.bnd 0 0 rfl rfl fun hb_0_0 => ?_
 simp only [D.size, List.length_map] at hb_0_0
 refine T.bnd 1 0 rfl rfl fun hb_1_0 => ?_
 simp only [D.size, List.length_map] at hb_1_0
 refine T.seq ?_
 refine T.region ?_
 refine TL.cons rfl (Step.assign (p := (.one (.d (.bool false)))) rfl rfl (lt_ok rfl) rfl) ?_
 refine TL.nil ?_
 refine T.seq ?_
 refine T.seq ?_
 refine T.region ?_
 refine TL.cons rfl (Step.move (p := (.one (.d (.ints .u8 a)))) rfl rfl (lt_ok rfl) rfl) ?_
 refine TL.cons rfl (Step.len (e := 5) (z := 1) (d := (.ints .u8 a)) rfl rfl (lt_ok rfl) (by kernel_rfl) rfl rfl) ?_
 refine TL.cons rfl (Step.move (p := (.one (.d (.ints .u8 b)))) rfl rfl (lt_ok rfl) rfl) ?_
 refine TL.cons rfl (Step.len (e := 5) (z := 1) (d := (.ints .u8 b)) rfl rfl (lt_ok rfl) (by kernel_rfl) rfl rfl) ?_
 refine TL.cons rfl (Step.bin rfl rfl (lt_ok rfl) rfl rfl (Bin.neq (k := .i64) (a := (a.length : Int)) (b := (b.length : Int)))) ?_
 refine TL.nil ?_
 refine T.cond (b := decide ((a.length : Int) ≠ (b.length : Int))) rfl (fun h1 => ?_) (fun h1 => ?_)
 ·
  replace h1 := of_decide_eq_true h1
  refine T.seq ?_
  refine T.region ?_
  refine TL.cons rfl (Step.assign (p := (.one (.d (.bool false)))) rfl rfl (lt_ok rfl) rfl) ?_
  refine TL.nil ?_
  refine T.ret ?_
  refine ⟨[(false, [.d (.bool false)])], (.cons rfl .nil), rfl, [], (RetC.rd' ?_ .nil)⟩ <;> ((congr 1; symm; first | (apply decide_eq_false; rintro rfl; first | exact absurd rfl ‹¬ _ = _› | exact absurd rfl (of_decide_eq_false (by assumption)) | contradiction | simp_all) | (apply decide_eq_true; exact take_all hx2 (by omega) hx3)))
 ·
  replace h1 := of_decide_eq_false h1
  refine T.skip ?_
  refine T.seq ?_
  refine T.seq ?_
  refine T.region ?_
  refine TL.cons rfl (Step.assign (p := (.one (.d (.int .i64 0)))) rfl rfl (lt_ok rfl) rfl) ?_
  refine TL.nil ?_
  refine T.block ?_
  refine T.loop (ι := Nat) (fun xx_ => { tm := [(0, (.one (.d (.ints .u8 a)))), (1, (.one (.d (.ints .u8 b)))), (5, (.one (.d (.int .i64 (xx_ : Int)))))], rows := [], boxes := [] }) (fun xx_ => xx_ ≤ a.length ∧ a.length = b.length ∧ a.take xx_ = b.take xx_) (fun xx_ => a.length - xx_) 0 ?_ ?_ ?_
  · refine Env.le_mk ⟨rfl, rfl, ?_, trivial⟩ trivial trivial <;> (first | rfl | (simp; done) | (congr 3; omega))
  · (refine ⟨Nat.zero_le _, by omega, by simp⟩)
  ·
   intro i hx
   try dsimp only at hx ⊢
   obtain ⟨hx1, hx2, hx3⟩ := hx
   refine T.seq ?_
   refine T.seq ?_
   refine T.region ?_
   refine TL.cons rfl (Step.move (p := (.one (.d (.int .i64 (i : Int))))) rfl rfl (lt_ok rfl) rfl) ?_
   refine TL.cons rfl (Step.move (p := (.one (.d (.ints .u8 a)))) rfl rfl (lt_ok rfl) rfl) ?_
   refine TL.cons rfl (Step.len (e := 5) (z := 1) (d := (.ints .u8 a)) rfl rfl (lt_ok rfl) (by kernel_rfl) rfl rfl) ?_
   refine TL.cons rfl (Step.bin rfl rfl (lt_ok rfl) rfl rfl (Bin.lss (k := .i64) (a := (i : Int)) (b := (a.length : Int)))) ?_
   refine TL.nil ?_
   refine T.cond (b := decide ((i : Int) < (a.length : Int))) rfl (fun h2 => ?_) (fun h2 => ?_)
   ·
    replace h2 := of_decide_eq_true h2
    refine T.skip ?_
    refine T.seq ?_
    refine T.block ?_
    refine T.seq ?_
    refine T.draw [⟨17, (.one (.d (.ints .u8 a))), []⟩, ⟨18, (.one (.d (.int .i64 (i : Int)))), []⟩, ⟨19, (.one (.eptr (.ints .u8 a) i 0)), []⟩, ⟨20, (.one (.d (.int .u8 (a.getD i 0)))), []⟩, ⟨21, (.one (.d (.ints .u8 b))), []⟩, ⟨22, (.one (.d (.int .i64 (i : Int)))), []⟩, ⟨23, (.one (.eptr (.ints .u8 b) i 0)), []⟩, ⟨24, (.one (.d (.int .u8 (b.getD i 0)))), []⟩, ⟨25, (.one (.d (.bool (decide ((a.getD i 0) ≠ (b.getD i 0)))))), []⟩] (by kernel_rfl) (by kernel_rfl) ?_ ?_
    ·
     refine .cons (fun E hA_ => by have g0 := hA_.get 0 (by decide); exact OpStep.plain rfl (Step.move (p := (.one (.d (.ints .u8 a)))) (t := 17) rfl rfl (by exact lt_ok rfl) (show Env.ev E (.tmp 0) = _ from g0.trans rfl))) ?_
     refine .cons (fun E hA_ => by have g5 := hA_.get 5 (by decide); exact OpStep.plain rfl (Step.move (p := (.one (.d (.int .i64 (i : Int))))) (t := 18) rfl rfl (by exact lt_ok rfl) (show Env.ev E (.tmp 5) = _ from g5.trans rfl))) ?_
     refine .cons (fun E hA_ => by have g17 := hA_.get 17 (by decide); have g18 := hA_.get 18 (by decide); exact OpStep.plain rfl (Step.index (e := 5) (z := 1) (i := (i : Int)) (t := 19) rfl rfl (by exact lt_ok rfl) (by kernel_rfl) (show Env.ev E (.tmp 17) = _ from g17.trans rfl) rfl rfl (lt_ok rfl) (show Env.ev E (.tmp 18) = _ from g18.trans rfl) (by first | omega | (simp; omega)) (by simp only [D.size]; first | omega | (simp; omega)))) ?_
     refine .cons (fun E hA_ => by have g19 := hA_.get 19 (by decide); exact OpStep.plain rfl (Step.load (e := (.int .u8 (a.getD i 0))) (t := 20) rfl rfl (by exact lt_ok rfl) (by kernel_rfl) (show Env.ev E (.tmp 19) = _ from g19.trans rfl) rfl)) ?_
     refine .cons (fun E hA_ => by have g1 := hA_.get 1 (by decide); exact OpStep.plain rfl (Step.move (p := (.one (.d (.ints .u8 b)))) (t := 21) rfl rfl (by exact lt_ok rfl) (show Env.ev E (.tmp 1) = _ from g1.trans rfl))) ?_
     refine .cons (fun E hA_ => by have g5 := hA_.get 5 (by decide); exact OpStep.plain rfl (Step.move (p := (.one (.d (.int .i64 (i : Int))))) (t := 22) rfl rfl (by exact lt_ok rfl) (show Env.ev E (.tmp 5) = _ from g5.trans rfl))) ?_
     refine .cons (fun E hA_ => by have g21 := hA_.get 21 (by decide); have g22 := hA_.get 22 (by decide); exact OpStep.plain rfl (Step.index (e := 5) (z := 1) (i := (i : Int)) (t := 23) rfl rfl (by exact lt_ok rfl) (by kernel_rfl) (show Env.ev E (.tmp 21) = _ from g21.trans rfl) rfl rfl (lt_ok rfl) (show Env.ev E (.tmp 22) = _ from g22.trans rfl) (by first | omega | (simp; omega)) (by simp only [D.size]; first | omega | (simp; omega)))) ?_
     refine .cons (fun E hA_ => by have g23 := hA_.get 23 (by decide); exact OpStep.plain rfl (Step.load (e := (.int .u8 (b.getD i 0))) (t := 24) rfl rfl (by exact lt_ok rfl) (by kernel_rfl) (show Env.ev E (.tmp 23) = _ from g23.trans rfl) rfl)) ?_
     refine .cons (fun E hA_ => by have g20 := hA_.get 20 (by decide); have g24 := hA_.get 24 (by decide); exact OpStep.plain rfl (Step.bin (t := 25) rfl rfl (by exact lt_ok rfl) (show Env.ev E (.tmp 20) = _ from g20.trans rfl) (show Env.ev E (.tmp 24) = _ from g24.trans rfl) (Bin.neq (k := .u8) (a := (a.getD i 0)) (b := (b.getD i 0))))) ?_
     exact .nil _ _
    refine TL.nil ?_
    refine T.cond (b := decide ((a.getD i 0) ≠ (b.getD i 0))) rfl (fun h3 => ?_) (fun h3 => ?_)
    ·
     replace h3 := of_decide_eq_true h3
     refine T.seq ?_
     refine T.region ?_
     refine TL.cons rfl (Step.assign (p := (.one (.d (.bool false)))) rfl rfl (lt_ok rfl) rfl) ?_
     refine TL.nil ?_
     refine T.ret ?_
     refine ⟨[(false, [.d (.bool false)])], (.cons rfl .nil), rfl, [], (RetC.rd' ?_ .nil)⟩ <;> ((congr 1; symm; first | (apply decide_eq_false; rintro rfl; first | exact absurd rfl ‹¬ _ = _› | exact absurd rfl (of_decide_eq_false (by assumption)) | contradiction | simp_all) | (apply decide_eq_true; exact take_all hx2 (by omega) hx3)))
    ·
     replace h3 := of_decide_eq_false h3
     refine T.skip ?_
     refine T.region ?_
     refine TL.cons rfl (Step.move (p := (.one (.d (.int .i64 (i : Int))))) rfl rfl (lt_ok rfl) rfl) ?_
     refine TL.cons rfl (Step.bin (r := .int .i64 ((i : Int) + 1)) rfl rfl (lt_ok rfl) rfl rfl (Bin.add (a := (i : Int)) (b := 1) (by first | exact wrap_ok (by first | omega | (simp; omega)) (by first | omega | (simp; omega)) | rfl))) ?_
     refine TL.cons rfl (Step.assign (p := (.one (.d (.int .i64 ((i : Int) + 1))))) rfl rfl (lt_ok rfl) rfl) ?_
     refine TL.nil ?_
     refine ⟨i + 1, by (refine ⟨by omega, hx2, take_step (d := 0) hx2 (by omega) hx3 (by first | assumption | exact Decidable.not_not.1 (by assumption) | omega)⟩), by omega, Env.le_mk ⟨rfl, rfl, ?_, trivial⟩ trivial trivial⟩ <;> (first | rfl | (simp; done) | (congr 3; omega))
   ·
    replace h2 := of_decide_eq_false h2
    refine T.exit ?_
    refine T.seq ?_
    refine T.region ?_
    refine TL.cons rfl (Step.assign (p := (.one (.d (.bool true)))) rfl rfl (lt_ok rfl) rfl) ?_
    refine TL.nil ?_
    refine T.ret ?_
    refine ⟨[(false, [.d (.bool true)])], (.cons rfl .nil), rfl, [], (RetC.rd' ?_ .nil)⟩ <;> ((congr 1; symm; first | (apply decide_eq_false; rintro rfl; first | exact absurd rfl ‹¬ _ = _› | exact absurd rfl (of_decide_eq_false (by assumption)) | contradiction | simp_all) | (apply decide_eq_true; exact take_all hx2 (by omega) hx3)))
theorem ok_laws_eqByteSS (a : List (List Int)) (b : List (List Int)) : RO Try.prog 23 [.one (.bss a), .one (.bss b)] [(false, [.rd (.bool (decide (a = b)))])] := by
 refine RO.intro Try.func23 rfl 27 rfl (le_ok rfl) fun w Z => ?_
 refine T.bnd 0 0 rfl rfl fun hb_0_0 => ?_
 simp only [D.size, List.length_map] at hb_0_0
 refine T.bnd 1 0 rfl rfl fun hb_1_0 => ?_
 simp only [D.size, List.length_map] at hb_1_0
 refine T.seq ?_
 refine T.region ?_
 refine TL.cons rfl (Step.assign (p := (.one (.d (.bool false)))) rfl rfl (lt_ok rfl) rfl) ?_
 refine TL.nil ?_
 refine T.seq ?_
 refine T.seq ?_
 refine T.region ?_
 refine TL.cons rfl (Step.move (p := (.one (.d (.bss a)))) rfl rfl (lt_ok rfl) rfl) ?_
 refine TL.cons rfl (Step.len (e := 22) (z := 1) (d := (.bss a)) rfl rfl (lt_ok rfl) (by kernel_rfl) rfl rfl) ?_
 refine TL.cons rfl (Step.move (p := (.one (.d (.bss b)))) rfl rfl (lt_ok rfl) rfl) ?_
 refine TL.cons rfl (Step.len (e := 22) (z := 1) (d := (.bss b)) rfl rfl (lt_ok rfl) (by kernel_rfl) rfl rfl) ?_
 refine TL.cons rfl (Step.bin rfl rfl (lt_ok rfl) rfl rfl (Bin.neq (k := .i64) (a := (a.length : Int)) (b := (b.length : Int)))) ?_
 refine TL.nil ?_
 refine T.cond (b := decide ((a.length : Int) ≠ (b.length : Int))) rfl (fun h1 => ?_) (fun h1 => ?_)
 ·
  replace h1 := of_decide_eq_true h1
  refine T.seq ?_
  refine T.region ?_
  refine TL.cons rfl (Step.assign (p := (.one (.d (.bool false)))) rfl rfl (lt_ok rfl) rfl) ?_
  refine TL.nil ?_
  refine T.ret ?_
  refine ⟨[(false, [.d (.bool false)])], (.cons rfl .nil), rfl, [], (RetC.rd' ?_ .nil)⟩ <;> ((congr 1; symm; first | (apply decide_eq_false; rintro rfl; first | exact absurd rfl ‹¬ _ = _› | exact absurd rfl (of_decide_eq_false (by assumption)) | contradiction | simp_all) | (apply decide_eq_true; exact take_all hx2 (by omega) hx3)))
 ·
  replace h1 := of_decide_eq_false h1
  refine T.skip ?_
  refine T.seq ?_
  refine T.seq ?_
  refine T.region ?_
  refine TL.cons rfl (Step.assign (p := (.one (.d (.int .i64 0)))) rfl rfl (lt_ok rfl) rfl) ?_
  refine TL.nil ?_
  refine T.block ?_
  refine T.loop (ι := Nat) (fun xx_ => { tm := [(0, (.one (.d (.bss a)))), (1, (.one (.d (.bss b)))), (5, (.one (.d (.int .i64 (xx_ : Int)))))], rows := [], boxes := [] }) (fun xx_ => xx_ ≤ a.length ∧ a.length = b.length ∧ a.take xx_ = b.take xx_) (fun xx_ => a.length - xx_) 0 ?_ ?_ ?_
  · refine Env.le_mk ⟨rfl, rfl, ?_, trivial⟩ trivial trivial <;> (first | rfl | (simp; done) | (congr 3; omega))
  · (refine ⟨Nat.zero_le _, by omega, by simp⟩)
  ·
   intro i hx
   try dsimp only at hx ⊢
   obtain ⟨hx1, hx2, hx3⟩ := hx
   refine T.seq ?_
   refine T.seq ?_
   refine T.region ?_
   refine TL.cons rfl (Step.move (p := (.one (.d (.int .i64 (i : Int))))) rfl rfl (lt_ok rfl) rfl) ?_
   refine TL.cons rfl (Step.move (p := (.one (.d (.bss a)))) rfl rfl (lt_ok rfl) rfl) ?_
   refine TL.cons rfl (Step.len (e := 22) (z := 1) (d := (.bss a)) rfl rfl (lt_ok rfl) (by kernel_rfl) rfl rfl) ?_
   refine TL.cons rfl (Step.bin rfl rfl (lt_ok rfl) rfl rfl (Bin.lss (k := .i64) (a := (i : Int)) (b := (a.length : Int)))) ?_
   refine TL.nil ?_
   refine T.cond (b := decide ((i : Int) < (a.length : Int))) rfl (fun h2 => ?_) (fun h2 => ?_)
   ·
    replace h2 := of_decide_eq_true h2
    refine T.skip ?_
    refine T.seq ?_
    refine T.block ?_
    refine T.seq ?_
    refine T.draw [⟨17, (.one (.d (.bss a))), []⟩, ⟨18, (.one (.d (.int .i64 (i : Int)))), []⟩, ⟨19, (.one (.eptr (.bss a) i 0)), []⟩, ⟨20, (.one (.d (.ints .u8 (a.getD i [])))), []⟩, ⟨21, (.one (.d (.bss b))), []⟩, ⟨22, (.one (.d (.int .i64 (i : Int)))), []⟩, ⟨23, (.one (.eptr (.bss b) i 0)), []⟩, ⟨24, (.one (.d (.ints .u8 (b.getD i [])))), []⟩, ⟨25, (.one (.d (.bool (decide ((a.getD i []) = (b.getD i [])))))), []⟩, ⟨26, (.one (.d (.bool (!(decide ((a.getD i []) = (b.getD i []))))))), []⟩] (by kernel_rfl) (by kernel_rfl) ?_ ?_
    ·
     refine .cons (fun E hA_ => by have g0 := hA_.get 0 (by decide); exact OpStep.plain rfl (Step.move (p := (.one (.d (.bss a)))) (t := 17) rfl rfl (by exact lt_ok rfl) (show Env.ev E (.tmp 0) = _ from g0.trans rfl))) ?_
     refine .cons (fun E hA_ => by have g5 := hA_.get 5 (by decide); exact OpStep.plain rfl (Step.move (p := (.one (.d (.int .i64 (i : Int))))) (t := 18) rfl rfl (by exact lt_ok rfl) (show Env.ev E (.tmp 5) = _ from g5.trans rfl))) ?_
     refine .cons (fun E hA_ => by have g17 := hA_.get 17 (by decide); have g18 := hA_.get 18 (by decide); exact OpStep.plain rfl (Step.index (e := 22) (z := 1) (i := (i : Int)) (t := 19) rfl rfl (by exact lt_ok rfl) (by kernel_rfl) (show Env.ev E (.tmp 17) = _ from g17.trans rfl) rfl rfl (lt_ok rfl) (show Env.ev E (.tmp 18) = _ from g18.trans rfl) (by first | omega | (simp; omega)) (by simp only [D.size]; first | omega | (simp; omega)))) ?_
     refine .cons (fun E hA_ => by have g19 := hA_.get 19 (by decide); exact OpStep.plain rfl (Step.load (e := (.ints .u8 (a.getD i []))) (t := 20) rfl rfl (by exact lt_ok rfl) (by kernel_rfl) (show Env.ev E (.tmp 19) = _ from g19.trans rfl) rfl)) ?_
     refine .cons (fun E hA_ => by have g1 := hA_.get 1 (by decide); exact OpStep.plain rfl (Step.move (p := (.one (.d (.bss b)))) (t := 21) rfl rfl (by exact lt_ok rfl) (show Env.ev E (.tmp 1) = _ from g1.trans rfl))) ?_
     refine .cons (fun E hA_ => by have g5 := hA_.get 5 (by decide); exact OpStep.plain rfl (Step.move (p := (.one (.d (.int .i64 (i : Int))))) (t := 22) rfl rfl (by exact lt_ok rfl) (show Env.ev E (.tmp 5) = _ from g5.trans rfl))) ?_
     refine .cons (fun E hA_ => by have g21 := hA_.get 21 (by decide); have g22 := hA_.get 22 (by decide); exact OpStep.plain rfl (Step.index (e := 22) (z := 1) (i := (i : Int)) (t := 23) rfl rfl (by exact lt_ok rfl) (by kernel_rfl) (show Env.ev E (.tmp 21) = _ from g21.trans rfl) rfl rfl (lt_ok rfl) (show Env.ev E (.tmp 22) = _ from g22.trans rfl) (by first | omega | (simp; omega)) (by simp only [D.size]; first | omega | (simp; omega)))) ?_
     refine .cons (fun E hA_ => by have g23 := hA_.get 23 (by decide); exact OpStep.plain rfl (Step.load (e := (.ints .u8 (b.getD i []))) (t := 24) rfl rfl (by exact lt_ok rfl) (by kernel_rfl) (show Env.ev E (.tmp 23) = _ from g23.trans rfl) rfl)) ?_
     refine .cons (fun E hA_ => by have g20 := hA_.get 20 (by decide); have g24 := hA_.get 24 (by decide); exact OpStep.plain rfl (Step.call (f := 29) (xs := [.tmp 20, .tmp 24]) (ps := [(.one (.d (.ints .u8 (a.getD i [])))), (.one (.d (.ints .u8 (b.getD i []))))]) false (g := .func 29) (t := 25) rfl rfl (by exact lt_ok rfl) rfl (by kernel_rfl) (evs_cons (show Env.ev E (.tmp 20) = _ from g20.trans rfl) (evs_cons (show Env.ev E (.tmp 24) = _ from g24.trans rfl) (rfl))) (.cons (.one (.d _)) (.cons (.one (.d _)) .nil)) (ok_laws_eqByteS (a.getD i []) (b.getD i [])) (.inr rfl) (At.freshRows hA_ rfl) (by simp) rfl)) ?_
     refine .cons (fun E hA_ => by have g25 := hA_.get 25 (by decide); exact OpStep.plain rfl (Step.not (b := (decide ((a.getD i []) = (b.getD i [])))) (t := 26) rfl rfl (by exact lt_ok rfl) (show Env.ev E (.tmp 25) = _ from g25.trans rfl))) ?_
     exact .nil _ _
    refine TL.nil ?_
    refine T.cond (b := !(decide ((a.getD i []) = (b.getD i [])))) rfl (fun h3 => ?_) (fun h3 => ?_)
    ·
     replace h3 : (decide ((a.getD i []) = (b.getD i []))) = false := by simpa only [Bool.not_eq_true', Bool.not_eq_false'] using h3
     replace h3 := of_decide_eq_false h3
     refine T.seq ?_
     refine T.region ?_
     refine TL.cons rfl (Step.assign (p := (.one (.d (.bool false)))) rfl rfl (lt_ok rfl) rfl) ?_
     refine TL.nil ?_
     refine T.ret ?_
     refine ⟨[(false, [.d (.bool false)])], (.cons rfl .nil), rfl, [], (RetC.rd' ?_ .nil)⟩ <;> ((congr 1; symm; first | (apply decide_eq_false; rintro rfl; first | exact absurd rfl ‹¬ _ = _› | exact absurd rfl (of_decide_eq_false (by assumption)) | contradiction | simp_all) | (apply decide_eq_true; exact take_all hx2 (by omega) hx3)))
    ·
     replace h3 : (decide ((a.getD i []) = (b.getD i []))) = true := by simpa only [Bool.not_eq_true', Bool.not_eq_false'] using h3
     replace h3 := of_decide_eq_true h3
     refine T.skip ?_
     refine T.region ?_
     refine TL.cons rfl (Step.move (p := (.one (.d (.int .i64 (i : Int))))) rfl rfl (lt_ok rfl) rfl) ?_
     refine TL.cons rfl (Step.bin (r := .int .i64 ((i : Int) + 1)) rfl rfl (lt_ok rfl) rfl rfl (Bin.add (a := (i : Int)) (b := 1) (by first | exact wrap_ok (by first | omega | (simp; omega)) (by first | omega | (simp; omega)) | rfl))) ?_
     refine TL.cons rfl (Step.assign (p := (.one (.d (.int .i64 ((i : Int) + 1))))) rfl rfl (lt_ok rfl) rfl) ?_
     refine TL.nil ?_
     refine ⟨i + 1, by (refine ⟨by omega, hx2, take_step (d := []) hx2 (by omega) hx3 (by first | assumption | exact Decidable.not_not.1 (by assumption) | omega)⟩), by omega, Env.le_mk ⟨rfl, rfl, ?_, trivial⟩ trivial trivial⟩ <;> (first | rfl | (simp; done) | (congr 3; omega))
   ·
    replace h2 := of_decide_eq_false h2
    refine T.exit ?_
    refine T.seq ?_
    refine T.region ?_
    refine TL.cons rfl (Step.assign (p := (.one (.d (.bool true)))) rfl rfl (lt_ok rfl) rfl) ?_
    refine TL.nil ?_
    refine T.ret ?_
    refine ⟨[(false, [.d (.bool true)])], (.cons rfl .nil), rfl, [], (RetC.rd' ?_ .nil)⟩ <;> ((congr 1; symm; first | (apply decide_eq_false; rintro rfl; first | exact absurd rfl ‹¬ _ = _› | exact absurd rfl (of_decide_eq_false (by assumption)) | contradiction | simp_all) | (apply decide_eq_true; exact take_all hx2 (by omega) hx3)))
theorem ok_laws_markByteS (a : List Int) (k : Int) (h0_ : 0 ≤ k) (h1_ : k + (a.length : Int) ≤ 4611686018427387904) : MK Try.prog 33 [.one (.mk (.ints .u8 a) (.ints .u8 (mkB a k))), .one (.rd (.int .i64 k))] [(false, [.rd (.int .i64 (k + (a.length : Int)))])] := by
 refine MK.intro Try.func33 rfl 20 rfl (le_ok rfl) (le_ok rfl) rfl fun w Z IX pin Ts hp => ?_
 refine T.bndRow 900 rfl fun hb_900 => ?_
 simp only [D.size, List.length_map] at hb_900
 refine T.seq ?_
 refine T.region ?_
 refine TL.cons rfl (Step.assign (p := (.one (.d (.int .i64 0)))) rfl rfl (lt_ok rfl) rfl) ?_
 refine TL.nil ?_
 refine T.seq ?_
 refine T.seq ?_
 refine T.region ?_
 refine TL.cons rfl (Step.assign (p := (.one (.d (.int .i64 0)))) rfl rfl (lt_ok rfl) rfl) ?_
 refine TL.nil ?_
 refine T.block ?_
 refine T.loop (ι := Nat) (fun xx_ => { tm := [(0, (.one (.row 900 []))), (4, (.one (.d (.int .i64 0)))), (5, (.one (.d (.int .i64 (xx_ : Int))))), (1, (.one (.d (.int .i64 (k + (xx_ : Int))))))], rows := [(900, ((Ts 0), (.ints .u8 (upTo (fun _ => 1) (fun _ k => k % 256) a k xx_))))], boxes := [] }) (fun xx_ => xx_ ≤ a.length) (fun xx_ => a.length - xx_) 0 ?_ ?_ ?_
 · refine Env.le_mk ⟨rfl, rfl, ?_, ?_, trivial⟩ ⟨?_, trivial⟩ trivial <;> (first | exact congrArg (fun x => some (Ts 0, D.ints .u8 x)) (upTo_set (df := 0) (by omega) (by simp only [cntL_one_take a i (by omega)])) | exact congrArg (fun x => some (Ts 0, D.ints .u8 x)) (upTo_zero _ _).symm | rfl | (refine congrArg (fun n => PV.one (.d (.int .i64 n))) ?_; first | omega | (simp; done) | (simp [cntL]; done)))
 · exact Nat.zero_le _
 ·
  intro i hx
  try dsimp only at hx ⊢
  refine T.seq ?_
  refine T.seq ?_
  refine T.region ?_
  refine TL.cons rfl (Step.move (p := (.one (.d (.int .i64 (i : Int))))) rfl rfl (lt_ok rfl) rfl) ?_
  refine TL.cons rfl (Step.move (p := (.one (.row 900 []))) rfl rfl (lt_ok rfl) rfl) ?_
  refine TL.cons rfl (Step.len' (e := 5) (z := 1) (d := (.ints .u8 (upTo (fun _ => 1) (fun _ k => k % 256) a k i))) (n := a.length) rfl rfl (lt_ok rfl) (by kernel_rfl) rfl rfl (by simp [D.size, upTo_length])) ?_
  refine TL.cons rfl (Step.bin rfl rfl (lt_ok rfl) rfl rfl (Bin.lss (k := .i64) (a := (i : Int)) (b := (a.length : Int)))) ?_
  refine TL.nil ?_
  refine T.cond (b := decide ((i : Int) < (a.length : Int))) rfl (fun h1 => ?_) (fun h1 => ?_)
  ·
   replace h1 := of_decide_eq_true h1
   refine T.skip ?_
   refine T.seq ?_
   refine T.block ?_
   refine T.seq ?_
   refine T.region ?_
   refine TL.cons rfl (Step.move (p := (.one (.row 900 []))) rfl rfl (lt_ok rfl) rfl) ?_
   refine TL.cons rfl (Step.move (p := (.one (.d (.int .i64 (i : Int))))) rfl rfl (lt_ok rfl) rfl) ?_
   refine TL.cons rfl (Step.move (p := (.one (.d (.int .i64 (k + (i : Int)))))) rfl rfl (lt_ok rfl) rfl) ?_
   refine TL.cons rfl (Step.conv (c := ((k + (i : Int)) % 256)) rfl rfl (lt_ok rfl) (by kernel_rfl) (by kernel_rfl) rfl (wrap_byte _)) ?_
   refine TL.cons rfl (Step.index_row (d := (.ints .u8 (upTo (fun _ => 1) (fun _ k => k % 256) a k i))) (e := 5) (z := 1) (i := (i : Int)) rfl rfl (lt_ok rfl) (by kernel_rfl) rfl rfl rfl rfl (lt_ok rfl) rfl (by first | omega | (simp; omega)) (by simp only [D.at_, D.cell, D.size, List.length_set, List.length_map, upTo_length]; first | omega | (simp; omega))) ?_
   refine TL.cons rfl (Step.store_row (n := 1) (p := (.one (.d (.int .u8 ((k + (i : Int)) % 256))))) (ps := [.d (.int .u8 ((k + (i : Int)) % 256))]) (es := [(.int .u8 ((k + (i : Int)) % 256))]) (ss := []) (d1 := (.ints .u8 ((upTo (fun _ => 1) (fun _ k => k % 256) a k i).set i ((k + (i : Int)) % 256)))) (d' := (.ints .u8 ((upTo (fun _ => 1) (fun _ k => k % 256) a k i).set i ((k + (i : Int)) % 256)))) rfl rfl (by kernel_rfl) rfl rfl rfl rfl rfl rfl (.val rfl .nil) (by simp) (Putd.one rfl trivial rfl (by simp only [D.at_, D.size, List.length_set, upTo_length]; first | omega | (simp; omega)) (lt_ok rfl)) rfl) ?_
   refine TL.nil ?_
   refine T.region ?_
   refine TL.cons rfl (Step.move (p := (.one (.d (.int .i64 (k + (i : Int)))))) rfl rfl (lt_ok rfl) rfl) ?_
   refine TL.cons rfl (Step.bin (r := .int .i64 ((k + (i : Int)) + 1)) rfl rfl (lt_ok rfl) rfl rfl (Bin.add (a := (k + (i : Int))) (b := 1) (by first | exact wrap_ok (by first | omega | (simp; omega)) (by first | omega | (simp; omega)) | rfl))) ?_
   refine TL.cons rfl (Step.assign (p := (.one (.d (.int .i64 ((k + (i : Int)) + 1))))) rfl rfl (lt_ok rfl) rfl) ?_
   refine TL.nil ?_
   refine T.region ?_
   refine TL.cons rfl (Step.move (p := (.one (.d (.int .i64 (i : Int))))) rfl rfl (lt_ok rfl) rfl) ?_
   refine TL.cons rfl (Step.bin (r := .int .i64 ((i : Int) + 1)) rfl rfl (lt_ok rfl) rfl rfl (Bin.add (a := (i : Int)) (b := 1) (by first | exact wrap_ok (by first | omega | (simp; omega)) (by first | omega | (simp; omega)) | rfl))) ?_
   refine TL.cons rfl (Step.assign (p := (.one (.d (.int .i64 ((i : Int) + 1))))) rfl rfl (lt_ok rfl) rfl) ?_
   refine TL.nil ?_
   refine ⟨i + 1, by omega, by first | omega | (dsimp only; omega), Env.le_mk ⟨rfl, rfl, ?_, ?_, trivial⟩ ⟨?_, trivial⟩ trivial⟩ <;> (first | exact congrArg (fun x => some (Ts 0, D.ints .u8 x)) (upTo_set (df := 0) (by omega) (by simp only [cntL_one_take a i (by omega)])) | exact congrArg (fun x => some (Ts 0, D.ints .u8 x)) (upTo_zero _ _).symm | rfl | (refine congrArg (fun n => PV.one (.d (.int .i64 n))) ?_; first | omega | (simp; done) | (simp [cntL]; done)))
  ·
   replace h1 := of_decide_eq_false h1
   refine T.exit ?_
   refine T.seq ?_
   refine T.region ?_
   refine TL.cons rfl (Step.move (p := (.one (.d (.int .i64 (k + (i : Int)))))) rfl rfl (lt_ok rfl) rfl) ?_
   refine TL.cons rfl (Step.assign (p := (.one (.d (.int .i64 (k + (i : Int)))))) rfl rfl (lt_ok rfl) rfl) ?_
   refine TL.nil ?_
   refine T.ret ?_
   refine ⟨⟨⟨[(false, [.d (.int .i64 (k + (i : Int)))])], (.cons rfl .nil), rfl, [], (RetC.rd' ?_ .nil)⟩, rfl⟩, (.mk' (by exact congrArg (fun x => some (Ts 0, D.ints .u8 x)) (upTo_all (by omega))) (.rd .nil'))⟩ <;> ((congr 1; omega))
theorem ok_laws_markByteSS (a : List (List Int)) (k : Int) (h0_ : 0 ≤ k) (h1_ : k + cntL (fun x : List Int => (x.length : Int)) a ≤ 4611686018427387904) : MK Try.prog 24 [.one (.mk (.bss a) (.bss (mkBs a k))), .one (.rd (.int .i64 k))] [(false, [.rd (.int .i64 (k + cntL (fun x : List Int => (x.length : Int)) a))])] := by
 refine MK.intro Try.func24 rfl 19 rfl (le_ok rfl) (le_ok rfl) rfl fun w Z IX pin Ts hp => ?_
 refine T.bndRow 900 rfl fun hb_900 => ?_
 simp only [D.size, List.length_map] at hb_900
 refine T.seq ?_
 refine T.region ?_
 refine TL.cons rfl (Step.assign (p := (.one (.d (.int .i64 0)))) rfl rfl (lt_ok rfl) rfl) ?_
 refine TL.nil ?_
 refine T.seq ?_
 refine T.seq ?_
 refine T.region ?_
 refine TL.cons rfl (Step.assign (p := (.one (.d (.int .i64 0)))) rfl rfl (lt_ok rfl) rfl) ?_
 refine TL.nil ?_
 refine T.block ?_
 refine T.loop (ι := Nat) (fun xx_ => { tm := [(0, (.one (.row 900 []))), (4, (.one (.d (.int .i64 0)))), (5, (.one (.d (.int .i64 (xx_ : Int))))), (1, (.one (.d (.int .i64 (k + cntL (fun x : List Int => (x.length : Int)) (a.take xx_))))))], rows := [(900, ((Ts 0), (.bss ((upTo (fun x : List Int => (x.length : Int)) mkB a k xx_).set xx_ (a.getD xx_ [])))))], boxes := [] }) (fun xx_ => xx_ ≤ a.length) (fun xx_ => a.length - xx_) 0 ?_ ?_ ?_
 · refine Env.le_mk ⟨rfl, rfl, ?_, ?_, trivial⟩ ⟨?_, trivial⟩ trivial <;> (first | exact congrArg (fun x => some (Ts 0, D.bss x)) (upTo_next (df := []) (by omega) rfl) | exact congrArg (fun x => some (Ts 0, D.bss x)) (upTo_first a k []) | rfl | (refine congrArg (fun n => PV.one (.d (.int .i64 n))) ?_; first | omega | (simp; done) | (simp [cntL]; done)))
 · exact Nat.zero_le _
 ·
  intro i hx
  try dsimp only at hx ⊢
  refine T.seq ?_
  refine T.seq ?_
  refine T.region ?_
  refine TL.cons rfl (Step.move (p := (.one (.d (.int .i64 (i : Int))))) rfl rfl (lt_ok rfl) rfl) ?_
  refine TL.cons rfl (Step.move (p := (.one (.row 900 []))) rfl rfl (lt_ok rfl) rfl) ?_
  refine TL.cons rfl (Step.len' (e := 22) (z := 1) (d := (.bss ((upTo (fun x : List Int => (x.length : Int)) mkB a k i).set i (a.getD i [])))) (n := a.length) rfl rfl (lt_ok rfl) (by kernel_rfl) rfl rfl (by simp [D.size, upTo_length])) ?_
  refine TL.cons rfl (Step.bin rfl rfl (lt_ok rfl) rfl rfl (Bin.lss (k := .i64) (a := (i : Int)) (b := (a.length : Int)))) ?_
  refine TL.nil ?_
  refine T.cond (b := decide ((i : Int) < (a.length : Int))) rfl (fun h1 => ?_) (fun h1 => ?_)
  ·
   replace h1 := of_decide_eq_true h1
   have hc1 := cntL_take_le (cnt := (fun x : List Int => (x.length : Int))) (fun x => by omega) a (i + 1)
   have hc2 := cntL_take_succ (cnt := (fun x : List Int => (x.length : Int))) (i := i) [] (show i < a.length by omega)
   have hc3 := cntL_nonneg (cnt := (fun x : List Int => (x.length : Int))) (fun x => by omega) (a.take i)
   try dsimp only at hc2
   refine T.skip ?_
   refine T.seq ?_
   refine T.block ?_
   refine T.region ?_
   refine TL.cons rfl (Step.move (p := (.one (.row 900 []))) rfl rfl (lt_ok rfl) rfl) ?_
   refine TL.cons rfl (Step.move (p := (.one (.d (.int .i64 (i : Int))))) rfl rfl (lt_ok rfl) rfl) ?_
   refine TL.cons rfl (Step.index_row (d := (.bss ((upTo (fun x : List Int => (x.length : Int)) mkB a k i).set i (a.getD i [])))) (e := 22) (z := 1) (i := (i : Int)) rfl rfl (lt_ok rfl) (by kernel_rfl) rfl rfl rfl rfl (lt_ok rfl) rfl (by first | omega | (simp; omega)) (by simp only [D.at_, D.cell, D.size, List.length_set, List.length_map, upTo_length]; first | omega | (simp; omega))) ?_
   refine TL.cons rfl (Step.load_row (d := (.bss ((upTo (fun x : List Int => (x.length : Int)) mkB a k i).set i (a.getD i [])))) (c := .row 900 [(i, 0)]) rfl rfl (lt_ok rfl) (by kernel_rfl) rfl rfl (ofRow_sl (cell_set_bss (by simp only [upTo_length]; first | omega | (simp; omega))) rfl)) ?_
   refine TL.cons rfl (Step.move (p := (.one (.d (.int .i64 (k + cntL (fun x : List Int => (x.length : Int)) (a.take i)))))) rfl rfl (lt_ok rfl) rfl) ?_
   refine TL.cons rfl (Step.callM2 (xs := [.tmp 15, .tmp 16]) (ps := [(.one (.row 900 [(i, 0)])), (.one (.d (.int .i64 (k + cntL (fun x : List Int => (x.length : Int)) (a.take i)))))]) (js := [(900, (.bss ((upTo (fun x : List Int => (x.length : Int)) mkB a k i).set i (mkB (a.getD i []) (k + cntL (fun x : List Int => (x.length : Int)) (a.take i))))))]) (g := .func 33) (ok_laws_markByteS (a.getD i []) (k + cntL (fun x : List Int => (x.length : Int)) (a.take i)) (by omega) (by first | omega | (have := (by assumption); omega))) rfl rfl (lt_ok rfl) rfl (by kernel_rfl) rfl rfl (.row (T := (Ts 0)) (d := (.bss ((upTo (fun x : List Int => (x.length : Int)) mkB a k i).set i (a.getD i [])))) (e' := (.ints .u8 (mkB (a.getD i []) (k + cntL (fun x : List Int => (x.length : Int)) (a.take i))))) (d' := (.bss ((upTo (fun x : List Int => (x.length : Int)) mkB a k i).set i (mkB (a.getD i []) (k + cntL (fun x : List Int => (x.length : Int)) (a.take i)))))) rfl (cell_set_bss (by simp only [upTo_length]; first | omega | (simp; omega))) rfl putAt_bss2 rfl (by simp [D.size]) rfl rfl (.d .nil)) rfl) ?_
   refine TL.cons rfl (Step.assign (p := (.one (.d (.int .i64 ((k + cntL (fun x : List Int => (x.length : Int)) (a.take i)) + ((a.getD i []).length : Int)))))) rfl rfl (lt_ok rfl) rfl) ?_
   refine TL.nil ?_
   refine T.region ?_
   refine TL.cons rfl (Step.move (p := (.one (.d (.int .i64 (i : Int))))) rfl rfl (lt_ok rfl) rfl) ?_
   refine TL.cons rfl (Step.bin (r := .int .i64 ((i : Int) + 1)) rfl rfl (lt_ok rfl) rfl rfl (Bin.add (a := (i : Int)) (b := 1) (by first | exact wrap_ok (by first | omega | (simp; omega)) (by first | omega | (simp; omega)) | rfl))) ?_
   refine TL.cons rfl (Step.assign (p := (.one (.d (.int .i64 ((i : Int) + 1))))) rfl rfl (lt_ok rfl) rfl) ?_
   refine TL.nil ?_
   refine ⟨i + 1, by omega, by first | omega | (dsimp only; omega), Env.le_mk ⟨rfl, rfl, ?_, ?_, trivial⟩ ⟨?_, trivial⟩ trivial⟩ <;> (first | exact congrArg (fun x => some (Ts 0, D.bss x)) (upTo_next (df := []) (by omega) rfl) | exact congrArg (fun x => some (Ts 0, D.bss x)) (upTo_first a k []) | rfl | (refine congrArg (fun n => PV.one (.d (.int .i64 n))) ?_; first | omega | (simp; done) | (simp [cntL]; done)))
  ·
   replace h1 := of_decide_eq_false h1
   refine T.exit ?_
   refine T.seq ?_
   refine T.region ?_
   refine TL.cons rfl (Step.move (p := (.one (.d (.int .i64 (k + cntL (fun x : List Int => (x.length : Int)) (a.take i)))))) rfl rfl (lt_ok rfl) rfl) ?_
   refine TL.cons rfl (Step.assign (p := (.one (.d (.int .i64 (k + cntL (fun x : List Int => (x.length : Int)) (a.take i)))))) rfl rfl (lt_ok rfl) rfl) ?_
   refine TL.nil ?_
   refine T.ret ?_
   refine ⟨⟨⟨[(false, [.d (.int .i64 (k + cntL (fun x : List Int => (x.length : Int)) (a.take i)))])], (.cons rfl .nil), rfl, [], (RetC.rd' ?_ .nil)⟩, rfl⟩, (.mk' (by exact congrArg (fun x => some (Ts 0, D.bss x)) (upTo_end (by omega))) (.rd .nil'))⟩ <;> ((congr 1; rw [cntL_all (by omega)]))
theorem ok_spec_l07Hash (h : List Int) : RO Try.prog 65 [.one (.ints .u8 h)] [(false, [.rd (.bool (decide ((h.length : Int) = 32)))])] := by
 refine RO.intro Try.func65 rfl 6 rfl (le_ok rfl) fun w Z => ?_
 refine T.bnd 0 0 rfl rfl fun hb_0_0 => ?_
 simp only [D.size, List.length_map] at hb_0_0
 refine T.seq ?_
 refine T.region ?_
 refine TL.cons rfl (Step.assign (p := (.one (.d (.bool false)))) rfl rfl (lt_ok rfl) rfl) ?_
 refine TL.nil ?_
 refine T.seq ?_
 refine T.region ?_
 refine TL.cons rfl (Step.move (p := (.one (.d (.ints .u8 h)))) rfl rfl (lt_ok rfl) rfl) ?_
 refine TL.cons rfl (Step.len (e := 5) (z := 1) (d := (.ints .u8 h)) rfl rfl (lt_ok rfl) (by kernel_rfl) rfl rfl) ?_
 refine TL.cons rfl (Step.bin rfl rfl (lt_ok rfl) rfl rfl (Bin.eql (k := .i64) (a := (h.length : Int)) (b := 32))) ?_
 refine TL.cons rfl (Step.assign (p := (.one (.d (.bool (decide ((h.length : Int) = 32)))))) rfl rfl (lt_ok rfl) rfl) ?_
 refine TL.nil ?_
 refine T.ret ?_
 exact ⟨[(false, [.d (.bool (decide ((h.length : Int) = 32)))])], (.cons rfl .nil), rfl, [], (RetC.rd' rfl .nil)⟩
theorem ok_spec_l01In (n : Int) (lo : Int) (hi : Int) : RO Try.prog 59 [.one (.int .i64 n), .one (.int .i64 lo), .one (.int .i64 hi)] [(false, [.rd (.bool (decide (lo ≤ n ∧ n ≤ hi)))])] := by
 refine RO.intro Try.func59 rfl 15 rfl (le_ok rfl) fun w Z => ?_
 refine T.seq ?_
 refine T.region ?_
 refine TL.cons rfl (Step.assign (p := (.one (.d (.bool false)))) rfl rfl (lt_ok rfl) rfl) ?_
 refine TL.nil ?_
 refine T.seq ?_
 refine T.region ?_
 refine TL.cons rfl (Step.move (p := (.one (.d (.int .i64 n)))) rfl rfl (lt_ok rfl) rfl) ?_
 refine TL.cons rfl (Step.move (p := (.one (.d (.int .i64 lo)))) rfl rfl (lt_ok rfl) rfl) ?_
 refine TL.cons rfl (Step.bin rfl rfl (lt_ok rfl) rfl rfl (Bin.geq (k := .i64) (a := n) (b := lo))) ?_
 refine TL.cons rfl (Step.move (p := (.one (.d (.bool (decide (lo ≤ n)))))) rfl rfl (lt_ok rfl) rfl) ?_
 rcases Bool.eq_false_or_eq_true (decide (lo ≤ n)) with hb1 | hb1
 ·
  refine TL.known 10 hb1 rfl ?_
  refine TL.gyes 10 rfl rfl (lt_ok rfl) rfl (Step.move (p := (.one (.d (.int .i64 n)))) rfl rfl (lt_ok rfl) rfl) ?_
  refine TL.gyes 10 rfl rfl (lt_ok rfl) rfl (Step.move (p := (.one (.d (.int .i64 hi)))) rfl rfl (lt_ok rfl) rfl) ?_
  refine TL.gyes 10 rfl rfl (lt_ok rfl) rfl (Step.bin rfl rfl (lt_ok rfl) rfl rfl (Bin.leq (k := .i64) (a := n) (b := hi))) ?_
  refine TL.cons rfl (Step.pick (b := true) (p := (.one (.d (.bool (decide (n ≤ hi)))))) rfl rfl (lt_ok rfl) rfl rfl) ?_
  refine TL.cons rfl (Step.assign (p := (.one (.d (.bool (decide (n ≤ hi)))))) rfl rfl (lt_ok rfl) rfl) ?_
  refine TL.nil ?_
  refine T.ret ?_
  refine ⟨[(false, [.d (.bool (decide (n ≤ hi)))])], (.cons rfl .nil), rfl, [], (RetC.rd' ?_ .nil)⟩ <;> (first | (congr 1; simp_all; done) | (congr 1; simp_all; omega))
 ·
  refine TL.known 10 hb1 rfl ?_
  refine TL.goff 10 rfl rfl (lt_ok rfl) rfl rfl rfl (lt_ok rfl) ?_
  refine TL.goff 10 rfl rfl (lt_ok rfl) rfl rfl rfl (lt_ok rfl) ?_
  refine TL.goff 10 rfl rfl (lt_ok rfl) rfl rfl rfl (lt_ok rfl) ?_
  refine TL.cons rfl (Step.pick (b := false) (p := (.one (.d (.bool false)))) rfl rfl (lt_ok rfl) rfl rfl) ?_
  refine TL.cons rfl (Step.assign (p := (.one (.d (.bool false)))) rfl rfl (lt_ok rfl) rfl) ?_
  refine TL.nil ?_
  refine T.ret ?_
  refine ⟨[(false, [.d (.bool false)])], (.cons rfl .nil), rfl, [], (RetC.rd' ?_ .nil)⟩ <;> (first | (congr 1; simp_all; done) | (congr 1; simp_all; omega))
theorem ok_spec_l08In (i : Int) (n : Int) : RO Try.prog 66 [.one (.int .i64 i), .one (.int .i64 n)] [(false, [.rd (.bool (decide (1 ≤ n ∧ n ≤ 1048576) && decide (0 ≤ i ∧ i ≤ n - 1)))])] := by
 refine RO.intro Try.func66 rfl 13 rfl (le_ok rfl) fun w Z => ?_
 refine T.seq ?_
 refine T.region ?_
 refine TL.cons rfl (Step.assign (p := (.one (.d (.bool false)))) rfl rfl (lt_ok rfl) rfl) ?_
 refine TL.nil ?_
 refine T.seq ?_
 refine T.region ?_
 refine TL.cons rfl (Step.move (p := (.one (.d (.int .i64 n)))) rfl rfl (lt_ok rfl) rfl) ?_
 refine TL.cons rfl (Step.call (f := 59) (xs := [.tmp 5, .const (.int .i64 1), .const (.int .i64 1048576)]) (ps := [(.one (.d (.int .i64 n))), (.one (.d (.int .i64 1))), (.one (.d (.int .i64 1048576)))]) false (g := .func 59) rfl rfl (lt_ok rfl) rfl (by kernel_rfl) rfl (.cons (.one (.d _)) (.cons (.one (.d _)) (.cons (.one (.d _)) .nil))) (ok_spec_l01In n 1 1048576) (.inr rfl) rfl (by simp) rfl) ?_
 refine TL.cons rfl (Step.move (p := (.one (.d (.bool (decide (1 ≤ n ∧ n ≤ 1048576)))))) rfl rfl (lt_ok rfl) rfl) ?_
 rcases Bool.eq_false_or_eq_true (decide (1 ≤ n ∧ n ≤ 1048576)) with hb1 | hb1
 ·
  refine TL.known 7 hb1 rfl ?_
  have hb1' := hb1
  replace hb1' := of_decide_eq_true hb1'
  refine TL.gyes 7 rfl rfl (lt_ok rfl) rfl (Step.move (p := (.one (.d (.int .i64 i)))) rfl rfl (lt_ok rfl) rfl) ?_
  refine TL.gyes 7 rfl rfl (lt_ok rfl) rfl (Step.move (p := (.one (.d (.int .i64 n)))) rfl rfl (lt_ok rfl) rfl) ?_
  refine TL.gyes 7 rfl rfl (lt_ok rfl) rfl (Step.bin (r := .int .i64 (n - 1)) rfl rfl (lt_ok rfl) rfl rfl (Bin.sub (a := n) (b := 1) (by first | exact wrap_ok (by first | omega | (simp; omega)) (by first | omega | (simp; omega)) | rfl))) ?_
  refine TL.gyes 7 rfl rfl (lt_ok rfl) rfl (Step.call (f := 59) (xs := [.tmp 8, .const (.int .i64 0), .tmp 10]) (ps := [(.one (.d (.int .i64 i))), (.one (.d (.int .i64 0))), (.one (.d (.int .i64 (n - 1))))]) false (g := .func 59) rfl rfl (lt_ok rfl) rfl (by kernel_rfl) rfl (.cons (.one (.d _)) (.cons (.one (.d _)) (.cons (.one (.d _)) .nil))) (ok_spec_l01In i 0 (n - 1)) (.inr rfl) rfl (by simp) rfl) ?_
  refine TL.cons rfl (Step.pick (b := true) (p := (.one (.d (.bool (decide (0 ≤ i ∧ i ≤ (n - 1))))))) rfl rfl (lt_ok rfl) rfl rfl) ?_
  refine TL.cons rfl (Step.assign (p := (.one (.d (.bool (decide (0 ≤ i ∧ i ≤ (n - 1))))))) rfl rfl (lt_ok rfl) rfl) ?_
  refine TL.nil ?_
  refine T.ret ?_
  refine ⟨[(false, [.d (.bool (decide (0 ≤ i ∧ i ≤ (n - 1))))])], (.cons rfl .nil), rfl, [], (RetC.rd' ?_ .nil)⟩ <;> (first | rfl | (congr 1; simp [*]; done) | (congr 1; simp_all; done))
 ·
  refine TL.known 7 hb1 rfl ?_
  have hb1' := hb1
  replace hb1' := of_decide_eq_false hb1'
  refine TL.goff 7 rfl rfl (lt_ok rfl) rfl rfl rfl (lt_ok rfl) ?_
  refine TL.goff 7 rfl rfl (lt_ok rfl) rfl rfl rfl (lt_ok rfl) ?_
  refine TL.goff 7 rfl rfl (lt_ok rfl) rfl rfl rfl (lt_ok rfl) ?_
  refine TL.goff 7 rfl rfl (lt_ok rfl) rfl rfl rfl (lt_ok rfl) ?_
  refine TL.cons rfl (Step.pick (b := false) (p := (.one (.d (.bool false)))) rfl rfl (lt_ok rfl) rfl rfl) ?_
  refine TL.cons rfl (Step.assign (p := (.one (.d (.bool false)))) rfl rfl (lt_ok rfl) rfl) ?_
  refine TL.nil ?_
  refine T.ret ?_
  refine ⟨[(false, [.d (.bool false)])], (.cons rfl .nil), rfl, [], (RetC.rd' ?_ .nil)⟩ <;> (first | rfl | (congr 1; simp [*]; done) | (congr 1; simp_all; done))
theorem ok_spec_SplitAt (n : Int) (h0_ : n ≤ 9223372036854775807) : RO Try.prog 60 [.one (.int .i64 n)] [(false, [.rd (.int .i64 (splitAtT n))])] := by
 refine RO.intro Try.func60 rfl 14 rfl (le_ok rfl) fun w Z => ?_
 refine T.seq ?_
 refine T.region ?_
 refine TL.cons rfl (Step.assign (p := (.one (.d (.int .i64 0)))) rfl rfl (lt_ok rfl) rfl) ?_
 refine TL.nil ?_
 refine T.seq ?_
 refine T.seq ?_
 refine T.region ?_
 refine TL.cons rfl (Step.move (p := (.one (.d (.int .i64 n)))) rfl rfl (lt_ok rfl) rfl) ?_
 refine TL.cons rfl (Step.bin rfl rfl (lt_ok rfl) rfl rfl (Bin.lss (k := .i64) (a := n) (b := 2))) ?_
 refine TL.nil ?_
 refine T.cond (b := decide (n < 2)) rfl (fun h1 => ?_) (fun h1 => ?_)
 ·
  replace h1 := of_decide_eq_true h1
  refine T.seq ?_
  refine T.region ?_
  refine TL.cons rfl (Step.assign (p := (.one (.d (.int .i64 0)))) rfl rfl (lt_ok rfl) rfl) ?_
  refine TL.nil ?_
  refine T.ret ?_
  refine ⟨[(false, [.d (.int .i64 0)])], (.cons rfl .nil), rfl, [], (RetC.rd' ?_ .nil)⟩ <;> ((congr 1; unfold splitAtT; first | (rw [if_pos (by omega)]; done) | (rw [if_neg (by omega)]; rw [if_neg (by omega)] at hx4; exact hx4) | (rw [if_neg (by omega)]; omega)))
 ·
  replace h1 := of_decide_eq_false h1
  refine T.skip ?_
  refine T.seq ?_
  refine T.region ?_
  refine TL.cons rfl (Step.assign (p := (.one (.d (.int .i64 1)))) rfl rfl (lt_ok rfl) rfl) ?_
  refine TL.nil ?_
  refine T.seq ?_
  refine T.block ?_
  refine T.loop (ι := Nat × Int) (fun xx_ => { tm := [(0, (.one (.d (.int .i64 n)))), (2, (.one (.d (.int .i64 0)))), (3, (.one (.d (.int .i64 (xx_.2)))))], rows := [], boxes := [] }) (fun xx_ => 1 ≤ (xx_.2) ∧ (xx_.2) < n ∧ n ≤ (xx_.2) + (xx_.1) ∧ splitGo (xx_.1) n (xx_.2) = splitAt n) (fun xx_ => (xx_.1)) (n.toNat, 1) ?_ ?_ ?_
  · refine Env.le_mk ⟨rfl, rfl, ?_, trivial⟩ trivial trivial <;> (first | rfl | (refine congrArg (fun n => PV.one (.d (.int .i64 n))) ?_; rfl))
  · (dsimp only; refine ⟨by omega, by omega, by omega, rfl⟩)
  ·
   intro xx_ hx
   obtain ⟨d, x⟩ := xx_
   try dsimp only at hx ⊢
   obtain ⟨hx1, hx2, hx3, hx4⟩ := hx
   obtain ⟨d', rfl⟩ : ∃ d', d = d' + 1 := ⟨d - 1, by omega⟩
   unfold splitGo at hx4
   refine T.seq ?_
   refine T.seq ?_
   refine T.region ?_
   refine TL.cons rfl (Step.move (p := (.one (.d (.int .i64 x)))) rfl rfl (lt_ok rfl) rfl) ?_
   refine TL.cons rfl (Step.move (p := (.one (.d (.int .i64 n)))) rfl rfl (lt_ok rfl) rfl) ?_
   refine TL.cons rfl (Step.move (p := (.one (.d (.int .i64 x)))) rfl rfl (lt_ok rfl) rfl) ?_
   refine TL.cons rfl (Step.bin (r := .int .i64 (n - x)) rfl rfl (lt_ok rfl) rfl rfl (Bin.sub (a := n) (b := x) (by first | exact wrap_ok (by first | omega | (simp; omega)) (by first | omega | (simp; omega)) | rfl))) ?_
   refine TL.cons rfl (Step.bin rfl rfl (lt_ok rfl) rfl rfl (Bin.lss (k := .i64) (a := x) (b := (n - x)))) ?_
   refine TL.nil ?_
   refine T.cond (b := decide (x < (n - x))) rfl (fun h2 => ?_) (fun h2 => ?_)
   ·
    replace h2 := of_decide_eq_true h2
    refine T.skip ?_
    refine T.block ?_
    refine T.region ?_
    refine TL.cons rfl (Step.move (p := (.one (.d (.int .i64 x)))) rfl rfl (lt_ok rfl) rfl) ?_
    refine TL.cons rfl (Step.bin (r := .int .i64 (2 * x)) rfl rfl (lt_ok rfl) rfl rfl (Bin.mul (a := 2) (b := x) (by first | exact wrap_ok (by first | omega | (simp; omega)) (by first | omega | (simp; omega)) | rfl))) ?_
    refine TL.cons rfl (Step.assign (p := (.one (.d (.int .i64 (2 * x))))) rfl rfl (lt_ok rfl) rfl) ?_
    refine TL.nil ?_
    refine ⟨(d', 2 * x), by (try dsimp only); (rw [if_pos (by omega)] at hx4; refine ⟨by omega, by omega, by omega, ?_⟩; first | exact hx4 | (rw [Int.mul_comm]; exact hx4)), by (dsimp only; omega), Env.le_mk ⟨rfl, rfl, ?_, trivial⟩ trivial trivial⟩ <;> (first | rfl | (refine congrArg (fun n => PV.one (.d (.int .i64 n))) ?_; rfl))
   ·
    replace h2 := of_decide_eq_false h2
    refine T.exit ?_
    refine T.seq ?_
    refine T.region ?_
    refine TL.cons rfl (Step.move (p := (.one (.d (.int .i64 x)))) rfl rfl (lt_ok rfl) rfl) ?_
    refine TL.cons rfl (Step.assign (p := (.one (.d (.int .i64 x)))) rfl rfl (lt_ok rfl) rfl) ?_
    refine TL.nil ?_
    refine T.ret ?_
    refine ⟨[(false, [.d (.int .i64 x)])], (.cons rfl .nil), rfl, [], (RetC.rd' ?_ .nil)⟩ <;> ((congr 1; unfold splitAtT; first | (rw [if_pos (by omega)]; done) | (rw [if_neg (by omega)]; rw [if_neg (by omega)] at hx4; exact hx4) | (rw [if_neg (by omega)]; omega)))
theorem ok_spec_PathLen_r (d_ : Nat) : ∀ (i : Int) (n : Int) (hd_ : n.toNat = d_) , RO Try.prog 67 [.one (.int .i64 i), .one (.int .i64 n)] [(false, [.rd (.int .i64 (pathLenT i n))])] := by
 refine Nat.strongRecOn d_ ?_
 intro d_ ih i n hd_ 
 subst hd_
 refine RO.intro Try.func67 rfl 31 rfl (le_ok rfl) fun w Z => ?_
 have hsb_ := splitAtT_bd n
 refine T.seq ?_
 refine T.region ?_
 refine TL.cons rfl (Step.assign (p := (.one (.d (.int .i64 0)))) rfl rfl (lt_ok rfl) rfl) ?_
 refine TL.nil ?_
 refine T.seq ?_
 refine T.seq ?_
 refine T.region ?_
 refine TL.cons rfl (Step.move (p := (.one (.d (.int .i64 i)))) rfl rfl (lt_ok rfl) rfl) ?_
 refine TL.cons rfl (Step.move (p := (.one (.d (.int .i64 n)))) rfl rfl (lt_ok rfl) rfl) ?_
 refine TL.cons rfl (Step.call (f := 66) (xs := [.tmp 6, .tmp 7]) (ps := [(.one (.d (.int .i64 i))), (.one (.d (.int .i64 n)))]) false (g := .func 66) rfl rfl (lt_ok rfl) rfl (by kernel_rfl) rfl (.cons (.one (.d _)) (.cons (.one (.d _)) .nil)) (ok_spec_l08In i n) (.inr rfl) rfl (by simp) rfl) ?_
 refine TL.cons rfl (Step.not (b := (decide (1 ≤ n ∧ n ≤ 1048576) && decide (0 ≤ i ∧ i ≤ n - 1))) rfl rfl (lt_ok rfl) rfl) ?_
 refine TL.cons rfl (Step.move (p := (.one (.d (.bool (!(decide (1 ≤ n ∧ n ≤ 1048576) && decide (0 ≤ i ∧ i ≤ n - 1))))))) rfl rfl (lt_ok rfl) rfl) ?_
 rcases Bool.eq_false_or_eq_true (!(decide (1 ≤ n ∧ n ≤ 1048576) && decide (0 ≤ i ∧ i ≤ n - 1))) with hb1 | hb1
 ·
  refine TL.known 10 hb1 rfl ?_
  have hb1' := hb1
  replace hb1' : (decide (1 ≤ n ∧ n ≤ 1048576) && decide (0 ≤ i ∧ i ≤ n - 1)) = false := by simpa only [Bool.not_eq_true', Bool.not_eq_false'] using hb1'
  simp only [Bool.and_eq_true, Bool.and_eq_false_iff, decide_eq_true_eq, decide_eq_false_iff_not] at hb1'
  refine TL.goff 10 rfl rfl (lt_ok rfl) rfl rfl rfl (lt_ok rfl) ?_
  refine TL.goff 10 rfl rfl (lt_ok rfl) rfl rfl rfl (lt_ok rfl) ?_
  refine TL.cons rfl (Step.pick (b := true) (p := (.one (.d (.bool true)))) rfl rfl (lt_ok rfl) rfl rfl) ?_
  refine TL.nil ?_
  refine T.cond (b := true) rfl (fun h2_ => ?_) (fun h2_ => absurd h2_ (by simp))
  refine T.seq ?_
  refine T.region ?_
  refine TL.cons rfl (Step.assign (p := (.one (.d (.int .i64 0)))) rfl rfl (lt_ok rfl) rfl) ?_
  refine TL.nil ?_
  refine T.ret ?_
  refine ⟨[(false, [.d (.int .i64 0)])], (.cons rfl .nil), rfl, [], (RetC.rd' ?_ .nil)⟩ <;> ((congr 1; first | (rw [pathLenT_no (i := i) (n := n) (by omega)]; done) | (rw [pathLenT_one (i := i) (n := n) (by omega)]; done) | (rw [pathLenT_left (i := i) (n := n) (by omega) (by omega) (by omega)]; done) | (rw [pathLenT_right (i := i) (n := n) (by omega) (by omega) (by omega)]; done)))
 ·
  refine TL.known 10 hb1 rfl ?_
  have hb1' := hb1
  replace hb1' : (decide (1 ≤ n ∧ n ≤ 1048576) && decide (0 ≤ i ∧ i ≤ n - 1)) = true := by simpa only [Bool.not_eq_true', Bool.not_eq_false'] using hb1'
  simp only [Bool.and_eq_true, Bool.and_eq_false_iff, decide_eq_true_eq, decide_eq_false_iff_not] at hb1'
  refine TL.gyes 10 rfl rfl (lt_ok rfl) rfl (Step.move (p := (.one (.d (.int .i64 n)))) rfl rfl (lt_ok rfl) rfl) ?_
  refine TL.gyes 10 rfl rfl (lt_ok rfl) rfl (Step.bin rfl rfl (lt_ok rfl) rfl rfl (Bin.eql (k := .i64) (a := n) (b := 1))) ?_
  refine TL.cons rfl (Step.pick (b := false) (p := (.one (.d (.bool (decide (n = 1)))))) rfl rfl (lt_ok rfl) rfl rfl) ?_
  refine TL.nil ?_
  refine T.cond (b := decide (n = 1)) rfl (fun h3 => ?_) (fun h3 => ?_)
  ·
   replace h3 := of_decide_eq_true h3
   refine T.seq ?_
   refine T.region ?_
   refine TL.cons rfl (Step.assign (p := (.one (.d (.int .i64 0)))) rfl rfl (lt_ok rfl) rfl) ?_
   refine TL.nil ?_
   refine T.ret ?_
   refine ⟨[(false, [.d (.int .i64 0)])], (.cons rfl .nil), rfl, [], (RetC.rd' ?_ .nil)⟩ <;> ((congr 1; first | (rw [pathLenT_no (i := i) (n := n) (by omega)]; done) | (rw [pathLenT_one (i := i) (n := n) (by omega)]; done) | (rw [pathLenT_left (i := i) (n := n) (by omega) (by omega) (by omega)]; done) | (rw [pathLenT_right (i := i) (n := n) (by omega) (by omega) (by omega)]; done)))
  ·
   replace h3 := of_decide_eq_false h3
   refine T.skip ?_
   refine T.seq ?_
   refine T.region ?_
   refine TL.cons rfl (Step.move (p := (.one (.d (.int .i64 n)))) rfl rfl (lt_ok rfl) rfl) ?_
   have nn4 := splitAtT_bd n
   refine TL.cons rfl (Step.call (f := 60) (xs := [.tmp 14]) (ps := [(.one (.d (.int .i64 n)))]) false (g := .func 60) rfl rfl (lt_ok rfl) rfl (by kernel_rfl) rfl (.cons (.one (.d _)) .nil) (ok_spec_SplitAt n (by first | omega | assumption | (simp only [List.length_append] at *; omega))) (.inr rfl) rfl (by simp) rfl) ?_
   refine TL.cons rfl (Step.assign (p := (.one (.d (.int .i64 (splitAtT n))))) rfl rfl (lt_ok rfl) rfl) ?_
   refine TL.nil ?_
   refine T.seq ?_
   refine T.seq ?_
   refine T.region ?_
   refine TL.cons rfl (Step.move (p := (.one (.d (.int .i64 i)))) rfl rfl (lt_ok rfl) rfl) ?_
   refine TL.cons rfl (Step.move (p := (.one (.d (.int .i64 (splitAtT n))))) rfl rfl (lt_ok rfl) rfl) ?_
   refine TL.cons rfl (Step.bin rfl rfl (lt_ok rfl) rfl rfl (Bin.lss (k := .i64) (a := i) (b := (splitAtT n)))) ?_
   refine TL.nil ?_
   refine T.cond (b := decide (i < (splitAtT n))) rfl (fun h5 => ?_) (fun h5 => ?_)
   ·
    replace h5 := of_decide_eq_true h5
    refine T.seq ?_
    refine T.region ?_
    refine TL.cons rfl (Step.move (p := (.one (.d (.int .i64 i)))) rfl rfl (lt_ok rfl) rfl) ?_
    refine TL.cons rfl (Step.move (p := (.one (.d (.int .i64 (splitAtT n))))) rfl rfl (lt_ok rfl) rfl) ?_
    have nn6 := pathLenT_bd (i) ((splitAtT n))
    refine TL.cons rfl (Step.call (f := 67) (xs := [.tmp 19, .tmp 20]) (ps := [(.one (.d (.int .i64 i))), (.one (.d (.int .i64 (splitAtT n))))]) false (g := .func 67) rfl rfl (lt_ok rfl) rfl (by kernel_rfl) rfl (.cons (.one (.d _)) (.cons (.one (.d _)) .nil)) (ih (splitAtT n).toNat (by omega) i (splitAtT n) rfl) (.inr rfl) rfl (by simp) rfl) ?_
    refine TL.cons rfl (Step.bin (r := .int .i64 (1 + (pathLenT i (splitAtT n)))) rfl rfl (lt_ok rfl) rfl rfl (Bin.add (a := 1) (b := (pathLenT i (splitAtT n))) (by first | exact wrap_ok (by first | omega | (simp; omega)) (by first | omega | (simp; omega)) | rfl))) ?_
    refine TL.cons rfl (Step.assign (p := (.one (.d (.int .i64 (1 + (pathLenT i (splitAtT n))))))) rfl rfl (lt_ok rfl) rfl) ?_
    refine TL.nil ?_
    refine T.ret ?_
    refine ⟨[(false, [.d (.int .i64 (1 + (pathLenT i (splitAtT n))))])], (.cons rfl .nil), rfl, [], (RetC.rd' ?_ .nil)⟩ <;> ((congr 1; first | (rw [pathLenT_no (i := i) (n := n) (by omega)]; done) | (rw [pathLenT_one (i := i) (n := n) (by omega)]; done) | (rw [pathLenT_left (i := i) (n := n) (by omega) (by omega) (by omega)]; done) | (rw [pathLenT_right (i := i) (n := n) (by omega) (by omega) (by omega)]; done)))
   ·
    replace h5 := of_decide_eq_false h5
    refine T.skip ?_
    refine T.seq ?_
    refine T.region ?_
    refine TL.cons rfl (Step.move (p := (.one (.d (.int .i64 i)))) rfl rfl (lt_ok rfl) rfl) ?_
    refine TL.cons rfl (Step.move (p := (.one (.d (.int .i64 (splitAtT n))))) rfl rfl (lt_ok rfl) rfl) ?_
    refine TL.cons rfl (Step.bin (r := .int .i64 (i - (splitAtT n))) rfl rfl (lt_ok rfl) rfl rfl (Bin.sub (a := i) (b := (splitAtT n)) (by first | exact wrap_ok (by first | omega | (simp; omega)) (by first | omega | (simp; omega)) | rfl))) ?_
    refine TL.cons rfl (Step.move (p := (.one (.d (.int .i64 n)))) rfl rfl (lt_ok rfl) rfl) ?_
    refine TL.cons rfl (Step.move (p := (.one (.d (.int .i64 (splitAtT n))))) rfl rfl (lt_ok rfl) rfl) ?_
    refine TL.cons rfl (Step.bin (r := .int .i64 (n - (splitAtT n))) rfl rfl (lt_ok rfl) rfl rfl (Bin.sub (a := n) (b := (splitAtT n)) (by first | exact wrap_ok (by first | omega | (simp; omega)) (by first | omega | (simp; omega)) | rfl))) ?_
    have nn7 := pathLenT_bd ((i - (splitAtT n))) ((n - (splitAtT n)))
    refine TL.cons rfl (Step.call (f := 67) (xs := [.tmp 25, .tmp 28]) (ps := [(.one (.d (.int .i64 (i - (splitAtT n))))), (.one (.d (.int .i64 (n - (splitAtT n)))))]) false (g := .func 67) rfl rfl (lt_ok rfl) rfl (by kernel_rfl) rfl (.cons (.one (.d _)) (.cons (.one (.d _)) .nil)) (ih (n - (splitAtT n)).toNat (by omega) (i - (splitAtT n)) (n - (splitAtT n)) rfl) (.inr rfl) rfl (by simp) rfl) ?_
    refine TL.cons rfl (Step.bin (r := .int .i64 (1 + (pathLenT (i - (splitAtT n)) (n - (splitAtT n))))) rfl rfl (lt_ok rfl) rfl rfl (Bin.add (a := 1) (b := (pathLenT (i - (splitAtT n)) (n - (splitAtT n)))) (by first | exact wrap_ok (by first | omega | (simp; omega)) (by first | omega | (simp; omega)) | rfl))) ?_
    refine TL.cons rfl (Step.assign (p := (.one (.d (.int .i64 (1 + (pathLenT (i - (splitAtT n)) (n - (splitAtT n)))))))) rfl rfl (lt_ok rfl) rfl) ?_
    refine TL.nil ?_
    refine T.ret ?_
    refine ⟨[(false, [.d (.int .i64 (1 + (pathLenT (i - (splitAtT n)) (n - (splitAtT n)))))])], (.cons rfl .nil), rfl, [], (RetC.rd' ?_ .nil)⟩ <;> ((congr 1; first | (rw [pathLenT_no (i := i) (n := n) (by omega)]; done) | (rw [pathLenT_one (i := i) (n := n) (by omega)]; done) | (rw [pathLenT_left (i := i) (n := n) (by omega) (by omega) (by omega)]; done) | (rw [pathLenT_right (i := i) (n := n) (by omega) (by omega) (by omega)]; done)))
theorem ok_spec_PathLen (i : Int) (n : Int) : RO Try.prog 67 [.one (.int .i64 i), .one (.int .i64 n)] [(false, [.rd (.int .i64 (pathLenT i n))])] := ok_spec_PathLen_r _ i n rfl 
theorem ok_spec_l08Hashes (l : List (List Int)) : RO Try.prog 68 [.one (.bss l)] [(false, [.rd (.bool (hashes l))])] := by
 refine RO.intro Try.func68 rfl 15 rfl (le_ok rfl) fun w Z => ?_
 refine T.bnd 0 0 rfl rfl fun hb_0_0 => ?_
 simp only [D.size, List.length_map] at hb_0_0
 refine T.seq ?_
 refine T.region ?_
 refine TL.cons rfl (Step.assign (p := (.one (.d (.bool false)))) rfl rfl (lt_ok rfl) rfl) ?_
 refine TL.nil ?_
 refine T.seq ?_
 refine T.seq ?_
 refine T.region ?_
 refine TL.cons rfl (Step.move (p := (.one (.d (.bss l)))) rfl rfl (lt_ok rfl) rfl) ?_
 refine TL.cons rfl (Step.len (e := 22) (z := 1) (d := (.bss l)) rfl rfl (lt_ok rfl) (by kernel_rfl) rfl rfl) ?_
 refine TL.cons rfl (Step.move (p := (.one (.d (.int .i64 0)))) rfl rfl (lt_ok rfl) rfl) ?_
 refine TL.nil ?_
 refine T.block ?_
 refine T.loop (ι := Nat) (fun xx_ => { tm := [(5, (.one (.d (.bss l)))), (6, (.one (.d (.int .i64 (l.length : Int))))), (7, (.one (.d (.int .i64 (xx_ : Int)))))], rows := [], boxes := [] }) (fun xx_ => xx_ ≤ l.length ∧ hashes (l.take xx_) = true) (fun xx_ => l.length - xx_) 0 ?_ ?_ ?_
 · refine Env.le_mk ⟨rfl, rfl, ?_, trivial⟩ trivial trivial <;> (first | rfl | (simp; done) | (congr 3; omega))
 · (refine ⟨Nat.zero_le _, by rw [List.take_zero]; rfl⟩)
 ·
  intro i hx
  try dsimp only at hx ⊢
  obtain ⟨hx1, hx2⟩ := hx
  refine T.seq ?_
  refine T.region ?_
  refine TL.cons rfl (Step.bin rfl rfl (lt_ok rfl) rfl rfl (Bin.lss (k := .i64) (a := (i : Int)) (b := (l.length : Int)))) ?_
  refine TL.nil ?_
  refine T.seq ?_
  refine T.cond (b := decide ((i : Int) < (l.length : Int))) rfl (fun h1 => ?_) (fun h1 => ?_)
  ·
   replace h1 := of_decide_eq_true h1
   refine T.skip ?_
   refine T.seq ?_
   refine T.block ?_
   refine T.seq ?_
   refine T.region ?_
   refine TL.cons rfl (Step.index (e := 22) (z := 1) (i := (i : Int)) rfl rfl (lt_ok rfl) (by kernel_rfl) rfl rfl rfl (lt_ok rfl) rfl (by first | omega | (simp; omega)) (by simp only [D.size]; first | omega | (simp; omega))) ?_
   refine TL.cons rfl (Step.load (e := (.ints .u8 (l.getD i []))) rfl rfl (lt_ok rfl) (by kernel_rfl) rfl rfl) ?_
   refine TL.cons rfl (Step.assign (p := (.one (.d (.ints .u8 (l.getD i []))))) rfl rfl (lt_ok rfl) rfl) ?_
   refine TL.nil ?_
   refine T.seq ?_
   refine T.region ?_
   refine TL.cons rfl (Step.move (p := (.one (.d (.ints .u8 (l.getD i []))))) rfl rfl (lt_ok rfl) rfl) ?_
   refine TL.cons rfl (Step.call (f := 65) (xs := [.tmp 11]) (ps := [(.one (.d (.ints .u8 (l.getD i []))))]) false (g := .func 65) rfl rfl (lt_ok rfl) rfl (by kernel_rfl) rfl (.cons (.one (.d _)) .nil) (ok_spec_l07Hash (l.getD i [])) (.inr rfl) rfl (by simp) rfl) ?_
   refine TL.cons rfl (Step.not (b := (decide (((l.getD i []).length : Int) = 32))) rfl rfl (lt_ok rfl) rfl) ?_
   refine TL.nil ?_
   refine T.cond (b := !(decide (((l.getD i []).length : Int) = 32))) rfl (fun h2 => ?_) (fun h2 => ?_)
   ·
    replace h2 : (decide (((l.getD i []).length : Int) = 32)) = false := by simpa only [Bool.not_eq_true', Bool.not_eq_false'] using h2
    replace h2 := of_decide_eq_false h2
    refine T.seq ?_
    refine T.region ?_
    refine TL.cons rfl (Step.assign (p := (.one (.d (.bool false)))) rfl rfl (lt_ok rfl) rfl) ?_
    refine TL.nil ?_
    refine T.ret ?_
    refine ⟨[(false, [.d (.bool false)])], (.cons rfl .nil), rfl, [], (RetC.rd' ?_ .nil)⟩ <;> ((congr 1; symm; first | (exact hashes_no (i := i) (by omega) (by omega)) | (rw [List.take_of_length_le (by omega)] at hx2; exact hx2)))
   ·
    replace h2 : (decide (((l.getD i []).length : Int) = 32)) = true := by simpa only [Bool.not_eq_true', Bool.not_eq_false'] using h2
    replace h2 := of_decide_eq_true h2
    refine T.skip ?_
    refine T.region ?_
    refine TL.cons rfl (Step.bin (r := .int .i64 ((i : Int) + 1)) rfl rfl (lt_ok rfl) rfl rfl (Bin.add (a := (i : Int)) (b := 1) (by first | exact wrap_ok (by first | omega | (simp; omega)) (by first | omega | (simp; omega)) | rfl))) ?_
    refine TL.cons rfl (Step.move (p := (.one (.d (.int .i64 ((i : Int) + 1))))) rfl rfl (lt_ok rfl) rfl) ?_
    refine TL.nil ?_
    refine ⟨i + 1, by (refine ⟨by omega, hashes_step (by omega) hx2 (by omega)⟩), by first | omega | (dsimp only; omega), Env.le_mk ⟨rfl, rfl, ?_, trivial⟩ trivial trivial⟩ <;> (first | rfl | (simp; done) | (congr 3; omega))
  ·
   replace h1 := of_decide_eq_false h1
   refine T.exit ?_
   refine T.seq ?_
   refine T.region ?_
   refine TL.cons rfl (Step.assign (p := (.one (.d (.bool true)))) rfl rfl (lt_ok rfl) rfl) ?_
   refine TL.nil ?_
   refine T.ret ?_
   refine ⟨[(false, [.d (.bool true)])], (.cons rfl .nil), rfl, [], (RetC.rd' ?_ .nil)⟩ <;> ((congr 1; symm; first | (exact hashes_no (i := i) (by omega) (by omega)) | (rw [List.take_of_length_le (by omega)] at hx2; exact hx2)))
theorem ok_spec_l01Copy (a : List Int) (h0_ : a.length ≤ 17592186044416) : RO Try.prog 69 [.one (.ints .u8 a)] [(false, [.own 5 (.ints .u8 a)])] := by
 refine RO.intro Try.func69 rfl 6 rfl (le_ok rfl) fun w Z => ?_
 refine T.bnd 0 0 rfl rfl fun hb_0_0 => ?_
 simp only [D.size, List.length_map] at hb_0_0
 refine T.seq ?_
 refine T.region ?_
 refine TL.cons rfl (Step.assign (p := (.one (.nil))) rfl rfl (lt_ok rfl) rfl) ?_
 refine TL.nil ?_
 refine T.seq ?_
 refine T.region ?_
 refine TL.cons rfl (Step.lit (e := 5) (z := 1) (by_ := 1) (xs := []) (pss := []) (es := []) (ss := []) (d := (.ints .u8 [])) rfl rfl (lt_ok rfl) (by kernel_rfl) rfl rfl .nil (by simp) (le_ok rfl) (le_ok rfl) rfl .nil rfl (by simp) (by simp) rfl trivial rfl rfl) ?_
 refine TL.cons rfl (Step.move (p := (.one (.d (.ints .u8 a)))) rfl rfl (lt_ok rfl) rfl) ?_
 refine TL.cons rfl (Step.append (e := 5) (z := 1) (by_ := 1) (d := (.ints .u8 [])) (dy := (.ints .u8 a)) (d' := (.ints .u8 ([] ++ a))) (ss := []) rfl rfl (lt_ok rfl) (by kernel_rfl) rfl rfl rfl (lt_ok rfl) rfl (.froz rfl (by simp [D.flat, D.val])) (by simp) rfl (by simp only [D.size, List.length_map]; first | omega | (simp only [List.length_append, List.length_cons, List.length_nil]; omega) | (simp; omega) | (simp only [List.length_append] at *; omega)) (by simp only [D.size, List.length_map]; first | omega | (simp only [List.length_append, List.length_cons, List.length_nil]; omega) | (simp; omega) | (simp only [List.length_append] at *; omega)) (by simp)) ?_
 refine TL.cons rfl (Step.assign (p := (.one (.row 3 []))) rfl rfl (lt_ok rfl) rfl) ?_
 refine TL.nil ?_
 refine T.ret ?_
 refine ⟨[(false, [.row 3 []])], (.cons rfl .nil), rfl, [3], (RetC.own' rfl ?_ rfl .nil)⟩ <;> (rfl)
theorem ok_spec_ShaInit  : RO Try.prog 107 [] [(false, [.own 3 (.ints .i64 shaInit)])] := by
 refine RO.intro Try.func107 rfl 2 rfl (le_ok rfl) fun w Z => ?_
 refine T.seq ?_
 refine T.region ?_
 refine TL.cons rfl (Step.assign (p := (.one (.nil))) rfl rfl (lt_ok rfl) rfl) ?_
 refine TL.nil ?_
 refine T.seq ?_
 refine T.region ?_
 refine TL.cons rfl (Step.lit (e := 3) (z := 1) (by_ := 8) (xs := [.const (.int .i64 1779033703), .const (.int .i64 3144134277), .const (.int .i64 1013904242), .const (.int .i64 2773480762), .const (.int .i64 1359893119), .const (.int .i64 2600822924), .const (.int .i64 528734635), .const (.int .i64 1541459225)]) (pss := [[.d (.int .i64 1779033703)], [.d (.int .i64 3144134277)], [.d (.int .i64 1013904242)], [.d (.int .i64 2773480762)], [.d (.int .i64 1359893119)], [.d (.int .i64 2600822924)], [.d (.int .i64 528734635)], [.d (.int .i64 1541459225)]]) (es := [(.int .i64 1779033703), (.int .i64 3144134277), (.int .i64 1013904242), (.int .i64 2773480762), (.int .i64 1359893119), (.int .i64 2600822924), (.int .i64 528734635), (.int .i64 1541459225)]) (ss := []) (d := (.ints .i64 [1779033703, 3144134277, 1013904242, 2773480762, 1359893119, 2600822924, 528734635, 1541459225])) rfl rfl (lt_ok rfl) (by kernel_rfl) rfl rfl (.cons rfl (.cons rfl (.cons rfl (.cons rfl (.cons rfl (.cons rfl (.cons rfl (.cons rfl .nil)))))))) (by simp) (le_ok rfl) (le_ok rfl) rfl (.val rfl (.val rfl (.val rfl (.val rfl (.val rfl (.val rfl (.val rfl (.val rfl .nil)))))))) rfl (by simp) (by simp) rfl trivial rfl rfl) ?_
 refine TL.cons rfl (Step.assign (p := (.one (.row 1 []))) rfl rfl (lt_ok rfl) rfl) ?_
 refine TL.nil ?_
 refine T.ret ?_
 refine ⟨[(false, [.row 1 []])], (.cons rfl .nil), rfl, [1], (RetC.own' rfl ?_ rfl .nil)⟩ <;> (rfl)
theorem ok_spec_ShaPad (b : List Int) (h0_ : b.length ≤ 17592186040000) : RO Try.prog 108 [.one (.ints .u8 b)] [(false, [.own 5 (.ints .u8 (shaPad b))])] := by
 refine RO.intro Try.func108 rfl 33 rfl (le_ok rfl) fun w Z => ?_
 refine T.bnd 0 0 rfl rfl fun hb_0_0 => ?_
 simp only [D.size, List.length_map] at hb_0_0
 refine T.seq ?_
 refine T.region ?_
 refine TL.cons rfl (Step.assign (p := (.one (.nil))) rfl rfl (lt_ok rfl) rfl) ?_
 refine TL.nil ?_
 refine T.seq ?_
 refine T.region ?_
 refine TL.cons rfl (Step.move (p := (.one (.d (.ints .u8 b)))) rfl rfl (lt_ok rfl) rfl) ?_
 refine TL.cons rfl (Step.call (f := 69) (xs := [.tmp 6]) (ps := [(.one (.d (.ints .u8 b)))]) false (g := .func 69) rfl rfl (lt_ok rfl) rfl (by kernel_rfl) rfl (.cons (.one (.d _)) .nil) (ok_spec_l01Copy b (by first | omega | assumption | (simp only [List.length_take, List.length_drop]; omega))) (.inr rfl) rfl (by simp) rfl) ?_
 refine TL.cons rfl (Step.lit (e := 5) (z := 1) (by_ := 1) (xs := [.const (.int .u8 128)]) (pss := [[.d (.int .u8 128)]]) (es := [(.int .u8 128)]) (ss := []) (d := (.ints .u8 [128])) rfl rfl (lt_ok rfl) (by kernel_rfl) rfl rfl (.cons rfl .nil) (by simp) (le_ok rfl) (le_ok rfl) rfl (.val rfl .nil) rfl (by simp) (by simp) rfl trivial rfl rfl) ?_
 refine TL.cons rfl (Step.append (e := 5) (z := 1) (by_ := 1) (d := (.ints .u8 b)) (dy := (.ints .u8 [128])) (d' := (.ints .u8 (b ++ [128]))) (ss := []) rfl rfl (lt_ok rfl) (by kernel_rfl) rfl rfl rfl (lt_ok rfl) rfl (.copy rfl rfl rfl (by simp [D.flat, D.val])) (by simp) rfl (by simp only [D.size, List.length_map]; first | omega | (simp only [List.length_append, List.length_cons, List.length_nil]; omega) | (simp; omega) | (simp only [List.length_append] at *; omega)) (by simp only [D.size, List.length_map]; first | omega | (simp only [List.length_append, List.length_cons, List.length_nil]; omega) | (simp; omega) | (simp only [List.length_append] at *; omega)) (by simp)) ?_
 refine TL.cons rfl (Step.assign (p := (.one (.row 1007 []))) rfl rfl (lt_ok rfl) rfl) ?_
 refine TL.nil ?_
 refine T.seq ?_
 refine T.block ?_
 refine T.loop (ι := Nat) (fun xx_ => { tm := [(0, (.one (.d (.ints .u8 b)))), (2, (.one (.nil))), (3, (.one (.row 1007 [])))], rows := [(1007, (5, (.ints .u8 (b ++ [128] ++ List.replicate xx_ 0)))), (8, (5, (.ints .u8 [128])))], boxes := [] }) (fun xx_ => xx_ ≤ padK b.length) (fun xx_ => padK b.length - xx_) 0 ?_ ?_ ?_
 · refine Env.le_mk ⟨rfl, rfl, rfl, trivial⟩ ⟨?_, rfl, trivial⟩ trivial <;> (first | rfl | (refine congrArg (fun x => some (_, D.ints .u8 x)) ?_; first | (simp; done) | (rw [List.replicate_succ', List.append_assoc, List.append_assoc]; first | done | rfl) | (simp only [List.append_assoc, List.replicate_succ', padB]; done) | (rw [show i = padK b.length from by unfold padK; omega]; simp [padB]; done)) | (refine congrArg (fun n => PV.one (.d (.int .i64 n))) ?_; first | rfl | omega | (simp; done)))
 · exact Nat.zero_le _
 ·
  intro i hx
  try dsimp only at hx ⊢
  have hl_ : (b ++ [128] ++ List.replicate i 0).length = b.length + 1 + i := by simp; omega
  have hk_ : padK b.length ≤ 63 := by unfold padK; omega
  refine T.seq ?_
  refine T.seq ?_
  refine T.region ?_
  refine TL.cons rfl (Step.move (p := (.one (.row 1007 []))) rfl rfl (lt_ok rfl) rfl) ?_
  refine TL.cons rfl (Step.len (e := 5) (z := 1) (d := (.ints .u8 (b ++ [128] ++ List.replicate i 0))) rfl rfl (lt_ok rfl) (by kernel_rfl) rfl rfl) ?_
  refine TL.cons rfl (Step.bin (r := .int .i64 (((b ++ [128] ++ List.replicate i 0).length : Int) % 64)) rfl rfl (lt_ok rfl) rfl rfl (Bin.rem (k := .i64) (a := ((b ++ [128] ++ List.replicate i 0).length : Int)) (b := 64) (by decide) (Int.tmod_eq_emod_of_nonneg (by first | omega | (simp; omega))))) ?_
  refine TL.cons rfl (Step.bin rfl rfl (lt_ok rfl) rfl rfl (Bin.neq (k := .i64) (a := (((b ++ [128] ++ List.replicate i 0).length : Int) % 64)) (b := 56))) ?_
  refine TL.nil ?_
  refine T.cond (b := decide ((((b ++ [128] ++ List.replicate i 0).length : Int) % 64) ≠ 56)) rfl (fun h1 => ?_) (fun h1 => ?_)
  ·
   replace h1 := of_decide_eq_true h1
   refine T.skip ?_
   refine T.block ?_
   refine T.region ?_
   refine TL.cons rfl (Step.move (p := (.one (.row 1007 []))) rfl rfl (lt_ok rfl) rfl) ?_
   refine TL.cons rfl (Step.lit (e := 5) (z := 1) (by_ := 1) (xs := [.const (.int .u8 0)]) (pss := [[.d (.int .u8 0)]]) (es := [(.int .u8 0)]) (ss := []) (d := (.ints .u8 [0])) rfl rfl (lt_ok rfl) (by kernel_rfl) rfl rfl (.cons rfl .nil) (by simp) (le_ok rfl) (le_ok rfl) rfl (.val rfl .nil) rfl (by simp) (by simp) rfl trivial rfl rfl) ?_
   refine TL.cons rfl (Step.append (e := 5) (z := 1) (by_ := 1) (d := (.ints .u8 (b ++ [128] ++ List.replicate i 0))) (dy := (.ints .u8 [0])) (d' := (.ints .u8 ((b ++ [128] ++ List.replicate i 0) ++ [0]))) (ss := []) rfl rfl (lt_ok rfl) (by kernel_rfl) rfl rfl rfl (lt_ok rfl) rfl (.copy rfl rfl rfl (by simp [D.flat, D.val])) (by simp) rfl (by simp only [D.size, List.length_map]; first | omega | (simp only [List.length_append, List.length_cons, List.length_nil]; omega) | (simp; omega) | (simp only [List.length_append] at *; omega)) (by simp only [D.size, List.length_map]; first | omega | (simp only [List.length_append, List.length_cons, List.length_nil]; omega) | (simp; omega) | (simp only [List.length_append] at *; omega)) (by simp)) ?_
   refine TL.cons rfl (Step.assign (p := (.one (.row 1007 []))) rfl rfl (lt_ok rfl) rfl) ?_
   refine TL.nil ?_
   refine ⟨i + 1, by (unfold padK at *; omega), by (unfold padK at *; omega), Env.le_mk ⟨rfl, rfl, rfl, trivial⟩ ⟨?_, rfl, trivial⟩ trivial⟩ <;> (first | rfl | (refine congrArg (fun x => some (_, D.ints .u8 x)) ?_; first | (simp; done) | (rw [List.replicate_succ', List.append_assoc, List.append_assoc]; first | done | rfl) | (simp only [List.append_assoc, List.replicate_succ', padB]; done) | (rw [show i = padK b.length from by unfold padK; omega]; simp [padB]; done)) | (refine congrArg (fun n => PV.one (.d (.int .i64 n))) ?_; first | rfl | omega | (simp; done)))
  ·
   replace h1 := of_decide_eq_false h1
   refine T.exit ?_
   refine T.seq ?_
   refine T.region ?_
   refine TL.cons rfl (Step.move (p := (.one (.d (.ints .u8 b)))) rfl rfl (lt_ok rfl) rfl) ?_
   refine TL.cons rfl (Step.len (e := 5) (z := 1) (d := (.ints .u8 b)) rfl rfl (lt_ok rfl) (by kernel_rfl) rfl rfl) ?_
   refine TL.cons rfl (Step.bin (r := .int .i64 (8 * (b.length : Int))) rfl rfl (lt_ok rfl) rfl rfl (Bin.mul (a := 8) (b := (b.length : Int)) (by first | exact wrap_ok (by first | omega | (simp; omega)) (by first | omega | (simp; omega)) | rfl))) ?_
   refine TL.cons rfl (Step.assign (p := (.one (.d (.int .i64 (8 * (b.length : Int)))))) rfl rfl (lt_ok rfl) rfl) ?_
   refine TL.nil ?_
   refine T.seq ?_
   refine T.seq ?_
   refine T.region ?_
   refine TL.cons rfl (Step.assign (p := (.one (.d (.int .i64 7)))) rfl rfl (lt_ok rfl) rfl) ?_
   refine TL.nil ?_
   refine T.block ?_
   refine T.loop (ι := Nat) (fun xx_ => { tm := [(2, (.one (.nil))), (4, (.one (.d (.int .i64 (8 * (b.length : Int)))))), (3, (.one (.row 1007 []))), (5, (.one (.d (.int .i64 (7 - (xx_ : Int))))))], rows := [(1007, (5, (.ints .u8 (b ++ [128] ++ List.replicate (padK b.length) 0 ++ padB b.length xx_)))), (8, (5, (.ints .u8 [128])))], boxes := [] }) (fun xx_ => xx_ ≤ 8) (fun xx_ => 8 - xx_) 0 ?_ ?_ ?_
   · refine Env.le_mk ⟨rfl, rfl, rfl, ?_, trivial⟩ ⟨?_, rfl, trivial⟩ trivial <;> (first | rfl | (refine congrArg (fun x => some (_, D.ints .u8 x)) ?_; first | (simp; done) | (rw [List.replicate_succ', List.append_assoc, List.append_assoc]; first | done | rfl) | (simp only [List.append_assoc, List.replicate_succ', padB]; done) | (rw [show i = padK b.length from by unfold padK at *; omega]; simp [padB]; done)) | (refine congrArg (fun n => PV.one (.d (.int .i64 n))) ?_; first | rfl | omega | (simp; done)))
   · exact Nat.zero_le _
   ·
    intro i hx
    try dsimp only at hx ⊢
    have hl_ : (b ++ [128] ++ List.replicate (padK b.length) 0 ++ padB b.length i).length = b.length + 1 + padK b.length + i := by simp [padB_len]; omega
    have hl3_ := padB_len b.length i
    have hk_ : padK b.length ≤ 63 := by unfold padK; omega
    refine T.seq ?_
    refine T.seq ?_
    refine T.region ?_
    refine TL.cons rfl (Step.move (p := (.one (.d (.int .i64 (7 - (i : Int)))))) rfl rfl (lt_ok rfl) rfl) ?_
    refine TL.cons rfl (Step.bin rfl rfl (lt_ok rfl) rfl rfl (Bin.geq (k := .i64) (a := (7 - (i : Int))) (b := 0))) ?_
    refine TL.nil ?_
    refine T.cond (b := decide (0 ≤ (7 - (i : Int)))) rfl (fun h2 => ?_) (fun h2 => ?_)
    ·
     replace h2 := of_decide_eq_true h2
     refine T.skip ?_
     refine T.seq ?_
     refine T.block ?_
     refine T.region ?_
     refine TL.cons rfl (Step.move (p := (.one (.row 1007 []))) rfl rfl (lt_ok rfl) rfl) ?_
     refine TL.cons rfl (Step.move (p := (.one (.d (.int .i64 (8 * (b.length : Int)))))) rfl rfl (lt_ok rfl) rfl) ?_
     refine TL.cons rfl (Step.move (p := (.one (.d (.int .i64 (7 - (i : Int)))))) rfl rfl (lt_ok rfl) rfl) ?_
     refine TL.cons rfl (Step.bin (r := .int .i64 (8 * (7 - (i : Int)))) rfl rfl (lt_ok rfl) rfl rfl (Bin.mul (a := 8) (b := (7 - (i : Int))) (by first | exact wrap_ok (by first | omega | (simp; omega)) (by first | omega | (simp; omega)) | rfl))) ?_
     refine TL.cons rfl (Step.bin (r := .int .i64 (bshr (8 * (b.length : Int)) (8 * (7 - (i : Int))))) rfl rfl (lt_ok rfl) rfl rfl (Bin.shr (k := .i64) (k' := .i64) (a := (8 * (b.length : Int))) (b := (8 * (7 - (i : Int)))) (by first | omega | (simp; omega)) (rfl))) ?_
     refine TL.cons rfl (Step.conv (c := ((bshr (8 * (b.length : Int)) (8 * (7 - (i : Int)))) % 256)) rfl rfl (lt_ok rfl) (by kernel_rfl) (by kernel_rfl) rfl (wrap_byte _)) ?_
     refine TL.cons rfl (Step.lit (e := 5) (z := 1) (by_ := 1) (xs := [.tmp 29]) (pss := [[.d (.int .u8 ((bshr (8 * (b.length : Int)) (8 * (7 - (i : Int)))) % 256))]]) (es := [(.int .u8 ((bshr (8 * (b.length : Int)) (8 * (7 - (i : Int)))) % 256))]) (ss := []) (d := (.ints .u8 [(bshr (8 * (b.length : Int)) (8 * (7 - (i : Int)))) % 256])) rfl rfl (lt_ok rfl) (by kernel_rfl) rfl rfl (.cons rfl .nil) (by simp) (le_ok rfl) (le_ok rfl) rfl (.val rfl .nil) rfl (by simp) (by simp) rfl trivial rfl rfl) ?_
     refine TL.cons rfl (Step.append (e := 5) (z := 1) (by_ := 1) (d := (.ints .u8 (b ++ [128] ++ List.replicate (padK b.length) 0 ++ padB b.length i))) (dy := (.ints .u8 [(bshr (8 * (b.length : Int)) (8 * (7 - (i : Int)))) % 256])) (d' := (.ints .u8 ((b ++ [128] ++ List.replicate (padK b.length) 0 ++ padB b.length i) ++ [(bshr (8 * (b.length : Int)) (8 * (7 - (i : Int)))) % 256]))) (ss := []) rfl rfl (lt_ok rfl) (by kernel_rfl) rfl rfl rfl (lt_ok rfl) rfl (.copy rfl rfl rfl (by simp [D.flat, D.val])) (by simp) rfl (by simp only [D.size, List.length_map]; first | omega | (simp only [List.length_append, List.length_cons, List.length_nil]; omega) | (simp; omega) | (simp only [List.length_append] at *; omega)) (by simp only [D.size, List.length_map]; first | omega | (simp only [List.length_append, List.length_cons, List.length_nil]; omega) | (simp; omega) | (simp only [List.length_append] at *; omega)) (by simp)) ?_
     refine TL.cons rfl (Step.assign (p := (.one (.row 1007 []))) rfl rfl (lt_ok rfl) rfl) ?_
     refine TL.nil ?_
     refine T.region ?_
     refine TL.cons rfl (Step.move (p := (.one (.d (.int .i64 (7 - (i : Int)))))) rfl rfl (lt_ok rfl) rfl) ?_
     refine TL.cons rfl (Step.bin (r := .int .i64 ((7 - (i : Int)) - 1)) rfl rfl (lt_ok rfl) rfl rfl (Bin.sub (a := (7 - (i : Int))) (b := 1) (by first | exact wrap_ok (by first | omega | (simp; omega)) (by first | omega | (simp; omega)) | rfl))) ?_
     refine TL.cons rfl (Step.assign (p := (.one (.d (.int .i64 ((7 - (i : Int)) - 1))))) rfl rfl (lt_ok rfl) rfl) ?_
     refine TL.nil ?_
     refine ⟨i + 1, by omega, by omega, Env.le_mk ⟨rfl, rfl, rfl, ?_, trivial⟩ ⟨?_, rfl, trivial⟩ trivial⟩ <;> (first | rfl | (refine congrArg (fun x => some (_, D.ints .u8 x)) ?_; first | (simp; done) | (rw [List.replicate_succ', List.append_assoc, List.append_assoc]; first | done | rfl) | (simp only [List.append_assoc, List.replicate_succ', padB]; done) | (rw [show i = padK b.length from by unfold padK at *; omega]; simp [padB]; done)) | (refine congrArg (fun n => PV.one (.d (.int .i64 n))) ?_; first | rfl | omega | (simp; done)))
    ·
     replace h2 := of_decide_eq_false h2
     refine T.exit ?_
     refine T.seq ?_
     refine T.region ?_
     refine TL.cons rfl (Step.move (p := (.one (.row 1007 []))) rfl rfl (lt_ok rfl) rfl) ?_
     refine TL.cons rfl (Step.assign (p := (.one (.row 1007 []))) rfl rfl (lt_ok rfl) rfl) ?_
     refine TL.nil ?_
     refine T.ret ?_
     refine ⟨[(false, [.row 1007 []])], (.cons rfl .nil), rfl, [1007], (RetC.own' rfl ?_ rfl .nil)⟩ <;> ((congr 1; unfold shaPad; rw [show i = 8 from by omega]))
theorem ok_spec_l04Word (x : Int) : RO Try.prog 117 [.one (.int .i64 x)] [(false, [.rd (.bool (decide (0 ≤ x ∧ x ≤ 4294967295)))])] := by
 refine RO.intro Try.func117 rfl 5 rfl (le_ok rfl) fun w Z => ?_
 refine T.seq ?_
 refine T.region ?_
 refine TL.cons rfl (Step.assign (p := (.one (.d (.bool false)))) rfl rfl (lt_ok rfl) rfl) ?_
 refine TL.nil ?_
 refine T.seq ?_
 refine T.region ?_
 refine TL.cons rfl (Step.move (p := (.one (.d (.int .i64 x)))) rfl rfl (lt_ok rfl) rfl) ?_
 refine TL.cons rfl (Step.call (f := 59) (xs := [.tmp 3, .const (.int .i64 0), .const (.int .i64 4294967295)]) (ps := [(.one (.d (.int .i64 x))), (.one (.d (.int .i64 0))), (.one (.d (.int .i64 4294967295)))]) false (g := .func 59) rfl rfl (lt_ok rfl) rfl (by kernel_rfl) rfl (.cons (.one (.d _)) (.cons (.one (.d _)) (.cons (.one (.d _)) .nil))) (ok_spec_l01In x 0 4294967295) (.inr rfl) rfl (by simp) rfl) ?_
 refine TL.cons rfl (Step.assign (p := (.one (.d (.bool (decide (0 ≤ x ∧ x ≤ 4294967295)))))) rfl rfl (lt_ok rfl) rfl) ?_
 refine TL.nil ?_
 refine T.ret ?_
 exact ⟨[(false, [.d (.bool (decide (0 ≤ x ∧ x ≤ 4294967295)))])], (.cons rfl .nil), rfl, [], (RetC.rd' rfl .nil)⟩
theorem ok_spec_l04Turn (x : Int) (n : Int) (h0_ : 0 ≤ n ∧ n ≤ 31) : RO Try.prog 118 [.one (.int .i64 x), .one (.int .i64 n)] [(false, [.rd (.int .i64 (turnW x n))])] := by
 refine RO.intro Try.func118 rfl 14 rfl (le_ok rfl) fun w Z => ?_
 refine T.seq ?_
 refine T.region ?_
 refine TL.cons rfl (Step.assign (p := (.one (.d (.int .i64 0)))) rfl rfl (lt_ok rfl) rfl) ?_
 refine TL.nil ?_
 refine T.seq ?_
 refine T.draw [⟨5, (.one (.d (.int .i64 x))), []⟩, ⟨6, (.one (.d (.int .i64 n))), []⟩, ⟨7, (.one (.d (.int .i64 (bshr x n)))), []⟩, ⟨8, (.one (.d (.int .i64 x))), []⟩, ⟨9, (.one (.d (.int .i64 n))), []⟩, ⟨10, (.one (.d (.int .i64 (32 - n)))), []⟩, ⟨11, (.one (.d (.int .i64 (bshl x (32 - n))))), []⟩, ⟨12, (.one (.d (.int .i64 (bor (bshr x n) (bshl x (32 - n)))))), []⟩, ⟨13, (.one (.d (.int .i64 (band (bor (bshr x n) (bshl x (32 - n))) 4294967295)))), []⟩, ⟨4, (.one (.d (.int .i64 (band (bor (bshr x n) (bshl x (32 - n))) 4294967295)))), []⟩] (by kernel_rfl) (by kernel_rfl) ?_ ?_
 ·
  refine .cons (fun E hA_ => by have g0 := hA_.get 0 (by decide); exact OpStep.plain rfl (Step.move (p := (.one (.d (.int .i64 x)))) (t := 5) rfl rfl (by exact lt_ok rfl) (show Env.ev E (.tmp 0) = _ from g0.trans rfl))) ?_
  refine .cons (fun E hA_ => by have g1 := hA_.get 1 (by decide); exact OpStep.plain rfl (Step.move (p := (.one (.d (.int .i64 n)))) (t := 6) rfl rfl (by exact lt_ok rfl) (show Env.ev E (.tmp 1) = _ from g1.trans rfl))) ?_
  refine .cons (fun E hA_ => by have g5 := hA_.get 5 (by decide); have g6 := hA_.get 6 (by decide); exact OpStep.plain rfl (Step.bin (r := .int .i64 (bshr x n)) (t := 7) rfl rfl (by exact lt_ok rfl) (show Env.ev E (.tmp 5) = _ from g5.trans rfl) (show Env.ev E (.tmp 6) = _ from g6.trans rfl) (Bin.shr (k := .i64) (k' := .i64) (a := x) (b := n) (by first | omega | (simp; omega)) (rfl)))) ?_
  refine .cons (fun E hA_ => by have g0 := hA_.get 0 (by decide); exact OpStep.plain rfl (Step.move (p := (.one (.d (.int .i64 x)))) (t := 8) rfl rfl (by exact lt_ok rfl) (show Env.ev E (.tmp 0) = _ from g0.trans rfl))) ?_
  refine .cons (fun E hA_ => by have g1 := hA_.get 1 (by decide); exact OpStep.plain rfl (Step.move (p := (.one (.d (.int .i64 n)))) (t := 9) rfl rfl (by exact lt_ok rfl) (show Env.ev E (.tmp 1) = _ from g1.trans rfl))) ?_
  refine .cons (fun E hA_ => by have g9 := hA_.get 9 (by decide); exact OpStep.plain rfl (Step.bin (r := .int .i64 (32 - n)) (t := 10) rfl rfl (by exact lt_ok rfl) rfl (show Env.ev E (.tmp 9) = _ from g9.trans rfl) (Bin.sub (a := 32) (b := n) (by first | exact wrap_ok (by first | omega | (simp; omega)) (by first | omega | (simp; omega)) | rfl)))) ?_
  refine .cons (fun E hA_ => by have g8 := hA_.get 8 (by decide); have g10 := hA_.get 10 (by decide); exact OpStep.plain rfl (Step.bin (r := .int .i64 (bshl x (32 - n))) (t := 11) rfl rfl (by exact lt_ok rfl) (show Env.ev E (.tmp 8) = _ from g8.trans rfl) (show Env.ev E (.tmp 10) = _ from g10.trans rfl) (Bin.shl (k := .i64) (k' := .i64) (a := x) (b := (32 - n)) (by first | omega | (simp; omega)) (rfl)))) ?_
  refine .cons (fun E hA_ => by have g7 := hA_.get 7 (by decide); have g11 := hA_.get 11 (by decide); exact OpStep.plain rfl (Step.bin (r := .int .i64 (bor (bshr x n) (bshl x (32 - n)))) (t := 12) rfl rfl (by exact lt_ok rfl) (show Env.ev E (.tmp 7) = _ from g7.trans rfl) (show Env.ev E (.tmp 11) = _ from g11.trans rfl) (Bin.or (k := .i64) (a := (bshr x n)) (b := (bshl x (32 - n))) (rfl)))) ?_
  refine .cons (fun E hA_ => by have g12 := hA_.get 12 (by decide); exact OpStep.plain rfl (Step.bin (r := .int .i64 (band (bor (bshr x n) (bshl x (32 - n))) 4294967295)) (t := 13) rfl rfl (by exact lt_ok rfl) (show Env.ev E (.tmp 12) = _ from g12.trans rfl) rfl (Bin.and (k := .i64) (a := (bor (bshr x n) (bshl x (32 - n)))) (b := 4294967295) (rfl)))) ?_
  refine .cons (fun E hA_ => by have g13 := hA_.get 13 (by decide); exact OpStep.plain rfl (Step.assign (p := (.one (.d (.int .i64 (band (bor (bshr x n) (bshl x (32 - n))) 4294967295))))) (t := 4) rfl rfl (by exact lt_ok rfl) (show Env.ev E (.tmp 13) = _ from g13.trans rfl))) ?_
  exact .nil _ _
 refine TL.nil ?_
 refine T.ret ?_
 refine ⟨[(false, [.d (.int .i64 (band (bor (bshr x n) (bshl x (32 - n))) 4294967295))])], (.cons rfl .nil), rfl, [], (RetC.rd' ?_ .nil)⟩ <;> (rfl)
theorem ok_spec_l04K  : RO Try.prog 119 [] [(false, [.own 3 (.ints .i64 shaK)])] := by
 refine RO.intro Try.func119 rfl 2 rfl (le_ok rfl) fun w Z => ?_
 refine T.seq ?_
 refine T.region ?_
 refine TL.cons rfl (Step.assign (p := (.one (.nil))) rfl rfl (lt_ok rfl) rfl) ?_
 refine TL.nil ?_
 refine T.seq ?_
 refine T.region ?_
 refine TL.cons rfl (Step.lit (e := 3) (z := 1) (by_ := 8) (xs := [.const (.int .i64 1116352408), .const (.int .i64 1899447441), .const (.int .i64 3049323471), .const (.int .i64 3921009573), .const (.int .i64 961987163), .const (.int .i64 1508970993), .const (.int .i64 2453635748), .const (.int .i64 2870763221), .const (.int .i64 3624381080), .const (.int .i64 310598401), .const (.int .i64 607225278), .const (.int .i64 1426881987), .const (.int .i64 1925078388), .const (.int .i64 2162078206), .const (.int .i64 2614888103), .const (.int .i64 3248222580), .const (.int .i64 3835390401), .const (.int .i64 4022224774), .const (.int .i64 264347078), .const (.int .i64 604807628), .const (.int .i64 770255983), .const (.int .i64 1249150122), .const (.int .i64 1555081692), .const (.int .i64 1996064986), .const (.int .i64 2554220882), .const (.int .i64 2821834349), .const (.int .i64 2952996808), .const (.int .i64 3210313671), .const (.int .i64 3336571891), .const (.int .i64 3584528711), .const (.int .i64 113926993), .const (.int .i64 338241895), .const (.int .i64 666307205), .const (.int .i64 773529912), .const (.int .i64 1294757372), .const (.int .i64 1396182291), .const (.int .i64 1695183700), .const (.int .i64 1986661051), .const (.int .i64 2177026350), .const (.int .i64 2456956037), .const (.int .i64 2730485921), .const (.int .i64 2820302411), .const (.int .i64 3259730800), .const (.int .i64 3345764771), .const (.int .i64 3516065817), .const (.int .i64 3600352804), .const (.int .i64 4094571909), .const (.int .i64 275423344), .const (.int .i64 430227734), .const (.int .i64 506948616), .const (.int .i64 659060556), .const (.int .i64 883997877), .const (.int .i64 958139571), .const (.int .i64 1322822218), .const (.int .i64 1537002063), .const (.int .i64 1747873779), .const (.int .i64 1955562222), .const (.int .i64 2024104815), .const (.int .i64 2227730452), .const (.int .i64 2361852424), .const (.int .i64 2428436474), .const (.int .i64 2756734187), .const (.int .i64 3204031479), .const (.int .i64 3329325298)]) (pss := [[.d (.int .i64 1116352408)], [.d (.int .i64 1899447441)], [.d (.int .i64 3049323471)], [.d (.int .i64 3921009573)], [.d (.int .i64 961987163)], [.d (.int .i64 1508970993)], [.d (.int .i64 2453635748)], [.d (.int .i64 2870763221)], [.d (.int .i64 3624381080)], [.d (.int .i64 310598401)], [.d (.int .i64 607225278)], [.d (.int .i64 1426881987)], [.d (.int .i64 1925078388)], [.d (.int .i64 2162078206)], [.d (.int .i64 2614888103)], [.d (.int .i64 3248222580)], [.d (.int .i64 3835390401)], [.d (.int .i64 4022224774)], [.d (.int .i64 264347078)], [.d (.int .i64 604807628)], [.d (.int .i64 770255983)], [.d (.int .i64 1249150122)], [.d (.int .i64 1555081692)], [.d (.int .i64 1996064986)], [.d (.int .i64 2554220882)], [.d (.int .i64 2821834349)], [.d (.int .i64 2952996808)], [.d (.int .i64 3210313671)], [.d (.int .i64 3336571891)], [.d (.int .i64 3584528711)], [.d (.int .i64 113926993)], [.d (.int .i64 338241895)], [.d (.int .i64 666307205)], [.d (.int .i64 773529912)], [.d (.int .i64 1294757372)], [.d (.int .i64 1396182291)], [.d (.int .i64 1695183700)], [.d (.int .i64 1986661051)], [.d (.int .i64 2177026350)], [.d (.int .i64 2456956037)], [.d (.int .i64 2730485921)], [.d (.int .i64 2820302411)], [.d (.int .i64 3259730800)], [.d (.int .i64 3345764771)], [.d (.int .i64 3516065817)], [.d (.int .i64 3600352804)], [.d (.int .i64 4094571909)], [.d (.int .i64 275423344)], [.d (.int .i64 430227734)], [.d (.int .i64 506948616)], [.d (.int .i64 659060556)], [.d (.int .i64 883997877)], [.d (.int .i64 958139571)], [.d (.int .i64 1322822218)], [.d (.int .i64 1537002063)], [.d (.int .i64 1747873779)], [.d (.int .i64 1955562222)], [.d (.int .i64 2024104815)], [.d (.int .i64 2227730452)], [.d (.int .i64 2361852424)], [.d (.int .i64 2428436474)], [.d (.int .i64 2756734187)], [.d (.int .i64 3204031479)], [.d (.int .i64 3329325298)]]) (es := [(.int .i64 1116352408), (.int .i64 1899447441), (.int .i64 3049323471), (.int .i64 3921009573), (.int .i64 961987163), (.int .i64 1508970993), (.int .i64 2453635748), (.int .i64 2870763221), (.int .i64 3624381080), (.int .i64 310598401), (.int .i64 607225278), (.int .i64 1426881987), (.int .i64 1925078388), (.int .i64 2162078206), (.int .i64 2614888103), (.int .i64 3248222580), (.int .i64 3835390401), (.int .i64 4022224774), (.int .i64 264347078), (.int .i64 604807628), (.int .i64 770255983), (.int .i64 1249150122), (.int .i64 1555081692), (.int .i64 1996064986), (.int .i64 2554220882), (.int .i64 2821834349), (.int .i64 2952996808), (.int .i64 3210313671), (.int .i64 3336571891), (.int .i64 3584528711), (.int .i64 113926993), (.int .i64 338241895), (.int .i64 666307205), (.int .i64 773529912), (.int .i64 1294757372), (.int .i64 1396182291), (.int .i64 1695183700), (.int .i64 1986661051), (.int .i64 2177026350), (.int .i64 2456956037), (.int .i64 2730485921), (.int .i64 2820302411), (.int .i64 3259730800), (.int .i64 3345764771), (.int .i64 3516065817), (.int .i64 3600352804), (.int .i64 4094571909), (.int .i64 275423344), (.int .i64 430227734), (.int .i64 506948616), (.int .i64 659060556), (.int .i64 883997877), (.int .i64 958139571), (.int .i64 1322822218), (.int .i64 1537002063), (.int .i64 1747873779), (.int .i64 1955562222), (.int .i64 2024104815), (.int .i64 2227730452), (.int .i64 2361852424), (.int .i64 2428436474), (.int .i64 2756734187), (.int .i64 3204031479), (.int .i64 3329325298)]) (ss := []) (d := (.ints .i64 [1116352408, 1899447441, 3049323471, 3921009573, 961987163, 1508970993, 2453635748, 2870763221, 3624381080, 310598401, 607225278, 1426881987, 1925078388, 2162078206, 2614888103, 3248222580, 3835390401, 4022224774, 264347078, 604807628, 770255983, 1249150122, 1555081692, 1996064986, 2554220882, 2821834349, 2952996808, 3210313671, 3336571891, 3584528711, 113926993, 338241895, 666307205, 773529912, 1294757372, 1396182291, 1695183700, 1986661051, 2177026350, 2456956037, 2730485921, 2820302411, 3259730800, 3345764771, 3516065817, 3600352804, 4094571909, 275423344, 430227734, 506948616, 659060556, 883997877, 958139571, 1322822218, 1537002063, 1747873779, 1955562222, 2024104815, 2227730452, 2361852424, 2428436474, 2756734187, 3204031479, 3329325298])) rfl rfl (lt_ok rfl) (by kernel_rfl) rfl rfl (.cons rfl (.cons rfl (.cons rfl (.cons rfl (.cons rfl (.cons rfl (.cons rfl (.cons rfl (.cons rfl (.cons rfl (.cons rfl (.cons rfl (.cons rfl (.cons rfl (.cons rfl (.cons rfl (.cons rfl (.cons rfl (.cons rfl (.cons rfl (.cons rfl (.cons rfl (.cons rfl (.cons rfl (.cons rfl (.cons rfl (.cons rfl (.cons rfl (.cons rfl (.cons rfl (.cons rfl (.cons rfl (.cons rfl (.cons rfl (.cons rfl (.cons rfl (.cons rfl (.cons rfl (.cons rfl (.cons rfl (.cons rfl (.cons rfl (.cons rfl (.cons rfl (.cons rfl (.cons rfl (.cons rfl (.cons rfl (.cons rfl (.cons rfl (.cons rfl (.cons rfl (.cons rfl (.cons rfl (.cons rfl (.cons rfl (.cons rfl (.cons rfl (.cons rfl (.cons rfl (.cons rfl (.cons rfl (.cons rfl (.cons rfl .nil)))))))))))))))))))))))))))))))))))))))))))))))))))))))))))))))) (by simp) (le_ok rfl) (le_ok rfl) rfl (.val rfl (.val rfl (.val rfl (.val rfl (.val rfl (.val rfl (.val rfl (.val rfl (.val rfl (.val rfl (.val rfl (.val rfl (.val rfl (.val rfl (.val rfl (.val rfl (.val rfl (.val rfl (.val rfl (.val rfl (.val rfl (.val rfl (.val rfl (.val rfl (.val rfl (.val rfl (.val rfl (.val rfl (.val rfl (.val rfl (.val rfl (.val rfl (.val rfl (.val rfl (.val rfl (.val rfl (.val rfl (.val rfl (.val rfl (.val rfl (.val rfl (.val rfl (.val rfl (.val rfl (.val rfl (.val rfl (.val rfl (.val rfl (.val rfl (.val rfl (.val rfl (.val rfl (.val rfl (.val rfl (.val rfl (.val rfl (.val rfl (.val rfl (.val rfl (.val rfl (.val rfl (.val rfl (.val rfl (.val rfl .nil)))))))))))))))))))))))))))))))))))))))))))))))))))))))))))))))) rfl (by simp) (by simp) rfl trivial rfl rfl) ?_
 refine TL.cons rfl (Step.assign (p := (.one (.row 1 []))) rfl rfl (lt_ok rfl) rfl) ?_
 refine TL.nil ?_
 refine T.ret ?_
 refine ⟨[(false, [.row 1 []])], (.cons rfl .nil), rfl, [1], (RetC.own' rfl ?_ rfl .nil)⟩ <;> (rfl)
theorem ok_spec_ShaBlock (h : List Int) (b : List Int) (h0_ : U8s b) : RO Try.prog 109 [.one (.ints .i64 h), .one (.ints .u8 b)] [(false, [.own 3 (.ints .i64 (shaBlock h b))])] := by
 refine RO.intro Try.func109 rfl 254 rfl (le_ok rfl) fun w Z => ?_
 refine T.bnd 0 0 rfl rfl fun hb_0_0 => ?_
 simp only [D.size, List.length_map] at hb_0_0
 refine T.bnd 1 0 rfl rfl fun hb_1_0 => ?_
 simp only [D.size, List.length_map] at hb_1_0
 refine T.seq ?_
 refine T.region ?_
 refine TL.cons rfl (Step.assign (p := (.one (.nil))) rfl rfl (lt_ok rfl) rfl) ?_
 refine TL.nil ?_
 refine T.seq ?_
 refine T.seq ?_
 refine T.region ?_
 refine TL.cons rfl (Step.move (p := (.one (.d (.ints .i64 h)))) rfl rfl (lt_ok rfl) rfl) ?_
 refine TL.cons rfl (Step.len (e := 3) (z := 1) (d := (.ints .i64 h)) rfl rfl (lt_ok rfl) (by kernel_rfl) rfl rfl) ?_
 refine TL.cons rfl (Step.bin rfl rfl (lt_ok rfl) rfl rfl (Bin.neq (k := .i64) (a := (h.length : Int)) (b := 8))) ?_
 refine TL.cons rfl (Step.move (p := (.one (.d (.bool (decide ((h.length : Int) ≠ 8)))))) rfl rfl (lt_ok rfl) rfl) ?_
 rcases Bool.eq_false_or_eq_true (decide ((h.length : Int) ≠ 8)) with hb1 | hb1
 ·
  refine TL.known 26 hb1 rfl ?_
  have hb1' := hb1
  replace hb1' := of_decide_eq_true hb1'
  refine TL.goff 26 rfl rfl (lt_ok rfl) rfl rfl rfl (lt_ok rfl) ?_
  refine TL.goff 26 rfl rfl (lt_ok rfl) rfl rfl rfl (lt_ok rfl) ?_
  refine TL.goff 26 rfl rfl (lt_ok rfl) rfl rfl rfl (lt_ok rfl) ?_
  refine TL.cons rfl (Step.pick (b := true) (p := (.one (.d (.bool true)))) rfl rfl (lt_ok rfl) rfl rfl) ?_
  refine TL.nil ?_
  refine T.cond (b := true) rfl (fun h2_ => ?_) (fun h2_ => absurd h2_ (by simp))
  refine T.seq ?_
  refine T.region ?_
  refine TL.cons rfl (Step.assign (p := (.one (.nil))) rfl rfl (lt_ok rfl) rfl) ?_
  refine TL.nil ?_
  refine T.ret ?_
  refine ⟨[(false, [.nil])], (.cons rfl .nil), rfl, [], (RetC.nilown' rfl ?_ (by first | exact trivial | exact D.wf_nil _) .nil)⟩ <;> (first | (rw [shaBlock_yes (h := h) (b := b) ⟨by omega, by omega, hwo_⟩, show i = 8 from by omega]; done) | (simp only [D.size]; first | (rw [shaBlock_no (fun h_ => by have := h_.1; have := h_.2.1; omega)]; rfl) | (rw [shaBlock_no (fun h_ => by have := h_.2.2; rw [words_no (i := i) (by omega) (by omega)] at this; cases this)]; rfl)))
 ·
  refine TL.known 26 hb1 rfl ?_
  have hb1' := hb1
  replace hb1' := of_decide_eq_false hb1'
  refine TL.gyes 26 rfl rfl (lt_ok rfl) rfl (Step.move (p := (.one (.d (.ints .u8 b)))) rfl rfl (lt_ok rfl) rfl) ?_
  refine TL.gyes 26 rfl rfl (lt_ok rfl) rfl (Step.len (e := 5) (z := 1) (d := (.ints .u8 b)) rfl rfl (lt_ok rfl) (by kernel_rfl) rfl rfl) ?_
  refine TL.gyes 26 rfl rfl (lt_ok rfl) rfl (Step.bin rfl rfl (lt_ok rfl) rfl rfl (Bin.neq (k := .i64) (a := (b.length : Int)) (b := 64))) ?_
  refine TL.cons rfl (Step.pick (b := false) (p := (.one (.d (.bool (decide ((b.length : Int) ≠ 64)))))) rfl rfl (lt_ok rfl) rfl rfl) ?_
  refine TL.nil ?_
  refine T.cond (b := decide ((b.length : Int) ≠ 64)) rfl (fun h3 => ?_) (fun h3 => ?_)
  ·
   replace h3 := of_decide_eq_true h3
   refine T.seq ?_
   refine T.region ?_
   refine TL.cons rfl (Step.assign (p := (.one (.nil))) rfl rfl (lt_ok rfl) rfl) ?_
   refine TL.nil ?_
   refine T.ret ?_
   refine ⟨[(false, [.nil])], (.cons rfl .nil), rfl, [], (RetC.nilown' rfl ?_ (by first | exact trivial | exact D.wf_nil _) .nil)⟩ <;> (first | (rw [shaBlock_yes (h := h) (b := b) ⟨by omega, by omega, hwo_⟩, show i = 8 from by omega]; done) | (simp only [D.size]; first | (rw [shaBlock_no (fun h_ => by have := h_.1; have := h_.2.1; omega)]; rfl) | (rw [shaBlock_no (fun h_ => by have := h_.2.2; rw [words_no (i := i) (by omega) (by omega)] at this; cases this)]; rfl)))
  ·
   replace h3 := of_decide_eq_false h3
   refine T.skip ?_
   refine T.seq ?_
   refine T.seq ?_
   refine T.region ?_
   refine TL.cons rfl (Step.move (p := (.one (.d (.ints .i64 h)))) rfl rfl (lt_ok rfl) rfl) ?_
   refine TL.cons rfl (Step.len (e := 3) (z := 1) (d := (.ints .i64 h)) rfl rfl (lt_ok rfl) (by kernel_rfl) rfl rfl) ?_
   refine TL.cons rfl (Step.move (p := (.one (.d (.int .i64 0)))) rfl rfl (lt_ok rfl) rfl) ?_
   refine TL.nil ?_
   refine T.block ?_
   refine T.loop (ι := Nat) (fun xx_ => { tm := [(0, (.one (.d (.ints .i64 h)))), (1, (.one (.d (.ints .u8 b)))), (31, (.one (.d (.ints .i64 h)))), (32, (.one (.d (.int .i64 (h.length : Int))))), (33, (.one (.d (.int .i64 (xx_ : Int)))))], rows := [], boxes := [] }) (fun xx_ => xx_ ≤ h.length ∧ wordsOk (h.take xx_) = true) (fun xx_ => h.length - xx_) 0 ?_ ?_ ?_
   · refine Env.le_mk ⟨rfl, rfl, rfl, rfl, ?_, trivial⟩ trivial trivial <;> (first | rfl | (simp; done) | (congr 3; omega))
   · (refine ⟨Nat.zero_le _, by rw [List.take_zero]; rfl⟩)
   ·
    intro i hx
    try dsimp only at hx ⊢
    obtain ⟨hx1, hx2⟩ := hx
    refine T.seq ?_
    refine T.region ?_
    refine TL.cons rfl (Step.bin rfl rfl (lt_ok rfl) rfl rfl (Bin.lss (k := .i64) (a := (i : Int)) (b := (h.length : Int)))) ?_
    refine TL.nil ?_
    refine T.seq ?_
    refine T.cond (b := decide ((i : Int) < (h.length : Int))) rfl (fun h4 => ?_) (fun h4 => ?_)
    ·
     replace h4 := of_decide_eq_true h4
     refine T.skip ?_
     refine T.seq ?_
     refine T.block ?_
     refine T.seq ?_
     refine T.region ?_
     refine TL.cons rfl (Step.index (e := 3) (z := 1) (i := (i : Int)) rfl rfl (lt_ok rfl) (by kernel_rfl) rfl rfl rfl (lt_ok rfl) rfl (by first | omega | (simp; omega) | (simp [w16_len, wN_len]; omega)) (by simp only [D.size]; first | omega | (simp; omega) | (simp [w16_len, wN_len]; omega))) ?_
     refine TL.cons rfl (Step.load (e := (.int .i64 (h.getD i 0))) rfl rfl (lt_ok rfl) (by kernel_rfl) rfl rfl) ?_
     refine TL.cons rfl (Step.assign (p := (.one (.d (.int .i64 (h.getD i 0))))) rfl rfl (lt_ok rfl) rfl) ?_
     refine TL.nil ?_
     refine T.seq ?_
     refine T.region ?_
     refine TL.cons rfl (Step.move (p := (.one (.d (.int .i64 (h.getD i 0))))) rfl rfl (lt_ok rfl) rfl) ?_
     refine TL.cons rfl (Step.call (f := 117) (xs := [.tmp 37]) (ps := [(.one (.d (.int .i64 (h.getD i 0))))]) false (g := .func 117) rfl rfl (lt_ok rfl) rfl (by kernel_rfl) rfl (.cons (.one (.d _)) .nil) (ok_spec_l04Word (h.getD i 0)) (.inr rfl) rfl (by simp) rfl) ?_
     refine TL.cons rfl (Step.not (b := (decide (0 ≤ (h.getD i 0) ∧ (h.getD i 0) ≤ 4294967295))) rfl rfl (lt_ok rfl) rfl) ?_
     refine TL.nil ?_
     refine T.cond (b := !(decide (0 ≤ (h.getD i 0) ∧ (h.getD i 0) ≤ 4294967295))) rfl (fun h5 => ?_) (fun h5 => ?_)
     ·
      replace h5 : (decide (0 ≤ (h.getD i 0) ∧ (h.getD i 0) ≤ 4294967295)) = false := by simpa only [Bool.not_eq_true', Bool.not_eq_false'] using h5
      replace h5 := of_decide_eq_false h5
      refine T.seq ?_
      refine T.region ?_
      refine TL.cons rfl (Step.assign (p := (.one (.nil))) rfl rfl (lt_ok rfl) rfl) ?_
      refine TL.nil ?_
      refine T.ret ?_
      refine ⟨[(false, [.nil])], (.cons rfl .nil), rfl, [], (RetC.nilown' rfl ?_ (by first | exact trivial | exact D.wf_nil _) .nil)⟩ <;> (first | (rw [shaBlock_yes (h := h) (b := b) ⟨by omega, by omega, hwo_⟩, show i = 8 from by omega]; done) | (simp only [D.size]; first | (rw [shaBlock_no (fun h_ => by have := h_.1; have := h_.2.1; omega)]; rfl) | (rw [shaBlock_no (fun h_ => by have := h_.2.2; rw [words_no (i := i) (by omega) (by omega)] at this; cases this)]; rfl)))
     ·
      replace h5 : (decide (0 ≤ (h.getD i 0) ∧ (h.getD i 0) ≤ 4294967295)) = true := by simpa only [Bool.not_eq_true', Bool.not_eq_false'] using h5
      replace h5 := of_decide_eq_true h5
      refine T.skip ?_
      refine T.region ?_
      refine TL.cons rfl (Step.bin (r := .int .i64 ((i : Int) + 1)) rfl rfl (lt_ok rfl) rfl rfl (Bin.add (a := (i : Int)) (b := 1) (by first | exact wrap_ok (by first | omega | (simp; omega) | (simp [w16_len, wN_len]; omega)) (by first | omega | (simp; omega) | (simp [w16_len, wN_len]; omega)) | rfl))) ?_
      refine TL.cons rfl (Step.move (p := (.one (.d (.int .i64 ((i : Int) + 1))))) rfl rfl (lt_ok rfl) rfl) ?_
      refine TL.nil ?_
      refine ⟨i + 1, by (refine ⟨by omega, words_step (by omega) hx2 (by omega)⟩), by first | omega | (dsimp only; omega), Env.le_mk ⟨rfl, rfl, rfl, rfl, ?_, trivial⟩ trivial trivial⟩ <;> (first | rfl | (simp; done) | (congr 3; omega))
    ·
     replace h4 := of_decide_eq_false h4
     refine T.exit ?_
     refine T.seq ?_
     refine T.region ?_
     refine TL.cons rfl (Step.lit (e := 3) (z := 1) (by_ := 8) (xs := []) (pss := []) (es := []) (ss := []) (d := (.ints .i64 [])) rfl rfl (lt_ok rfl) (by kernel_rfl) rfl rfl .nil (by simp) (le_ok rfl) (le_ok rfl) rfl .nil rfl (by simp) (by simp) rfl trivial rfl rfl) ?_
     refine TL.cons rfl (Step.assign (p := (.one (.row 41 []))) rfl rfl (lt_ok rfl) rfl) ?_
     refine TL.nil ?_
     refine T.seq ?_
     refine T.seq ?_
     refine T.region ?_
     refine TL.cons rfl (Step.assign (p := (.one (.d (.int .i64 0)))) rfl rfl (lt_ok rfl) rfl) ?_
     refine TL.nil ?_
     refine T.block ?_
     refine T.loop (ι := Nat) (fun xx_ => { tm := [(0, (.one (.d (.ints .i64 h)))), (1, (.one (.d (.ints .u8 b)))), (8, (.one (.d (.int .i64 (4 * (xx_ : Int)))))), (7, (.one (.row 41 [])))], rows := [(41, (3, (.ints .i64 (w16 b xx_))))], boxes := [] }) (fun xx_ => xx_ ≤ 16) (fun xx_ => 16 - xx_) 0 ?_ ?_ ?_
     · refine Env.le_mk ⟨rfl, rfl, ?_, rfl, trivial⟩ ⟨?_, trivial⟩ trivial <;> (first | rfl | (refine congrArg (fun x => some (_, D.ints .i64 x)) ?_; first | rfl | fail) | (refine congrArg (fun n => PV.one (.d (.int .i64 n))) ?_; first | rfl | omega | (simp; done)))
     · exact Nat.zero_le _
     ·
      intro i hx
      try dsimp only at hx ⊢
      have hwo_ : wordsOk h = true := by rw [List.take_of_length_le (by omega)] at hx2; exact hx2
      have hl_ := w16_len b i
      have hu0_ := getD_u8 h0_ (4 * (i : Int)).toNat
      have hu1_ := getD_u8 h0_ (4 * (i : Int) + 1).toNat
      have hu2_ := getD_u8 h0_ (4 * (i : Int) + 2).toNat
      have hu3_ := getD_u8 h0_ (4 * (i : Int) + 3).toNat
      refine T.seq ?_
      refine T.seq ?_
      refine T.region ?_
      refine TL.cons rfl (Step.move (p := (.one (.d (.int .i64 (4 * (i : Int)))))) rfl rfl (lt_ok rfl) rfl) ?_
      refine TL.cons rfl (Step.bin rfl rfl (lt_ok rfl) rfl rfl (Bin.lss (k := .i64) (a := (4 * (i : Int))) (b := 64))) ?_
      refine TL.nil ?_
      refine T.cond (b := decide ((4 * (i : Int)) < 64)) rfl (fun h6 => ?_) (fun h6 => ?_)
      ·
       replace h6 := of_decide_eq_true h6
       refine T.skip ?_
       refine T.seq ?_
       refine T.block ?_
       refine T.draw [⟨46, (.one (.row 41 [])), []⟩, ⟨47, (.one (.d (.ints .u8 b))), []⟩, ⟨48, (.one (.d (.int .i64 (4 * (i : Int))))), []⟩, ⟨49, (.one (.eptr (.ints .u8 b) (4 * (i : Int)).toNat 0)), []⟩, ⟨50, (.one (.d (.int .u8 (b.getD (4 * (i : Int)).toNat 0)))), []⟩, ⟨51, (.one (.d (.int .i64 (b.getD (4 * (i : Int)).toNat 0)))), []⟩, ⟨52, (.one (.d (.int .i64 (bshl (b.getD (4 * (i : Int)).toNat 0) 24)))), []⟩, ⟨53, (.one (.d (.ints .u8 b))), []⟩, ⟨54, (.one (.d (.int .i64 (4 * (i : Int))))), []⟩, ⟨55, (.one (.d (.int .i64 ((4 * (i : Int)) + 1)))), []⟩, ⟨56, (.one (.eptr (.ints .u8 b) ((4 * (i : Int)) + 1).toNat 0)), []⟩, ⟨57, (.one (.d (.int .u8 (b.getD ((4 * (i : Int)) + 1).toNat 0)))), []⟩, ⟨58, (.one (.d (.int .i64 (b.getD ((4 * (i : Int)) + 1).toNat 0)))), []⟩, ⟨59, (.one (.d (.int .i64 (bshl (b.getD ((4 * (i : Int)) + 1).toNat 0) 16)))), []⟩, ⟨60, (.one (.d (.int .i64 (bor (bshl (b.getD (4 * (i : Int)).toNat 0) 24) (bshl (b.getD ((4 * (i : Int)) + 1).toNat 0) 16))))), []⟩, ⟨61, (.one (.d (.ints .u8 b))), []⟩, ⟨62, (.one (.d (.int .i64 (4 * (i : Int))))), []⟩, ⟨63, (.one (.d (.int .i64 ((4 * (i : Int)) + 2)))), []⟩, ⟨64, (.one (.eptr (.ints .u8 b) ((4 * (i : Int)) + 2).toNat 0)), []⟩, ⟨65, (.one (.d (.int .u8 (b.getD ((4 * (i : Int)) + 2).toNat 0)))), []⟩, ⟨66, (.one (.d (.int .i64 (b.getD ((4 * (i : Int)) + 2).toNat 0)))), []⟩, ⟨67, (.one (.d (.int .i64 (bshl (b.getD ((4 * (i : Int)) + 2).toNat 0) 8)))), []⟩, ⟨68, (.one (.d (.int .i64 (bor (bor (bshl (b.getD (4 * (i : Int)).toNat 0) 24) (bshl (b.getD ((4 * (i : Int)) + 1).toNat 0) 16)) (bshl (b.getD ((4 * (i : Int)) + 2).toNat 0) 8))))), []⟩, ⟨69, (.one (.d (.ints .u8 b))), []⟩, ⟨70, (.one (.d (.int .i64 (4 * (i : Int))))), []⟩, ⟨71, (.one (.d (.int .i64 ((4 * (i : Int)) + 3)))), []⟩, ⟨72, (.one (.eptr (.ints .u8 b) ((4 * (i : Int)) + 3).toNat 0)), []⟩, ⟨73, (.one (.d (.int .u8 (b.getD ((4 * (i : Int)) + 3).toNat 0)))), []⟩, ⟨74, (.one (.d (.int .i64 (b.getD ((4 * (i : Int)) + 3).toNat 0)))), []⟩, ⟨75, (.one (.d (.int .i64 (bor (bor (bor (bshl (b.getD (4 * (i : Int)).toNat 0) 24) (bshl (b.getD ((4 * (i : Int)) + 1).toNat 0) 16)) (bshl (b.getD ((4 * (i : Int)) + 2).toNat 0) 8)) (b.getD ((4 * (i : Int)) + 3).toNat 0))))), []⟩, ⟨76, (.one (.d (.ints .i64 [bor (bor (bor (bshl (b.getD (4 * (i : Int)).toNat 0) 24) (bshl (b.getD ((4 * (i : Int)) + 1).toNat 0) 16)) (bshl (b.getD ((4 * (i : Int)) + 2).toNat 0) 8)) (b.getD ((4 * (i : Int)) + 3).toNat 0)]))), []⟩] (by kernel_rfl) (by kernel_rfl) ?_ ?_
       ·
        refine .cons (fun E hA_ => by have g7 := hA_.get 7 (by decide); exact OpStep.plain rfl (Step.move (p := (.one (.row 41 []))) (t := 46) rfl rfl (by exact lt_ok rfl) (show Env.ev E (.tmp 7) = _ from g7.trans rfl))) ?_
        refine .cons (fun E hA_ => by have g1 := hA_.get 1 (by decide); exact OpStep.plain rfl (Step.move (p := (.one (.d (.ints .u8 b)))) (t := 47) rfl rfl (by exact lt_ok rfl) (show Env.ev E (.tmp 1) = _ from g1.trans rfl))) ?_
        refine .cons (fun E hA_ => by have g8 := hA_.get 8 (by decide); exact OpStep.plain rfl (Step.move (p := (.one (.d (.int .i64 (4 * (i : Int)))))) (t := 48) rfl rfl (by exact lt_ok rfl) (show Env.ev E (.tmp 8) = _ from g8.trans rfl))) ?_
        refine .cons (fun E hA_ => by have g47 := hA_.get 47 (by decide); have g48 := hA_.get 48 (by decide); exact OpStep.plain rfl (Step.index (e := 5) (z := 1) (i := (4 * (i : Int))) (t := 49) rfl rfl (by exact lt_ok rfl) (by kernel_rfl) (show Env.ev E (.tmp 47) = _ from g47.trans rfl) rfl rfl (lt_ok rfl) (show Env.ev E (.tmp 48) = _ from g48.trans rfl) (by first | omega | (simp; omega) | (simp [w16_len, wN_len]; omega)) (by simp only [D.size]; first | omega | (simp; omega) | (simp [w16_len, wN_len]; omega)))) ?_
        refine .cons (fun E hA_ => by have g49 := hA_.get 49 (by decide); exact OpStep.plain rfl (Step.load (e := (.int .u8 (b.getD (4 * (i : Int)).toNat 0))) (t := 50) rfl rfl (by exact lt_ok rfl) (by kernel_rfl) (show Env.ev E (.tmp 49) = _ from g49.trans rfl) rfl)) ?_
        refine .cons (fun E hA_ => by have g50 := hA_.get 50 (by decide); exact OpStep.plain rfl (Step.conv (c := (b.getD (4 * (i : Int)).toNat 0)) (t := 51) rfl rfl (by exact lt_ok rfl) (by kernel_rfl) (by kernel_rfl) (show Env.ev E (.tmp 50) = _ from g50.trans rfl) (wrap_ok (by first | omega | (simp; omega) | (simp [w16_len, wN_len]; omega)) (by first | omega | (simp; omega) | (simp [w16_len, wN_len]; omega))))) ?_
        refine .cons (fun E hA_ => by have g51 := hA_.get 51 (by decide); exact OpStep.plain rfl (Step.bin (r := .int .i64 (bshl (b.getD (4 * (i : Int)).toNat 0) 24)) (t := 52) rfl rfl (by exact lt_ok rfl) (show Env.ev E (.tmp 51) = _ from g51.trans rfl) rfl (Bin.shl (k := .i64) (k' := .u64) (a := (b.getD (4 * (i : Int)).toNat 0)) (b := 24) (by first | omega | (simp; omega) | (simp [w16_len, wN_len]; omega)) (rfl)))) ?_
        refine .cons (fun E hA_ => by have g1 := hA_.get 1 (by decide); exact OpStep.plain rfl (Step.move (p := (.one (.d (.ints .u8 b)))) (t := 53) rfl rfl (by exact lt_ok rfl) (show Env.ev E (.tmp 1) = _ from g1.trans rfl))) ?_
        refine .cons (fun E hA_ => by have g8 := hA_.get 8 (by decide); exact OpStep.plain rfl (Step.move (p := (.one (.d (.int .i64 (4 * (i : Int)))))) (t := 54) rfl rfl (by exact lt_ok rfl) (show Env.ev E (.tmp 8) = _ from g8.trans rfl))) ?_
        refine .cons (fun E hA_ => by have g54 := hA_.get 54 (by decide); exact OpStep.plain rfl (Step.bin (r := .int .i64 ((4 * (i : Int)) + 1)) (t := 55) rfl rfl (by exact lt_ok rfl) (show Env.ev E (.tmp 54) = _ from g54.trans rfl) rfl (Bin.add (a := (4 * (i : Int))) (b := 1) (by first | exact wrap_ok (by first | omega | (simp; omega) | (simp [w16_len, wN_len]; omega)) (by first | omega | (simp; omega) | (simp [w16_len, wN_len]; omega)) | rfl)))) ?_
        refine .cons (fun E hA_ => by have g53 := hA_.get 53 (by decide); have g55 := hA_.get 55 (by decide); exact OpStep.plain rfl (Step.index (e := 5) (z := 1) (i := ((4 * (i : Int)) + 1)) (t := 56) rfl rfl (by exact lt_ok rfl) (by kernel_rfl) (show Env.ev E (.tmp 53) = _ from g53.trans rfl) rfl rfl (lt_ok rfl) (show Env.ev E (.tmp 55) = _ from g55.trans rfl) (by first | omega | (simp; omega) | (simp [w16_len, wN_len]; omega)) (by simp only [D.size]; first | omega | (simp; omega) | (simp [w16_len, wN_len]; omega)))) ?_
        refine .cons (fun E hA_ => by have g56 := hA_.get 56 (by decide); exact OpStep.plain rfl (Step.load (e := (.int .u8 (b.getD ((4 * (i : Int)) + 1).toNat 0))) (t := 57) rfl rfl (by exact lt_ok rfl) (by kernel_rfl) (show Env.ev E (.tmp 56) = _ from g56.trans rfl) rfl)) ?_
        refine .cons (fun E hA_ => by have g57 := hA_.get 57 (by decide); exact OpStep.plain rfl (Step.conv (c := (b.getD ((4 * (i : Int)) + 1).toNat 0)) (t := 58) rfl rfl (by exact lt_ok rfl) (by kernel_rfl) (by kernel_rfl) (show Env.ev E (.tmp 57) = _ from g57.trans rfl) (wrap_ok (by first | omega | (simp; omega) | (simp [w16_len, wN_len]; omega)) (by first | omega | (simp; omega) | (simp [w16_len, wN_len]; omega))))) ?_
        refine .cons (fun E hA_ => by have g58 := hA_.get 58 (by decide); exact OpStep.plain rfl (Step.bin (r := .int .i64 (bshl (b.getD ((4 * (i : Int)) + 1).toNat 0) 16)) (t := 59) rfl rfl (by exact lt_ok rfl) (show Env.ev E (.tmp 58) = _ from g58.trans rfl) rfl (Bin.shl (k := .i64) (k' := .u64) (a := (b.getD ((4 * (i : Int)) + 1).toNat 0)) (b := 16) (by first | omega | (simp; omega) | (simp [w16_len, wN_len]; omega)) (rfl)))) ?_
        refine .cons (fun E hA_ => by have g52 := hA_.get 52 (by decide); have g59 := hA_.get 59 (by decide); exact OpStep.plain rfl (Step.bin (r := .int .i64 (bor (bshl (b.getD (4 * (i : Int)).toNat 0) 24) (bshl (b.getD ((4 * (i : Int)) + 1).toNat 0) 16))) (t := 60) rfl rfl (by exact lt_ok rfl) (show Env.ev E (.tmp 52) = _ from g52.trans rfl) (show Env.ev E (.tmp 59) = _ from g59.trans rfl) (Bin.or (k := .i64) (a := (bshl (b.getD (4 * (i : Int)).toNat 0) 24)) (b := (bshl (b.getD ((4 * (i : Int)) + 1).toNat 0) 16)) (rfl)))) ?_
        refine .cons (fun E hA_ => by have g1 := hA_.get 1 (by decide); exact OpStep.plain rfl (Step.move (p := (.one (.d (.ints .u8 b)))) (t := 61) rfl rfl (by exact lt_ok rfl) (show Env.ev E (.tmp 1) = _ from g1.trans rfl))) ?_
        refine .cons (fun E hA_ => by have g8 := hA_.get 8 (by decide); exact OpStep.plain rfl (Step.move (p := (.one (.d (.int .i64 (4 * (i : Int)))))) (t := 62) rfl rfl (by exact lt_ok rfl) (show Env.ev E (.tmp 8) = _ from g8.trans rfl))) ?_
        refine .cons (fun E hA_ => by have g62 := hA_.get 62 (by decide); exact OpStep.plain rfl (Step.bin (r := .int .i64 ((4 * (i : Int)) + 2)) (t := 63) rfl rfl (by exact lt_ok rfl) (show Env.ev E (.tmp 62) = _ from g62.trans rfl) rfl (Bin.add (a := (4 * (i : Int))) (b := 2) (by first | exact wrap_ok (by first | omega | (simp; omega) | (simp [w16_len, wN_len]; omega)) (by first | omega | (simp; omega) | (simp [w16_len, wN_len]; omega)) | rfl)))) ?_
        refine .cons (fun E hA_ => by have g61 := hA_.get 61 (by decide); have g63 := hA_.get 63 (by decide); exact OpStep.plain rfl (Step.index (e := 5) (z := 1) (i := ((4 * (i : Int)) + 2)) (t := 64) rfl rfl (by exact lt_ok rfl) (by kernel_rfl) (show Env.ev E (.tmp 61) = _ from g61.trans rfl) rfl rfl (lt_ok rfl) (show Env.ev E (.tmp 63) = _ from g63.trans rfl) (by first | omega | (simp; omega) | (simp [w16_len, wN_len]; omega)) (by simp only [D.size]; first | omega | (simp; omega) | (simp [w16_len, wN_len]; omega)))) ?_
        refine .cons (fun E hA_ => by have g64 := hA_.get 64 (by decide); exact OpStep.plain rfl (Step.load (e := (.int .u8 (b.getD ((4 * (i : Int)) + 2).toNat 0))) (t := 65) rfl rfl (by exact lt_ok rfl) (by kernel_rfl) (show Env.ev E (.tmp 64) = _ from g64.trans rfl) rfl)) ?_
        refine .cons (fun E hA_ => by have g65 := hA_.get 65 (by decide); exact OpStep.plain rfl (Step.conv (c := (b.getD ((4 * (i : Int)) + 2).toNat 0)) (t := 66) rfl rfl (by exact lt_ok rfl) (by kernel_rfl) (by kernel_rfl) (show Env.ev E (.tmp 65) = _ from g65.trans rfl) (wrap_ok (by first | omega | (simp; omega) | (simp [w16_len, wN_len]; omega)) (by first | omega | (simp; omega) | (simp [w16_len, wN_len]; omega))))) ?_
        refine .cons (fun E hA_ => by have g66 := hA_.get 66 (by decide); exact OpStep.plain rfl (Step.bin (r := .int .i64 (bshl (b.getD ((4 * (i : Int)) + 2).toNat 0) 8)) (t := 67) rfl rfl (by exact lt_ok rfl) (show Env.ev E (.tmp 66) = _ from g66.trans rfl) rfl (Bin.shl (k := .i64) (k' := .u64) (a := (b.getD ((4 * (i : Int)) + 2).toNat 0)) (b := 8) (by first | omega | (simp; omega) | (simp [w16_len, wN_len]; omega)) (rfl)))) ?_
        refine .cons (fun E hA_ => by have g60 := hA_.get 60 (by decide); have g67 := hA_.get 67 (by decide); exact OpStep.plain rfl (Step.bin (r := .int .i64 (bor (bor (bshl (b.getD (4 * (i : Int)).toNat 0) 24) (bshl (b.getD ((4 * (i : Int)) + 1).toNat 0) 16)) (bshl (b.getD ((4 * (i : Int)) + 2).toNat 0) 8))) (t := 68) rfl rfl (by exact lt_ok rfl) (show Env.ev E (.tmp 60) = _ from g60.trans rfl) (show Env.ev E (.tmp 67) = _ from g67.trans rfl) (Bin.or (k := .i64) (a := (bor (bshl (b.getD (4 * (i : Int)).toNat 0) 24) (bshl (b.getD ((4 * (i : Int)) + 1).toNat 0) 16))) (b := (bshl (b.getD ((4 * (i : Int)) + 2).toNat 0) 8)) (rfl)))) ?_
        refine .cons (fun E hA_ => by have g1 := hA_.get 1 (by decide); exact OpStep.plain rfl (Step.move (p := (.one (.d (.ints .u8 b)))) (t := 69) rfl rfl (by exact lt_ok rfl) (show Env.ev E (.tmp 1) = _ from g1.trans rfl))) ?_
        refine .cons (fun E hA_ => by have g8 := hA_.get 8 (by decide); exact OpStep.plain rfl (Step.move (p := (.one (.d (.int .i64 (4 * (i : Int)))))) (t := 70) rfl rfl (by exact lt_ok rfl) (show Env.ev E (.tmp 8) = _ from g8.trans rfl))) ?_
        refine .cons (fun E hA_ => by have g70 := hA_.get 70 (by decide); exact OpStep.plain rfl (Step.bin (r := .int .i64 ((4 * (i : Int)) + 3)) (t := 71) rfl rfl (by exact lt_ok rfl) (show Env.ev E (.tmp 70) = _ from g70.trans rfl) rfl (Bin.add (a := (4 * (i : Int))) (b := 3) (by first | exact wrap_ok (by first | omega | (simp; omega) | (simp [w16_len, wN_len]; omega)) (by first | omega | (simp; omega) | (simp [w16_len, wN_len]; omega)) | rfl)))) ?_
        refine .cons (fun E hA_ => by have g69 := hA_.get 69 (by decide); have g71 := hA_.get 71 (by decide); exact OpStep.plain rfl (Step.index (e := 5) (z := 1) (i := ((4 * (i : Int)) + 3)) (t := 72) rfl rfl (by exact lt_ok rfl) (by kernel_rfl) (show Env.ev E (.tmp 69) = _ from g69.trans rfl) rfl rfl (lt_ok rfl) (show Env.ev E (.tmp 71) = _ from g71.trans rfl) (by first | omega | (simp; omega) | (simp [w16_len, wN_len]; omega)) (by simp only [D.size]; first | omega | (simp; omega) | (simp [w16_len, wN_len]; omega)))) ?_
        refine .cons (fun E hA_ => by have g72 := hA_.get 72 (by decide); exact OpStep.plain rfl (Step.load (e := (.int .u8 (b.getD ((4 * (i : Int)) + 3).toNat 0))) (t := 73) rfl rfl (by exact lt_ok rfl) (by kernel_rfl) (show Env.ev E (.tmp 72) = _ from g72.trans rfl) rfl)) ?_
        refine .cons (fun E hA_ => by have g73 := hA_.get 73 (by decide); exact OpStep.plain rfl (Step.conv (c := (b.getD ((4 * (i : Int)) + 3).toNat 0)) (t := 74) rfl rfl (by exact lt_ok rfl) (by kernel_rfl) (by kernel_rfl) (show Env.ev E (.tmp 73) = _ from g73.trans rfl) (wrap_ok (by first | omega | (simp; omega) | (simp [w16_len, wN_len]; omega)) (by first | omega | (simp; omega) | (simp [w16_len, wN_len]; omega))))) ?_
        refine .cons (fun E hA_ => by have g68 := hA_.get 68 (by decide); have g74 := hA_.get 74 (by decide); exact OpStep.plain rfl (Step.bin (r := .int .i64 (bor (bor (bor (bshl (b.getD (4 * (i : Int)).toNat 0) 24) (bshl (b.getD ((4 * (i : Int)) + 1).toNat 0) 16)) (bshl (b.getD ((4 * (i : Int)) + 2).toNat 0) 8)) (b.getD ((4 * (i : Int)) + 3).toNat 0))) (t := 75) rfl rfl (by exact lt_ok rfl) (show Env.ev E (.tmp 68) = _ from g68.trans rfl) (show Env.ev E (.tmp 74) = _ from g74.trans rfl) (Bin.or (k := .i64) (a := (bor (bor (bshl (b.getD (4 * (i : Int)).toNat 0) 24) (bshl (b.getD ((4 * (i : Int)) + 1).toNat 0) 16)) (bshl (b.getD ((4 * (i : Int)) + 2).toNat 0) 8))) (b := (b.getD ((4 * (i : Int)) + 3).toNat 0)) (rfl)))) ?_
        refine .cons (fun E hA_ => by have g75 := hA_.get 75 (by decide); exact OpStep.plain rfl (Step.lit_d (e := 3) (z := 1) (by_ := 8) (xs := [.tmp 75]) (pss := [[.d (.int .i64 (bor (bor (bor (bshl (b.getD (4 * (i : Int)).toNat 0) 24) (bshl (b.getD ((4 * (i : Int)) + 1).toNat 0) 16)) (bshl (b.getD ((4 * (i : Int)) + 2).toNat 0) 8)) (b.getD ((4 * (i : Int)) + 3).toNat 0)))]]) (ds := [(.int .i64 (bor (bor (bor (bshl (b.getD (4 * (i : Int)).toNat 0) 24) (bshl (b.getD ((4 * (i : Int)) + 1).toNat 0) 16)) (bshl (b.getD ((4 * (i : Int)) + 2).toNat 0) 8)) (b.getD ((4 * (i : Int)) + 3).toNat 0)))]) (d := (.ints .i64 [bor (bor (bor (bshl (b.getD (4 * (i : Int)).toNat 0) 24) (bshl (b.getD ((4 * (i : Int)) + 1).toNat 0) 16)) (bshl (b.getD ((4 * (i : Int)) + 2).toNat 0) 8)) (b.getD ((4 * (i : Int)) + 3).toNat 0)])) (t := 76) rfl rfl (by exact lt_ok rfl) (by kernel_rfl) rfl rfl (.cons (by exact (congrArg PV.flat (show Env.ev E (.tmp 75) = _ from g75.trans rfl)).trans rfl) .nil) (by simp) (le_ok rfl) (le_ok rfl) rfl rfl trivial rfl rfl)) ?_
        exact .nil _ _
       refine TL.cons rfl (Step.append (e := 3) (z := 1) (by_ := 8) (d := (.ints .i64 (w16 b i))) (dy := (.ints .i64 [bor (bor (bor (bshl (b.getD (4 * (i : Int)).toNat 0) 24) (bshl (b.getD ((4 * (i : Int)) + 1).toNat 0) 16)) (bshl (b.getD ((4 * (i : Int)) + 2).toNat 0) 8)) (b.getD ((4 * (i : Int)) + 3).toNat 0)])) (d' := (.ints .i64 ((w16 b i) ++ [bor (bor (bor (bshl (b.getD (4 * (i : Int)).toNat 0) 24) (bshl (b.getD ((4 * (i : Int)) + 1).toNat 0) 16)) (bshl (b.getD ((4 * (i : Int)) + 2).toNat 0) 8)) (b.getD ((4 * (i : Int)) + 3).toNat 0)]))) (ss := []) rfl rfl (lt_ok rfl) (by kernel_rfl) rfl rfl rfl (lt_ok rfl) rfl (.froz rfl (by simp [D.flat, D.val])) (by simp) rfl (by simp only [D.size, List.length_map]; first | omega | (simp only [List.length_append, List.length_cons, List.length_nil]; omega) | (simp; omega) | (simp only [List.length_append] at *; omega)) (by simp only [D.size, List.length_map]; first | omega | (simp only [List.length_append, List.length_cons, List.length_nil]; omega) | (simp; omega) | (simp only [List.length_append] at *; omega)) (by simp)) ?_
       refine TL.cons rfl (Step.assign (p := (.one (.row 41 []))) rfl rfl (lt_ok rfl) rfl) ?_
       refine TL.nil ?_
       refine T.region ?_
       refine TL.cons rfl (Step.move (p := (.one (.d (.int .i64 (4 * (i : Int)))))) rfl rfl (lt_ok rfl) rfl) ?_
       refine TL.cons rfl (Step.bin (r := .int .i64 ((4 * (i : Int)) + 4)) rfl rfl (lt_ok rfl) rfl rfl (Bin.add (a := (4 * (i : Int))) (b := 4) (by first | exact wrap_ok (by first | omega | (simp; omega) | (simp [w16_len, wN_len]; omega)) (by first | omega | (simp; omega) | (simp [w16_len, wN_len]; omega)) | rfl))) ?_
       refine TL.cons rfl (Step.assign (p := (.one (.d (.int .i64 ((4 * (i : Int)) + 4))))) rfl rfl (lt_ok rfl) rfl) ?_
       refine TL.nil ?_
       refine ⟨i + 1, by omega, by first | omega | (dsimp only; omega), Env.le_mk ⟨rfl, rfl, ?_, rfl, trivial⟩ ⟨?_, trivial⟩ trivial⟩ <;> (first | rfl | (refine congrArg (fun x => some (_, D.ints .i64 x)) ?_; first | rfl | fail) | (refine congrArg (fun n => PV.one (.d (.int .i64 n))) ?_; first | rfl | omega | (simp; done)))
      ·
       replace h6 := of_decide_eq_false h6
       refine T.exit ?_
       refine T.seq ?_
       refine T.seq ?_
       refine T.region ?_
       refine TL.cons rfl (Step.assign (p := (.one (.d (.int .i64 16)))) rfl rfl (lt_ok rfl) rfl) ?_
       refine TL.nil ?_
       refine T.block ?_
       refine T.loop (ι := Nat) (fun xx_ => { tm := [(0, (.one (.d (.ints .i64 h)))), (9, (.one (.d (.int .i64 (16 + (xx_ : Int)))))), (7, (.one (.row 41 [])))], rows := [(41, (3, (.ints .i64 (wN b xx_))))], boxes := [] }) (fun xx_ => xx_ ≤ 48) (fun xx_ => 48 - xx_) 0 ?_ ?_ ?_
       · refine Env.le_mk ⟨rfl, ?_, rfl, trivial⟩ ⟨?_, trivial⟩ trivial <;> (first | exact congrArg (fun x => some (_, D.ints .i64 (w16 b x))) (show i = 16 by omega) | rfl | (refine congrArg (fun x => some (_, D.ints .i64 x)) ?_; first | rfl | fail) | (refine congrArg (fun n => PV.one (.d (.int .i64 n))) ?_; first | rfl | omega | (simp; done)))
       · exact Nat.zero_le _
       ·
        intro i hx
        try dsimp only at hx ⊢
        have hl_ := wN_len b i
        refine T.seq ?_
        refine T.seq ?_
        refine T.region ?_
        refine TL.cons rfl (Step.move (p := (.one (.d (.int .i64 (16 + (i : Int)))))) rfl rfl (lt_ok rfl) rfl) ?_
        refine TL.cons rfl (Step.bin rfl rfl (lt_ok rfl) rfl rfl (Bin.lss (k := .i64) (a := (16 + (i : Int))) (b := 64))) ?_
        refine TL.nil ?_
        refine T.cond (b := decide ((16 + (i : Int)) < 64)) rfl (fun h7 => ?_) (fun h7 => ?_)
        ·
         replace h7 := of_decide_eq_true h7
         refine T.skip ?_
         refine T.seq ?_
         refine T.block ?_
         refine T.seq ?_
         refine T.region ?_
         refine TL.cons rfl (Step.move (p := (.one (.row 41 []))) rfl rfl (lt_ok rfl) rfl) ?_
         refine TL.cons rfl (Step.move (p := (.one (.d (.int .i64 (16 + (i : Int)))))) rfl rfl (lt_ok rfl) rfl) ?_
         refine TL.cons rfl (Step.bin (r := .int .i64 ((16 + (i : Int)) - 15)) rfl rfl (lt_ok rfl) rfl rfl (Bin.sub (a := (16 + (i : Int))) (b := 15) (by first | exact wrap_ok (by first | omega | (simp; omega) | (simp [w16_len, wN_len]; omega)) (by first | omega | (simp; omega) | (simp [w16_len, wN_len]; omega)) | rfl))) ?_
         refine TL.cons rfl (Step.index_row (e := 3) (z := 1) (i := ((16 + (i : Int)) - 15)) rfl rfl (lt_ok rfl) (by kernel_rfl) rfl rfl rfl rfl (lt_ok rfl) rfl (by first | omega | (simp; omega) | (simp [w16_len, wN_len]; omega)) (by simp only [D.at_, D.cell, D.size]; first | omega | (simp; omega) | (simp [w16_len, wN_len]; omega))) ?_
         refine TL.cons rfl (Step.load_row (c := .d (.int .i64 ((wN b i).getD ((16 + (i : Int)) - 15).toNat 0))) rfl rfl (lt_ok rfl) (by kernel_rfl) rfl rfl rfl) ?_
         refine TL.cons rfl (Step.assign (p := (.one (.d (.int .i64 ((wN b i).getD ((16 + (i : Int)) - 15).toNat 0))))) rfl rfl (lt_ok rfl) rfl) ?_
         refine TL.nil ?_
         refine T.seq ?_
         refine T.region ?_
         refine TL.cons rfl (Step.move (p := (.one (.row 41 []))) rfl rfl (lt_ok rfl) rfl) ?_
         refine TL.cons rfl (Step.move (p := (.one (.d (.int .i64 (16 + (i : Int)))))) rfl rfl (lt_ok rfl) rfl) ?_
         refine TL.cons rfl (Step.bin (r := .int .i64 ((16 + (i : Int)) - 2)) rfl rfl (lt_ok rfl) rfl rfl (Bin.sub (a := (16 + (i : Int))) (b := 2) (by first | exact wrap_ok (by first | omega | (simp; omega) | (simp [w16_len, wN_len]; omega)) (by first | omega | (simp; omega) | (simp [w16_len, wN_len]; omega)) | rfl))) ?_
         refine TL.cons rfl (Step.index_row (e := 3) (z := 1) (i := ((16 + (i : Int)) - 2)) rfl rfl (lt_ok rfl) (by kernel_rfl) rfl rfl rfl rfl (lt_ok rfl) rfl (by first | omega | (simp; omega) | (simp [w16_len, wN_len]; omega)) (by simp only [D.at_, D.cell, D.size]; first | omega | (simp; omega) | (simp [w16_len, wN_len]; omega))) ?_
         refine TL.cons rfl (Step.load_row (c := .d (.int .i64 ((wN b i).getD ((16 + (i : Int)) - 2).toNat 0))) rfl rfl (lt_ok rfl) (by kernel_rfl) rfl rfl rfl) ?_
         refine TL.cons rfl (Step.assign (p := (.one (.d (.int .i64 ((wN b i).getD ((16 + (i : Int)) - 2).toNat 0))))) rfl rfl (lt_ok rfl) rfl) ?_
         refine TL.nil ?_
         refine T.seq ?_
         refine T.region ?_
         refine TL.cons rfl (Step.move (p := (.one (.d (.int .i64 ((wN b i).getD ((16 + (i : Int)) - 15).toNat 0))))) rfl rfl (lt_ok rfl) rfl) ?_
         refine TL.cons rfl (Step.call (f := 118) (xs := [.tmp 92, .const (.int .i64 7)]) (ps := [(.one (.d (.int .i64 ((wN b i).getD ((16 + (i : Int)) - 15).toNat 0)))), (.one (.d (.int .i64 7)))]) false (g := .func 118) rfl rfl (lt_ok rfl) rfl (by kernel_rfl) rfl (.cons (.one (.d _)) (.cons (.one (.d _)) .nil)) (ok_spec_l04Turn ((wN b i).getD ((16 + (i : Int)) - 15).toNat 0) 7 (by first | omega | decide)) (.inr rfl) rfl (by simp) rfl) ?_
         refine TL.cons rfl (Step.move (p := (.one (.d (.int .i64 ((wN b i).getD ((16 + (i : Int)) - 15).toNat 0))))) rfl rfl (lt_ok rfl) rfl) ?_
         refine TL.cons rfl (Step.call (f := 118) (xs := [.tmp 94, .const (.int .i64 18)]) (ps := [(.one (.d (.int .i64 ((wN b i).getD ((16 + (i : Int)) - 15).toNat 0)))), (.one (.d (.int .i64 18)))]) false (g := .func 118) rfl rfl (lt_ok rfl) rfl (by kernel_rfl) rfl (.cons (.one (.d _)) (.cons (.one (.d _)) .nil)) (ok_spec_l04Turn ((wN b i).getD ((16 + (i : Int)) - 15).toNat 0) 18 (by first | omega | decide)) (.inr rfl) rfl (by simp) rfl) ?_
         refine TL.cons rfl (Step.bin (r := .int .i64 (bxor (turnW ((wN b i).getD ((16 + (i : Int)) - 15).toNat 0) 7) (turnW ((wN b i).getD ((16 + (i : Int)) - 15).toNat 0) 18))) rfl rfl (lt_ok rfl) rfl rfl (Bin.xor (k := .i64) (a := (turnW ((wN b i).getD ((16 + (i : Int)) - 15).toNat 0) 7)) (b := (turnW ((wN b i).getD ((16 + (i : Int)) - 15).toNat 0) 18)) (rfl))) ?_
         refine TL.cons rfl (Step.move (p := (.one (.d (.int .i64 ((wN b i).getD ((16 + (i : Int)) - 15).toNat 0))))) rfl rfl (lt_ok rfl) rfl) ?_
         refine TL.cons rfl (Step.bin (r := .int .i64 (bshr ((wN b i).getD ((16 + (i : Int)) - 15).toNat 0) 3)) rfl rfl (lt_ok rfl) rfl rfl (Bin.shr (k := .i64) (k' := .u64) (a := ((wN b i).getD ((16 + (i : Int)) - 15).toNat 0)) (b := 3) (by first | omega | (simp; omega) | (simp [w16_len, wN_len]; omega)) (rfl))) ?_
         refine TL.cons rfl (Step.bin (r := .int .i64 (bxor (bxor (turnW ((wN b i).getD ((16 + (i : Int)) - 15).toNat 0) 7) (turnW ((wN b i).getD ((16 + (i : Int)) - 15).toNat 0) 18)) (bshr ((wN b i).getD ((16 + (i : Int)) - 15).toNat 0) 3))) rfl rfl (lt_ok rfl) rfl rfl (Bin.xor (k := .i64) (a := (bxor (turnW ((wN b i).getD ((16 + (i : Int)) - 15).toNat 0) 7) (turnW ((wN b i).getD ((16 + (i : Int)) - 15).toNat 0) 18))) (b := (bshr ((wN b i).getD ((16 + (i : Int)) - 15).toNat 0) 3)) (rfl))) ?_
         refine TL.cons rfl (Step.assign (p := (.one (.d (.int .i64 (bxor (bxor (turnW ((wN b i).getD ((16 + (i : Int)) - 15).toNat 0) 7) (turnW ((wN b i).getD ((16 + (i : Int)) - 15).toNat 0) 18)) (bshr ((wN b i).getD ((16 + (i : Int)) - 15).toNat 0) 3)))))) rfl rfl (lt_ok rfl) rfl) ?_
         refine TL.nil ?_
         refine T.seq ?_
         refine T.region ?_
         refine TL.cons rfl (Step.move (p := (.one (.d (.int .i64 ((wN b i).getD ((16 + (i : Int)) - 2).toNat 0))))) rfl rfl (lt_ok rfl) rfl) ?_
         refine TL.cons rfl (Step.call (f := 118) (xs := [.tmp 100, .const (.int .i64 17)]) (ps := [(.one (.d (.int .i64 ((wN b i).getD ((16 + (i : Int)) - 2).toNat 0)))), (.one (.d (.int .i64 17)))]) false (g := .func 118) rfl rfl (lt_ok rfl) rfl (by kernel_rfl) rfl (.cons (.one (.d _)) (.cons (.one (.d _)) .nil)) (ok_spec_l04Turn ((wN b i).getD ((16 + (i : Int)) - 2).toNat 0) 17 (by first | omega | decide)) (.inr rfl) rfl (by simp) rfl) ?_
         refine TL.cons rfl (Step.move (p := (.one (.d (.int .i64 ((wN b i).getD ((16 + (i : Int)) - 2).toNat 0))))) rfl rfl (lt_ok rfl) rfl) ?_
         refine TL.cons rfl (Step.call (f := 118) (xs := [.tmp 102, .const (.int .i64 19)]) (ps := [(.one (.d (.int .i64 ((wN b i).getD ((16 + (i : Int)) - 2).toNat 0)))), (.one (.d (.int .i64 19)))]) false (g := .func 118) rfl rfl (lt_ok rfl) rfl (by kernel_rfl) rfl (.cons (.one (.d _)) (.cons (.one (.d _)) .nil)) (ok_spec_l04Turn ((wN b i).getD ((16 + (i : Int)) - 2).toNat 0) 19 (by first | omega | decide)) (.inr rfl) rfl (by simp) rfl) ?_
         refine TL.cons rfl (Step.bin (r := .int .i64 (bxor (turnW ((wN b i).getD ((16 + (i : Int)) - 2).toNat 0) 17) (turnW ((wN b i).getD ((16 + (i : Int)) - 2).toNat 0) 19))) rfl rfl (lt_ok rfl) rfl rfl (Bin.xor (k := .i64) (a := (turnW ((wN b i).getD ((16 + (i : Int)) - 2).toNat 0) 17)) (b := (turnW ((wN b i).getD ((16 + (i : Int)) - 2).toNat 0) 19)) (rfl))) ?_
         refine TL.cons rfl (Step.move (p := (.one (.d (.int .i64 ((wN b i).getD ((16 + (i : Int)) - 2).toNat 0))))) rfl rfl (lt_ok rfl) rfl) ?_
         refine TL.cons rfl (Step.bin (r := .int .i64 (bshr ((wN b i).getD ((16 + (i : Int)) - 2).toNat 0) 10)) rfl rfl (lt_ok rfl) rfl rfl (Bin.shr (k := .i64) (k' := .u64) (a := ((wN b i).getD ((16 + (i : Int)) - 2).toNat 0)) (b := 10) (by first | omega | (simp; omega) | (simp [w16_len, wN_len]; omega)) (rfl))) ?_
         refine TL.cons rfl (Step.bin (r := .int .i64 (bxor (bxor (turnW ((wN b i).getD ((16 + (i : Int)) - 2).toNat 0) 17) (turnW ((wN b i).getD ((16 + (i : Int)) - 2).toNat 0) 19)) (bshr ((wN b i).getD ((16 + (i : Int)) - 2).toNat 0) 10))) rfl rfl (lt_ok rfl) rfl rfl (Bin.xor (k := .i64) (a := (bxor (turnW ((wN b i).getD ((16 + (i : Int)) - 2).toNat 0) 17) (turnW ((wN b i).getD ((16 + (i : Int)) - 2).toNat 0) 19))) (b := (bshr ((wN b i).getD ((16 + (i : Int)) - 2).toNat 0) 10)) (rfl))) ?_
         refine TL.cons rfl (Step.assign (p := (.one (.d (.int .i64 (bxor (bxor (turnW ((wN b i).getD ((16 + (i : Int)) - 2).toNat 0) 17) (turnW ((wN b i).getD ((16 + (i : Int)) - 2).toNat 0) 19)) (bshr ((wN b i).getD ((16 + (i : Int)) - 2).toNat 0) 10)))))) rfl rfl (lt_ok rfl) rfl) ?_
         refine TL.nil ?_
         refine T.draw [⟨108, (.one (.row 41 [])), []⟩, ⟨109, (.one (.row 41 [])), []⟩, ⟨110, (.one (.d (.int .i64 (16 + (i : Int))))), []⟩, ⟨111, (.one (.d (.int .i64 ((16 + (i : Int)) - 16)))), []⟩, ⟨112, (.one (.rptr 41 [] ((16 + (i : Int)) - 16).toNat 0)), []⟩, ⟨113, (.one (.d (.int .i64 ((wN b i).getD ((16 + (i : Int)) - 16).toNat 0)))), []⟩, ⟨114, (.one (.d (.int .i64 (bxor (bxor (turnW ((wN b i).getD ((16 + (i : Int)) - 15).toNat 0) 7) (turnW ((wN b i).getD ((16 + (i : Int)) - 15).toNat 0) 18)) (bshr ((wN b i).getD ((16 + (i : Int)) - 15).toNat 0) 3))))), []⟩, ⟨115, (.one (.d (.int .i64 (wadd ((wN b i).getD ((16 + (i : Int)) - 16).toNat 0) (bxor (bxor (turnW ((wN b i).getD ((16 + (i : Int)) - 15).toNat 0) 7) (turnW ((wN b i).getD ((16 + (i : Int)) - 15).toNat 0) 18)) (bshr ((wN b i).getD ((16 + (i : Int)) - 15).toNat 0) 3)))))), []⟩, ⟨116, (.one (.row 41 [])), []⟩, ⟨117, (.one (.d (.int .i64 (16 + (i : Int))))), []⟩, ⟨118, (.one (.d (.int .i64 ((16 + (i : Int)) - 7)))), []⟩, ⟨119, (.one (.rptr 41 [] ((16 + (i : Int)) - 7).toNat 0)), []⟩, ⟨120, (.one (.d (.int .i64 ((wN b i).getD ((16 + (i : Int)) - 7).toNat 0)))), []⟩, ⟨121, (.one (.d (.int .i64 (wadd (wadd ((wN b i).getD ((16 + (i : Int)) - 16).toNat 0) (bxor (bxor (turnW ((wN b i).getD ((16 + (i : Int)) - 15).toNat 0) 7) (turnW ((wN b i).getD ((16 + (i : Int)) - 15).toNat 0) 18)) (bshr ((wN b i).getD ((16 + (i : Int)) - 15).toNat 0) 3))) ((wN b i).getD ((16 + (i : Int)) - 7).toNat 0))))), []⟩, ⟨122, (.one (.d (.int .i64 (bxor (bxor (turnW ((wN b i).getD ((16 + (i : Int)) - 2).toNat 0) 17) (turnW ((wN b i).getD ((16 + (i : Int)) - 2).toNat 0) 19)) (bshr ((wN b i).getD ((16 + (i : Int)) - 2).toNat 0) 10))))), []⟩, ⟨123, (.one (.d (.int .i64 (wadd (wadd (wadd ((wN b i).getD ((16 + (i : Int)) - 16).toNat 0) (bxor (bxor (turnW ((wN b i).getD ((16 + (i : Int)) - 15).toNat 0) 7) (turnW ((wN b i).getD ((16 + (i : Int)) - 15).toNat 0) 18)) (bshr ((wN b i).getD ((16 + (i : Int)) - 15).toNat 0) 3))) ((wN b i).getD ((16 + (i : Int)) - 7).toNat 0)) (bxor (bxor (turnW ((wN b i).getD ((16 + (i : Int)) - 2).toNat 0) 17) (turnW ((wN b i).getD ((16 + (i : Int)) - 2).toNat 0) 19)) (bshr ((wN b i).getD ((16 + (i : Int)) - 2).toNat 0) 10)))))), []⟩, ⟨124, (.one (.d (.int .i64 (band (wadd (wadd (wadd ((wN b i).getD ((16 + (i : Int)) - 16).toNat 0) (bxor (bxor (turnW ((wN b i).getD ((16 + (i : Int)) - 15).toNat 0) 7) (turnW ((wN b i).getD ((16 + (i : Int)) - 15).toNat 0) 18)) (bshr ((wN b i).getD ((16 + (i : Int)) - 15).toNat 0) 3))) ((wN b i).getD ((16 + (i : Int)) - 7).toNat 0)) (bxor (bxor (turnW ((wN b i).getD ((16 + (i : Int)) - 2).toNat 0) 17) (turnW ((wN b i).getD ((16 + (i : Int)) - 2).toNat 0) 19)) (bshr ((wN b i).getD ((16 + (i : Int)) - 2).toNat 0) 10))) 4294967295)))), []⟩, ⟨125, (.one (.d (.ints .i64 [band (wadd (wadd (wadd ((wN b i).getD ((16 + (i : Int)) - 16).toNat 0) (bxor (bxor (turnW ((wN b i).getD ((16 + (i : Int)) - 15).toNat 0) 7) (turnW ((wN b i).getD ((16 + (i : Int)) - 15).toNat 0) 18)) (bshr ((wN b i).getD ((16 + (i : Int)) - 15).toNat 0) 3))) ((wN b i).getD ((16 + (i : Int)) - 7).toNat 0)) (bxor (bxor (turnW ((wN b i).getD ((16 + (i : Int)) - 2).toNat 0) 17) (turnW ((wN b i).getD ((16 + (i : Int)) - 2).toNat 0) 19)) (bshr ((wN b i).getD ((16 + (i : Int)) - 2).toNat 0) 10))) 4294967295]))), []⟩] (by kernel_rfl) (by kernel_rfl) ?_ ?_
         ·
          refine .cons (fun E hA_ => by have g7 := hA_.get 7 (by decide); exact OpStep.plain rfl (Step.move (p := (.one (.row 41 []))) (t := 108) rfl rfl (by exact lt_ok rfl) (show Env.ev E (.tmp 7) = _ from g7.trans rfl))) ?_
          refine .cons (fun E hA_ => by have g7 := hA_.get 7 (by decide); exact OpStep.plain rfl (Step.move (p := (.one (.row 41 []))) (t := 109) rfl rfl (by exact lt_ok rfl) (show Env.ev E (.tmp 7) = _ from g7.trans rfl))) ?_
          refine .cons (fun E hA_ => by have g9 := hA_.get 9 (by decide); exact OpStep.plain rfl (Step.move (p := (.one (.d (.int .i64 (16 + (i : Int)))))) (t := 110) rfl rfl (by exact lt_ok rfl) (show Env.ev E (.tmp 9) = _ from g9.trans rfl))) ?_
          refine .cons (fun E hA_ => by have g110 := hA_.get 110 (by decide); exact OpStep.plain rfl (Step.bin (r := .int .i64 ((16 + (i : Int)) - 16)) (t := 111) rfl rfl (by exact lt_ok rfl) (show Env.ev E (.tmp 110) = _ from g110.trans rfl) rfl (Bin.sub (a := (16 + (i : Int))) (b := 16) (by first | exact wrap_ok (by first | omega | (simp; omega) | (simp [w16_len, wN_len]; omega)) (by first | omega | (simp; omega) | (simp [w16_len, wN_len]; omega)) | rfl)))) ?_
          refine .cons (fun E hA_ => by have g109 := hA_.get 109 (by decide); have g111 := hA_.get 111 (by decide); exact OpStep.plain rfl (Step.index_row (e := 3) (z := 1) (i := ((16 + (i : Int)) - 16)) (t := 112) rfl rfl (by exact lt_ok rfl) (by kernel_rfl) (show Env.ev E (.tmp 109) = _ from g109.trans rfl) (by exact (hA_.row 41 (by kernel_rfl)).trans rfl) rfl rfl (lt_ok rfl) (show Env.ev E (.tmp 111) = _ from g111.trans rfl) (by first | omega | (simp; omega) | (simp [w16_len, wN_len]; omega)) (by simp only [D.at_, D.cell, D.size]; first | omega | (simp; omega) | (simp [w16_len, wN_len]; omega)))) ?_
          refine .cons (fun E hA_ => by have g112 := hA_.get 112 (by decide); exact OpStep.plain rfl (Step.load_row (c := .d (.int .i64 ((wN b i).getD ((16 + (i : Int)) - 16).toNat 0))) (t := 113) rfl rfl (by exact lt_ok rfl) (by kernel_rfl) (show Env.ev E (.tmp 112) = _ from g112.trans rfl) (by exact (hA_.row 41 (by kernel_rfl)).trans rfl) rfl)) ?_
          refine .cons (fun E hA_ => by have g12 := hA_.get 12 (by decide); exact OpStep.plain rfl (Step.move (p := (.one (.d (.int .i64 (bxor (bxor (turnW ((wN b i).getD ((16 + (i : Int)) - 15).toNat 0) 7) (turnW ((wN b i).getD ((16 + (i : Int)) - 15).toNat 0) 18)) (bshr ((wN b i).getD ((16 + (i : Int)) - 15).toNat 0) 3)))))) (t := 114) rfl rfl (by exact lt_ok rfl) (show Env.ev E (.tmp 12) = _ from g12.trans rfl))) ?_
          refine .cons (fun E hA_ => by have g113 := hA_.get 113 (by decide); have g114 := hA_.get 114 (by decide); exact OpStep.plain rfl (Step.bin (r := .int .i64 (wadd ((wN b i).getD ((16 + (i : Int)) - 16).toNat 0) (bxor (bxor (turnW ((wN b i).getD ((16 + (i : Int)) - 15).toNat 0) 7) (turnW ((wN b i).getD ((16 + (i : Int)) - 15).toNat 0) 18)) (bshr ((wN b i).getD ((16 + (i : Int)) - 15).toNat 0) 3)))) (t := 115) rfl rfl (by exact lt_ok rfl) (show Env.ev E (.tmp 113) = _ from g113.trans rfl) (show Env.ev E (.tmp 114) = _ from g114.trans rfl) (Bin.add (k := .i64) (a := ((wN b i).getD ((16 + (i : Int)) - 16).toNat 0)) (b := (bxor (bxor (turnW ((wN b i).getD ((16 + (i : Int)) - 15).toNat 0) 7) (turnW ((wN b i).getD ((16 + (i : Int)) - 15).toNat 0) 18)) (bshr ((wN b i).getD ((16 + (i : Int)) - 15).toNat 0) 3))) (rfl)))) ?_
          refine .cons (fun E hA_ => by have g7 := hA_.get 7 (by decide); exact OpStep.plain rfl (Step.move (p := (.one (.row 41 []))) (t := 116) rfl rfl (by exact lt_ok rfl) (show Env.ev E (.tmp 7) = _ from g7.trans rfl))) ?_
          refine .cons (fun E hA_ => by have g9 := hA_.get 9 (by decide); exact OpStep.plain rfl (Step.move (p := (.one (.d (.int .i64 (16 + (i : Int)))))) (t := 117) rfl rfl (by exact lt_ok rfl) (show Env.ev E (.tmp 9) = _ from g9.trans rfl))) ?_
          refine .cons (fun E hA_ => by have g117 := hA_.get 117 (by decide); exact OpStep.plain rfl (Step.bin (r := .int .i64 ((16 + (i : Int)) - 7)) (t := 118) rfl rfl (by exact lt_ok rfl) (show Env.ev E (.tmp 117) = _ from g117.trans rfl) rfl (Bin.sub (a := (16 + (i : Int))) (b := 7) (by first | exact wrap_ok (by first | omega | (simp; omega) | (simp [w16_len, wN_len]; omega)) (by first | omega | (simp; omega) | (simp [w16_len, wN_len]; omega)) | rfl)))) ?_
          refine .cons (fun E hA_ => by have g116 := hA_.get 116 (by decide); have g118 := hA_.get 118 (by decide); exact OpStep.plain rfl (Step.index_row (e := 3) (z := 1) (i := ((16 + (i : Int)) - 7)) (t := 119) rfl rfl (by exact lt_ok rfl) (by kernel_rfl) (show Env.ev E (.tmp 116) = _ from g116.trans rfl) (by exact (hA_.row 41 (by kernel_rfl)).trans rfl) rfl rfl (lt_ok rfl) (show Env.ev E (.tmp 118) = _ from g118.trans rfl) (by first | omega | (simp; omega) | (simp [w16_len, wN_len]; omega)) (by simp only [D.at_, D.cell, D.size]; first | omega | (simp; omega) | (simp [w16_len, wN_len]; omega)))) ?_
          refine .cons (fun E hA_ => by have g119 := hA_.get 119 (by decide); exact OpStep.plain rfl (Step.load_row (c := .d (.int .i64 ((wN b i).getD ((16 + (i : Int)) - 7).toNat 0))) (t := 120) rfl rfl (by exact lt_ok rfl) (by kernel_rfl) (show Env.ev E (.tmp 119) = _ from g119.trans rfl) (by exact (hA_.row 41 (by kernel_rfl)).trans rfl) rfl)) ?_
          refine .cons (fun E hA_ => by have g115 := hA_.get 115 (by decide); have g120 := hA_.get 120 (by decide); exact OpStep.plain rfl (Step.bin (r := .int .i64 (wadd (wadd ((wN b i).getD ((16 + (i : Int)) - 16).toNat 0) (bxor (bxor (turnW ((wN b i).getD ((16 + (i : Int)) - 15).toNat 0) 7) (turnW ((wN b i).getD ((16 + (i : Int)) - 15).toNat 0) 18)) (bshr ((wN b i).getD ((16 + (i : Int)) - 15).toNat 0) 3))) ((wN b i).getD ((16 + (i : Int)) - 7).toNat 0))) (t := 121) rfl rfl (by exact lt_ok rfl) (show Env.ev E (.tmp 115) = _ from g115.trans rfl) (show Env.ev E (.tmp 120) = _ from g120.trans rfl) (Bin.add (k := .i64) (a := (wadd ((wN b i).getD ((16 + (i : Int)) - 16).toNat 0) (bxor (bxor (turnW ((wN b i).getD ((16 + (i : Int)) - 15).toNat 0) 7) (turnW ((wN b i).getD ((16 + (i : Int)) - 15).toNat 0) 18)) (bshr ((wN b i).getD ((16 + (i : Int)) - 15).toNat 0) 3)))) (b := ((wN b i).getD ((16 + (i : Int)) - 7).toNat 0)) (rfl)))) ?_
          refine .cons (fun E hA_ => by have g13 := hA_.get 13 (by decide); exact OpStep.plain rfl (Step.move (p := (.one (.d (.int .i64 (bxor (bxor (turnW ((wN b i).getD ((16 + (i : Int)) - 2).toNat 0) 17) (turnW ((wN b i).getD ((16 + (i : Int)) - 2).toNat 0) 19)) (bshr ((wN b i).getD ((16 + (i : Int)) - 2).toNat 0) 10)))))) (t := 122) rfl rfl (by exact lt_ok rfl) (show Env.ev E (.tmp 13) = _ from g13.trans rfl))) ?_
          refine .cons (fun E hA_ => by have g121 := hA_.get 121 (by decide); have g122 := hA_.get 122 (by decide); exact OpStep.plain rfl (Step.bin (r := .int .i64 (wadd (wadd (wadd ((wN b i).getD ((16 + (i : Int)) - 16).toNat 0) (bxor (bxor (turnW ((wN b i).getD ((16 + (i : Int)) - 15).toNat 0) 7) (turnW ((wN b i).getD ((16 + (i : Int)) - 15).toNat 0) 18)) (bshr ((wN b i).getD ((16 + (i : Int)) - 15).toNat 0) 3))) ((wN b i).getD ((16 + (i : Int)) - 7).toNat 0)) (bxor (bxor (turnW ((wN b i).getD ((16 + (i : Int)) - 2).toNat 0) 17) (turnW ((wN b i).getD ((16 + (i : Int)) - 2).toNat 0) 19)) (bshr ((wN b i).getD ((16 + (i : Int)) - 2).toNat 0) 10)))) (t := 123) rfl rfl (by exact lt_ok rfl) (show Env.ev E (.tmp 121) = _ from g121.trans rfl) (show Env.ev E (.tmp 122) = _ from g122.trans rfl) (Bin.add (k := .i64) (a := (wadd (wadd ((wN b i).getD ((16 + (i : Int)) - 16).toNat 0) (bxor (bxor (turnW ((wN b i).getD ((16 + (i : Int)) - 15).toNat 0) 7) (turnW ((wN b i).getD ((16 + (i : Int)) - 15).toNat 0) 18)) (bshr ((wN b i).getD ((16 + (i : Int)) - 15).toNat 0) 3))) ((wN b i).getD ((16 + (i : Int)) - 7).toNat 0))) (b := (bxor (bxor (turnW ((wN b i).getD ((16 + (i : Int)) - 2).toNat 0) 17) (turnW ((wN b i).getD ((16 + (i : Int)) - 2).toNat 0) 19)) (bshr ((wN b i).getD ((16 + (i : Int)) - 2).toNat 0) 10))) (rfl)))) ?_
          refine .cons (fun E hA_ => by have g123 := hA_.get 123 (by decide); exact OpStep.plain rfl (Step.bin (r := .int .i64 (band (wadd (wadd (wadd ((wN b i).getD ((16 + (i : Int)) - 16).toNat 0) (bxor (bxor (turnW ((wN b i).getD ((16 + (i : Int)) - 15).toNat 0) 7) (turnW ((wN b i).getD ((16 + (i : Int)) - 15).toNat 0) 18)) (bshr ((wN b i).getD ((16 + (i : Int)) - 15).toNat 0) 3))) ((wN b i).getD ((16 + (i : Int)) - 7).toNat 0)) (bxor (bxor (turnW ((wN b i).getD ((16 + (i : Int)) - 2).toNat 0) 17) (turnW ((wN b i).getD ((16 + (i : Int)) - 2).toNat 0) 19)) (bshr ((wN b i).getD ((16 + (i : Int)) - 2).toNat 0) 10))) 4294967295)) (t := 124) rfl rfl (by exact lt_ok rfl) (show Env.ev E (.tmp 123) = _ from g123.trans rfl) rfl (Bin.and (k := .i64) (a := (wadd (wadd (wadd ((wN b i).getD ((16 + (i : Int)) - 16).toNat 0) (bxor (bxor (turnW ((wN b i).getD ((16 + (i : Int)) - 15).toNat 0) 7) (turnW ((wN b i).getD ((16 + (i : Int)) - 15).toNat 0) 18)) (bshr ((wN b i).getD ((16 + (i : Int)) - 15).toNat 0) 3))) ((wN b i).getD ((16 + (i : Int)) - 7).toNat 0)) (bxor (bxor (turnW ((wN b i).getD ((16 + (i : Int)) - 2).toNat 0) 17) (turnW ((wN b i).getD ((16 + (i : Int)) - 2).toNat 0) 19)) (bshr ((wN b i).getD ((16 + (i : Int)) - 2).toNat 0) 10)))) (b := 4294967295) (rfl)))) ?_
          refine .cons (fun E hA_ => by have g124 := hA_.get 124 (by decide); exact OpStep.plain rfl (Step.lit_d (e := 3) (z := 1) (by_ := 8) (xs := [.tmp 124]) (pss := [[.d (.int .i64 (band (wadd (wadd (wadd ((wN b i).getD ((16 + (i : Int)) - 16).toNat 0) (bxor (bxor (turnW ((wN b i).getD ((16 + (i : Int)) - 15).toNat 0) 7) (turnW ((wN b i).getD ((16 + (i : Int)) - 15).toNat 0) 18)) (bshr ((wN b i).getD ((16 + (i : Int)) - 15).toNat 0) 3))) ((wN b i).getD ((16 + (i : Int)) - 7).toNat 0)) (bxor (bxor (turnW ((wN b i).getD ((16 + (i : Int)) - 2).toNat 0) 17) (turnW ((wN b i).getD ((16 + (i : Int)) - 2).toNat 0) 19)) (bshr ((wN b i).getD ((16 + (i : Int)) - 2).toNat 0) 10))) 4294967295))]]) (ds := [(.int .i64 (band (wadd (wadd (wadd ((wN b i).getD ((16 + (i : Int)) - 16).toNat 0) (bxor (bxor (turnW ((wN b i).getD ((16 + (i : Int)) - 15).toNat 0) 7) (turnW ((wN b i).getD ((16 + (i : Int)) - 15).toNat 0) 18)) (bshr ((wN b i).getD ((16 + (i : Int)) - 15).toNat 0) 3))) ((wN b i).getD ((16 + (i : Int)) - 7).toNat 0)) (bxor (bxor (turnW ((wN b i).getD ((16 + (i : Int)) - 2).toNat 0) 17) (turnW ((wN b i).getD ((16 + (i : Int)) - 2).toNat 0) 19)) (bshr ((wN b i).getD ((16 + (i : Int)) - 2).toNat 0) 10))) 4294967295))]) (d := (.ints .i64 [band (wadd (wadd (wadd ((wN b i).getD ((16 + (i : Int)) - 16).toNat 0) (bxor (bxor (turnW ((wN b i).getD ((16 + (i : Int)) - 15).toNat 0) 7) (turnW ((wN b i).getD ((16 + (i : Int)) - 15).toNat 0) 18)) (bshr ((wN b i).getD ((16 + (i : Int)) - 15).toNat 0) 3))) ((wN b i).getD ((16 + (i : Int)) - 7).toNat 0)) (bxor (bxor (turnW ((wN b i).getD ((16 + (i : Int)) - 2).toNat 0) 17) (turnW ((wN b i).getD ((16 + (i : Int)) - 2).toNat 0) 19)) (bshr ((wN b i).getD ((16 + (i : Int)) - 2).toNat 0) 10))) 4294967295])) (t := 125) rfl rfl (by exact lt_ok rfl) (by kernel_rfl) rfl rfl (.cons (by exact (congrArg PV.flat (show Env.ev E (.tmp 124) = _ from g124.trans rfl)).trans rfl) .nil) (by simp) (le_ok rfl) (le_ok rfl) rfl rfl trivial rfl rfl)) ?_
          exact .nil _ _
         refine TL.cons rfl (Step.append (e := 3) (z := 1) (by_ := 8) (d := (.ints .i64 (wN b i))) (dy := (.ints .i64 [band (wadd (wadd (wadd ((wN b i).getD ((16 + (i : Int)) - 16).toNat 0) (bxor (bxor (turnW ((wN b i).getD ((16 + (i : Int)) - 15).toNat 0) 7) (turnW ((wN b i).getD ((16 + (i : Int)) - 15).toNat 0) 18)) (bshr ((wN b i).getD ((16 + (i : Int)) - 15).toNat 0) 3))) ((wN b i).getD ((16 + (i : Int)) - 7).toNat 0)) (bxor (bxor (turnW ((wN b i).getD ((16 + (i : Int)) - 2).toNat 0) 17) (turnW ((wN b i).getD ((16 + (i : Int)) - 2).toNat 0) 19)) (bshr ((wN b i).getD ((16 + (i : Int)) - 2).toNat 0) 10))) 4294967295])) (d' := (.ints .i64 ((wN b i) ++ [band (wadd (wadd (wadd ((wN b i).getD ((16 + (i : Int)) - 16).toNat 0) (bxor (bxor (turnW ((wN b i).getD ((16 + (i : Int)) - 15).toNat 0) 7) (turnW ((wN b i).getD ((16 + (i : Int)) - 15).toNat 0) 18)) (bshr ((wN b i).getD ((16 + (i : Int)) - 15).toNat 0) 3))) ((wN b i).getD ((16 + (i : Int)) - 7).toNat 0)) (bxor (bxor (turnW ((wN b i).getD ((16 + (i : Int)) - 2).toNat 0) 17) (turnW ((wN b i).getD ((16 + (i : Int)) - 2).toNat 0) 19)) (bshr ((wN b i).getD ((16 + (i : Int)) - 2).toNat 0) 10))) 4294967295]))) (ss := []) rfl rfl (lt_ok rfl) (by kernel_rfl) rfl rfl rfl (lt_ok rfl) rfl (.froz rfl (by simp [D.flat, D.val])) (by simp) rfl (by simp only [D.size, List.length_map]; first | omega | (simp only [List.length_append, List.length_cons, List.length_nil]; omega) | (simp; omega) | (simp only [List.length_append] at *; omega)) (by simp only [D.size, List.length_map]; first | omega | (simp only [List.length_append, List.length_cons, List.length_nil]; omega) | (simp; omega) | (simp only [List.length_append] at *; omega)) (by simp)) ?_
         refine TL.cons rfl (Step.assign (p := (.one (.row 41 []))) rfl rfl (lt_ok rfl) rfl) ?_
         refine TL.nil ?_
         refine T.region ?_
         refine TL.cons rfl (Step.move (p := (.one (.d (.int .i64 (16 + (i : Int)))))) rfl rfl (lt_ok rfl) rfl) ?_
         refine TL.cons rfl (Step.bin (r := .int .i64 ((16 + (i : Int)) + 1)) rfl rfl (lt_ok rfl) rfl rfl (Bin.add (a := (16 + (i : Int))) (b := 1) (by first | exact wrap_ok (by first | omega | (simp; omega) | (simp [w16_len, wN_len]; omega)) (by first | omega | (simp; omega) | (simp [w16_len, wN_len]; omega)) | rfl))) ?_
         refine TL.cons rfl (Step.assign (p := (.one (.d (.int .i64 ((16 + (i : Int)) + 1))))) rfl rfl (lt_ok rfl) rfl) ?_
         refine TL.nil ?_
         refine ⟨i + 1, by omega, by first | omega | (dsimp only; omega), Env.le_mk ⟨rfl, ?_, rfl, trivial⟩ ⟨?_, trivial⟩ trivial⟩ <;> (first | exact congrArg (fun x => some (_, D.ints .i64 (w16 b x))) (show i = 16 by omega) | rfl | (refine congrArg (fun x => some (_, D.ints .i64 x)) ?_; first | rfl | fail) | (refine congrArg (fun n => PV.one (.d (.int .i64 n))) ?_; first | rfl | omega | (simp; done)))
        ·
         replace h7 := of_decide_eq_false h7
         refine T.exit ?_
         refine T.seq ?_
         refine T.region ?_
         refine TL.cons rfl (Step.call (f := 119) (xs := []) (ps := []) false (g := .func 119) rfl rfl (lt_ok rfl) rfl (by kernel_rfl) rfl .nil (ok_spec_l04K ) (.inr rfl) rfl (by simp) rfl) ?_
         refine TL.cons rfl (Step.assign (p := (.one (.row 1127 []))) rfl rfl (lt_ok rfl) rfl) ?_
         refine TL.nil ?_
         refine T.seq ?_
         refine T.region ?_
         refine TL.cons rfl (Step.lit (e := 3) (z := 1) (by_ := 8) (xs := []) (pss := []) (es := []) (ss := []) (d := (.ints .i64 [])) rfl rfl (lt_ok rfl) (by kernel_rfl) rfl rfl .nil (by simp) (le_ok rfl) (le_ok rfl) rfl .nil rfl (by simp) (by simp) rfl trivial rfl rfl) ?_
         refine TL.cons rfl (Step.move (p := (.one (.d (.ints .i64 h)))) rfl rfl (lt_ok rfl) rfl) ?_
         refine TL.cons rfl (Step.append (e := 3) (z := 1) (by_ := 8) (d := (.ints .i64 [])) (dy := (.ints .i64 h)) (d' := (.ints .i64 ([] ++ h))) (ss := []) rfl rfl (lt_ok rfl) (by kernel_rfl) rfl rfl rfl (lt_ok rfl) rfl (.froz rfl (by simp [D.flat, D.val])) (by simp) rfl (by simp only [D.size, List.length_map]; first | omega | (simp only [List.length_append, List.length_cons, List.length_nil]; omega) | (simp; omega) | (simp only [List.length_append] at *; omega)) (by simp only [D.size, List.length_map]; first | omega | (simp only [List.length_append, List.length_cons, List.length_nil]; omega) | (simp; omega) | (simp only [List.length_append] at *; omega)) (by simp)) ?_
         refine TL.cons rfl (Step.assign (p := (.one (.row 128 []))) rfl rfl (lt_ok rfl) rfl) ?_
         refine TL.nil ?_
         refine T.seq ?_
         refine T.seq ?_
         refine T.region ?_
         refine TL.freeze (r := 128) rfl (fun _ h => h) ?_
         refine TL.cons rfl (Step.assign (p := (.one (.d (.int .i64 0)))) rfl rfl (lt_ok rfl) rfl) ?_
         refine TL.nil ?_
         refine T.block ?_
         refine T.loop (ι := Nat) (fun xx_ => { tm := [(0, (.one (.d (.ints .i64 h)))), (7, (.one (.row 41 []))), (14, (.one (.row 1127 []))), (16, (.one (.d (.int .i64 (xx_ : Int))))), (15, (.one (.d (.ints .i64 (vN h (wN b 48) xx_)))))], rows := [(41, (3, (.ints .i64 (wN b 48)))), (1127, (3, (.ints .i64 shaK)))], boxes := [] }) (fun xx_ => xx_ ≤ 64) (fun xx_ => 64 - xx_) 0 ?_ ?_ ?_
         · refine Env.le_mk ⟨rfl, rfl, rfl, ?_, ?_, trivial⟩ ⟨?_, rfl, trivial⟩ trivial <;> (first | exact congrArg (fun x => some (_, D.ints .i64 (wN b x))) (show i = 48 by omega) | rfl | (refine congrArg (fun x => some (_, D.ints .i64 x)) ?_; first | rfl | fail) | (refine congrArg (fun n => PV.one (.d (.int .i64 n))) ?_; first | rfl | omega | (simp; done)))
         · exact Nat.zero_le _
         ·
          intro i hx
          try dsimp only at hx ⊢
          have hl_ := wN_len b 48
          have hvl_ := vN_len (h := h) (w := wN b 48) (by omega) i
          have hkl_ : shaK.length = 64 := rfl
          refine T.seq ?_
          refine T.seq ?_
          refine T.region ?_
          refine TL.cons rfl (Step.move (p := (.one (.d (.int .i64 (i : Int))))) rfl rfl (lt_ok rfl) rfl) ?_
          refine TL.cons rfl (Step.bin rfl rfl (lt_ok rfl) rfl rfl (Bin.lss (k := .i64) (a := (i : Int)) (b := 64))) ?_
          refine TL.nil ?_
          refine T.cond (b := decide ((i : Int) < 64)) rfl (fun h8 => ?_) (fun h8 => ?_)
          ·
           replace h8 := of_decide_eq_true h8
           refine T.skip ?_
           refine T.seq ?_
           refine T.block ?_
           refine T.seq ?_
           refine T.region ?_
           refine TL.cons rfl (Step.move (p := (.one (.d (.ints .i64 (vN h (wN b 48) i))))) rfl rfl (lt_ok rfl) rfl) ?_
           refine TL.cons rfl (Step.index (e := 3) (z := 1) (i := 4) rfl rfl (lt_ok rfl) (by kernel_rfl) rfl rfl rfl (lt_ok rfl) rfl (by first | omega | (simp; omega) | (simp [w16_len, wN_len]; omega)) (by simp only [D.size]; first | omega | (simp; omega) | (simp [w16_len, wN_len]; omega))) ?_
           refine TL.cons rfl (Step.load (e := (.int .i64 ((vN h (wN b 48) i).getD 4 0))) rfl rfl (lt_ok rfl) (by kernel_rfl) rfl rfl) ?_
           refine TL.cons rfl (Step.assign (p := (.one (.d (.int .i64 ((vN h (wN b 48) i).getD 4 0))))) rfl rfl (lt_ok rfl) rfl) ?_
           refine TL.nil ?_
           refine T.seq ?_
           refine T.region ?_
           refine TL.cons rfl (Step.move (p := (.one (.d (.ints .i64 (vN h (wN b 48) i))))) rfl rfl (lt_ok rfl) rfl) ?_
           refine TL.cons rfl (Step.index (e := 3) (z := 1) (i := 0) rfl rfl (lt_ok rfl) (by kernel_rfl) rfl rfl rfl (lt_ok rfl) rfl (by first | omega | (simp; omega) | (simp [w16_len, wN_len]; omega)) (by simp only [D.size]; first | omega | (simp; omega) | (simp [w16_len, wN_len]; omega))) ?_
           refine TL.cons rfl (Step.load (e := (.int .i64 ((vN h (wN b 48) i).getD 0 0))) rfl rfl (lt_ok rfl) (by kernel_rfl) rfl rfl) ?_
           refine TL.cons rfl (Step.assign (p := (.one (.d (.int .i64 ((vN h (wN b 48) i).getD 0 0))))) rfl rfl (lt_ok rfl) rfl) ?_
           refine TL.nil ?_
           refine T.seq ?_
           refine T.draw [⟨141, (.one (.d (.ints .i64 (vN h (wN b 48) i)))), []⟩, ⟨142, (.one (.eptr (.ints .i64 (vN h (wN b 48) i)) 7 0)), []⟩, ⟨143, (.one (.d (.int .i64 ((vN h (wN b 48) i).getD 7 0)))), []⟩, ⟨144, (.one (.d (.int .i64 ((vN h (wN b 48) i).getD 4 0)))), []⟩, ⟨145, (.one (.d (.int .i64 (turnW ((vN h (wN b 48) i).getD 4 0) 6)))), []⟩, ⟨146, (.one (.d (.int .i64 ((vN h (wN b 48) i).getD 4 0)))), []⟩, ⟨147, (.one (.d (.int .i64 (turnW ((vN h (wN b 48) i).getD 4 0) 11)))), []⟩, ⟨148, (.one (.d (.int .i64 (bxor (turnW ((vN h (wN b 48) i).getD 4 0) 6) (turnW ((vN h (wN b 48) i).getD 4 0) 11))))), []⟩, ⟨149, (.one (.d (.int .i64 ((vN h (wN b 48) i).getD 4 0)))), []⟩, ⟨150, (.one (.d (.int .i64 (turnW ((vN h (wN b 48) i).getD 4 0) 25)))), []⟩, ⟨151, (.one (.d (.int .i64 (bxor (bxor (turnW ((vN h (wN b 48) i).getD 4 0) 6) (turnW ((vN h (wN b 48) i).getD 4 0) 11)) (turnW ((vN h (wN b 48) i).getD 4 0) 25))))), []⟩, ⟨152, (.one (.d (.int .i64 (wadd ((vN h (wN b 48) i).getD 7 0) (bxor (bxor (turnW ((vN h (wN b 48) i).getD 4 0) 6) (turnW ((vN h (wN b 48) i).getD 4 0) 11)) (turnW ((vN h (wN b 48) i).getD 4 0) 25)))))), []⟩, ⟨153, (.one (.d (.int .i64 ((vN h (wN b 48) i).getD 4 0)))), []⟩, ⟨154, (.one (.d (.ints .i64 (vN h (wN b 48) i)))), []⟩, ⟨155, (.one (.eptr (.ints .i64 (vN h (wN b 48) i)) 5 0)), []⟩, ⟨156, (.one (.d (.int .i64 ((vN h (wN b 48) i).getD 5 0)))), []⟩, ⟨157, (.one (.d (.int .i64 (band ((vN h (wN b 48) i).getD 4 0) ((vN h (wN b 48) i).getD 5 0))))), []⟩, ⟨158, (.one (.d (.int .i64 ((vN h (wN b 48) i).getD 4 0)))), []⟩, ⟨159, (.one (.d (.int .i64 (bxor 4294967295 ((vN h (wN b 48) i).getD 4 0))))), []⟩, ⟨160, (.one (.d (.ints .i64 (vN h (wN b 48) i)))), []⟩, ⟨161, (.one (.eptr (.ints .i64 (vN h (wN b 48) i)) 6 0)), []⟩, ⟨162, (.one (.d (.int .i64 ((vN h (wN b 48) i).getD 6 0)))), []⟩, ⟨163, (.one (.d (.int .i64 (band (bxor 4294967295 ((vN h (wN b 48) i).getD 4 0)) ((vN h (wN b 48) i).getD 6 0))))), []⟩, ⟨164, (.one (.d (.int .i64 (bxor (band ((vN h (wN b 48) i).getD 4 0) ((vN h (wN b 48) i).getD 5 0)) (band (bxor 4294967295 ((vN h (wN b 48) i).getD 4 0)) ((vN h (wN b 48) i).getD 6 0)))))), []⟩, ⟨165, (.one (.d (.int .i64 (wadd (wadd ((vN h (wN b 48) i).getD 7 0) (bxor (bxor (turnW ((vN h (wN b 48) i).getD 4 0) 6) (turnW ((vN h (wN b 48) i).getD 4 0) 11)) (turnW ((vN h (wN b 48) i).getD 4 0) 25))) (bxor (band ((vN h (wN b 48) i).getD 4 0) ((vN h (wN b 48) i).getD 5 0)) (band (bxor 4294967295 ((vN h (wN b 48) i).getD 4 0)) ((vN h (wN b 48) i).getD 6 0))))))), []⟩, ⟨166, (.one (.row 1127 [])), []⟩, ⟨167, (.one (.d (.int .i64 (i : Int)))), []⟩, ⟨168, (.one (.rptr 1127 [] i 0)), []⟩, ⟨169, (.one (.d (.int .i64 (shaK.getD i 0)))), []⟩, ⟨170, (.one (.d (.int .i64 (wadd (wadd (wadd ((vN h (wN b 48) i).getD 7 0) (bxor (bxor (turnW ((vN h (wN b 48) i).getD 4 0) 6) (turnW ((vN h (wN b 48) i).getD 4 0) 11)) (turnW ((vN h (wN b 48) i).getD 4 0) 25))) (bxor (band ((vN h (wN b 48) i).getD 4 0) ((vN h (wN b 48) i).getD 5 0)) (band (bxor 4294967295 ((vN h (wN b 48) i).getD 4 0)) ((vN h (wN b 48) i).getD 6 0)))) (shaK.getD i 0))))), []⟩, ⟨171, (.one (.row 41 [])), []⟩, ⟨172, (.one (.d (.int .i64 (i : Int)))), []⟩, ⟨173, (.one (.rptr 41 [] i 0)), []⟩, ⟨174, (.one (.d (.int .i64 ((wN b 48).getD i 0)))), []⟩, ⟨175, (.one (.d (.int .i64 (wadd (wadd (wadd (wadd ((vN h (wN b 48) i).getD 7 0) (bxor (bxor (turnW ((vN h (wN b 48) i).getD 4 0) 6) (turnW ((vN h (wN b 48) i).getD 4 0) 11)) (turnW ((vN h (wN b 48) i).getD 4 0) 25))) (bxor (band ((vN h (wN b 48) i).getD 4 0) ((vN h (wN b 48) i).getD 5 0)) (band (bxor 4294967295 ((vN h (wN b 48) i).getD 4 0)) ((vN h (wN b 48) i).getD 6 0)))) (shaK.getD i 0)) ((wN b 48).getD i 0))))), []⟩, ⟨19, (.one (.d (.int .i64 (wadd (wadd (wadd (wadd ((vN h (wN b 48) i).getD 7 0) (bxor (bxor (turnW ((vN h (wN b 48) i).getD 4 0) 6) (turnW ((vN h (wN b 48) i).getD 4 0) 11)) (turnW ((vN h (wN b 48) i).getD 4 0) 25))) (bxor (band ((vN h (wN b 48) i).getD 4 0) ((vN h (wN b 48) i).getD 5 0)) (band (bxor 4294967295 ((vN h (wN b 48) i).getD 4 0)) ((vN h (wN b 48) i).getD 6 0)))) (shaK.getD i 0)) ((wN b 48).getD i 0))))), []⟩] (by kernel_rfl) (by kernel_rfl) ?_ ?_
           ·
            refine .cons (fun E hA_ => by have g15 := hA_.get 15 (by decide); exact OpStep.plain rfl (Step.move (p := (.one (.d (.ints .i64 (vN h (wN b 48) i))))) (t := 141) rfl rfl (by exact lt_ok rfl) (show Env.ev E (.tmp 15) = _ from g15.trans rfl))) ?_
            refine .cons (fun E hA_ => by have g141 := hA_.get 141 (by decide); exact OpStep.plain rfl (Step.index (e := 3) (z := 1) (i := 7) (t := 142) rfl rfl (by exact lt_ok rfl) (by kernel_rfl) (show Env.ev E (.tmp 141) = _ from g141.trans rfl) rfl rfl (lt_ok rfl) rfl (by first | omega | (simp; omega) | (simp [w16_len, wN_len]; omega)) (by simp only [D.size]; first | omega | (simp; omega) | (simp [w16_len, wN_len]; omega)))) ?_
            refine .cons (fun E hA_ => by have g142 := hA_.get 142 (by decide); exact OpStep.plain rfl (Step.load (e := (.int .i64 ((vN h (wN b 48) i).getD 7 0))) (t := 143) rfl rfl (by exact lt_ok rfl) (by kernel_rfl) (show Env.ev E (.tmp 142) = _ from g142.trans rfl) rfl)) ?_
            refine .cons (fun E hA_ => by have g17 := hA_.get 17 (by decide); exact OpStep.plain rfl (Step.move (p := (.one (.d (.int .i64 ((vN h (wN b 48) i).getD 4 0))))) (t := 144) rfl rfl (by exact lt_ok rfl) (show Env.ev E (.tmp 17) = _ from g17.trans rfl))) ?_
            refine .cons (fun E hA_ => by have g144 := hA_.get 144 (by decide); exact OpStep.plain rfl (Step.call (f := 118) (xs := [.tmp 144, .const (.int .i64 6)]) (ps := [(.one (.d (.int .i64 ((vN h (wN b 48) i).getD 4 0)))), (.one (.d (.int .i64 6)))]) false (g := .func 118) (t := 145) rfl rfl (by exact lt_ok rfl) rfl (by kernel_rfl) (evs_cons (show Env.ev E (.tmp 144) = _ from g144.trans rfl) (evs_cons rfl (rfl))) (.cons (.one (.d _)) (.cons (.one (.d _)) .nil)) (ok_spec_l04Turn ((vN h (wN b 48) i).getD 4 0) 6 (by first | omega | decide)) (.inr rfl) (At.freshRows hA_ rfl) (by simp) rfl)) ?_
            refine .cons (fun E hA_ => by have g17 := hA_.get 17 (by decide); exact OpStep.plain rfl (Step.move (p := (.one (.d (.int .i64 ((vN h (wN b 48) i).getD 4 0))))) (t := 146) rfl rfl (by exact lt_ok rfl) (show Env.ev E (.tmp 17) = _ from g17.trans rfl))) ?_
            refine .cons (fun E hA_ => by have g146 := hA_.get 146 (by decide); exact OpStep.plain rfl (Step.call (f := 118) (xs := [.tmp 146, .const (.int .i64 11)]) (ps := [(.one (.d (.int .i64 ((vN h (wN b 48) i).getD 4 0)))), (.one (.d (.int .i64 11)))]) false (g := .func 118) (t := 147) rfl rfl (by exact lt_ok rfl) rfl (by kernel_rfl) (evs_cons (show Env.ev E (.tmp 146) = _ from g146.trans rfl) (evs_cons rfl (rfl))) (.cons (.one (.d _)) (.cons (.one (.d _)) .nil)) (ok_spec_l04Turn ((vN h (wN b 48) i).getD 4 0) 11 (by first | omega | decide)) (.inr rfl) (At.freshRows hA_ rfl) (by simp) rfl)) ?_
            refine .cons (fun E hA_ => by have g145 := hA_.get 145 (by decide); have g147 := hA_.get 147 (by decide); exact OpStep.plain rfl (Step.bin (r := .int .i64 (bxor (turnW ((vN h (wN b 48) i).getD 4 0) 6) (turnW ((vN h (wN b 48) i).getD 4 0) 11))) (t := 148) rfl rfl (by exact lt_ok rfl) (show Env.ev E (.tmp 145) = _ from g145.trans rfl) (show Env.ev E (.tmp 147) = _ from g147.trans rfl) (Bin.xor (k := .i64) (a := (turnW ((vN h (wN b 48) i).getD 4 0) 6)) (b := (turnW ((vN h (wN b 48) i).getD 4 0) 11)) (rfl)))) ?_
            refine .cons (fun E hA_ => by have g17 := hA_.get 17 (by decide); exact OpStep.plain rfl (Step.move (p := (.one (.d (.int .i64 ((vN h (wN b 48) i).getD 4 0))))) (t := 149) rfl rfl (by exact lt_ok rfl) (show Env.ev E (.tmp 17) = _ from g17.trans rfl))) ?_
            refine .cons (fun E hA_ => by have g149 := hA_.get 149 (by decide); exact OpStep.plain rfl (Step.call (f := 118) (xs := [.tmp 149, .const (.int .i64 25)]) (ps := [(.one (.d (.int .i64 ((vN h (wN b 48) i).getD 4 0)))), (.one (.d (.int .i64 25)))]) false (g := .func 118) (t := 150) rfl rfl (by exact lt_ok rfl) rfl (by kernel_rfl) (evs_cons (show Env.ev E (.tmp 149) = _ from g149.trans rfl) (evs_cons rfl (rfl))) (.cons (.one (.d _)) (.cons (.one (.d _)) .nil)) (ok_spec_l04Turn ((vN h (wN b 48) i).getD 4 0) 25 (by first | omega | decide)) (.inr rfl) (At.freshRows hA_ rfl) (by simp) rfl)) ?_
            refine .cons (fun E hA_ => by have g148 := hA_.get 148 (by decide); have g150 := hA_.get 150 (by decide); exact OpStep.plain rfl (Step.bin (r := .int .i64 (bxor (bxor (turnW ((vN h (wN b 48) i).getD 4 0) 6) (turnW ((vN h (wN b 48) i).getD 4 0) 11)) (turnW ((vN h (wN b 48) i).getD 4 0) 25))) (t := 151) rfl rfl (by exact lt_ok rfl) (show Env.ev E (.tmp 148) = _ from g148.trans rfl) (show Env.ev E (.tmp 150) = _ from g150.trans rfl) (Bin.xor (k := .i64) (a := (bxor (turnW ((vN h (wN b 48) i).getD 4 0) 6) (turnW ((vN h (wN b 48) i).getD 4 0) 11))) (b := (turnW ((vN h (wN b 48) i).getD 4 0) 25)) (rfl)))) ?_
            refine .cons (fun E hA_ => by have g143 := hA_.get 143 (by decide); have g151 := hA_.get 151 (by decide); exact OpStep.plain rfl (Step.bin (r := .int .i64 (wadd ((vN h (wN b 48) i).getD 7 0) (bxor (bxor (turnW ((vN h (wN b 48) i).getD 4 0) 6) (turnW ((vN h (wN b 48) i).getD 4 0) 11)) (turnW ((vN h (wN b 48) i).getD 4 0) 25)))) (t := 152) rfl rfl (by exact lt_ok rfl) (show Env.ev E (.tmp 143) = _ from g143.trans rfl) (show Env.ev E (.tmp 151) = _ from g151.trans rfl) (Bin.add (k := .i64) (a := ((vN h (wN b 48) i).getD 7 0)) (b := (bxor (bxor (turnW ((vN h (wN b 48) i).getD 4 0) 6) (turnW ((vN h (wN b 48) i).getD 4 0) 11)) (turnW ((vN h (wN b 48) i).getD 4 0) 25))) (rfl)))) ?_
            refine .cons (fun E hA_ => by have g17 := hA_.get 17 (by decide); exact OpStep.plain rfl (Step.move (p := (.one (.d (.int .i64 ((vN h (wN b 48) i).getD 4 0))))) (t := 153) rfl rfl (by exact lt_ok rfl) (show Env.ev E (.tmp 17) = _ from g17.trans rfl))) ?_
            refine .cons (fun E hA_ => by have g15 := hA_.get 15 (by decide); exact OpStep.plain rfl (Step.move (p := (.one (.d (.ints .i64 (vN h (wN b 48) i))))) (t := 154) rfl rfl (by exact lt_ok rfl) (show Env.ev E (.tmp 15) = _ from g15.trans rfl))) ?_
            refine .cons (fun E hA_ => by have g154 := hA_.get 154 (by decide); exact OpStep.plain rfl (Step.index (e := 3) (z := 1) (i := 5) (t := 155) rfl rfl (by exact lt_ok rfl) (by kernel_rfl) (show Env.ev E (.tmp 154) = _ from g154.trans rfl) rfl rfl (lt_ok rfl) rfl (by first | omega | (simp; omega) | (simp [w16_len, wN_len]; omega)) (by simp only [D.size]; first | omega | (simp; omega) | (simp [w16_len, wN_len]; omega)))) ?_
            refine .cons (fun E hA_ => by have g155 := hA_.get 155 (by decide); exact OpStep.plain rfl (Step.load (e := (.int .i64 ((vN h (wN b 48) i).getD 5 0))) (t := 156) rfl rfl (by exact lt_ok rfl) (by kernel_rfl) (show Env.ev E (.tmp 155) = _ from g155.trans rfl) rfl)) ?_
            refine .cons (fun E hA_ => by have g153 := hA_.get 153 (by decide); have g156 := hA_.get 156 (by decide); exact OpStep.plain rfl (Step.bin (r := .int .i64 (band ((vN h (wN b 48) i).getD 4 0) ((vN h (wN b 48) i).getD 5 0))) (t := 157) rfl rfl (by exact lt_ok rfl) (show Env.ev E (.tmp 153) = _ from g153.trans rfl) (show Env.ev E (.tmp 156) = _ from g156.trans rfl) (Bin.and (k := .i64) (a := ((vN h (wN b 48) i).getD 4 0)) (b := ((vN h (wN b 48) i).getD 5 0)) (rfl)))) ?_
            refine .cons (fun E hA_ => by have g17 := hA_.get 17 (by decide); exact OpStep.plain rfl (Step.move (p := (.one (.d (.int .i64 ((vN h (wN b 48) i).getD 4 0))))) (t := 158) rfl rfl (by exact lt_ok rfl) (show Env.ev E (.tmp 17) = _ from g17.trans rfl))) ?_
            refine .cons (fun E hA_ => by have g158 := hA_.get 158 (by decide); exact OpStep.plain rfl (Step.bin (r := .int .i64 (bxor 4294967295 ((vN h (wN b 48) i).getD 4 0))) (t := 159) rfl rfl (by exact lt_ok rfl) rfl (show Env.ev E (.tmp 158) = _ from g158.trans rfl) (Bin.xor (k := .i64) (a := 4294967295) (b := ((vN h (wN b 48) i).getD 4 0)) (rfl)))) ?_
            refine .cons (fun E hA_ => by have g15 := hA_.get 15 (by decide); exact OpStep.plain rfl (Step.move (p := (.one (.d (.ints .i64 (vN h (wN b 48) i))))) (t := 160) rfl rfl (by exact lt_ok rfl) (show Env.ev E (.tmp 15) = _ from g15.trans rfl))) ?_
            refine .cons (fun E hA_ => by have g160 := hA_.get 160 (by decide); exact OpStep.plain rfl (Step.index (e := 3) (z := 1) (i := 6) (t := 161) rfl rfl (by exact lt_ok rfl) (by kernel_rfl) (show Env.ev E (.tmp 160) = _ from g160.trans rfl) rfl rfl (lt_ok rfl) rfl (by first | omega | (simp; omega) | (simp [w16_len, wN_len]; omega)) (by simp only [D.size]; first | omega | (simp; omega) | (simp [w16_len, wN_len]; omega)))) ?_
            refine .cons (fun E hA_ => by have g161 := hA_.get 161 (by decide); exact OpStep.plain rfl (Step.load (e := (.int .i64 ((vN h (wN b 48) i).getD 6 0))) (t := 162) rfl rfl (by exact lt_ok rfl) (by kernel_rfl) (show Env.ev E (.tmp 161) = _ from g161.trans rfl) rfl)) ?_
            refine .cons (fun E hA_ => by have g159 := hA_.get 159 (by decide); have g162 := hA_.get 162 (by decide); exact OpStep.plain rfl (Step.bin (r := .int .i64 (band (bxor 4294967295 ((vN h (wN b 48) i).getD 4 0)) ((vN h (wN b 48) i).getD 6 0))) (t := 163) rfl rfl (by exact lt_ok rfl) (show Env.ev E (.tmp 159) = _ from g159.trans rfl) (show Env.ev E (.tmp 162) = _ from g162.trans rfl) (Bin.and (k := .i64) (a := (bxor 4294967295 ((vN h (wN b 48) i).getD 4 0))) (b := ((vN h (wN b 48) i).getD 6 0)) (rfl)))) ?_
            refine .cons (fun E hA_ => by have g157 := hA_.get 157 (by decide); have g163 := hA_.get 163 (by decide); exact OpStep.plain rfl (Step.bin (r := .int .i64 (bxor (band ((vN h (wN b 48) i).getD 4 0) ((vN h (wN b 48) i).getD 5 0)) (band (bxor 4294967295 ((vN h (wN b 48) i).getD 4 0)) ((vN h (wN b 48) i).getD 6 0)))) (t := 164) rfl rfl (by exact lt_ok rfl) (show Env.ev E (.tmp 157) = _ from g157.trans rfl) (show Env.ev E (.tmp 163) = _ from g163.trans rfl) (Bin.xor (k := .i64) (a := (band ((vN h (wN b 48) i).getD 4 0) ((vN h (wN b 48) i).getD 5 0))) (b := (band (bxor 4294967295 ((vN h (wN b 48) i).getD 4 0)) ((vN h (wN b 48) i).getD 6 0))) (rfl)))) ?_
            refine .cons (fun E hA_ => by have g152 := hA_.get 152 (by decide); have g164 := hA_.get 164 (by decide); exact OpStep.plain rfl (Step.bin (r := .int .i64 (wadd (wadd ((vN h (wN b 48) i).getD 7 0) (bxor (bxor (turnW ((vN h (wN b 48) i).getD 4 0) 6) (turnW ((vN h (wN b 48) i).getD 4 0) 11)) (turnW ((vN h (wN b 48) i).getD 4 0) 25))) (bxor (band ((vN h (wN b 48) i).getD 4 0) ((vN h (wN b 48) i).getD 5 0)) (band (bxor 4294967295 ((vN h (wN b 48) i).getD 4 0)) ((vN h (wN b 48) i).getD 6 0))))) (t := 165) rfl rfl (by exact lt_ok rfl) (show Env.ev E (.tmp 152) = _ from g152.trans rfl) (show Env.ev E (.tmp 164) = _ from g164.trans rfl) (Bin.add (k := .i64) (a := (wadd ((vN h (wN b 48) i).getD 7 0) (bxor (bxor (turnW ((vN h (wN b 48) i).getD 4 0) 6) (turnW ((vN h (wN b 48) i).getD 4 0) 11)) (turnW ((vN h (wN b 48) i).getD 4 0) 25)))) (b := (bxor (band ((vN h (wN b 48) i).getD 4 0) ((vN h (wN b 48) i).getD 5 0)) (band (bxor 4294967295 ((vN h (wN b 48) i).getD 4 0)) ((vN h (wN b 48) i).getD 6 0)))) (rfl)))) ?_
            refine .cons (fun E hA_ => by have g14 := hA_.get 14 (by decide); exact OpStep.plain rfl (Step.move (p := (.one (.row 1127 []))) (t := 166) rfl rfl (by exact lt_ok rfl) (show Env.ev E (.tmp 14) = _ from g14.trans rfl))) ?_
            refine .cons (fun E hA_ => by have g16 := hA_.get 16 (by decide); exact OpStep.plain rfl (Step.move (p := (.one (.d (.int .i64 (i : Int))))) (t := 167) rfl rfl (by exact lt_ok rfl) (show Env.ev E (.tmp 16) = _ from g16.trans rfl))) ?_
            refine .cons (fun E hA_ => by have g166 := hA_.get 166 (by decide); have g167 := hA_.get 167 (by decide); exact OpStep.plain rfl (Step.index_row (e := 3) (z := 1) (i := (i : Int)) (t := 168) rfl rfl (by exact lt_ok rfl) (by kernel_rfl) (show Env.ev E (.tmp 166) = _ from g166.trans rfl) (by exact (hA_.row 1127 (by kernel_rfl)).trans rfl) rfl rfl (lt_ok rfl) (show Env.ev E (.tmp 167) = _ from g167.trans rfl) (by first | omega | (simp; omega) | (simp [w16_len, wN_len]; omega)) (by simp only [D.at_, D.cell, D.size]; first | omega | (simp; omega) | (simp [w16_len, wN_len]; omega)))) ?_
            refine .cons (fun E hA_ => by have g168 := hA_.get 168 (by decide); exact OpStep.plain rfl (Step.load_row (c := .d (.int .i64 (shaK.getD i 0))) (t := 169) rfl rfl (by exact lt_ok rfl) (by kernel_rfl) (show Env.ev E (.tmp 168) = _ from g168.trans rfl) (by exact (hA_.row 1127 (by kernel_rfl)).trans rfl) rfl)) ?_
            refine .cons (fun E hA_ => by have g165 := hA_.get 165 (by decide); have g169 := hA_.get 169 (by decide); exact OpStep.plain rfl (Step.bin (r := .int .i64 (wadd (wadd (wadd ((vN h (wN b 48) i).getD 7 0) (bxor (bxor (turnW ((vN h (wN b 48) i).getD 4 0) 6) (turnW ((vN h (wN b 48) i).getD 4 0) 11)) (turnW ((vN h (wN b 48) i).getD 4 0) 25))) (bxor (band ((vN h (wN b 48) i).getD 4 0) ((vN h (wN b 48) i).getD 5 0)) (band (bxor 4294967295 ((vN h (wN b 48) i).getD 4 0)) ((vN h (wN b 48) i).getD 6 0)))) (shaK.getD i 0))) (t := 170) rfl rfl (by exact lt_ok rfl) (show Env.ev E (.tmp 165) = _ from g165.trans rfl) (show Env.ev E (.tmp 169) = _ from g169.trans rfl) (Bin.add (k := .i64) (a := (wadd (wadd ((vN h (wN b 48) i).getD 7 0) (bxor (bxor (turnW ((vN h (wN b 48) i).getD 4 0) 6) (turnW ((vN h (wN b 48) i).getD 4 0) 11)) (turnW ((vN h (wN b 48) i).getD 4 0) 25))) (bxor (band ((vN h (wN b 48) i).getD 4 0) ((vN h (wN b 48) i).getD 5 0)) (band (bxor 4294967295 ((vN h (wN b 48) i).getD 4 0)) ((vN h (wN b 48) i).getD 6 0))))) (b := (shaK.getD i 0)) (rfl)))) ?_
            refine .cons (fun E hA_ => by have g7 := hA_.get 7 (by decide); exact OpStep.plain rfl (Step.move (p := (.one (.row 41 []))) (t := 171) rfl rfl (by exact lt_ok rfl) (show Env.ev E (.tmp 7) = _ from g7.trans rfl))) ?_
            refine .cons (fun E hA_ => by have g16 := hA_.get 16 (by decide); exact OpStep.plain rfl (Step.move (p := (.one (.d (.int .i64 (i : Int))))) (t := 172) rfl rfl (by exact lt_ok rfl) (show Env.ev E (.tmp 16) = _ from g16.trans rfl))) ?_
            refine .cons (fun E hA_ => by have g171 := hA_.get 171 (by decide); have g172 := hA_.get 172 (by decide); exact OpStep.plain rfl (Step.index_row (e := 3) (z := 1) (i := (i : Int)) (t := 173) rfl rfl (by exact lt_ok rfl) (by kernel_rfl) (show Env.ev E (.tmp 171) = _ from g171.trans rfl) (by exact (hA_.row 41 (by kernel_rfl)).trans rfl) rfl rfl (lt_ok rfl) (show Env.ev E (.tmp 172) = _ from g172.trans rfl) (by first | omega | (simp; omega) | (simp [w16_len, wN_len]; omega)) (by simp only [D.at_, D.cell, D.size]; first | omega | (simp; omega) | (simp [w16_len, wN_len]; omega)))) ?_
            refine .cons (fun E hA_ => by have g173 := hA_.get 173 (by decide); exact OpStep.plain rfl (Step.load_row (c := .d (.int .i64 ((wN b 48).getD i 0))) (t := 174) rfl rfl (by exact lt_ok rfl) (by kernel_rfl) (show Env.ev E (.tmp 173) = _ from g173.trans rfl) (by exact (hA_.row 41 (by kernel_rfl)).trans rfl) rfl)) ?_
            refine .cons (fun E hA_ => by have g170 := hA_.get 170 (by decide); have g174 := hA_.get 174 (by decide); exact OpStep.plain rfl (Step.bin (r := .int .i64 (wadd (wadd (wadd (wadd ((vN h (wN b 48) i).getD 7 0) (bxor (bxor (turnW ((vN h (wN b 48) i).getD 4 0) 6) (turnW ((vN h (wN b 48) i).getD 4 0) 11)) (turnW ((vN h (wN b 48) i).getD 4 0) 25))) (bxor (band ((vN h (wN b 48) i).getD 4 0) ((vN h (wN b 48) i).getD 5 0)) (band (bxor 4294967295 ((vN h (wN b 48) i).getD 4 0)) ((vN h (wN b 48) i).getD 6 0)))) (shaK.getD i 0)) ((wN b 48).getD i 0))) (t := 175) rfl rfl (by exact lt_ok rfl) (show Env.ev E (.tmp 170) = _ from g170.trans rfl) (show Env.ev E (.tmp 174) = _ from g174.trans rfl) (Bin.add (k := .i64) (a := (wadd (wadd (wadd ((vN h (wN b 48) i).getD 7 0) (bxor (bxor (turnW ((vN h (wN b 48) i).getD 4 0) 6) (turnW ((vN h (wN b 48) i).getD 4 0) 11)) (turnW ((vN h (wN b 48) i).getD 4 0) 25))) (bxor (band ((vN h (wN b 48) i).getD 4 0) ((vN h (wN b 48) i).getD 5 0)) (band (bxor 4294967295 ((vN h (wN b 48) i).getD 4 0)) ((vN h (wN b 48) i).getD 6 0)))) (shaK.getD i 0))) (b := ((wN b 48).getD i 0)) (rfl)))) ?_
            refine .cons (fun E hA_ => by have g175 := hA_.get 175 (by decide); exact OpStep.plain rfl (Step.assign (p := (.one (.d (.int .i64 (wadd (wadd (wadd (wadd ((vN h (wN b 48) i).getD 7 0) (bxor (bxor (turnW ((vN h (wN b 48) i).getD 4 0) 6) (turnW ((vN h (wN b 48) i).getD 4 0) 11)) (turnW ((vN h (wN b 48) i).getD 4 0) 25))) (bxor (band ((vN h (wN b 48) i).getD 4 0) ((vN h (wN b 48) i).getD 5 0)) (band (bxor 4294967295 ((vN h (wN b 48) i).getD 4 0)) ((vN h (wN b 48) i).getD 6 0)))) (shaK.getD i 0)) ((wN b 48).getD i 0)))))) (t := 19) rfl rfl (by exact lt_ok rfl) (show Env.ev E (.tmp 175) = _ from g175.trans rfl))) ?_
            exact .nil _ _
           refine TL.nil ?_
           refine T.seq ?_
           refine T.draw [⟨176, (.one (.d (.int .i64 ((vN h (wN b 48) i).getD 0 0)))), []⟩, ⟨177, (.one (.d (.int .i64 (turnW ((vN h (wN b 48) i).getD 0 0) 2)))), []⟩, ⟨178, (.one (.d (.int .i64 ((vN h (wN b 48) i).getD 0 0)))), []⟩, ⟨179, (.one (.d (.int .i64 (turnW ((vN h (wN b 48) i).getD 0 0) 13)))), []⟩, ⟨180, (.one (.d (.int .i64 (bxor (turnW ((vN h (wN b 48) i).getD 0 0) 2) (turnW ((vN h (wN b 48) i).getD 0 0) 13))))), []⟩, ⟨181, (.one (.d (.int .i64 ((vN h (wN b 48) i).getD 0 0)))), []⟩, ⟨182, (.one (.d (.int .i64 (turnW ((vN h (wN b 48) i).getD 0 0) 22)))), []⟩, ⟨183, (.one (.d (.int .i64 (bxor (bxor (turnW ((vN h (wN b 48) i).getD 0 0) 2) (turnW ((vN h (wN b 48) i).getD 0 0) 13)) (turnW ((vN h (wN b 48) i).getD 0 0) 22))))), []⟩, ⟨184, (.one (.d (.int .i64 ((vN h (wN b 48) i).getD 0 0)))), []⟩, ⟨185, (.one (.d (.ints .i64 (vN h (wN b 48) i)))), []⟩, ⟨186, (.one (.eptr (.ints .i64 (vN h (wN b 48) i)) 1 0)), []⟩, ⟨187, (.one (.d (.int .i64 ((vN h (wN b 48) i).getD 1 0)))), []⟩, ⟨188, (.one (.d (.int .i64 (band ((vN h (wN b 48) i).getD 0 0) ((vN h (wN b 48) i).getD 1 0))))), []⟩, ⟨189, (.one (.d (.int .i64 ((vN h (wN b 48) i).getD 0 0)))), []⟩, ⟨190, (.one (.d (.ints .i64 (vN h (wN b 48) i)))), []⟩, ⟨191, (.one (.eptr (.ints .i64 (vN h (wN b 48) i)) 2 0)), []⟩, ⟨192, (.one (.d (.int .i64 ((vN h (wN b 48) i).getD 2 0)))), []⟩, ⟨193, (.one (.d (.int .i64 (band ((vN h (wN b 48) i).getD 0 0) ((vN h (wN b 48) i).getD 2 0))))), []⟩, ⟨194, (.one (.d (.int .i64 (bxor (band ((vN h (wN b 48) i).getD 0 0) ((vN h (wN b 48) i).getD 1 0)) (band ((vN h (wN b 48) i).getD 0 0) ((vN h (wN b 48) i).getD 2 0)))))), []⟩, ⟨195, (.one (.d (.ints .i64 (vN h (wN b 48) i)))), []⟩, ⟨196, (.one (.eptr (.ints .i64 (vN h (wN b 48) i)) 1 0)), []⟩, ⟨197, (.one (.d (.int .i64 ((vN h (wN b 48) i).getD 1 0)))), []⟩, ⟨198, (.one (.d (.ints .i64 (vN h (wN b 48) i)))), []⟩, ⟨199, (.one (.eptr (.ints .i64 (vN h (wN b 48) i)) 2 0)), []⟩, ⟨200, (.one (.d (.int .i64 ((vN h (wN b 48) i).getD 2 0)))), []⟩, ⟨201, (.one (.d (.int .i64 (band ((vN h (wN b 48) i).getD 1 0) ((vN h (wN b 48) i).getD 2 0))))), []⟩, ⟨202, (.one (.d (.int .i64 (bxor (bxor (band ((vN h (wN b 48) i).getD 0 0) ((vN h (wN b 48) i).getD 1 0)) (band ((vN h (wN b 48) i).getD 0 0) ((vN h (wN b 48) i).getD 2 0))) (band ((vN h (wN b 48) i).getD 1 0) ((vN h (wN b 48) i).getD 2 0)))))), []⟩, ⟨203, (.one (.d (.int .i64 (wadd (bxor (bxor (turnW ((vN h (wN b 48) i).getD 0 0) 2) (turnW ((vN h (wN b 48) i).getD 0 0) 13)) (turnW ((vN h (wN b 48) i).getD 0 0) 22)) (bxor (bxor (band ((vN h (wN b 48) i).getD 0 0) ((vN h (wN b 48) i).getD 1 0)) (band ((vN h (wN b 48) i).getD 0 0) ((vN h (wN b 48) i).getD 2 0))) (band ((vN h (wN b 48) i).getD 1 0) ((vN h (wN b 48) i).getD 2 0))))))), []⟩, ⟨20, (.one (.d (.int .i64 (wadd (bxor (bxor (turnW ((vN h (wN b 48) i).getD 0 0) 2) (turnW ((vN h (wN b 48) i).getD 0 0) 13)) (turnW ((vN h (wN b 48) i).getD 0 0) 22)) (bxor (bxor (band ((vN h (wN b 48) i).getD 0 0) ((vN h (wN b 48) i).getD 1 0)) (band ((vN h (wN b 48) i).getD 0 0) ((vN h (wN b 48) i).getD 2 0))) (band ((vN h (wN b 48) i).getD 1 0) ((vN h (wN b 48) i).getD 2 0))))))), []⟩] (by kernel_rfl) (by kernel_rfl) ?_ ?_
           ·
            refine .cons (fun E hA_ => by have g18 := hA_.get 18 (by decide); exact OpStep.plain rfl (Step.move (p := (.one (.d (.int .i64 ((vN h (wN b 48) i).getD 0 0))))) (t := 176) rfl rfl (by exact lt_ok rfl) (show Env.ev E (.tmp 18) = _ from g18.trans rfl))) ?_
            refine .cons (fun E hA_ => by have g176 := hA_.get 176 (by decide); exact OpStep.plain rfl (Step.call (f := 118) (xs := [.tmp 176, .const (.int .i64 2)]) (ps := [(.one (.d (.int .i64 ((vN h (wN b 48) i).getD 0 0)))), (.one (.d (.int .i64 2)))]) false (g := .func 118) (t := 177) rfl rfl (by exact lt_ok rfl) rfl (by kernel_rfl) (evs_cons (show Env.ev E (.tmp 176) = _ from g176.trans rfl) (evs_cons rfl (rfl))) (.cons (.one (.d _)) (.cons (.one (.d _)) .nil)) (ok_spec_l04Turn ((vN h (wN b 48) i).getD 0 0) 2 (by first | omega | decide)) (.inr rfl) (At.freshRows hA_ rfl) (by simp) rfl)) ?_
            refine .cons (fun E hA_ => by have g18 := hA_.get 18 (by decide); exact OpStep.plain rfl (Step.move (p := (.one (.d (.int .i64 ((vN h (wN b 48) i).getD 0 0))))) (t := 178) rfl rfl (by exact lt_ok rfl) (show Env.ev E (.tmp 18) = _ from g18.trans rfl))) ?_
            refine .cons (fun E hA_ => by have g178 := hA_.get 178 (by decide); exact OpStep.plain rfl (Step.call (f := 118) (xs := [.tmp 178, .const (.int .i64 13)]) (ps := [(.one (.d (.int .i64 ((vN h (wN b 48) i).getD 0 0)))), (.one (.d (.int .i64 13)))]) false (g := .func 118) (t := 179) rfl rfl (by exact lt_ok rfl) rfl (by kernel_rfl) (evs_cons (show Env.ev E (.tmp 178) = _ from g178.trans rfl) (evs_cons rfl (rfl))) (.cons (.one (.d _)) (.cons (.one (.d _)) .nil)) (ok_spec_l04Turn ((vN h (wN b 48) i).getD 0 0) 13 (by first | omega | decide)) (.inr rfl) (At.freshRows hA_ rfl) (by simp) rfl)) ?_
            refine .cons (fun E hA_ => by have g177 := hA_.get 177 (by decide); have g179 := hA_.get 179 (by decide); exact OpStep.plain rfl (Step.bin (r := .int .i64 (bxor (turnW ((vN h (wN b 48) i).getD 0 0) 2) (turnW ((vN h (wN b 48) i).getD 0 0) 13))) (t := 180) rfl rfl (by exact lt_ok rfl) (show Env.ev E (.tmp 177) = _ from g177.trans rfl) (show Env.ev E (.tmp 179) = _ from g179.trans rfl) (Bin.xor (k := .i64) (a := (turnW ((vN h (wN b 48) i).getD 0 0) 2)) (b := (turnW ((vN h (wN b 48) i).getD 0 0) 13)) (rfl)))) ?_
            refine .cons (fun E hA_ => by have g18 := hA_.get 18 (by decide); exact OpStep.plain rfl (Step.move (p := (.one (.d (.int .i64 ((vN h (wN b 48) i).getD 0 0))))) (t := 181) rfl rfl (by exact lt_ok rfl) (show Env.ev E (.tmp 18) = _ from g18.trans rfl))) ?_
            refine .cons (fun E hA_ => by have g181 := hA_.get 181 (by decide); exact OpStep.plain rfl (Step.call (f := 118) (xs := [.tmp 181, .const (.int .i64 22)]) (ps := [(.one (.d (.int .i64 ((vN h (wN b 48) i).getD 0 0)))), (.one (.d (.int .i64 22)))]) false (g := .func 118) (t := 182) rfl rfl (by exact lt_ok rfl) rfl (by kernel_rfl) (evs_cons (show Env.ev E (.tmp 181) = _ from g181.trans rfl) (evs_cons rfl (rfl))) (.cons (.one (.d _)) (.cons (.one (.d _)) .nil)) (ok_spec_l04Turn ((vN h (wN b 48) i).getD 0 0) 22 (by first | omega | decide)) (.inr rfl) (At.freshRows hA_ rfl) (by simp) rfl)) ?_
            refine .cons (fun E hA_ => by have g180 := hA_.get 180 (by decide); have g182 := hA_.get 182 (by decide); exact OpStep.plain rfl (Step.bin (r := .int .i64 (bxor (bxor (turnW ((vN h (wN b 48) i).getD 0 0) 2) (turnW ((vN h (wN b 48) i).getD 0 0) 13)) (turnW ((vN h (wN b 48) i).getD 0 0) 22))) (t := 183) rfl rfl (by exact lt_ok rfl) (show Env.ev E (.tmp 180) = _ from g180.trans rfl) (show Env.ev E (.tmp 182) = _ from g182.trans rfl) (Bin.xor (k := .i64) (a := (bxor (turnW ((vN h (wN b 48) i).getD 0 0) 2) (turnW ((vN h (wN b 48) i).getD 0 0) 13))) (b := (turnW ((vN h (wN b 48) i).getD 0 0) 22)) (rfl)))) ?_
            refine .cons (fun E hA_ => by have g18 := hA_.get 18 (by decide); exact OpStep.plain rfl (Step.move (p := (.one (.d (.int .i64 ((vN h (wN b 48) i).getD 0 0))))) (t := 184) rfl rfl (by exact lt_ok rfl) (show Env.ev E (.tmp 18) = _ from g18.trans rfl))) ?_
            refine .cons (fun E hA_ => by have g15 := hA_.get 15 (by decide); exact OpStep.plain rfl (Step.move (p := (.one (.d (.ints .i64 (vN h (wN b 48) i))))) (t := 185) rfl rfl (by exact lt_ok rfl) (show Env.ev E (.tmp 15) = _ from g15.trans rfl))) ?_
            refine .cons (fun E hA_ => by have g185 := hA_.get 185 (by decide); exact OpStep.plain rfl (Step.index (e := 3) (z := 1) (i := 1) (t := 186) rfl rfl (by exact lt_ok rfl) (by kernel_rfl) (show Env.ev E (.tmp 185) = _ from g185.trans rfl) rfl rfl (lt_ok rfl) rfl (by first | omega | (simp; omega) | (simp [w16_len, wN_len]; omega)) (by simp only [D.size]; first | omega | (simp; omega) | (simp [w16_len, wN_len]; omega)))) ?_
            refine .cons (fun E hA_ => by have g186 := hA_.get 186 (by decide); exact OpStep.plain rfl (Step.load (e := (.int .i64 ((vN h (wN b 48) i).getD 1 0))) (t := 187) rfl rfl (by exact lt_ok rfl) (by kernel_rfl) (show Env.ev E (.tmp 186) = _ from g186.trans rfl) rfl)) ?_
            refine .cons (fun E hA_ => by have g184 := hA_.get 184 (by decide); have g187 := hA_.get 187 (by decide); exact OpStep.plain rfl (Step.bin (r := .int .i64 (band ((vN h (wN b 48) i).getD 0 0) ((vN h (wN b 48) i).getD 1 0))) (t := 188) rfl rfl (by exact lt_ok rfl) (show Env.ev E (.tmp 184) = _ from g184.trans rfl) (show Env.ev E (.tmp 187) = _ from g187.trans rfl) (Bin.and (k := .i64) (a := ((vN h (wN b 48) i).getD 0 0)) (b := ((vN h (wN b 48) i).getD 1 0)) (rfl)))) ?_
            refine .cons (fun E hA_ => by have g18 := hA_.get 18 (by decide); exact OpStep.plain rfl (Step.move (p := (.one (.d (.int .i64 ((vN h (wN b 48) i).getD 0 0))))) (t := 189) rfl rfl (by exact lt_ok rfl) (show Env.ev E (.tmp 18) = _ from g18.trans rfl))) ?_
            refine .cons (fun E hA_ => by have g15 := hA_.get 15 (by decide); exact OpStep.plain rfl (Step.move (p := (.one (.d (.ints .i64 (vN h (wN b 48) i))))) (t := 190) rfl rfl (by exact lt_ok rfl) (show Env.ev E (.tmp 15) = _ from g15.trans rfl))) ?_
            refine .cons (fun E hA_ => by have g190 := hA_.get 190 (by decide); exact OpStep.plain rfl (Step.index (e := 3) (z := 1) (i := 2) (t := 191) rfl rfl (by exact lt_ok rfl) (by kernel_rfl) (show Env.ev E (.tmp 190) = _ from g190.trans rfl) rfl rfl (lt_ok rfl) rfl (by first | omega | (simp; omega) | (simp [w16_len, wN_len]; omega)) (by simp only [D.size]; first | omega | (simp; omega) | (simp [w16_len, wN_len]; omega)))) ?_
            refine .cons (fun E hA_ => by have g191 := hA_.get 191 (by decide); exact OpStep.plain rfl (Step.load (e := (.int .i64 ((vN h (wN b 48) i).getD 2 0))) (t := 192) rfl rfl (by exact lt_ok rfl) (by kernel_rfl) (show Env.ev E (.tmp 191) = _ from g191.trans rfl) rfl)) ?_
            refine .cons (fun E hA_ => by have g189 := hA_.get 189 (by decide); have g192 := hA_.get 192 (by decide); exact OpStep.plain rfl (Step.bin (r := .int .i64 (band ((vN h (wN b 48) i).getD 0 0) ((vN h (wN b 48) i).getD 2 0))) (t := 193) rfl rfl (by exact lt_ok rfl) (show Env.ev E (.tmp 189) = _ from g189.trans rfl) (show Env.ev E (.tmp 192) = _ from g192.trans rfl) (Bin.and (k := .i64) (a := ((vN h (wN b 48) i).getD 0 0)) (b := ((vN h (wN b 48) i).getD 2 0)) (rfl)))) ?_
            refine .cons (fun E hA_ => by have g188 := hA_.get 188 (by decide); have g193 := hA_.get 193 (by decide); exact OpStep.plain rfl (Step.bin (r := .int .i64 (bxor (band ((vN h (wN b 48) i).getD 0 0) ((vN h (wN b 48) i).getD 1 0)) (band ((vN h (wN b 48) i).getD 0 0) ((vN h (wN b 48) i).getD 2 0)))) (t := 194) rfl rfl (by exact lt_ok rfl) (show Env.ev E (.tmp 188) = _ from g188.trans rfl) (show Env.ev E (.tmp 193) = _ from g193.trans rfl) (Bin.xor (k := .i64) (a := (band ((vN h (wN b 48) i).getD 0 0) ((vN h (wN b 48) i).getD 1 0))) (b := (band ((vN h (wN b 48) i).getD 0 0) ((vN h (wN b 48) i).getD 2 0))) (rfl)))) ?_
            refine .cons (fun E hA_ => by have g15 := hA_.get 15 (by decide); exact OpStep.plain rfl (Step.move (p := (.one (.d (.ints .i64 (vN h (wN b 48) i))))) (t := 195) rfl rfl (by exact lt_ok rfl) (show Env.ev E (.tmp 15) = _ from g15.trans rfl))) ?_
            refine .cons (fun E hA_ => by have g195 := hA_.get 195 (by decide); exact OpStep.plain rfl (Step.index (e := 3) (z := 1) (i := 1) (t := 196) rfl rfl (by exact lt_ok rfl) (by kernel_rfl) (show Env.ev E (.tmp 195) = _ from g195.trans rfl) rfl rfl (lt_ok rfl) rfl (by first | omega | (simp; omega) | (simp [w16_len, wN_len]; omega)) (by simp only [D.size]; first | omega | (simp; omega) | (simp [w16_len, wN_len]; omega)))) ?_
            refine .cons (fun E hA_ => by have g196 := hA_.get 196 (by decide); exact OpStep.plain rfl (Step.load (e := (.int .i64 ((vN h (wN b 48) i).getD 1 0))) (t := 197) rfl rfl (by exact lt_ok rfl) (by kernel_rfl) (show Env.ev E (.tmp 196) = _ from g196.trans rfl) rfl)) ?_
            refine .cons (fun E hA_ => by have g15 := hA_.get 15 (by decide); exact OpStep.plain rfl (Step.move (p := (.one (.d (.ints .i64 (vN h (wN b 48) i))))) (t := 198) rfl rfl (by exact lt_ok rfl) (show Env.ev E (.tmp 15) = _ from g15.trans rfl))) ?_
            refine .cons (fun E hA_ => by have g198 := hA_.get 198 (by decide); exact OpStep.plain rfl (Step.index (e := 3) (z := 1) (i := 2) (t := 199) rfl rfl (by exact lt_ok rfl) (by kernel_rfl) (show Env.ev E (.tmp 198) = _ from g198.trans rfl) rfl rfl (lt_ok rfl) rfl (by first | omega | (simp; omega) | (simp [w16_len, wN_len]; omega)) (by simp only [D.size]; first | omega | (simp; omega) | (simp [w16_len, wN_len]; omega)))) ?_
            refine .cons (fun E hA_ => by have g199 := hA_.get 199 (by decide); exact OpStep.plain rfl (Step.load (e := (.int .i64 ((vN h (wN b 48) i).getD 2 0))) (t := 200) rfl rfl (by exact lt_ok rfl) (by kernel_rfl) (show Env.ev E (.tmp 199) = _ from g199.trans rfl) rfl)) ?_
            refine .cons (fun E hA_ => by have g197 := hA_.get 197 (by decide); have g200 := hA_.get 200 (by decide); exact OpStep.plain rfl (Step.bin (r := .int .i64 (band ((vN h (wN b 48) i).getD 1 0) ((vN h (wN b 48) i).getD 2 0))) (t := 201) rfl rfl (by exact lt_ok rfl) (show Env.ev E (.tmp 197) = _ from g197.trans rfl) (show Env.ev E (.tmp 200) = _ from g200.trans rfl) (Bin.and (k := .i64) (a := ((vN h (wN b 48) i).getD 1 0)) (b := ((vN h (wN b 48) i).getD 2 0)) (rfl)))) ?_
            refine .cons (fun E hA_ => by have g194 := hA_.get 194 (by decide); have g201 := hA_.get 201 (by decide); exact OpStep.plain rfl (Step.bin (r := .int .i64 (bxor (bxor (band ((vN h (wN b 48) i).getD 0 0) ((vN h (wN b 48) i).getD 1 0)) (band ((vN h (wN b 48) i).getD 0 0) ((vN h (wN b 48) i).getD 2 0))) (band ((vN h (wN b 48) i).getD 1 0) ((vN h (wN b 48) i).getD 2 0)))) (t := 202) rfl rfl (by exact lt_ok rfl) (show Env.ev E (.tmp 194) = _ from g194.trans rfl) (show Env.ev E (.tmp 201) = _ from g201.trans rfl) (Bin.xor (k := .i64) (a := (bxor (band ((vN h (wN b 48) i).getD 0 0) ((vN h (wN b 48) i).getD 1 0)) (band ((vN h (wN b 48) i).getD 0 0) ((vN h (wN b 48) i).getD 2 0)))) (b := (band ((vN h (wN b 48) i).getD 1 0) ((vN h (wN b 48) i).getD 2 0))) (rfl)))) ?_
            refine .cons (fun E hA_ => by have g183 := hA_.get 183 (by decide); have g202 := hA_.get 202 (by decide); exact OpStep.plain rfl (Step.bin (r := .int .i64 (wadd (bxor (bxor (turnW ((vN h (wN b 48) i).getD 0 0) 2) (turnW ((vN h (wN b 48) i).getD 0 0) 13)) (turnW ((vN h (wN b 48) i).getD 0 0) 22)) (bxor (bxor (band ((vN h (wN b 48) i).getD 0 0) ((vN h (wN b 48) i).getD 1 0)) (band ((vN h (wN b 48) i).getD 0 0) ((vN h (wN b 48) i).getD 2 0))) (band ((vN h (wN b 48) i).getD 1 0) ((vN h (wN b 48) i).getD 2 0))))) (t := 203) rfl rfl (by exact lt_ok rfl) (show Env.ev E (.tmp 183) = _ from g183.trans rfl) (show Env.ev E (.tmp 202) = _ from g202.trans rfl) (Bin.add (k := .i64) (a := (bxor (bxor (turnW ((vN h (wN b 48) i).getD 0 0) 2) (turnW ((vN h (wN b 48) i).getD 0 0) 13)) (turnW ((vN h (wN b 48) i).getD 0 0) 22))) (b := (bxor (bxor (band ((vN h (wN b 48) i).getD 0 0) ((vN h (wN b 48) i).getD 1 0)) (band ((vN h (wN b 48) i).getD 0 0) ((vN h (wN b 48) i).getD 2 0))) (band ((vN h (wN b 48) i).getD 1 0) ((vN h (wN b 48) i).getD 2 0)))) (rfl)))) ?_
            refine .cons (fun E hA_ => by have g203 := hA_.get 203 (by decide); exact OpStep.plain rfl (Step.assign (p := (.one (.d (.int .i64 (wadd (bxor (bxor (turnW ((vN h (wN b 48) i).getD 0 0) 2) (turnW ((vN h (wN b 48) i).getD 0 0) 13)) (turnW ((vN h (wN b 48) i).getD 0 0) 22)) (bxor (bxor (band ((vN h (wN b 48) i).getD 0 0) ((vN h (wN b 48) i).getD 1 0)) (band ((vN h (wN b 48) i).getD 0 0) ((vN h (wN b 48) i).getD 2 0))) (band ((vN h (wN b 48) i).getD 1 0) ((vN h (wN b 48) i).getD 2 0)))))))) (t := 20) rfl rfl (by exact lt_ok rfl) (show Env.ev E (.tmp 203) = _ from g203.trans rfl))) ?_
            exact .nil _ _
           refine TL.nil ?_
           refine T.weaken (E' := { tm := [(0, (.one (.d (.ints .i64 h)))), (7, (.one (.row 41 []))), (14, (.one (.row 1127 []))), (16, (.one (.d (.int .i64 (i : Int))))), (15, (.one (.d (.ints .i64 (vN h (wN b 48) i))))), (19, (.one (.d (.int .i64 (wadd (wadd (wadd (wadd ((vN h (wN b 48) i).getD 7 0) (bxor (bxor (turnW ((vN h (wN b 48) i).getD 4 0) 6) (turnW ((vN h (wN b 48) i).getD 4 0) 11)) (turnW ((vN h (wN b 48) i).getD 4 0) 25))) (bxor (band ((vN h (wN b 48) i).getD 4 0) ((vN h (wN b 48) i).getD 5 0)) (band (bxor 4294967295 ((vN h (wN b 48) i).getD 4 0)) ((vN h (wN b 48) i).getD 6 0)))) (shaK.getD i 0)) ((wN b 48).getD i 0)))))), (20, (.one (.d (.int .i64 (wadd (bxor (bxor (turnW ((vN h (wN b 48) i).getD 0 0) 2) (turnW ((vN h (wN b 48) i).getD 0 0) 13)) (turnW ((vN h (wN b 48) i).getD 0 0) 22)) (bxor (bxor (band ((vN h (wN b 48) i).getD 0 0) ((vN h (wN b 48) i).getD 1 0)) (band ((vN h (wN b 48) i).getD 0 0) ((vN h (wN b 48) i).getD 2 0))) (band ((vN h (wN b 48) i).getD 1 0) ((vN h (wN b 48) i).getD 2 0))))))))], rows := [(41, (3, (.ints .i64 (wN b 48)))), (1127, (3, (.ints .i64 shaK)))], boxes := [] }) (Env.le_mk ⟨by kernel_rfl, by kernel_rfl, by kernel_rfl, by kernel_rfl, by kernel_rfl, by kernel_rfl, by kernel_rfl, trivial⟩ ⟨by kernel_rfl, by kernel_rfl, trivial⟩ trivial) ?_
           refine T.draw [⟨204, (.one (.d (.int .i64 (wadd (wadd (wadd (wadd ((vN h (wN b 48) i).getD 7 0) (bxor (bxor (turnW ((vN h (wN b 48) i).getD 4 0) 6) (turnW ((vN h (wN b 48) i).getD 4 0) 11)) (turnW ((vN h (wN b 48) i).getD 4 0) 25))) (bxor (band ((vN h (wN b 48) i).getD 4 0) ((vN h (wN b 48) i).getD 5 0)) (band (bxor 4294967295 ((vN h (wN b 48) i).getD 4 0)) ((vN h (wN b 48) i).getD 6 0)))) (shaK.getD i 0)) ((wN b 48).getD i 0))))), []⟩, ⟨205, (.one (.d (.int .i64 (wadd (bxor (bxor (turnW ((vN h (wN b 48) i).getD 0 0) 2) (turnW ((vN h (wN b 48) i).getD 0 0) 13)) (turnW ((vN h (wN b 48) i).getD 0 0) 22)) (bxor (bxor (band ((vN h (wN b 48) i).getD 0 0) ((vN h (wN b 48) i).getD 1 0)) (band ((vN h (wN b 48) i).getD 0 0) ((vN h (wN b 48) i).getD 2 0))) (band ((vN h (wN b 48) i).getD 1 0) ((vN h (wN b 48) i).getD 2 0))))))), []⟩, ⟨206, (.one (.d (.int .i64 (wadd (wadd (wadd (wadd (wadd ((vN h (wN b 48) i).getD 7 0) (bxor (bxor (turnW ((vN h (wN b 48) i).getD 4 0) 6) (turnW ((vN h (wN b 48) i).getD 4 0) 11)) (turnW ((vN h (wN b 48) i).getD 4 0) 25))) (bxor (band ((vN h (wN b 48) i).getD 4 0) ((vN h (wN b 48) i).getD 5 0)) (band (bxor 4294967295 ((vN h (wN b 48) i).getD 4 0)) ((vN h (wN b 48) i).getD 6 0)))) (shaK.getD i 0)) ((wN b 48).getD i 0)) (wadd (bxor (bxor (turnW ((vN h (wN b 48) i).getD 0 0) 2) (turnW ((vN h (wN b 48) i).getD 0 0) 13)) (turnW ((vN h (wN b 48) i).getD 0 0) 22)) (bxor (bxor (band ((vN h (wN b 48) i).getD 0 0) ((vN h (wN b 48) i).getD 1 0)) (band ((vN h (wN b 48) i).getD 0 0) ((vN h (wN b 48) i).getD 2 0))) (band ((vN h (wN b 48) i).getD 1 0) ((vN h (wN b 48) i).getD 2 0)))))))), []⟩, ⟨207, (.one (.d (.int .i64 (band (wadd (wadd (wadd (wadd (wadd ((vN h (wN b 48) i).getD 7 0) (bxor (bxor (turnW ((vN h (wN b 48) i).getD 4 0) 6) (turnW ((vN h (wN b 48) i).getD 4 0) 11)) (turnW ((vN h (wN b 48) i).getD 4 0) 25))) (bxor (band ((vN h (wN b 48) i).getD 4 0) ((vN h (wN b 48) i).getD 5 0)) (band (bxor 4294967295 ((vN h (wN b 48) i).getD 4 0)) ((vN h (wN b 48) i).getD 6 0)))) (shaK.getD i 0)) ((wN b 48).getD i 0)) (wadd (bxor (bxor (turnW ((vN h (wN b 48) i).getD 0 0) 2) (turnW ((vN h (wN b 48) i).getD 0 0) 13)) (turnW ((vN h (wN b 48) i).getD 0 0) 22)) (bxor (bxor (band ((vN h (wN b 48) i).getD 0 0) ((vN h (wN b 48) i).getD 1 0)) (band ((vN h (wN b 48) i).getD 0 0) ((vN h (wN b 48) i).getD 2 0))) (band ((vN h (wN b 48) i).getD 1 0) ((vN h (wN b 48) i).getD 2 0))))) 4294967295)))), []⟩, ⟨208, (.one (.d (.ints .i64 (vN h (wN b 48) i)))), []⟩, ⟨209, (.one (.eptr (.ints .i64 (vN h (wN b 48) i)) 0 0)), []⟩, ⟨210, (.one (.d (.int .i64 ((vN h (wN b 48) i).getD 0 0)))), []⟩, ⟨211, (.one (.d (.ints .i64 (vN h (wN b 48) i)))), []⟩, ⟨212, (.one (.eptr (.ints .i64 (vN h (wN b 48) i)) 1 0)), []⟩, ⟨213, (.one (.d (.int .i64 ((vN h (wN b 48) i).getD 1 0)))), []⟩, ⟨214, (.one (.d (.ints .i64 (vN h (wN b 48) i)))), []⟩, ⟨215, (.one (.eptr (.ints .i64 (vN h (wN b 48) i)) 2 0)), []⟩, ⟨216, (.one (.d (.int .i64 ((vN h (wN b 48) i).getD 2 0)))), []⟩, ⟨217, (.one (.d (.ints .i64 (vN h (wN b 48) i)))), []⟩, ⟨218, (.one (.eptr (.ints .i64 (vN h (wN b 48) i)) 3 0)), []⟩, ⟨219, (.one (.d (.int .i64 ((vN h (wN b 48) i).getD 3 0)))), []⟩, ⟨220, (.one (.d (.int .i64 (wadd (wadd (wadd (wadd ((vN h (wN b 48) i).getD 7 0) (bxor (bxor (turnW ((vN h (wN b 48) i).getD 4 0) 6) (turnW ((vN h (wN b 48) i).getD 4 0) 11)) (turnW ((vN h (wN b 48) i).getD 4 0) 25))) (bxor (band ((vN h (wN b 48) i).getD 4 0) ((vN h (wN b 48) i).getD 5 0)) (band (bxor 4294967295 ((vN h (wN b 48) i).getD 4 0)) ((vN h (wN b 48) i).getD 6 0)))) (shaK.getD i 0)) ((wN b 48).getD i 0))))), []⟩, ⟨221, (.one (.d (.int .i64 (wadd ((vN h (wN b 48) i).getD 3 0) (wadd (wadd (wadd (wadd ((vN h (wN b 48) i).getD 7 0) (bxor (bxor (turnW ((vN h (wN b 48) i).getD 4 0) 6) (turnW ((vN h (wN b 48) i).getD 4 0) 11)) (turnW ((vN h (wN b 48) i).getD 4 0) 25))) (bxor (band ((vN h (wN b 48) i).getD 4 0) ((vN h (wN b 48) i).getD 5 0)) (band (bxor 4294967295 ((vN h (wN b 48) i).getD 4 0)) ((vN h (wN b 48) i).getD 6 0)))) (shaK.getD i 0)) ((wN b 48).getD i 0)))))), []⟩, ⟨222, (.one (.d (.int .i64 (band (wadd ((vN h (wN b 48) i).getD 3 0) (wadd (wadd (wadd (wadd ((vN h (wN b 48) i).getD 7 0) (bxor (bxor (turnW ((vN h (wN b 48) i).getD 4 0) 6) (turnW ((vN h (wN b 48) i).getD 4 0) 11)) (turnW ((vN h (wN b 48) i).getD 4 0) 25))) (bxor (band ((vN h (wN b 48) i).getD 4 0) ((vN h (wN b 48) i).getD 5 0)) (band (bxor 4294967295 ((vN h (wN b 48) i).getD 4 0)) ((vN h (wN b 48) i).getD 6 0)))) (shaK.getD i 0)) ((wN b 48).getD i 0))) 4294967295)))), []⟩, ⟨223, (.one (.d (.ints .i64 (vN h (wN b 48) i)))), []⟩, ⟨224, (.one (.eptr (.ints .i64 (vN h (wN b 48) i)) 4 0)), []⟩, ⟨225, (.one (.d (.int .i64 ((vN h (wN b 48) i).getD 4 0)))), []⟩, ⟨226, (.one (.d (.ints .i64 (vN h (wN b 48) i)))), []⟩, ⟨227, (.one (.eptr (.ints .i64 (vN h (wN b 48) i)) 5 0)), []⟩, ⟨228, (.one (.d (.int .i64 ((vN h (wN b 48) i).getD 5 0)))), []⟩, ⟨229, (.one (.d (.ints .i64 (vN h (wN b 48) i)))), []⟩, ⟨230, (.one (.eptr (.ints .i64 (vN h (wN b 48) i)) 6 0)), []⟩, ⟨231, (.one (.d (.int .i64 ((vN h (wN b 48) i).getD 6 0)))), []⟩, ⟨232, (.one (.d (.ints .i64 [band (wadd (wadd (wadd (wadd (wadd ((vN h (wN b 48) i).getD 7 0) (bxor (bxor (turnW ((vN h (wN b 48) i).getD 4 0) 6) (turnW ((vN h (wN b 48) i).getD 4 0) 11)) (turnW ((vN h (wN b 48) i).getD 4 0) 25))) (bxor (band ((vN h (wN b 48) i).getD 4 0) ((vN h (wN b 48) i).getD 5 0)) (band (bxor 4294967295 ((vN h (wN b 48) i).getD 4 0)) ((vN h (wN b 48) i).getD 6 0)))) (shaK.getD i 0)) ((wN b 48).getD i 0)) (wadd (bxor (bxor (turnW ((vN h (wN b 48) i).getD 0 0) 2) (turnW ((vN h (wN b 48) i).getD 0 0) 13)) (turnW ((vN h (wN b 48) i).getD 0 0) 22)) (bxor (bxor (band ((vN h (wN b 48) i).getD 0 0) ((vN h (wN b 48) i).getD 1 0)) (band ((vN h (wN b 48) i).getD 0 0) ((vN h (wN b 48) i).getD 2 0))) (band ((vN h (wN b 48) i).getD 1 0) ((vN h (wN b 48) i).getD 2 0))))) 4294967295, (vN h (wN b 48) i).getD 0 0, (vN h (wN b 48) i).getD 1 0, (vN h (wN b 48) i).getD 2 0, band (wadd ((vN h (wN b 48) i).getD 3 0) (wadd (wadd (wadd (wadd ((vN h (wN b 48) i).getD 7 0) (bxor (bxor (turnW ((vN h (wN b 48) i).getD 4 0) 6) (turnW ((vN h (wN b 48) i).getD 4 0) 11)) (turnW ((vN h (wN b 48) i).getD 4 0) 25))) (bxor (band ((vN h (wN b 48) i).getD 4 0) ((vN h (wN b 48) i).getD 5 0)) (band (bxor 4294967295 ((vN h (wN b 48) i).getD 4 0)) ((vN h (wN b 48) i).getD 6 0)))) (shaK.getD i 0)) ((wN b 48).getD i 0))) 4294967295, (vN h (wN b 48) i).getD 4 0, (vN h (wN b 48) i).getD 5 0, (vN h (wN b 48) i).getD 6 0]))), []⟩] (by kernel_rfl) (by kernel_rfl) ?_ ?_
           ·
            refine .cons (fun E hA_ => by have g19 := hA_.get 19 (by decide); exact OpStep.plain rfl (Step.move (p := (.one (.d (.int .i64 (wadd (wadd (wadd (wadd ((vN h (wN b 48) i).getD 7 0) (bxor (bxor (turnW ((vN h (wN b 48) i).getD 4 0) 6) (turnW ((vN h (wN b 48) i).getD 4 0) 11)) (turnW ((vN h (wN b 48) i).getD 4 0) 25))) (bxor (band ((vN h (wN b 48) i).getD 4 0) ((vN h (wN b 48) i).getD 5 0)) (band (bxor 4294967295 ((vN h (wN b 48) i).getD 4 0)) ((vN h (wN b 48) i).getD 6 0)))) (shaK.getD i 0)) ((wN b 48).getD i 0)))))) (t := 204) rfl rfl (by exact lt_ok rfl) (show Env.ev E (.tmp 19) = _ from g19.trans rfl))) ?_
            refine .cons (fun E hA_ => by have g20 := hA_.get 20 (by decide); exact OpStep.plain rfl (Step.move (p := (.one (.d (.int .i64 (wadd (bxor (bxor (turnW ((vN h (wN b 48) i).getD 0 0) 2) (turnW ((vN h (wN b 48) i).getD 0 0) 13)) (turnW ((vN h (wN b 48) i).getD 0 0) 22)) (bxor (bxor (band ((vN h (wN b 48) i).getD 0 0) ((vN h (wN b 48) i).getD 1 0)) (band ((vN h (wN b 48) i).getD 0 0) ((vN h (wN b 48) i).getD 2 0))) (band ((vN h (wN b 48) i).getD 1 0) ((vN h (wN b 48) i).getD 2 0)))))))) (t := 205) rfl rfl (by exact lt_ok rfl) (show Env.ev E (.tmp 20) = _ from g20.trans rfl))) ?_
            refine .cons (fun E hA_ => by have g204 := hA_.get 204 (by decide); have g205 := hA_.get 205 (by decide); exact OpStep.plain rfl (Step.bin (r := .int .i64 (wadd (wadd (wadd (wadd (wadd ((vN h (wN b 48) i).getD 7 0) (bxor (bxor (turnW ((vN h (wN b 48) i).getD 4 0) 6) (turnW ((vN h (wN b 48) i).getD 4 0) 11)) (turnW ((vN h (wN b 48) i).getD 4 0) 25))) (bxor (band ((vN h (wN b 48) i).getD 4 0) ((vN h (wN b 48) i).getD 5 0)) (band (bxor 4294967295 ((vN h (wN b 48) i).getD 4 0)) ((vN h (wN b 48) i).getD 6 0)))) (shaK.getD i 0)) ((wN b 48).getD i 0)) (wadd (bxor (bxor (turnW ((vN h (wN b 48) i).getD 0 0) 2) (turnW ((vN h (wN b 48) i).getD 0 0) 13)) (turnW ((vN h (wN b 48) i).getD 0 0) 22)) (bxor (bxor (band ((vN h (wN b 48) i).getD 0 0) ((vN h (wN b 48) i).getD 1 0)) (band ((vN h (wN b 48) i).getD 0 0) ((vN h (wN b 48) i).getD 2 0))) (band ((vN h (wN b 48) i).getD 1 0) ((vN h (wN b 48) i).getD 2 0)))))) (t := 206) rfl rfl (by exact lt_ok rfl) (show Env.ev E (.tmp 204) = _ from g204.trans rfl) (show Env.ev E (.tmp 205) = _ from g205.trans rfl) (Bin.add (k := .i64) (a := (wadd (wadd (wadd (wadd ((vN h (wN b 48) i).getD 7 0) (bxor (bxor (turnW ((vN h (wN b 48) i).getD 4 0) 6) (turnW ((vN h (wN b 48) i).getD 4 0) 11)) (turnW ((vN h (wN b 48) i).getD 4 0) 25))) (bxor (band ((vN h (wN b 48) i).getD 4 0) ((vN h (wN b 48) i).getD 5 0)) (band (bxor 4294967295 ((vN h (wN b 48) i).getD 4 0)) ((vN h (wN b 48) i).getD 6 0)))) (shaK.getD i 0)) ((wN b 48).getD i 0))) (b := (wadd (bxor (bxor (turnW ((vN h (wN b 48) i).getD 0 0) 2) (turnW ((vN h (wN b 48) i).getD 0 0) 13)) (turnW ((vN h (wN b 48) i).getD 0 0) 22)) (bxor (bxor (band ((vN h (wN b 48) i).getD 0 0) ((vN h (wN b 48) i).getD 1 0)) (band ((vN h (wN b 48) i).getD 0 0) ((vN h (wN b 48) i).getD 2 0))) (band ((vN h (wN b 48) i).getD 1 0) ((vN h (wN b 48) i).getD 2 0))))) (rfl)))) ?_
            refine .cons (fun E hA_ => by have g206 := hA_.get 206 (by decide); exact OpStep.plain rfl (Step.bin (r := .int .i64 (band (wadd (wadd (wadd (wadd (wadd ((vN h (wN b 48) i).getD 7 0) (bxor (bxor (turnW ((vN h (wN b 48) i).getD 4 0) 6) (turnW ((vN h (wN b 48) i).getD 4 0) 11)) (turnW ((vN h (wN b 48) i).getD 4 0) 25))) (bxor (band ((vN h (wN b 48) i).getD 4 0) ((vN h (wN b 48) i).getD 5 0)) (band (bxor 4294967295 ((vN h (wN b 48) i).getD 4 0)) ((vN h (wN b 48) i).getD 6 0)))) (shaK.getD i 0)) ((wN b 48).getD i 0)) (wadd (bxor (bxor (turnW ((vN h (wN b 48) i).getD 0 0) 2) (turnW ((vN h (wN b 48) i).getD 0 0) 13)) (turnW ((vN h (wN b 48) i).getD 0 0) 22)) (bxor (bxor (band ((vN h (wN b 48) i).getD 0 0) ((vN h (wN b 48) i).getD 1 0)) (band ((vN h (wN b 48) i).getD 0 0) ((vN h (wN b 48) i).getD 2 0))) (band ((vN h (wN b 48) i).getD 1 0) ((vN h (wN b 48) i).getD 2 0))))) 4294967295)) (t := 207) rfl rfl (by exact lt_ok rfl) (show Env.ev E (.tmp 206) = _ from g206.trans rfl) rfl (Bin.and (k := .i64) (a := (wadd (wadd (wadd (wadd (wadd ((vN h (wN b 48) i).getD 7 0) (bxor (bxor (turnW ((vN h (wN b 48) i).getD 4 0) 6) (turnW ((vN h (wN b 48) i).getD 4 0) 11)) (turnW ((vN h (wN b 48) i).getD 4 0) 25))) (bxor (band ((vN h (wN b 48) i).getD 4 0) ((vN h (wN b 48) i).getD 5 0)) (band (bxor 4294967295 ((vN h (wN b 48) i).getD 4 0)) ((vN h (wN b 48) i).getD 6 0)))) (shaK.getD i 0)) ((wN b 48).getD i 0)) (wadd (bxor (bxor (turnW ((vN h (wN b 48) i).getD 0 0) 2) (turnW ((vN h (wN b 48) i).getD 0 0) 13)) (turnW ((vN h (wN b 48) i).getD 0 0) 22)) (bxor (bxor (band ((vN h (wN b 48) i).getD 0 0) ((vN h (wN b 48) i).getD 1 0)) (band ((vN h (wN b 48) i).getD 0 0) ((vN h (wN b 48) i).getD 2 0))) (band ((vN h (wN b 48) i).getD 1 0) ((vN h (wN b 48) i).getD 2 0)))))) (b := 4294967295) (rfl)))) ?_
            refine .cons (fun E hA_ => by have g15 := hA_.get 15 (by decide); exact OpStep.plain rfl (Step.move (p := (.one (.d (.ints .i64 (vN h (wN b 48) i))))) (t := 208) rfl rfl (by exact lt_ok rfl) (show Env.ev E (.tmp 15) = _ from g15.trans rfl))) ?_
            refine .cons (fun E hA_ => by have g208 := hA_.get 208 (by decide); exact OpStep.plain rfl (Step.index (e := 3) (z := 1) (i := 0) (t := 209) rfl rfl (by exact lt_ok rfl) (by kernel_rfl) (show Env.ev E (.tmp 208) = _ from g208.trans rfl) rfl rfl (lt_ok rfl) rfl (by first | omega | (simp; omega) | (simp [w16_len, wN_len]; omega)) (by simp only [D.size]; first | omega | (simp; omega) | (simp [w16_len, wN_len]; omega)))) ?_
            refine .cons (fun E hA_ => by have g209 := hA_.get 209 (by decide); exact OpStep.plain rfl (Step.load (e := (.int .i64 ((vN h (wN b 48) i).getD 0 0))) (t := 210) rfl rfl (by exact lt_ok rfl) (by kernel_rfl) (show Env.ev E (.tmp 209) = _ from g209.trans rfl) rfl)) ?_
            refine .cons (fun E hA_ => by have g15 := hA_.get 15 (by decide); exact OpStep.plain rfl (Step.move (p := (.one (.d (.ints .i64 (vN h (wN b 48) i))))) (t := 211) rfl rfl (by exact lt_ok rfl) (show Env.ev E (.tmp 15) = _ from g15.trans rfl))) ?_
            refine .cons (fun E hA_ => by have g211 := hA_.get 211 (by decide); exact OpStep.plain rfl (Step.index (e := 3) (z := 1) (i := 1) (t := 212) rfl rfl (by exact lt_ok rfl) (by kernel_rfl) (show Env.ev E (.tmp 211) = _ from g211.trans rfl) rfl rfl (lt_ok rfl) rfl (by first | omega | (simp; omega) | (simp [w16_len, wN_len]; omega)) (by simp only [D.size]; first | omega | (simp; omega) | (simp [w16_len, wN_len]; omega)))) ?_
            refine .cons (fun E hA_ => by have g212 := hA_.get 212 (by decide); exact OpStep.plain rfl (Step.load (e := (.int .i64 ((vN h (wN b 48) i).getD 1 0))) (t := 213) rfl rfl (by exact lt_ok rfl) (by kernel_rfl) (show Env.ev E (.tmp 212) = _ from g212.trans rfl) rfl)) ?_
            refine .cons (fun E hA_ => by have g15 := hA_.get 15 (by decide); exact OpStep.plain rfl (Step.move (p := (.one (.d (.ints .i64 (vN h (wN b 48) i))))) (t := 214) rfl rfl (by exact lt_ok rfl) (show Env.ev E (.tmp 15) = _ from g15.trans rfl))) ?_
            refine .cons (fun E hA_ => by have g214 := hA_.get 214 (by decide); exact OpStep.plain rfl (Step.index (e := 3) (z := 1) (i := 2) (t := 215) rfl rfl (by exact lt_ok rfl) (by kernel_rfl) (show Env.ev E (.tmp 214) = _ from g214.trans rfl) rfl rfl (lt_ok rfl) rfl (by first | omega | (simp; omega) | (simp [w16_len, wN_len]; omega)) (by simp only [D.size]; first | omega | (simp; omega) | (simp [w16_len, wN_len]; omega)))) ?_
            refine .cons (fun E hA_ => by have g215 := hA_.get 215 (by decide); exact OpStep.plain rfl (Step.load (e := (.int .i64 ((vN h (wN b 48) i).getD 2 0))) (t := 216) rfl rfl (by exact lt_ok rfl) (by kernel_rfl) (show Env.ev E (.tmp 215) = _ from g215.trans rfl) rfl)) ?_
            refine .cons (fun E hA_ => by have g15 := hA_.get 15 (by decide); exact OpStep.plain rfl (Step.move (p := (.one (.d (.ints .i64 (vN h (wN b 48) i))))) (t := 217) rfl rfl (by exact lt_ok rfl) (show Env.ev E (.tmp 15) = _ from g15.trans rfl))) ?_
            refine .cons (fun E hA_ => by have g217 := hA_.get 217 (by decide); exact OpStep.plain rfl (Step.index (e := 3) (z := 1) (i := 3) (t := 218) rfl rfl (by exact lt_ok rfl) (by kernel_rfl) (show Env.ev E (.tmp 217) = _ from g217.trans rfl) rfl rfl (lt_ok rfl) rfl (by first | omega | (simp; omega) | (simp [w16_len, wN_len]; omega)) (by simp only [D.size]; first | omega | (simp; omega) | (simp [w16_len, wN_len]; omega)))) ?_
            refine .cons (fun E hA_ => by have g218 := hA_.get 218 (by decide); exact OpStep.plain rfl (Step.load (e := (.int .i64 ((vN h (wN b 48) i).getD 3 0))) (t := 219) rfl rfl (by exact lt_ok rfl) (by kernel_rfl) (show Env.ev E (.tmp 218) = _ from g218.trans rfl) rfl)) ?_
            refine .cons (fun E hA_ => by have g19 := hA_.get 19 (by decide); exact OpStep.plain rfl (Step.move (p := (.one (.d (.int .i64 (wadd (wadd (wadd (wadd ((vN h (wN b 48) i).getD 7 0) (bxor (bxor (turnW ((vN h (wN b 48) i).getD 4 0) 6) (turnW ((vN h (wN b 48) i).getD 4 0) 11)) (turnW ((vN h (wN b 48) i).getD 4 0) 25))) (bxor (band ((vN h (wN b 48) i).getD 4 0) ((vN h (wN b 48) i).getD 5 0)) (band (bxor 4294967295 ((vN h (wN b 48) i).getD 4 0)) ((vN h (wN b 48) i).getD 6 0)))) (shaK.getD i 0)) ((wN b 48).getD i 0)))))) (t := 220) rfl rfl (by exact lt_ok rfl) (show Env.ev E (.tmp 19) = _ from g19.trans rfl))) ?_
            refine .cons (fun E hA_ => by have g219 := hA_.get 219 (by decide); have g220 := hA_.get 220 (by decide); exact OpStep.plain rfl (Step.bin (r := .int .i64 (wadd ((vN h (wN b 48) i).getD 3 0) (wadd (wadd (wadd (wadd ((vN h (wN b 48) i).getD 7 0) (bxor (bxor (turnW ((vN h (wN b 48) i).getD 4 0) 6) (turnW ((vN h (wN b 48) i).getD 4 0) 11)) (turnW ((vN h (wN b 48) i).getD 4 0) 25))) (bxor (band ((vN h (wN b 48) i).getD 4 0) ((vN h (wN b 48) i).getD 5 0)) (band (bxor 4294967295 ((vN h (wN b 48) i).getD 4 0)) ((vN h (wN b 48) i).getD 6 0)))) (shaK.getD i 0)) ((wN b 48).getD i 0)))) (t := 221) rfl rfl (by exact lt_ok rfl) (show Env.ev E (.tmp 219) = _ from g219.trans rfl) (show Env.ev E (.tmp 220) = _ from g220.trans rfl) (Bin.add (k := .i64) (a := ((vN h (wN b 48) i).getD 3 0)) (b := (wadd (wadd (wadd (wadd ((vN h (wN b 48) i).getD 7 0) (bxor (bxor (turnW ((vN h (wN b 48) i).getD 4 0) 6) (turnW ((vN h (wN b 48) i).getD 4 0) 11)) (turnW ((vN h (wN b 48) i).getD 4 0) 25))) (bxor (band ((vN h (wN b 48) i).getD 4 0) ((vN h (wN b 48) i).getD 5 0)) (band (bxor 4294967295 ((vN h (wN b 48) i).getD 4 0)) ((vN h (wN b 48) i).getD 6 0)))) (shaK.getD i 0)) ((wN b 48).getD i 0))) (rfl)))) ?_
            refine .cons (fun E hA_ => by have g221 := hA_.get 221 (by decide); exact OpStep.plain rfl (Step.bin (r := .int .i64 (band (wadd ((vN h (wN b 48) i).getD 3 0) (wadd (wadd (wadd (wadd ((vN h (wN b 48) i).getD 7 0) (bxor (bxor (turnW ((vN h (wN b 48) i).getD 4 0) 6) (turnW ((vN h (wN b 48) i).getD 4 0) 11)) (turnW ((vN h (wN b 48) i).getD 4 0) 25))) (bxor (band ((vN h (wN b 48) i).getD 4 0) ((vN h (wN b 48) i).getD 5 0)) (band (bxor 4294967295 ((vN h (wN b 48) i).getD 4 0)) ((vN h (wN b 48) i).getD 6 0)))) (shaK.getD i 0)) ((wN b 48).getD i 0))) 4294967295)) (t := 222) rfl rfl (by exact lt_ok rfl) (show Env.ev E (.tmp 221) = _ from g221.trans rfl) rfl (Bin.and (k := .i64) (a := (wadd ((vN h (wN b 48) i).getD 3 0) (wadd (wadd (wadd (wadd ((vN h (wN b 48) i).getD 7 0) (bxor (bxor (turnW ((vN h (wN b 48) i).getD 4 0) 6) (turnW ((vN h (wN b 48) i).getD 4 0) 11)) (turnW ((vN h (wN b 48) i).getD 4 0) 25))) (bxor (band ((vN h (wN b 48) i).getD 4 0) ((vN h (wN b 48) i).getD 5 0)) (band (bxor 4294967295 ((vN h (wN b 48) i).getD 4 0)) ((vN h (wN b 48) i).getD 6 0)))) (shaK.getD i 0)) ((wN b 48).getD i 0)))) (b := 4294967295) (rfl)))) ?_
            refine .cons (fun E hA_ => by have g15 := hA_.get 15 (by decide); exact OpStep.plain rfl (Step.move (p := (.one (.d (.ints .i64 (vN h (wN b 48) i))))) (t := 223) rfl rfl (by exact lt_ok rfl) (show Env.ev E (.tmp 15) = _ from g15.trans rfl))) ?_
            refine .cons (fun E hA_ => by have g223 := hA_.get 223 (by decide); exact OpStep.plain rfl (Step.index (e := 3) (z := 1) (i := 4) (t := 224) rfl rfl (by exact lt_ok rfl) (by kernel_rfl) (show Env.ev E (.tmp 223) = _ from g223.trans rfl) rfl rfl (lt_ok rfl) rfl (by first | omega | (simp; omega) | (simp [w16_len, wN_len]; omega)) (by simp only [D.size]; first | omega | (simp; omega) | (simp [w16_len, wN_len]; omega)))) ?_
            refine .cons (fun E hA_ => by have g224 := hA_.get 224 (by decide); exact OpStep.plain rfl (Step.load (e := (.int .i64 ((vN h (wN b 48) i).getD 4 0))) (t := 225) rfl rfl (by exact lt_ok rfl) (by kernel_rfl) (show Env.ev E (.tmp 224) = _ from g224.trans rfl) rfl)) ?_
            refine .cons (fun E hA_ => by have g15 := hA_.get 15 (by decide); exact OpStep.plain rfl (Step.move (p := (.one (.d (.ints .i64 (vN h (wN b 48) i))))) (t := 226) rfl rfl (by exact lt_ok rfl) (show Env.ev E (.tmp 15) = _ from g15.trans rfl))) ?_
            refine .cons (fun E hA_ => by have g226 := hA_.get 226 (by decide); exact OpStep.plain rfl (Step.index (e := 3) (z := 1) (i := 5) (t := 227) rfl rfl (by exact lt_ok rfl) (by kernel_rfl) (show Env.ev E (.tmp 226) = _ from g226.trans rfl) rfl rfl (lt_ok rfl) rfl (by first | omega | (simp; omega) | (simp [w16_len, wN_len]; omega)) (by simp only [D.size]; first | omega | (simp; omega) | (simp [w16_len, wN_len]; omega)))) ?_
            refine .cons (fun E hA_ => by have g227 := hA_.get 227 (by decide); exact OpStep.plain rfl (Step.load (e := (.int .i64 ((vN h (wN b 48) i).getD 5 0))) (t := 228) rfl rfl (by exact lt_ok rfl) (by kernel_rfl) (show Env.ev E (.tmp 227) = _ from g227.trans rfl) rfl)) ?_
            refine .cons (fun E hA_ => by have g15 := hA_.get 15 (by decide); exact OpStep.plain rfl (Step.move (p := (.one (.d (.ints .i64 (vN h (wN b 48) i))))) (t := 229) rfl rfl (by exact lt_ok rfl) (show Env.ev E (.tmp 15) = _ from g15.trans rfl))) ?_
            refine .cons (fun E hA_ => by have g229 := hA_.get 229 (by decide); exact OpStep.plain rfl (Step.index (e := 3) (z := 1) (i := 6) (t := 230) rfl rfl (by exact lt_ok rfl) (by kernel_rfl) (show Env.ev E (.tmp 229) = _ from g229.trans rfl) rfl rfl (lt_ok rfl) rfl (by first | omega | (simp; omega) | (simp [w16_len, wN_len]; omega)) (by simp only [D.size]; first | omega | (simp; omega) | (simp [w16_len, wN_len]; omega)))) ?_
            refine .cons (fun E hA_ => by have g230 := hA_.get 230 (by decide); exact OpStep.plain rfl (Step.load (e := (.int .i64 ((vN h (wN b 48) i).getD 6 0))) (t := 231) rfl rfl (by exact lt_ok rfl) (by kernel_rfl) (show Env.ev E (.tmp 230) = _ from g230.trans rfl) rfl)) ?_
            refine .cons (fun E hA_ => by have g207 := hA_.get 207 (by decide); have g210 := hA_.get 210 (by decide); have g213 := hA_.get 213 (by decide); have g216 := hA_.get 216 (by decide); have g222 := hA_.get 222 (by decide); have g225 := hA_.get 225 (by decide); have g228 := hA_.get 228 (by decide); have g231 := hA_.get 231 (by decide); exact OpStep.plain rfl (Step.lit_d (e := 3) (z := 1) (by_ := 8) (xs := [.tmp 207, .tmp 210, .tmp 213, .tmp 216, .tmp 222, .tmp 225, .tmp 228, .tmp 231]) (pss := [[.d (.int .i64 (band (wadd (wadd (wadd (wadd (wadd ((vN h (wN b 48) i).getD 7 0) (bxor (bxor (turnW ((vN h (wN b 48) i).getD 4 0) 6) (turnW ((vN h (wN b 48) i).getD 4 0) 11)) (turnW ((vN h (wN b 48) i).getD 4 0) 25))) (bxor (band ((vN h (wN b 48) i).getD 4 0) ((vN h (wN b 48) i).getD 5 0)) (band (bxor 4294967295 ((vN h (wN b 48) i).getD 4 0)) ((vN h (wN b 48) i).getD 6 0)))) (shaK.getD i 0)) ((wN b 48).getD i 0)) (wadd (bxor (bxor (turnW ((vN h (wN b 48) i).getD 0 0) 2) (turnW ((vN h (wN b 48) i).getD 0 0) 13)) (turnW ((vN h (wN b 48) i).getD 0 0) 22)) (bxor (bxor (band ((vN h (wN b 48) i).getD 0 0) ((vN h (wN b 48) i).getD 1 0)) (band ((vN h (wN b 48) i).getD 0 0) ((vN h (wN b 48) i).getD 2 0))) (band ((vN h (wN b 48) i).getD 1 0) ((vN h (wN b 48) i).getD 2 0))))) 4294967295))], [.d (.int .i64 ((vN h (wN b 48) i).getD 0 0))], [.d (.int .i64 ((vN h (wN b 48) i).getD 1 0))], [.d (.int .i64 ((vN h (wN b 48) i).getD 2 0))], [.d (.int .i64 (band (wadd ((vN h (wN b 48) i).getD 3 0) (wadd (wadd (wadd (wadd ((vN h (wN b 48) i).getD 7 0) (bxor (bxor (turnW ((vN h (wN b 48) i).getD 4 0) 6) (turnW ((vN h (wN b 48) i).getD 4 0) 11)) (turnW ((vN h (wN b 48) i).getD 4 0) 25))) (bxor (band ((vN h (wN b 48) i).getD 4 0) ((vN h (wN b 48) i).getD 5 0)) (band (bxor 4294967295 ((vN h (wN b 48) i).getD 4 0)) ((vN h (wN b 48) i).getD 6 0)))) (shaK.getD i 0)) ((wN b 48).getD i 0))) 4294967295))], [.d (.int .i64 ((vN h (wN b 48) i).getD 4 0))], [.d (.int .i64 ((vN h (wN b 48) i).getD 5 0))], [.d (.int .i64 ((vN h (wN b 48) i).getD 6 0))]]) (ds := [(.int .i64 (band (wadd (wadd (wadd (wadd (wadd ((vN h (wN b 48) i).getD 7 0) (bxor (bxor (turnW ((vN h (wN b 48) i).getD 4 0) 6) (turnW ((vN h (wN b 48) i).getD 4 0) 11)) (turnW ((vN h (wN b 48) i).getD 4 0) 25))) (bxor (band ((vN h (wN b 48) i).getD 4 0) ((vN h (wN b 48) i).getD 5 0)) (band (bxor 4294967295 ((vN h (wN b 48) i).getD 4 0)) ((vN h (wN b 48) i).getD 6 0)))) (shaK.getD i 0)) ((wN b 48).getD i 0)) (wadd (bxor (bxor (turnW ((vN h (wN b 48) i).getD 0 0) 2) (turnW ((vN h (wN b 48) i).getD 0 0) 13)) (turnW ((vN h (wN b 48) i).getD 0 0) 22)) (bxor (bxor (band ((vN h (wN b 48) i).getD 0 0) ((vN h (wN b 48) i).getD 1 0)) (band ((vN h (wN b 48) i).getD 0 0) ((vN h (wN b 48) i).getD 2 0))) (band ((vN h (wN b 48) i).getD 1 0) ((vN h (wN b 48) i).getD 2 0))))) 4294967295)), (.int .i64 ((vN h (wN b 48) i).getD 0 0)), (.int .i64 ((vN h (wN b 48) i).getD 1 0)), (.int .i64 ((vN h (wN b 48) i).getD 2 0)), (.int .i64 (band (wadd ((vN h (wN b 48) i).getD 3 0) (wadd (wadd (wadd (wadd ((vN h (wN b 48) i).getD 7 0) (bxor (bxor (turnW ((vN h (wN b 48) i).getD 4 0) 6) (turnW ((vN h (wN b 48) i).getD 4 0) 11)) (turnW ((vN h (wN b 48) i).getD 4 0) 25))) (bxor (band ((vN h (wN b 48) i).getD 4 0) ((vN h (wN b 48) i).getD 5 0)) (band (bxor 4294967295 ((vN h (wN b 48) i).getD 4 0)) ((vN h (wN b 48) i).getD 6 0)))) (shaK.getD i 0)) ((wN b 48).getD i 0))) 4294967295)), (.int .i64 ((vN h (wN b 48) i).getD 4 0)), (.int .i64 ((vN h (wN b 48) i).getD 5 0)), (.int .i64 ((vN h (wN b 48) i).getD 6 0))]) (d := (.ints .i64 [band (wadd (wadd (wadd (wadd (wadd ((vN h (wN b 48) i).getD 7 0) (bxor (bxor (turnW ((vN h (wN b 48) i).getD 4 0) 6) (turnW ((vN h (wN b 48) i).getD 4 0) 11)) (turnW ((vN h (wN b 48) i).getD 4 0) 25))) (bxor (band ((vN h (wN b 48) i).getD 4 0) ((vN h (wN b 48) i).getD 5 0)) (band (bxor 4294967295 ((vN h (wN b 48) i).getD 4 0)) ((vN h (wN b 48) i).getD 6 0)))) (shaK.getD i 0)) ((wN b 48).getD i 0)) (wadd (bxor (bxor (turnW ((vN h (wN b 48) i).getD 0 0) 2) (turnW ((vN h (wN b 48) i).getD 0 0) 13)) (turnW ((vN h (wN b 48) i).getD 0 0) 22)) (bxor (bxor (band ((vN h (wN b 48) i).getD 0 0) ((vN h (wN b 48) i).getD 1 0)) (band ((vN h (wN b 48) i).getD 0 0) ((vN h (wN b 48) i).getD 2 0))) (band ((vN h (wN b 48) i).getD 1 0) ((vN h (wN b 48) i).getD 2 0))))) 4294967295, (vN h (wN b 48) i).getD 0 0, (vN h (wN b 48) i).getD 1 0, (vN h (wN b 48) i).getD 2 0, band (wadd ((vN h (wN b 48) i).getD 3 0) (wadd (wadd (wadd (wadd ((vN h (wN b 48) i).getD 7 0) (bxor (bxor (turnW ((vN h (wN b 48) i).getD 4 0) 6) (turnW ((vN h (wN b 48) i).getD 4 0) 11)) (turnW ((vN h (wN b 48) i).getD 4 0) 25))) (bxor (band ((vN h (wN b 48) i).getD 4 0) ((vN h (wN b 48) i).getD 5 0)) (band (bxor 4294967295 ((vN h (wN b 48) i).getD 4 0)) ((vN h (wN b 48) i).getD 6 0)))) (shaK.getD i 0)) ((wN b 48).getD i 0))) 4294967295, (vN h (wN b 48) i).getD 4 0, (vN h (wN b 48) i).getD 5 0, (vN h (wN b 48) i).getD 6 0])) (t := 232) rfl rfl (by exact lt_ok rfl) (by kernel_rfl) rfl rfl (.cons (by exact (congrArg PV.flat (show Env.ev E (.tmp 207) = _ from g207.trans rfl)).trans rfl) (.cons (by exact (congrArg PV.flat (show Env.ev E (.tmp 210) = _ from g210.trans rfl)).trans rfl) (.cons (by exact (congrArg PV.flat (show Env.ev E (.tmp 213) = _ from g213.trans rfl)).trans rfl) (.cons (by exact (congrArg PV.flat (show Env.ev E (.tmp 216) = _ from g216.trans rfl)).trans rfl) (.cons (by exact (congrArg PV.flat (show Env.ev E (.tmp 222) = _ from g222.trans rfl)).trans rfl) (.cons (by exact (congrArg PV.flat (show Env.ev E (.tmp 225) = _ from g225.trans rfl)).trans rfl) (.cons (by exact (congrArg PV.flat (show Env.ev E (.tmp 228) = _ from g228.trans rfl)).trans rfl) (.cons (by exact (congrArg PV.flat (show Env.ev E (.tmp 231) = _ from g231.trans rfl)).trans rfl) .nil)))))))) (by simp) (le_ok rfl) (le_ok rfl) rfl rfl trivial rfl rfl)) ?_
            exact .nil _ _
           refine TL.cons rfl (Step.assign (p := (.one (.d (.ints .i64 [band (wadd (wadd (wadd (wadd (wadd ((vN h (wN b 48) i).getD 7 0) (bxor (bxor (turnW ((vN h (wN b 48) i).getD 4 0) 6) (turnW ((vN h (wN b 48) i).getD 4 0) 11)) (turnW ((vN h (wN b 48) i).getD 4 0) 25))) (bxor (band ((vN h (wN b 48) i).getD 4 0) ((vN h (wN b 48) i).getD 5 0)) (band (bxor 4294967295 ((vN h (wN b 48) i).getD 4 0)) ((vN h (wN b 48) i).getD 6 0)))) (shaK.getD i 0)) ((wN b 48).getD i 0)) (wadd (bxor (bxor (turnW ((vN h (wN b 48) i).getD 0 0) 2) (turnW ((vN h (wN b 48) i).getD 0 0) 13)) (turnW ((vN h (wN b 48) i).getD 0 0) 22)) (bxor (bxor (band ((vN h (wN b 48) i).getD 0 0) ((vN h (wN b 48) i).getD 1 0)) (band ((vN h (wN b 48) i).getD 0 0) ((vN h (wN b 48) i).getD 2 0))) (band ((vN h (wN b 48) i).getD 1 0) ((vN h (wN b 48) i).getD 2 0))))) 4294967295, (vN h (wN b 48) i).getD 0 0, (vN h (wN b 48) i).getD 1 0, (vN h (wN b 48) i).getD 2 0, band (wadd ((vN h (wN b 48) i).getD 3 0) (wadd (wadd (wadd (wadd ((vN h (wN b 48) i).getD 7 0) (bxor (bxor (turnW ((vN h (wN b 48) i).getD 4 0) 6) (turnW ((vN h (wN b 48) i).getD 4 0) 11)) (turnW ((vN h (wN b 48) i).getD 4 0) 25))) (bxor (band ((vN h (wN b 48) i).getD 4 0) ((vN h (wN b 48) i).getD 5 0)) (band (bxor 4294967295 ((vN h (wN b 48) i).getD 4 0)) ((vN h (wN b 48) i).getD 6 0)))) (shaK.getD i 0)) ((wN b 48).getD i 0))) 4294967295, (vN h (wN b 48) i).getD 4 0, (vN h (wN b 48) i).getD 5 0, (vN h (wN b 48) i).getD 6 0])))) rfl rfl (lt_ok rfl) rfl) ?_
           refine TL.nil ?_
           refine T.region ?_
           refine TL.cons rfl (Step.move (p := (.one (.d (.int .i64 (i : Int))))) rfl rfl (lt_ok rfl) rfl) ?_
           refine TL.cons rfl (Step.bin (r := .int .i64 ((i : Int) + 1)) rfl rfl (lt_ok rfl) rfl rfl (Bin.add (a := (i : Int)) (b := 1) (by first | exact wrap_ok (by first | omega | (simp; omega) | (simp [w16_len, wN_len]; omega)) (by first | omega | (simp; omega) | (simp [w16_len, wN_len]; omega)) | rfl))) ?_
           refine TL.cons rfl (Step.assign (p := (.one (.d (.int .i64 ((i : Int) + 1))))) rfl rfl (lt_ok rfl) rfl) ?_
           refine TL.nil ?_
           refine ⟨i + 1, by omega, by first | omega | (dsimp only; omega), Env.le_mk ⟨rfl, rfl, rfl, ?_, ?_, trivial⟩ ⟨rfl, rfl, trivial⟩ trivial⟩ <;> (first | exact congrArg (fun x => some (_, D.ints .i64 (wN b x))) (show i = 48 by omega) | rfl | (refine congrArg (fun x => some (_, D.ints .i64 x)) ?_; first | rfl | fail) | (refine congrArg (fun n => PV.one (.d (.int .i64 n))) ?_; first | rfl | omega | (simp; done)))
          ·
           replace h8 := of_decide_eq_false h8
           refine T.exit ?_
           refine T.seq ?_
           refine T.region ?_
           refine TL.cons rfl (Step.lit (e := 3) (z := 1) (by_ := 8) (xs := []) (pss := []) (es := []) (ss := []) (d := (.ints .i64 [])) rfl rfl (lt_ok rfl) (by kernel_rfl) rfl rfl .nil (by simp) (le_ok rfl) (le_ok rfl) rfl .nil rfl (by simp) (by simp) rfl trivial rfl rfl) ?_
           refine TL.cons rfl (Step.assign (p := (.one (.row 233 []))) rfl rfl (lt_ok rfl) rfl) ?_
           refine TL.nil ?_
           refine T.seq ?_
           refine T.seq ?_
           refine T.region ?_
           refine TL.cons rfl (Step.move (p := (.one (.d (.ints .i64 h)))) rfl rfl (lt_ok rfl) rfl) ?_
           refine TL.cons rfl (Step.len (e := 3) (z := 1) (d := (.ints .i64 h)) rfl rfl (lt_ok rfl) (by kernel_rfl) rfl rfl) ?_
           refine TL.cons rfl (Step.move (p := (.one (.d (.int .i64 0)))) rfl rfl (lt_ok rfl) rfl) ?_
           refine TL.nil ?_
           refine T.block ?_
           refine T.loop (ι := Nat) (fun xx_ => { tm := [(0, (.one (.d (.ints .i64 h)))), (15, (.one (.d (.ints .i64 (vN h (wN b 48) 64))))), (235, (.one (.d (.int .i64 (h.length : Int))))), (236, (.one (.d (.int .i64 (xx_ : Int))))), (21, (.one (.row 233 [])))], rows := [(1127, (3, (.ints .i64 shaK))), (233, (3, (.ints .i64 (outs h (vN h (wN b 48) 64) xx_))))], boxes := [] }) (fun xx_ => xx_ ≤ 8) (fun xx_ => 8 - xx_) 0 ?_ ?_ ?_
           · refine Env.le_mk ⟨rfl, ?_, rfl, ?_, rfl, trivial⟩ ⟨rfl, ?_, trivial⟩ trivial <;> (first | (exact congrArg (fun x => some (_, D.ints .i64 (vN h (wN b 48) x))) (show i = 64 by omega)) | (exact congrArg (fun x => PV.one (.d (.ints .i64 (vN h (wN b 48) x)))) (show i = 64 by omega)) | rfl | (refine congrArg (fun x => some (_, D.ints .i64 x)) ?_; first | rfl | (rw [show i = 64 from by omega]; first | done | rfl)) | (refine congrArg (fun n => PV.one (.d (.int .i64 n))) ?_; first | rfl | omega | (simp; done)))
           · exact Nat.zero_le _
           ·
            intro i hx
            try dsimp only at hx ⊢
            have hvl_ := vN_len (h := h) (w := wN b 48) (by omega) 64
            have hol_ := outs_len h (vN h (wN b 48) 64) i
            refine T.seq ?_
            refine T.region ?_
            refine TL.cons rfl (Step.bin rfl rfl (lt_ok rfl) rfl rfl (Bin.lss (k := .i64) (a := (i : Int)) (b := (h.length : Int)))) ?_
            refine TL.nil ?_
            refine T.seq ?_
            refine T.cond (b := decide ((i : Int) < (h.length : Int))) rfl (fun h9 => ?_) (fun h9 => ?_)
            ·
             replace h9 := of_decide_eq_true h9
             refine T.skip ?_
             refine T.seq ?_
             refine T.block ?_
             refine T.seq ?_
             refine T.region ?_
             refine TL.cons rfl (Step.move (p := (.one (.d (.int .i64 (i : Int))))) rfl rfl (lt_ok rfl) rfl) ?_
             refine TL.cons rfl (Step.assign (p := (.one (.d (.int .i64 (i : Int))))) rfl rfl (lt_ok rfl) rfl) ?_
             refine TL.nil ?_
             refine T.draw [⟨239, (.one (.row 233 [])), []⟩, ⟨240, (.one (.d (.ints .i64 h))), []⟩, ⟨241, (.one (.d (.int .i64 (i : Int)))), []⟩, ⟨242, (.one (.eptr (.ints .i64 h) i 0)), []⟩, ⟨243, (.one (.d (.int .i64 (h.getD i 0)))), []⟩, ⟨244, (.one (.d (.ints .i64 (vN h (wN b 48) 64)))), []⟩, ⟨245, (.one (.d (.int .i64 (i : Int)))), []⟩, ⟨246, (.one (.eptr (.ints .i64 (vN h (wN b 48) 64)) i 0)), []⟩, ⟨247, (.one (.d (.int .i64 ((vN h (wN b 48) 64).getD i 0)))), []⟩, ⟨248, (.one (.d (.int .i64 (wadd (h.getD i 0) ((vN h (wN b 48) 64).getD i 0))))), []⟩, ⟨249, (.one (.d (.int .i64 (band (wadd (h.getD i 0) ((vN h (wN b 48) 64).getD i 0)) 4294967295)))), []⟩, ⟨250, (.one (.d (.ints .i64 [band (wadd (h.getD i 0) ((vN h (wN b 48) 64).getD i 0)) 4294967295]))), []⟩] (by kernel_rfl) (by kernel_rfl) ?_ ?_
             ·
              refine .cons (fun E hA_ => by have g21 := hA_.get 21 (by decide); exact OpStep.plain rfl (Step.move (p := (.one (.row 233 []))) (t := 239) rfl rfl (by exact lt_ok rfl) (show Env.ev E (.tmp 21) = _ from g21.trans rfl))) ?_
              refine .cons (fun E hA_ => by have g0 := hA_.get 0 (by decide); exact OpStep.plain rfl (Step.move (p := (.one (.d (.ints .i64 h)))) (t := 240) rfl rfl (by exact lt_ok rfl) (show Env.ev E (.tmp 0) = _ from g0.trans rfl))) ?_
              refine .cons (fun E hA_ => by have g22 := hA_.get 22 (by decide); exact OpStep.plain rfl (Step.move (p := (.one (.d (.int .i64 (i : Int))))) (t := 241) rfl rfl (by exact lt_ok rfl) (show Env.ev E (.tmp 22) = _ from g22.trans rfl))) ?_
              refine .cons (fun E hA_ => by have g240 := hA_.get 240 (by decide); have g241 := hA_.get 241 (by decide); exact OpStep.plain rfl (Step.index (e := 3) (z := 1) (i := (i : Int)) (t := 242) rfl rfl (by exact lt_ok rfl) (by kernel_rfl) (show Env.ev E (.tmp 240) = _ from g240.trans rfl) rfl rfl (lt_ok rfl) (show Env.ev E (.tmp 241) = _ from g241.trans rfl) (by first | omega | (simp; omega) | (simp [w16_len, wN_len]; omega)) (by simp only [D.size]; first | omega | (simp; omega) | (simp [w16_len, wN_len]; omega)))) ?_
              refine .cons (fun E hA_ => by have g242 := hA_.get 242 (by decide); exact OpStep.plain rfl (Step.load (e := (.int .i64 (h.getD i 0))) (t := 243) rfl rfl (by exact lt_ok rfl) (by kernel_rfl) (show Env.ev E (.tmp 242) = _ from g242.trans rfl) rfl)) ?_
              refine .cons (fun E hA_ => by have g15 := hA_.get 15 (by decide); exact OpStep.plain rfl (Step.move (p := (.one (.d (.ints .i64 (vN h (wN b 48) 64))))) (t := 244) rfl rfl (by exact lt_ok rfl) (show Env.ev E (.tmp 15) = _ from g15.trans rfl))) ?_
              refine .cons (fun E hA_ => by have g22 := hA_.get 22 (by decide); exact OpStep.plain rfl (Step.move (p := (.one (.d (.int .i64 (i : Int))))) (t := 245) rfl rfl (by exact lt_ok rfl) (show Env.ev E (.tmp 22) = _ from g22.trans rfl))) ?_
              refine .cons (fun E hA_ => by have g244 := hA_.get 244 (by decide); have g245 := hA_.get 245 (by decide); exact OpStep.plain rfl (Step.index (e := 3) (z := 1) (i := (i : Int)) (t := 246) rfl rfl (by exact lt_ok rfl) (by kernel_rfl) (show Env.ev E (.tmp 244) = _ from g244.trans rfl) rfl rfl (lt_ok rfl) (show Env.ev E (.tmp 245) = _ from g245.trans rfl) (by first | omega | (simp; omega) | (simp [w16_len, wN_len]; omega)) (by simp only [D.size]; first | omega | (simp; omega) | (simp [w16_len, wN_len]; omega)))) ?_
              refine .cons (fun E hA_ => by have g246 := hA_.get 246 (by decide); exact OpStep.plain rfl (Step.load (e := (.int .i64 ((vN h (wN b 48) 64).getD i 0))) (t := 247) rfl rfl (by exact lt_ok rfl) (by kernel_rfl) (show Env.ev E (.tmp 246) = _ from g246.trans rfl) rfl)) ?_
              refine .cons (fun E hA_ => by have g243 := hA_.get 243 (by decide); have g247 := hA_.get 247 (by decide); exact OpStep.plain rfl (Step.bin (r := .int .i64 (wadd (h.getD i 0) ((vN h (wN b 48) 64).getD i 0))) (t := 248) rfl rfl (by exact lt_ok rfl) (show Env.ev E (.tmp 243) = _ from g243.trans rfl) (show Env.ev E (.tmp 247) = _ from g247.trans rfl) (Bin.add (k := .i64) (a := (h.getD i 0)) (b := ((vN h (wN b 48) 64).getD i 0)) (rfl)))) ?_
              refine .cons (fun E hA_ => by have g248 := hA_.get 248 (by decide); exact OpStep.plain rfl (Step.bin (r := .int .i64 (band (wadd (h.getD i 0) ((vN h (wN b 48) 64).getD i 0)) 4294967295)) (t := 249) rfl rfl (by exact lt_ok rfl) (show Env.ev E (.tmp 248) = _ from g248.trans rfl) rfl (Bin.and (k := .i64) (a := (wadd (h.getD i 0) ((vN h (wN b 48) 64).getD i 0))) (b := 4294967295) (rfl)))) ?_
              refine .cons (fun E hA_ => by have g249 := hA_.get 249 (by decide); exact OpStep.plain rfl (Step.lit_d (e := 3) (z := 1) (by_ := 8) (xs := [.tmp 249]) (pss := [[.d (.int .i64 (band (wadd (h.getD i 0) ((vN h (wN b 48) 64).getD i 0)) 4294967295))]]) (ds := [(.int .i64 (band (wadd (h.getD i 0) ((vN h (wN b 48) 64).getD i 0)) 4294967295))]) (d := (.ints .i64 [band (wadd (h.getD i 0) ((vN h (wN b 48) 64).getD i 0)) 4294967295])) (t := 250) rfl rfl (by exact lt_ok rfl) (by kernel_rfl) rfl rfl (.cons (by exact (congrArg PV.flat (show Env.ev E (.tmp 249) = _ from g249.trans rfl)).trans rfl) .nil) (by simp) (le_ok rfl) (le_ok rfl) rfl rfl trivial rfl rfl)) ?_
              exact .nil _ _
             refine TL.cons rfl (Step.append (e := 3) (z := 1) (by_ := 8) (d := (.ints .i64 (outs h (vN h (wN b 48) 64) i))) (dy := (.ints .i64 [band (wadd (h.getD i 0) ((vN h (wN b 48) 64).getD i 0)) 4294967295])) (d' := (.ints .i64 ((outs h (vN h (wN b 48) 64) i) ++ [band (wadd (h.getD i 0) ((vN h (wN b 48) 64).getD i 0)) 4294967295]))) (ss := []) rfl rfl (lt_ok rfl) (by kernel_rfl) rfl rfl rfl (lt_ok rfl) rfl (.froz rfl (by simp [D.flat, D.val])) (by simp) rfl (by simp only [D.size, List.length_map]; first | omega | (simp only [List.length_append, List.length_cons, List.length_nil]; omega) | (simp; omega) | (simp only [List.length_append] at *; omega)) (by simp only [D.size, List.length_map]; first | omega | (simp only [List.length_append, List.length_cons, List.length_nil]; omega) | (simp; omega) | (simp only [List.length_append] at *; omega)) (by simp)) ?_
             refine TL.cons rfl (Step.assign (p := (.one (.row 233 []))) rfl rfl (lt_ok rfl) rfl) ?_
             refine TL.nil ?_
             refine T.region ?_
             refine TL.cons rfl (Step.bin (r := .int .i64 ((i : Int) + 1)) rfl rfl (lt_ok rfl) rfl rfl (Bin.add (a := (i : Int)) (b := 1) (by first | exact wrap_ok (by first | omega | (simp; omega) | (simp [w16_len, wN_len]; omega)) (by first | omega | (simp; omega) | (simp [w16_len, wN_len]; omega)) | rfl))) ?_
             refine TL.cons rfl (Step.move (p := (.one (.d (.int .i64 ((i : Int) + 1))))) rfl rfl (lt_ok rfl) rfl) ?_
             refine TL.nil ?_
             refine ⟨i + 1, by omega, by first | omega | (dsimp only; omega), Env.le_mk ⟨rfl, rfl, rfl, ?_, rfl, trivial⟩ ⟨rfl, ?_, trivial⟩ trivial⟩ <;> (first | (exact congrArg (fun x => some (_, D.ints .i64 (vN h (wN b 48) x))) (show i = 64 by omega)) | (exact congrArg (fun x => PV.one (.d (.ints .i64 (vN h (wN b 48) x)))) (show i = 64 by omega)) | rfl | (refine congrArg (fun x => some (_, D.ints .i64 x)) ?_; first | rfl | (rw [show i = 64 from by omega]; first | done | rfl)) | (refine congrArg (fun n => PV.one (.d (.int .i64 n))) ?_; first | rfl | omega | (simp; done)))
            ·
             replace h9 := of_decide_eq_false h9
             refine T.exit ?_
             refine T.seq ?_
             refine T.region ?_
             refine TL.cons rfl (Step.move (p := (.one (.row 233 []))) rfl rfl (lt_ok rfl) rfl) ?_
             refine TL.cons rfl (Step.assign (p := (.one (.row 233 []))) rfl rfl (lt_ok rfl) rfl) ?_
             refine TL.nil ?_
             refine T.ret ?_
             refine ⟨[(false, [.row 233 []])], (.cons rfl .nil), rfl, [233], (RetC.own' rfl ?_ rfl .nil)⟩ <;> (first | (rw [shaBlock_yes (h := h) (b := b) ⟨by omega, by omega, hwo_⟩, show i = 8 from by omega]; done) | (simp only [D.size]; first | (rw [shaBlock_no (fun h_ => by have := h_.1; have := h_.2.1; omega)]; rfl) | (rw [shaBlock_no (fun h_ => by have := h_.2.2; rw [words_no (i := i) (by omega) (by omega)] at this; cases this)]; rfl)))
theorem ok_spec_Sha (b : List Int) (h0_ : U8s b) (h1_ : b.length ≤ 17592186040000) : RO Try.prog 89 [.one (.ints .u8 b)] [(false, [.own 5 (.ints .u8 (sha b))])] := by
 refine RO.intro Try.func89 rfl 48 rfl (le_ok rfl) fun w Z => ?_
 refine T.bnd 0 0 rfl rfl fun hb_0_0 => ?_
 simp only [D.size, List.length_map] at hb_0_0
 refine T.seq ?_
 refine T.region ?_
 refine TL.cons rfl (Step.assign (p := (.one (.nil))) rfl rfl (lt_ok rfl) rfl) ?_
 refine TL.nil ?_
 refine T.seq ?_
 refine T.region ?_
 refine TL.cons rfl (Step.call (f := 107) (xs := []) (ps := []) false (g := .func 107) rfl rfl (lt_ok rfl) rfl (by kernel_rfl) rfl .nil (ok_spec_ShaInit ) (.inr rfl) rfl (by simp) rfl) ?_
 refine TL.cons rfl (Step.assign (p := (.one (.row 1009 []))) rfl rfl (lt_ok rfl) rfl) ?_
 refine TL.ren 1009 600003 rfl (by simp) ?_
 refine TL.nil ?_
 refine T.seq ?_
 refine T.region ?_
 refine TL.cons rfl (Step.move (p := (.one (.d (.ints .u8 b)))) rfl rfl (lt_ok rfl) rfl) ?_
 have nn1 := shaPad_mod b
 refine TL.cons rfl (Step.call (f := 108) (xs := [.tmp 10]) (ps := [(.one (.d (.ints .u8 b)))]) false (g := .func 108) rfl rfl (lt_ok rfl) rfl (by kernel_rfl) rfl (.cons (.one (.d _)) .nil) (ok_spec_ShaPad b (by first | omega | assumption | (simp only [List.length_append] at *; omega))) (.inr rfl) rfl (by simp) rfl) ?_
 refine TL.freeze (r := 1011) rfl (fun _ h => h) ?_
 refine TL.cons rfl (Step.assign (p := (.one (.d (.ints .u8 (shaPad b))))) rfl rfl (lt_ok rfl) rfl) ?_
 refine TL.nil ?_
 refine T.seq ?_
 refine T.seq ?_
 refine T.region ?_
 refine TL.cons rfl (Step.assign (p := (.one (.d (.int .i64 0)))) rfl rfl (lt_ok rfl) rfl) ?_
 refine TL.nil ?_
 refine T.block ?_
 refine T.loop (ι := Nat) (fun xx_ => { tm := [(2, (.one (.nil))), (4, (.one (.d (.ints .u8 (shaPad b))))), (5, (.one (.d (.int .i64 (64 * (xx_ : Int)))))), (3, (.one (.row 600003 [])))], rows := [(600003, (3, (.ints .i64 (hN (shaPad b) xx_))))], boxes := [] }) (fun xx_ => 64 * xx_ ≤ (shaPad b).length) (fun xx_ => (shaPad b).length - 64 * xx_) 0 ?_ ?_ ?_
 · refine Env.le_mk ⟨rfl, rfl, ?_, rfl, trivial⟩ ⟨?_, trivial⟩ trivial <;> (first | rfl | (refine congrArg (fun n => PV.one (.d (.int .i64 n))) ?_; first | rfl | omega | (simp; done)))
 · exact Nat.zero_le _
 ·
  intro i hx
  try dsimp only at hx ⊢
  have hu_ := u8_sub (shaPad_u8 h0_)
  refine T.seq ?_
  refine T.seq ?_
  refine T.region ?_
  refine TL.cons rfl (Step.move (p := (.one (.d (.int .i64 (64 * (i : Int)))))) rfl rfl (lt_ok rfl) rfl) ?_
  refine TL.cons rfl (Step.move (p := (.one (.d (.ints .u8 (shaPad b))))) rfl rfl (lt_ok rfl) rfl) ?_
  refine TL.cons rfl (Step.len (e := 5) (z := 1) (d := (.ints .u8 (shaPad b))) rfl rfl (lt_ok rfl) (by kernel_rfl) rfl rfl) ?_
  refine TL.cons rfl (Step.bin rfl rfl (lt_ok rfl) rfl rfl (Bin.lss (k := .i64) (a := (64 * (i : Int))) (b := ((shaPad b).length : Int)))) ?_
  refine TL.nil ?_
  refine T.cond (b := decide ((64 * (i : Int)) < ((shaPad b).length : Int))) rfl (fun h2 => ?_) (fun h2 => ?_)
  ·
   replace h2 := of_decide_eq_true h2
   refine T.skip ?_
   refine T.seq ?_
   refine T.block ?_
   refine T.region ?_
   refine TL.cons rfl (Step.move (p := (.one (.row 600003 []))) rfl rfl (lt_ok rfl) rfl) ?_
   refine TL.cons rfl (Step.move (p := (.one (.d (.ints .u8 (shaPad b))))) rfl rfl (lt_ok rfl) rfl) ?_
   refine TL.cons rfl (Step.move (p := (.one (.d (.int .i64 (64 * (i : Int)))))) rfl rfl (lt_ok rfl) rfl) ?_
   refine TL.cons rfl (Step.move (p := (.one (.d (.int .i64 (64 * (i : Int)))))) rfl rfl (lt_ok rfl) rfl) ?_
   refine TL.cons rfl (Step.bin (r := .int .i64 ((64 * (i : Int)) + 64)) rfl rfl (lt_ok rfl) rfl rfl (Bin.add (a := (64 * (i : Int))) (b := 64) (by first | exact wrap_ok (by first | omega | (simp; omega)) (by first | omega | (simp; omega)) | rfl))) ?_
   refine TL.cons rfl (Step.slice (e := 5) (z := 1) (l := (64 * (i : Int)).toNat) (h := ((64 * (i : Int)) + 64).toNat) rfl rfl (lt_ok rfl) (by kernel_rfl) rfl rfl rfl ((.some (i := (64 * (i : Int))) rfl (by first | omega | (simp; omega)))) ((.some (i := ((64 * (i : Int)) + 64)) rfl (by first | omega | (simp; omega)))) (by first | omega | (simp; omega)) (by simp only [D.size]; first | omega | (simp; omega)) rfl) ?_
   have nn3 := shaBlock_len (hN (shaPad b) i) (((shaPad b).drop (64 * (i : Int)).toNat).take (((64 * (i : Int)) + 64).toNat - (64 * (i : Int)).toNat))
   refine TL.cons rfl (Step.call (f := 109) (xs := [.tmp 18, .tmp 23]) (ps := [(.one (.row 600003 [])), (.one (.d (.ints .u8 (((shaPad b).drop (64 * (i : Int)).toNat).take (((64 * (i : Int)) + 64).toNat - (64 * (i : Int)).toNat)))))]) false (g := .func 109) rfl rfl (lt_ok rfl) rfl (by kernel_rfl) rfl (.cons (.one (.row rfl rfl rfl rfl)) (.cons (.one (.d _)) .nil)) (ok_spec_ShaBlock (hN (shaPad b) i) (((shaPad b).drop (64 * (i : Int)).toNat).take (((64 * (i : Int)) + 64).toNat - (64 * (i : Int)).toNat)) (by first | assumption | exact hu_ _ _)) (.inr rfl) rfl (by simp) rfl) ?_
   refine TL.cons rfl (Step.assign (p := (.one (.row 1024 []))) rfl rfl (lt_ok rfl) rfl) ?_
   refine TL.weaken (Env.drops_le [600003] _) ?_
   refine TL.ren 1024 600003 rfl (by simp) ?_
   refine TL.nil ?_
   refine T.region ?_
   refine TL.cons rfl (Step.move (p := (.one (.d (.int .i64 (64 * (i : Int)))))) rfl rfl (lt_ok rfl) rfl) ?_
   refine TL.cons rfl (Step.bin (r := .int .i64 ((64 * (i : Int)) + 64)) rfl rfl (lt_ok rfl) rfl rfl (Bin.add (a := (64 * (i : Int))) (b := 64) (by first | exact wrap_ok (by first | omega | (simp; omega)) (by first | omega | (simp; omega)) | rfl))) ?_
   refine TL.cons rfl (Step.assign (p := (.one (.d (.int .i64 ((64 * (i : Int)) + 64))))) rfl rfl (lt_ok rfl) rfl) ?_
   refine TL.nil ?_
   refine ⟨i + 1, by omega, by first | omega | (dsimp only; omega), Env.le_mk ⟨rfl, rfl, ?_, rfl, trivial⟩ ⟨?_, trivial⟩ trivial⟩ <;> (first | rfl | (refine congrArg (fun n => PV.one (.d (.int .i64 n))) ?_; first | rfl | omega | (simp; done)))
  ·
   replace h2 := of_decide_eq_false h2
   refine T.exit ?_
   refine T.seq ?_
   refine T.region ?_
   refine TL.cons rfl (Step.lit (e := 5) (z := 1) (by_ := 1) (xs := []) (pss := []) (es := []) (ss := []) (d := (.ints .u8 [])) rfl rfl (lt_ok rfl) (by kernel_rfl) rfl rfl .nil (by simp) (le_ok rfl) (le_ok rfl) rfl .nil rfl (by simp) (by simp) rfl trivial rfl rfl) ?_
   refine TL.cons rfl (Step.assign (p := (.one (.row 25 []))) rfl rfl (lt_ok rfl) rfl) ?_
   refine TL.nil ?_
   refine T.seq ?_
   refine T.seq ?_
   refine T.region ?_
   refine TL.cons rfl (Step.move (p := (.one (.row 600003 []))) rfl rfl (lt_ok rfl) rfl) ?_
   refine TL.cons rfl (Step.len (e := 3) (z := 1) (d := (.ints .i64 (hN (shaPad b) i))) rfl rfl (lt_ok rfl) (by kernel_rfl) rfl rfl) ?_
   refine TL.cons rfl (Step.move (p := (.one (.d (.int .i64 0)))) rfl rfl (lt_ok rfl) rfl) ?_
   refine TL.nil ?_
   refine T.block ?_
   refine T.loop (ι := Nat) (fun xx_ => { tm := [(2, (.one (.nil))), (26, (.one (.row 600003 []))), (27, (.one (.d (.int .i64 ((shaH b).length : Int))))), (28, (.one (.d (.int .i64 (xx_ : Int))))), (6, (.one (.row 25 [])))], rows := [(600003, (3, (.ints .i64 (shaH b)))), (25, (5, (.ints .u8 (outB (shaH b) xx_))))], boxes := [] }) (fun xx_ => xx_ ≤ (shaH b).length) (fun xx_ => (shaH b).length - xx_) 0 ?_ ?_ ?_
   · refine Env.le_mk ⟨rfl, rfl, ?_, ?_, rfl, trivial⟩ ⟨?_, ?_, trivial⟩ trivial <;> (first | rfl | (refine congrArg (fun x => some (_, D.ints .i64 x)) ?_; unfold shaH; rw [show i = (shaPad b).length / 64 from by omega]) | (refine congrArg (fun n => PV.one (.d (.int .i64 n))) ?_; first | rfl | omega | (unfold shaH; rw [show i = (shaPad b).length / 64 from by omega]; first | done | rfl) | (simp; done)))
   · exact Nat.zero_le _
   ·
    intro i hx
    try dsimp only at hx ⊢
    have hl_ := outB_len (shaH b) i
    have hh_ : (shaH b).length ≤ 8 := hN_len _ _
    refine T.seq ?_
    refine T.region ?_
    refine TL.cons rfl (Step.bin rfl rfl (lt_ok rfl) rfl rfl (Bin.lss (k := .i64) (a := (i : Int)) (b := ((shaH b).length : Int)))) ?_
    refine TL.nil ?_
    refine T.seq ?_
    refine T.cond (b := decide ((i : Int) < ((shaH b).length : Int))) rfl (fun h4 => ?_) (fun h4 => ?_)
    ·
     replace h4 := of_decide_eq_true h4
     refine T.skip ?_
     refine T.seq ?_
     refine T.block ?_
     refine T.seq ?_
     refine T.region ?_
     refine TL.cons rfl (Step.index_row (e := 3) (z := 1) (i := (i : Int)) rfl rfl (lt_ok rfl) (by kernel_rfl) rfl rfl rfl rfl (lt_ok rfl) rfl (by first | omega | (simp; omega)) (by simp only [D.at_, D.cell, D.size]; first | omega | (simp; omega))) ?_
     refine TL.cons rfl (Step.load_row (c := .d (.int .i64 ((shaH b).getD i 0))) rfl rfl (lt_ok rfl) (by kernel_rfl) rfl rfl rfl) ?_
     refine TL.cons rfl (Step.assign (p := (.one (.d (.int .i64 ((shaH b).getD i 0))))) rfl rfl (lt_ok rfl) rfl) ?_
     refine TL.nil ?_
     refine T.region ?_
     refine TL.cons rfl (Step.move (p := (.one (.row 25 []))) rfl rfl (lt_ok rfl) rfl) ?_
     refine TL.cons rfl (Step.move (p := (.one (.d (.int .i64 ((shaH b).getD i 0))))) rfl rfl (lt_ok rfl) rfl) ?_
     refine TL.cons rfl (Step.bin (r := .int .i64 (bshr ((shaH b).getD i 0) 24)) rfl rfl (lt_ok rfl) rfl rfl (Bin.shr (k := .i64) (k' := .u64) (a := ((shaH b).getD i 0)) (b := 24) (by first | omega | (simp; omega)) (rfl))) ?_
     refine TL.cons rfl (Step.conv (c := ((bshr ((shaH b).getD i 0) 24) % 256)) rfl rfl (lt_ok rfl) (by kernel_rfl) (by kernel_rfl) rfl (wrap_byte _)) ?_
     refine TL.cons rfl (Step.move (p := (.one (.d (.int .i64 ((shaH b).getD i 0))))) rfl rfl (lt_ok rfl) rfl) ?_
     refine TL.cons rfl (Step.bin (r := .int .i64 (bshr ((shaH b).getD i 0) 16)) rfl rfl (lt_ok rfl) rfl rfl (Bin.shr (k := .i64) (k' := .u64) (a := ((shaH b).getD i 0)) (b := 16) (by first | omega | (simp; omega)) (rfl))) ?_
     refine TL.cons rfl (Step.conv (c := ((bshr ((shaH b).getD i 0) 16) % 256)) rfl rfl (lt_ok rfl) (by kernel_rfl) (by kernel_rfl) rfl (wrap_byte _)) ?_
     refine TL.cons rfl (Step.move (p := (.one (.d (.int .i64 ((shaH b).getD i 0))))) rfl rfl (lt_ok rfl) rfl) ?_
     refine TL.cons rfl (Step.bin (r := .int .i64 (bshr ((shaH b).getD i 0) 8)) rfl rfl (lt_ok rfl) rfl rfl (Bin.shr (k := .i64) (k' := .u64) (a := ((shaH b).getD i 0)) (b := 8) (by first | omega | (simp; omega)) (rfl))) ?_
     refine TL.cons rfl (Step.conv (c := ((bshr ((shaH b).getD i 0) 8) % 256)) rfl rfl (lt_ok rfl) (by kernel_rfl) (by kernel_rfl) rfl (wrap_byte _)) ?_
     refine TL.cons rfl (Step.move (p := (.one (.d (.int .i64 ((shaH b).getD i 0))))) rfl rfl (lt_ok rfl) rfl) ?_
     refine TL.cons rfl (Step.conv (c := (((shaH b).getD i 0) % 256)) rfl rfl (lt_ok rfl) (by kernel_rfl) (by kernel_rfl) rfl (wrap_byte _)) ?_
     refine TL.cons rfl (Step.lit (e := 5) (z := 1) (by_ := 1) (xs := [.tmp 35, .tmp 38, .tmp 41, .tmp 43]) (pss := [[.d (.int .u8 ((bshr ((shaH b).getD i 0) 24) % 256))], [.d (.int .u8 ((bshr ((shaH b).getD i 0) 16) % 256))], [.d (.int .u8 ((bshr ((shaH b).getD i 0) 8) % 256))], [.d (.int .u8 (((shaH b).getD i 0) % 256))]]) (es := [(.int .u8 ((bshr ((shaH b).getD i 0) 24) % 256)), (.int .u8 ((bshr ((shaH b).getD i 0) 16) % 256)), (.int .u8 ((bshr ((shaH b).getD i 0) 8) % 256)), (.int .u8 (((shaH b).getD i 0) % 256))]) (ss := []) (d := (.ints .u8 [(bshr ((shaH b).getD i 0) 24) % 256, (bshr ((shaH b).getD i 0) 16) % 256, (bshr ((shaH b).getD i 0) 8) % 256, ((shaH b).getD i 0) % 256])) rfl rfl (lt_ok rfl) (by kernel_rfl) rfl rfl (.cons rfl (.cons rfl (.cons rfl (.cons rfl .nil)))) (by simp) (le_ok rfl) (le_ok rfl) rfl (.val rfl (.val rfl (.val rfl (.val rfl .nil)))) rfl (by simp) (by simp) rfl trivial rfl rfl) ?_
     refine TL.cons rfl (Step.append (e := 5) (z := 1) (by_ := 1) (d := (.ints .u8 (outB (shaH b) i))) (dy := (.ints .u8 [(bshr ((shaH b).getD i 0) 24) % 256, (bshr ((shaH b).getD i 0) 16) % 256, (bshr ((shaH b).getD i 0) 8) % 256, ((shaH b).getD i 0) % 256])) (d' := (.ints .u8 ((outB (shaH b) i) ++ [(bshr ((shaH b).getD i 0) 24) % 256, (bshr ((shaH b).getD i 0) 16) % 256, (bshr ((shaH b).getD i 0) 8) % 256, ((shaH b).getD i 0) % 256]))) (ss := []) rfl rfl (lt_ok rfl) (by kernel_rfl) rfl rfl rfl (lt_ok rfl) rfl (.copy rfl rfl rfl (by simp [D.flat, D.val])) (by simp) rfl (by simp only [D.size, List.length_map]; first | omega | (simp only [List.length_append, List.length_cons, List.length_nil]; omega) | (simp; omega) | (simp only [List.length_append] at *; omega)) (by simp only [D.size, List.length_map]; first | omega | (simp only [List.length_append, List.length_cons, List.length_nil]; omega) | (simp; omega) | (simp only [List.length_append] at *; omega)) (by simp)) ?_
     refine TL.cons rfl (Step.assign (p := (.one (.row 25 []))) rfl rfl (lt_ok rfl) rfl) ?_
     refine TL.nil ?_
     refine T.region ?_
     refine TL.cons rfl (Step.bin (r := .int .i64 ((i : Int) + 1)) rfl rfl (lt_ok rfl) rfl rfl (Bin.add (a := (i : Int)) (b := 1) (by first | exact wrap_ok (by first | omega | (simp; omega)) (by first | omega | (simp; omega)) | rfl))) ?_
     refine TL.cons rfl (Step.move (p := (.one (.d (.int .i64 ((i : Int) + 1))))) rfl rfl (lt_ok rfl) rfl) ?_
     refine TL.nil ?_
     refine ⟨i + 1, by omega, by first | omega | (dsimp only; omega), Env.le_mk ⟨rfl, rfl, rfl, ?_, rfl, trivial⟩ ⟨rfl, ?_, trivial⟩ trivial⟩ <;> (first | rfl | (refine congrArg (fun x => some (_, D.ints .i64 x)) ?_; unfold shaH; rw [show i = (shaPad b).length / 64 from by omega]) | (refine congrArg (fun n => PV.one (.d (.int .i64 n))) ?_; first | rfl | omega | (unfold shaH; rw [show i = (shaPad b).length / 64 from by omega]; first | done | rfl) | (simp; done)))
    ·
     replace h4 := of_decide_eq_false h4
     refine T.exit ?_
     refine T.seq ?_
     refine T.region ?_
     refine TL.cons rfl (Step.move (p := (.one (.row 25 []))) rfl rfl (lt_ok rfl) rfl) ?_
     refine TL.cons rfl (Step.assign (p := (.one (.row 25 []))) rfl rfl (lt_ok rfl) rfl) ?_
     refine TL.nil ?_
     refine T.ret ?_
     refine ⟨[(false, [.row 25 []])], (.cons rfl .nil), rfl, [25], (RetC.own' rfl ?_ rfl .nil)⟩ <;> ((congr 1; unfold sha; rw [show i = (shaH b).length from by omega]))
end Go.Proofs.Ytmdojlglemnijaa.Rf
