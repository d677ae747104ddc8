/- The functions that FnExactConsOk calls, each held to what it answers. Printed by a program of this session; Lean checks it. -/
import Derived.Test.YtmdojlglemnijaaProg
import Derived.Test.YtmdojlglemnijaaRf32
namespace Go.Proofs.Ytmdojlglemnijaa.Rf
open Go.RowKit
set_option linter.unusedVariables false
set_option linter.unnecessarySimpa false
set_option linter.unusedSimpArgs false
set_option maxRecDepth 100000
set_option maxHeartbeats 4000000
def splitAtT (n : Int) : Int := if n < 2 then 0 else splitAt n
theorem splitAtT_bd (n : Int) : (n < 2 → splitAtT n = 0) ∧ (2 ≤ n → 1 ≤ splitAtT n ∧ splitAtT n < n) := by
  unfold splitAtT
  refine ⟨fun h => by rw [if_pos h], fun h => ?_⟩
  rw [if_neg (by omega)]
  exact splitAt_bd n h
def pathLenT (i n : Int) : Int := if 1 ≤ n ∧ n ≤ 1048576 ∧ 0 ≤ i ∧ i ≤ n - 1 then pathLen n.toNat i n else 0
theorem pathLen_fuel : ∀ (d e : Nat) (i n : Int), n ≤ d → n ≤ e → 1 ≤ n → pathLen d i n = pathLen e i n
  | 0, _, i, n, h, _, h1 => by omega
  | _, 0, i, n, _, h, h1 => by omega
  | d + 1, e + 1, i, n, h, h', h1 => by
    unfold pathLen
    by_cases h2 : n < 2
    · rw [if_pos h2, if_pos h2]
    · have := splitAt_bd n (by omega)
      rw [if_neg h2, if_neg h2]
      split
      · rw [pathLen_fuel d e _ _ (by omega) (by omega) (by omega)]
      · rw [pathLen_fuel d e _ _ (by omega) (by omega) (by omega)]
theorem pathLenT_bd (i n : Int) : 0 ≤ pathLenT i n ∧ pathLenT i n ≤ 1048576 := by
  unfold pathLenT
  split
  · have := pathLen_bd n.toNat i n; omega
  · omega
theorem pathLenT_no {i n : Int} (h : ¬ (1 ≤ n ∧ n ≤ 1048576 ∧ 0 ≤ i ∧ i ≤ n - 1)) : pathLenT i n = 0 := by unfold pathLenT; rw [if_neg h]
theorem pathLenT_one {i n : Int} (h : n < 2) : pathLenT i n = 0 := by
  unfold pathLenT
  split
  · rw [show n = 1 from by omega]; rfl
  · rfl
theorem pathLenT_left {i n : Int} (h : 1 ≤ n ∧ n ≤ 1048576 ∧ 0 ≤ i ∧ i ≤ n - 1) (h2 : 2 ≤ n) (hi : i < splitAtT n) : pathLenT i n = 1 + pathLenT i (splitAtT n) := by
  have hb := splitAt_bd n h2
  have e : splitAtT n = splitAt n := by unfold splitAtT; rw [if_neg (by omega)]
  rw [e] at hi ⊢
  unfold pathLenT
  rw [if_pos h, if_pos (by omega)]
  obtain ⟨d, hd⟩ : ∃ d, n.toNat = d + 1 := ⟨n.toNat - 1, by omega⟩
  rw [hd]
  conv => lhs; unfold pathLen
  rw [if_neg (by omega), if_pos hi, pathLen_fuel d (splitAt n).toNat _ _ (by omega) (by omega) (by omega)]
theorem pathLenT_right {i n : Int} (h : 1 ≤ n ∧ n ≤ 1048576 ∧ 0 ≤ i ∧ i ≤ n - 1) (h2 : 2 ≤ n) (hi : ¬ i < splitAtT n) : pathLenT i n = 1 + pathLenT (i - splitAtT n) (n - splitAtT n) := by
  have hb := splitAt_bd n h2
  have e : splitAtT n = splitAt n := by unfold splitAtT; rw [if_neg (by omega)]
  rw [e] at hi ⊢
  unfold pathLenT
  rw [if_pos h, if_pos (by omega)]
  obtain ⟨d, hd⟩ : ∃ d, n.toNat = d + 1 := ⟨n.toNat - 1, by omega⟩
  rw [hd]
  conv => lhs; unfold pathLen
  rw [if_neg (by omega), if_neg hi, pathLen_fuel d (n - splitAt n).toNat _ _ (by omega) (by omega) (by omega)]
def leafHash (x : List Int) : List Int := sha ([0] ++ x)
def nodeHash (a b : List Int) : List Int := sha ([1] ++ a ++ b)
theorem leafHash_len (x : List Int) : (leafHash x).length ≤ 32 := sha_len _
theorem leafHash_u8 (x : List Int) : U8s (leafHash x) := sha_u8 _
theorem nodeHash_len (a b : List Int) : (nodeHash a b).length ≤ 32 := sha_len _
theorem nodeHash_u8 (a b : List Int) : U8s (nodeHash a b) := sha_u8 _
theorem u8_cons {x : Int} {a : List Int} (h0 : 0 ≤ x ∧ x ≤ 255) (h : U8s a) : U8s ([x] ++ a) := fun y hy => by
  rcases List.mem_append.1 hy with hy | hy
  · rcases List.mem_singleton.1 hy with rfl; exact h0
  · exact h y hy
theorem u8_app {a b : List Int} (h : U8s a) (h' : U8s b) : U8s (a ++ b) := fun y hy => by
  rcases List.mem_append.1 hy with hy | hy
  · exact h y hy
  · exact h' y hy
theorem mem_sub {α : Type} {p : α → Prop} {l : List α} (h : ∀ y ∈ l, p y) (a b : Nat) : ∀ y ∈ (l.drop a).take b, p y := fun y hy => h y (List.mem_of_mem_drop (List.mem_of_mem_take hy))
theorem splitAtT_le (n : Int) : 0 ≤ splitAtT n ∧ (0 ≤ n → splitAtT n ≤ n) := by have := splitAtT_bd n; omega
theorem part_len {α : Type} (l : List α) : ((l.drop 0).take ((splitAtT (l.length : Int)).toNat - 0)).length = (splitAtT (l.length : Int)).toNat ∧ ((l.drop (splitAtT (l.length : Int)).toNat).take (l.length - (splitAtT (l.length : Int)).toNat)).length = l.length - (splitAtT (l.length : Int)).toNat := by
  have := splitAtT_le (l.length : Int)
  simp only [List.length_take, List.length_drop]
  omega
theorem pre_len {α : Type} (l : List α) : ((l.drop 0).take (((l.length : Int) - 1).toNat - 0)).length = l.length - 1 := by
  simp only [List.length_take, List.length_drop]
  omega
def treeRoot (l : List (List Int)) : List Int :=
  if h0 : l.length = 0 then sha [] else if h1 : l.length = 1 then leafHash (l.getD 0 []) else
  nodeHash (treeRoot ((l.drop 0).take ((splitAtT (l.length : Int)).toNat - 0))) (treeRoot ((l.drop (splitAtT (l.length : Int)).toNat).take (l.length - (splitAtT (l.length : Int)).toNat)))
termination_by l.length
decreasing_by
  · have h1 := part_len l; have h2 := splitAtT_bd (l.length : Int); omega
  · have h1 := part_len l; have h2 := splitAtT_bd (l.length : Int); omega
theorem treeRoot_nil {l : List (List Int)} (h : (l.length : Int) = 0) : treeRoot l = sha [] := by rw [treeRoot, dif_pos (by omega)]
theorem treeRoot_one {l : List (List Int)} (h : (l.length : Int) = 1) : treeRoot l = leafHash (l.getD 0 []) := by rw [treeRoot, dif_neg (by omega), dif_pos (by omega)]
theorem treeRoot_two {l : List (List Int)} (h0 : ¬ (l.length : Int) = 0) (h1 : ¬ (l.length : Int) = 1) : treeRoot l = nodeHash (treeRoot ((l.drop 0).take ((splitAtT (l.length : Int)).toNat - 0))) (treeRoot ((l.drop (splitAtT (l.length : Int)).toNat).take (l.length - (splitAtT (l.length : Int)).toNat))) := by rw [treeRoot, dif_neg (by omega), dif_neg (by omega)]
theorem treeRoot_len (l : List (List Int)) : (treeRoot l).length ≤ 32 := by
  rw [treeRoot]
  split
  · exact sha_len _
  · split
    · exact leafHash_len _
    · exact nodeHash_len _ _
theorem treeRoot_u8 (l : List (List Int)) : U8s (treeRoot l) := by
  rw [treeRoot]
  split
  · exact sha_u8 _
  · split
    · exact leafHash_u8 _
    · exact nodeHash_u8 _ _
def pathOf (l : List (List Int)) (i : Int) : List (List Int) :=
  if h0 : 0 ≤ i ∧ i ≤ (l.length : Int) - 1 then if h1 : (l.length : Int) = 1 then [] else
  if i < splitAtT (l.length : Int) then pathOf ((l.drop 0).take ((splitAtT (l.length : Int)).toNat - 0)) i ++ [treeRoot ((l.drop (splitAtT (l.length : Int)).toNat).take (l.length - (splitAtT (l.length : Int)).toNat))]
  else pathOf ((l.drop (splitAtT (l.length : Int)).toNat).take (l.length - (splitAtT (l.length : Int)).toNat)) (i - splitAtT (l.length : Int)) ++ [treeRoot ((l.drop 0).take ((splitAtT (l.length : Int)).toNat - 0))] else []
termination_by l.length
decreasing_by
  · have h1 := part_len l; have h2 := splitAtT_bd (l.length : Int); omega
  · have h1 := part_len l; have h2 := splitAtT_bd (l.length : Int); omega
theorem pathOf_no {l : List (List Int)} {i : Int} (h : ¬ (0 ≤ i ∧ i ≤ (l.length : Int) - 1)) : pathOf l i = [] := by rw [pathOf, dif_neg h]
theorem pathOf_one {l : List (List Int)} {i : Int} (h : (l.length : Int) = 1) : pathOf l i = [] := by
  by_cases c : 0 ≤ i ∧ i ≤ (l.length : Int) - 1
  · rw [pathOf, dif_pos c, dif_pos h]
  · exact pathOf_no c
theorem pathOf_left {l : List (List Int)} {i : Int} (h : 0 ≤ i ∧ i ≤ (l.length : Int) - 1) (h1 : ¬ (l.length : Int) = 1) (h2 : i < splitAtT (l.length : Int)) : pathOf l i = pathOf ((l.drop 0).take ((splitAtT (l.length : Int)).toNat - 0)) i ++ [treeRoot ((l.drop (splitAtT (l.length : Int)).toNat).take (l.length - (splitAtT (l.length : Int)).toNat))] := by
  rw [pathOf, dif_pos h, dif_neg h1, if_pos h2]
theorem pathOf_right {l : List (List Int)} {i : Int} (h : 0 ≤ i ∧ i ≤ (l.length : Int) - 1) (h1 : ¬ (l.length : Int) = 1) (h2 : ¬ i < splitAtT (l.length : Int)) : pathOf l i = pathOf ((l.drop (splitAtT (l.length : Int)).toNat).take (l.length - (splitAtT (l.length : Int)).toNat)) (i - splitAtT (l.length : Int)) ++ [treeRoot ((l.drop 0).take ((splitAtT (l.length : Int)).toNat - 0))] := by
  rw [pathOf, dif_pos h, dif_neg h1, if_neg h2]
theorem pathOf_len : ∀ (d : Nat) (l : List (List Int)) (i : Int), l.length ≤ d → (pathOf l i).length ≤ l.length - 1
  | 0, l, i, h => by rw [pathOf_no (by omega)]; simp
  | d + 1, l, i, h => by
    by_cases c : 0 ≤ i ∧ i ≤ (l.length : Int) - 1
    · by_cases c1 : (l.length : Int) = 1
      · rw [pathOf_one c1]; simp
      · have hb := splitAtT_bd (l.length : Int)
        have hp := part_len l
        by_cases c2 : i < splitAtT (l.length : Int)
        · rw [pathOf_left c c1 c2, List.length_append]
          have := pathOf_len d ((l.drop 0).take ((splitAtT (l.length : Int)).toNat - 0)) i (by omega)
          simp only [List.length_cons, List.length_nil]
          omega
        · rw [pathOf_right c c1 c2, List.length_append]
          have := pathOf_len d ((l.drop (splitAtT (l.length : Int)).toNat).take (l.length - (splitAtT (l.length : Int)).toNat)) (i - splitAtT (l.length : Int)) (by omega)
          simp only [List.length_cons, List.length_nil]
          omega
    · rw [pathOf_no c]; simp
theorem pathOf_mem {p : List Int → Prop} (hp : ∀ l, p (treeRoot l)) : ∀ (d : Nat) (l : List (List Int)) (i : Int), l.length ≤ d → ∀ y ∈ pathOf l i, p y
  | 0, l, i, h, y, hy => by rw [pathOf_no (by omega)] at hy; cases hy
  | d + 1, l, i, h, y, hy => by
    by_cases c : 0 ≤ i ∧ i ≤ (l.length : Int) - 1
    · by_cases c1 : (l.length : Int) = 1
      · rw [pathOf_one c1] at hy; cases hy
      · have hb := splitAtT_bd (l.length : Int)
        have hq := part_len l
        by_cases c2 : i < splitAtT (l.length : Int)
        · rw [pathOf_left c c1 c2] at hy
          rcases List.mem_append.1 hy with hy | hy
          · exact pathOf_mem hp d _ i (by omega) y hy
          · rcases List.mem_singleton.1 hy with rfl; exact hp _
        · rw [pathOf_right c c1 c2] at hy
          rcases List.mem_append.1 hy with hy | hy
          · exact pathOf_mem hp d _ _ (by omega) y hy
          · rcases List.mem_singleton.1 hy with rfl; exact hp _
    · rw [pathOf_no c] at hy; cases hy
theorem pathOf_sm {l : List (List Int)} {i : Int} (h : l.length ≤ 1048576) : (pathOf l i).length ≤ 1048576 ∧ ∀ y ∈ pathOf l i, y.length ≤ 1048576 := by
  have := pathOf_len l.length l i (Nat.le_refl _)
  exact ⟨by omega, pathOf_mem (p := fun y => y.length ≤ 1048576) (fun l => Nat.le_trans (treeRoot_len l) (by decide)) l.length l i (Nat.le_refl _)⟩
def hashes (l : List (List Int)) : Bool := l.all fun x => decide ((x.length : Int) = 32)
theorem hashes_step {l : List (List Int)} {i : Nat} (hi : i < l.length) (h : hashes (l.take i) = true) (hx : ((l.getD i []).length : Int) = 32) : hashes (l.take (i + 1)) = true := by
  rw [take_succ' (df := []) hi]; simp only [hashes, List.all_append, List.all_cons, List.all_nil, Bool.and_true, Bool.and_eq_true] at h ⊢; exact ⟨h, decide_eq_true hx⟩
theorem hashes_no {l : List (List Int)} {i : Nat} (hi : i < l.length) (hx : ¬ ((l.getD i []).length : Int) = 32) : hashes l = false := by
  cases h : hashes l with
  | false => rfl
  | true =>
    rw [hashes, List.all_eq_true] at h
    have := h (l.getD i []) (by rw [List.getD_eq_getElem?_getD, List.getElem?_eq_getElem hi]; exact List.getElem_mem hi)
    exact absurd (of_decide_eq_true this) hx
def pRoot (h : List Int) (i n : Int) (path : List (List Int)) : List Int :=
  if hn : n < 2 then h else if i < splitAtT n then nodeHash (pRoot h i (splitAtT n) ((path.drop 0).take (((path.length : Int) - 1).toNat - 0))) (path.getD ((path.length : Int) - 1).toNat [])
  else nodeHash (path.getD ((path.length : Int) - 1).toNat []) (pRoot h (i - splitAtT n) (n - splitAtT n) ((path.drop 0).take (((path.length : Int) - 1).toNat - 0)))
termination_by n.toNat
decreasing_by
  · have h2 := splitAtT_bd n; omega
  · have h2 := splitAtT_bd n; omega
theorem pRoot_one {h : List Int} {i n : Int} {path : List (List Int)} (hn : n < 2) : pRoot h i n path = h := by rw [pRoot, dif_pos hn]
theorem pRoot_left {h : List Int} {i n : Int} {path : List (List Int)} (hn : ¬ n < 2) (hi : i < splitAtT n) : pRoot h i n path = nodeHash (pRoot h i (splitAtT n) ((path.drop 0).take (((path.length : Int) - 1).toNat - 0))) (path.getD ((path.length : Int) - 1).toNat []) := by rw [pRoot, dif_neg hn, if_pos hi]
theorem pRoot_right {h : List Int} {i n : Int} {path : List (List Int)} (hn : ¬ n < 2) (hi : ¬ i < splitAtT n) : pRoot h i n path = nodeHash (path.getD ((path.length : Int) - 1).toNat []) (pRoot h (i - splitAtT n) (n - splitAtT n) ((path.drop 0).take (((path.length : Int) - 1).toNat - 0))) := by rw [pRoot, dif_neg hn, if_neg hi]
theorem pRoot_u8 {h : List Int} (hu : U8s h) (i n : Int) (path : List (List Int)) : U8s (pRoot h i n path) := by
  rw [pRoot]
  split
  · exact hu
  · split
    · exact nodeHash_u8 _ _
    · exact nodeHash_u8 _ _
theorem pRoot_len {h : List Int} (hu : h.length ≤ 1048576) (i n : Int) (path : List (List Int)) : (pRoot h i n path).length ≤ 1048576 := by
  rw [pRoot]
  split
  · exact hu
  · split
    · exact Nat.le_trans (nodeHash_len _ _) (by decide)
    · exact Nat.le_trans (nodeHash_len _ _) (by decide)
def pathFits (h : List Int) (i n : Int) (path : List (List Int)) : Bool := decide ((h.length : Int) = 32) && decide (1 ≤ n ∧ n ≤ 1048576) && decide (0 ≤ i ∧ i ≤ n - 1) && decide ((path.length : Int) = pathLenT i n) && hashes path
theorem pathFits_all {h : List Int} {i n : Int} {path : List (List Int)} (k : pathFits h i n path = true) : (h.length : Int) = 32 ∧ (1 ≤ n ∧ n ≤ 1048576 ∧ 0 ≤ i ∧ i ≤ n - 1) ∧ (path.length : Int) = pathLenT i n ∧ hashes path = true := by
  simp only [pathFits, Bool.and_eq_true, decide_eq_true_eq] at k
  obtain ⟨⟨⟨⟨h1, h2⟩, h3⟩, h4⟩, h5⟩ := k
  exact ⟨h1, ⟨h2.1, h2.2, h3.1, h3.2⟩, h4, h5⟩
theorem pathFits_mk {h : List Int} {i n : Int} {path : List (List Int)} (h1 : (h.length : Int) = 32) (h2 : 1 ≤ n ∧ n ≤ 1048576 ∧ 0 ≤ i ∧ i ≤ n - 1) (h3 : (path.length : Int) = pathLenT i n) (h4 : hashes path = true) : pathFits h i n path = true := by
  simp only [pathFits, Bool.and_eq_true, decide_eq_true_eq]
  exact ⟨⟨⟨⟨h1, h2.1, h2.2.1⟩, h2.2.2.1, h2.2.2.2⟩, h3⟩, h4⟩
theorem hashes_one {h : List Int} : hashes [h] = decide ((h.length : Int) = 32) := by simp [hashes]
theorem bool_ne {b : Bool} (h : b = true) (h' : b = false) : False := by subst h; cases h'
def pathRoot (h : List Int) (i n : Int) (path : List (List Int)) : List Int := if pathFits h i n path = true then pRoot h i n path else []
theorem pathRoot_u8 {h : List Int} (hu : U8s h) (i n : Int) (path : List (List Int)) : U8s (pathRoot h i n path) := by
  unfold pathRoot
  split
  · exact pRoot_u8 hu _ _ _
  · exact fun x hx => by cases hx
theorem pathRoot_len {h : List Int} (hu : h.length ≤ 1048576) (i n : Int) (path : List (List Int)) : (pathRoot h i n path).length ≤ 1048576 := by
  unfold pathRoot
  split
  · exact pRoot_len hu _ _ _
  · simp
theorem pathRoot_yes {h : List Int} {i n : Int} {path : List (List Int)} (k : pathFits h i n path = true) : pathRoot h i n path = pRoot h i n path := if_pos k
theorem pathRoot_no {h : List Int} {i n : Int} {path : List (List Int)} (k : pathFits h i n path = false) : pathRoot h i n path = [] := by unfold pathRoot; rw [k]; rfl
def pathOk (x : List Int) (i n : Int) (path : List (List Int)) (root : List Int) : Bool := pathFits (leafHash x) i n path && decide (pathRoot (leafHash x) i n path = root)
def flag (b : Bool) : Int := if b = true then 1 else 0
def sizesOk (m n : Int) : Bool := decide (1 ≤ m ∧ m ≤ n ∧ n ≤ 1048576)
def cLen (m n : Int) (known : Bool) : Int := if m = n then flag (!known) else if h : n < 2 then 0 else if m ≤ splitAtT n then 1 + cLen m (splitAtT n) known else 1 + cLen (m - splitAtT n) (n - splitAtT n) false
termination_by n.toNat
decreasing_by
  · have h2 := splitAtT_bd n; omega
  · have h2 := splitAtT_bd n; omega
theorem cLen_eq {m n : Int} {k : Bool} (h : m = n) : cLen m n k = flag (!k) := by rw [cLen, if_pos h]
theorem cLen_left {m n : Int} {k : Bool} (h : ¬ m = n) (h2 : 2 ≤ n) (h3 : m ≤ splitAtT n) : cLen m n k = 1 + cLen m (splitAtT n) k := by rw [cLen, if_neg h, dif_neg (by omega), if_pos h3]
theorem cLen_right {m n : Int} {k : Bool} (h : ¬ m = n) (h2 : 2 ≤ n) (h3 : ¬ m ≤ splitAtT n) : cLen m n k = 1 + cLen (m - splitAtT n) (n - splitAtT n) false := by rw [cLen, if_neg h, dif_neg (by omega), if_neg h3]
theorem flag_bd (b : Bool) : 0 ≤ flag b ∧ flag b ≤ 1 := by unfold flag; split <;> omega
theorem cLen_bd : ∀ (d : Nat) (m n : Int) (k : Bool), n ≤ d → 1 ≤ n → 0 ≤ cLen m n k ∧ cLen m n k ≤ n
  | 0, m, n, k, h, h1 => by omega
  | d + 1, m, n, k, h, h1 => by
    by_cases c : m = n
    · rw [cLen_eq c]; have := flag_bd (!k); omega
    · by_cases c2 : n < 2
      · rw [cLen, if_neg c, dif_pos c2]; omega
      · have hb := splitAtT_bd n
        by_cases c3 : m ≤ splitAtT n
        · rw [cLen_left c (by omega) c3]; have := cLen_bd d m (splitAtT n) k (by omega) (by omega); omega
        · rw [cLen_right c (by omega) c3]; have := cLen_bd d (m - splitAtT n) (n - splitAtT n) false (by omega) (by omega); omega
def consLenT (m n : Int) : Int := if sizesOk m n = true then cLen m n true else 0
theorem consLenT_yes {m n : Int} (h : 1 ≤ m ∧ m ≤ n ∧ n ≤ 1048576) : consLenT m n = cLen m n true := if_pos (decide_eq_true h)
theorem consLenT_no {m n : Int} (h : ¬ (1 ≤ m ∧ m ≤ n ∧ n ≤ 1048576)) : consLenT m n = 0 := if_neg (fun x => h (of_decide_eq_true x))
def consOf (l : List (List Int)) (m : Int) (known : Bool) : List (List Int) :=
  if m = (l.length : Int) then (if known = true then [] else [treeRoot l]) else if h : (l.length : Int) < 2 then [] else
  if m ≤ splitAtT (l.length : Int) then consOf ((l.drop 0).take ((splitAtT (l.length : Int)).toNat - 0)) m known ++ [treeRoot ((l.drop (splitAtT (l.length : Int)).toNat).take (l.length - (splitAtT (l.length : Int)).toNat))] else consOf ((l.drop (splitAtT (l.length : Int)).toNat).take (l.length - (splitAtT (l.length : Int)).toNat)) (m - splitAtT (l.length : Int)) false ++ [treeRoot ((l.drop 0).take ((splitAtT (l.length : Int)).toNat - 0))]
termination_by l.length
decreasing_by
  · have h1 := part_len l; have h2 := splitAtT_bd (l.length : Int); omega
  · have h1 := part_len l; have h2 := splitAtT_bd (l.length : Int); omega
theorem consOf_known {l : List (List Int)} {m : Int} {k : Bool} (h : m = (l.length : Int)) (hk : k = true) : consOf l m k = [] := by rw [consOf, if_pos h, if_pos hk]
theorem consOf_new {l : List (List Int)} {m : Int} {k : Bool} (h : m = (l.length : Int)) (hk : k = false) : consOf l m k = [treeRoot l] := by subst hk; rw [consOf, if_pos h]; rfl
theorem consOf_left {l : List (List Int)} {m : Int} {k : Bool} (h : ¬ m = (l.length : Int)) (h2 : 2 ≤ (l.length : Int)) (h3 : m ≤ splitAtT (l.length : Int)) : consOf l m k = consOf ((l.drop 0).take ((splitAtT (l.length : Int)).toNat - 0)) m k ++ [treeRoot ((l.drop (splitAtT (l.length : Int)).toNat).take (l.length - (splitAtT (l.length : Int)).toNat))] := by rw [consOf, if_neg h, dif_neg (by omega), if_pos h3]
theorem consOf_right {l : List (List Int)} {m : Int} {k : Bool} (h : ¬ m = (l.length : Int)) (h2 : 2 ≤ (l.length : Int)) (h3 : ¬ m ≤ splitAtT (l.length : Int)) : consOf l m k = consOf ((l.drop (splitAtT (l.length : Int)).toNat).take (l.length - (splitAtT (l.length : Int)).toNat)) (m - splitAtT (l.length : Int)) false ++ [treeRoot ((l.drop 0).take ((splitAtT (l.length : Int)).toNat - 0))] := by rw [consOf, if_neg h, dif_neg (by omega), if_neg h3]
theorem consOf_short {l : List (List Int)} {m : Int} {k : Bool} (h : ¬ m = (l.length : Int)) (h2 : (l.length : Int) < 2) : consOf l m k = [] := by rw [consOf, if_neg h, dif_pos h2]
theorem consOf_ind {p : List (List Int) → Int → Bool → Prop} (h1 : ∀ l m k, m = (l.length : Int) → p l m k) (h2 : ∀ l m k, ¬ m = (l.length : Int) → (l.length : Int) < 2 → p l m k)
    (h3 : ∀ l m k, ¬ m = (l.length : Int) → 2 ≤ (l.length : Int) → m ≤ splitAtT (l.length : Int) → p ((l.drop 0).take ((splitAtT (l.length : Int)).toNat - 0)) m k → p l m k)
    (h4 : ∀ l m k, ¬ m = (l.length : Int) → 2 ≤ (l.length : Int) → ¬ m ≤ splitAtT (l.length : Int) → p ((l.drop (splitAtT (l.length : Int)).toNat).take (l.length - (splitAtT (l.length : Int)).toNat)) (m - splitAtT (l.length : Int)) false → p l m k) : ∀ (d : Nat) (l : List (List Int)) (m : Int) (k : Bool), l.length ≤ d → p l m k
  | d, l, m, k, h => by
    by_cases c : m = (l.length : Int)
    · exact h1 l m k c
    · by_cases c2 : (l.length : Int) < 2
      · exact h2 l m k c c2
      · have hb := splitAtT_bd (l.length : Int)
        have hp := part_len l
        cases d with
        | zero => omega
        | succ d =>
          by_cases c3 : m ≤ splitAtT (l.length : Int)
          · exact h3 l m k c (by omega) c3 (consOf_ind h1 h2 h3 h4 d _ m k (by omega))
          · exact h4 l m k c (by omega) c3 (consOf_ind h1 h2 h3 h4 d _ _ false (by omega))
theorem consOf_len (l : List (List Int)) (m : Int) (k : Bool) : (consOf l m k).length ≤ l.length + 1 := by
  refine consOf_ind (p := fun l m k => (consOf l m k).length ≤ l.length + 1) (fun l m k h => ?_) (fun l m k h h2 => ?_) (fun l m k h h2 h3 ih => ?_) (fun l m k h h2 h3 ih => ?_) l.length l m k (Nat.le_refl _)
  · cases k
    · rw [consOf_new h rfl]; simp
    · rw [consOf_known h rfl]; simp
  · rw [consOf_short h h2]; simp
  · have hb := splitAtT_bd (l.length : Int)
    have hp := part_len l
    rw [consOf_left h h2 h3, List.length_append]
    simp only [List.length_cons, List.length_nil]
    omega
  · have hb := splitAtT_bd (l.length : Int)
    have hp := part_len l
    rw [consOf_right h h2 h3, List.length_append]
    simp only [List.length_cons, List.length_nil]
    omega
theorem consOf_mem {q : List Int → Prop} (hq : ∀ l, q (treeRoot l)) (l : List (List Int)) (m : Int) (k : Bool) : ∀ y ∈ consOf l m k, q y := by
  refine consOf_ind (p := fun l m k => ∀ y ∈ consOf l m k, q y) (fun l m k h => ?_) (fun l m k h h2 => ?_) (fun l m k h h2 h3 ih => ?_) (fun l m k h h2 h3 ih => ?_) l.length l m k (Nat.le_refl _)
  · cases k
    · rw [consOf_new h rfl]; intro y hy; rcases List.mem_singleton.1 hy with rfl; exact hq _
    · rw [consOf_known h rfl]; intro y hy; cases hy
  · rw [consOf_short h h2]; intro y hy; cases hy
  · rw [consOf_left h h2 h3]; intro y hy
    rcases List.mem_append.1 hy with hy | hy
    · exact ih y hy
    · rcases List.mem_singleton.1 hy with rfl; exact hq _
  · rw [consOf_right h h2 h3]; intro y hy
    rcases List.mem_append.1 hy with hy | hy
    · exact ih y hy
    · rcases List.mem_singleton.1 hy with rfl; exact hq _
theorem consOf_le (l : List (List Int)) (m : Int) (k : Bool) : 1 ≤ m → m ≤ (l.length : Int) → (m = (l.length : Int) → (consOf l m k).length ≤ 1) ∧ (m < (l.length : Int) → (consOf l m k).length ≤ l.length) := by
  refine consOf_ind (p := fun l m k => 1 ≤ m → m ≤ (l.length : Int) → (m = (l.length : Int) → (consOf l m k).length ≤ 1) ∧ (m < (l.length : Int) → (consOf l m k).length ≤ l.length)) (fun l m k h => ?_) (fun l m k h h2 => ?_) (fun l m k h h2 h3 ih => ?_) (fun l m k h h2 h3 ih => ?_) l.length l m k (Nat.le_refl _)
  · intro h1 h2
    cases k
    · rw [consOf_new h rfl]; simp only [List.length_cons, List.length_nil]; omega
    · rw [consOf_known h rfl]; simp
  · intro h3 h4; omega
  · have hb := splitAtT_bd (l.length : Int)
    have hp := part_len l
    intro h4 h5
    have := ih h4 (by omega)
    rw [consOf_left h h2 h3, List.length_append]
    simp only [List.length_cons, List.length_nil]
    omega
  · have hb := splitAtT_bd (l.length : Int)
    have hp := part_len l
    intro h4 h5
    have := ih (by omega) (by omega)
    rw [consOf_right h h2 h3, List.length_append]
    simp only [List.length_cons, List.length_nil]
    omega
def consOfT (l : List (List Int)) (m : Int) : List (List Int) := if 1 ≤ m ∧ m ≤ (l.length : Int) then consOf l m true else []
theorem consOfT_yes {l : List (List Int)} {m : Int} (h : 1 ≤ m ∧ m ≤ (l.length : Int)) : consOfT l m = consOf l m true := if_pos h
theorem consOfT_no {l : List (List Int)} {m : Int} (h : ¬ (1 ≤ m ∧ m ≤ (l.length : Int))) : consOfT l m = [] := if_neg h
theorem consOfT_sm {l : List (List Int)} {m : Int} (h : l.length ≤ 1048576) : (consOfT l m).length ≤ 1048576 ∧ ∀ y ∈ consOfT l m, y.length ≤ 1048576 := by
  unfold consOfT
  split
  · rename_i hm
    have := consOf_le l m true hm.1 hm.2
    exact ⟨by omega, consOf_mem (q := fun y => y.length ≤ 1048576) (fun l => Nat.le_trans (treeRoot_len l) (by decide)) l m true⟩
  · exact ⟨Nat.zero_le _, fun y hy => by cases hy⟩
def cRoots (m n : Int) (old : List Int) (proof : List (List Int)) (known : Bool) : List Int × List Int :=
  if m = n then (if known = true then (old, old) else (proof.getD 0 [], proof.getD 0 [])) else if h : n < 2 then ([], []) else
  if m ≤ splitAtT n then ((cRoots m (splitAtT n) old ((proof.drop 0).take (((proof.length : Int) - 1).toNat - 0)) known).1, nodeHash (cRoots m (splitAtT n) old ((proof.drop 0).take (((proof.length : Int) - 1).toNat - 0)) known).2 (proof.getD ((proof.length : Int) - 1).toNat []))
  else (nodeHash (proof.getD ((proof.length : Int) - 1).toNat []) (cRoots (m - splitAtT n) (n - splitAtT n) old ((proof.drop 0).take (((proof.length : Int) - 1).toNat - 0)) false).1, nodeHash (proof.getD ((proof.length : Int) - 1).toNat []) (cRoots (m - splitAtT n) (n - splitAtT n) old ((proof.drop 0).take (((proof.length : Int) - 1).toNat - 0)) false).2)
termination_by n.toNat
decreasing_by
  all_goals (have h2 := splitAtT_bd n; omega)
theorem cRoots_known {m n : Int} {old : List Int} {proof : List (List Int)} {k : Bool} (h : m = n) (hk : k = true) : cRoots m n old proof k = (old, old) := by rw [cRoots, if_pos h, if_pos hk]
theorem cRoots_new {m n : Int} {old : List Int} {proof : List (List Int)} {k : Bool} (h : m = n) (hk : k = false) : cRoots m n old proof k = (proof.getD 0 [], proof.getD 0 []) := by subst hk; rw [cRoots, if_pos h]; rfl
theorem cRoots_left {m n : Int} {old : List Int} {proof : List (List Int)} {k : Bool} (h : ¬ m = n) (h2 : 2 ≤ n) (h3 : m ≤ splitAtT n) : cRoots m n old proof k = ((cRoots m (splitAtT n) old ((proof.drop 0).take (((proof.length : Int) - 1).toNat - 0)) k).1, nodeHash (cRoots m (splitAtT n) old ((proof.drop 0).take (((proof.length : Int) - 1).toNat - 0)) k).2 (proof.getD ((proof.length : Int) - 1).toNat [])) := by rw [cRoots, if_neg h, dif_neg (by omega), if_pos h3]
theorem cRoots_right {m n : Int} {old : List Int} {proof : List (List Int)} {k : Bool} (h : ¬ m = n) (h2 : 2 ≤ n) (h3 : ¬ m ≤ splitAtT n) : cRoots m n old proof k = (nodeHash (proof.getD ((proof.length : Int) - 1).toNat []) (cRoots (m - splitAtT n) (n - splitAtT n) old ((proof.drop 0).take (((proof.length : Int) - 1).toNat - 0)) false).1, nodeHash (proof.getD ((proof.length : Int) - 1).toNat []) (cRoots (m - splitAtT n) (n - splitAtT n) old ((proof.drop 0).take (((proof.length : Int) - 1).toNat - 0)) false).2) := by rw [cRoots, if_neg h, dif_neg (by omega), if_neg h3]
theorem cRoots_pr {q : List Int → Prop} (h0 : q []) (hn : ∀ a b, q (nodeHash a b)) {old : List Int} (ho : q old) : ∀ (d : Nat) (m n : Int) (proof : List (List Int)) (k : Bool), n ≤ d → (∀ y ∈ proof, q y) → q (cRoots m n old proof k).1 ∧ q (cRoots m n old proof k).2
  | d, m, n, proof, k, h, hp => by
    by_cases c : m = n
    · cases k with
      | true => rw [cRoots_known c rfl]; exact ⟨ho, ho⟩
      | false =>
        rw [cRoots_new c rfl]
        have : q (proof.getD 0 []) := by
          rw [List.getD_eq_getElem?_getD]
          cases hx : proof[0]? with
          | none => exact h0
          | some x => exact hp x (List.mem_of_getElem? hx)
        exact ⟨this, this⟩
    · by_cases c2 : n < 2
      · rw [cRoots, if_neg c, dif_pos c2]; exact ⟨h0, h0⟩
      · have hb := splitAtT_bd n
        cases d with
        | zero => omega
        | succ d =>
          by_cases c3 : m ≤ splitAtT n
          · rw [cRoots_left c (by omega) c3]
            exact ⟨(cRoots_pr h0 hn ho d m (splitAtT n) _ k (by omega) (mem_sub hp _ _)).1, hn _ _⟩
          · rw [cRoots_right c (by omega) c3]; exact ⟨hn _ _, hn _ _⟩
theorem cRoots_u8 {m n : Int} {old : List Int} {proof : List (List Int)} {k : Bool} (ho : U8s old) (hp : ∀ y ∈ proof, U8s y) : U8s (cRoots m n old proof k).1 ∧ U8s (cRoots m n old proof k).2 := cRoots_pr (q := U8s) (fun x hx => by cases hx) nodeHash_u8 ho n.toNat m n proof k (by omega) hp
theorem cRoots_len {m n : Int} {old : List Int} {proof : List (List Int)} {k : Bool} (ho : old.length ≤ 1048576) (hp : ∀ y ∈ proof, y.length ≤ 1048576) : (cRoots m n old proof k).1.length ≤ 1048576 ∧ (cRoots m n old proof k).2.length ≤ 1048576 := cRoots_pr (q := fun y => y.length ≤ 1048576) (Nat.zero_le _) (fun a b => Nat.le_trans (nodeHash_len a b) (by decide)) ho n.toNat m n proof k (by omega) hp
def consFits (m n : Int) (old : List Int) (proof : List (List Int)) : Bool := sizesOk m n && decide ((old.length : Int) = 32) && decide ((proof.length : Int) = consLenT m n) && hashes proof
theorem consFits_all {m n : Int} {old : List Int} {proof : List (List Int)} (h : consFits m n old proof = true) : sizesOk m n = true ∧ (old.length : Int) = 32 ∧ (proof.length : Int) = consLenT m n ∧ hashes proof = true := by
  simp only [consFits, Bool.and_eq_true, decide_eq_true_eq] at h
  exact ⟨h.1.1.1, h.1.1.2, h.1.2, h.2⟩
theorem consFits_mk {m n : Int} {old : List Int} {proof : List (List Int)} (h1 : sizesOk m n = true) (h2 : (old.length : Int) = 32) (h3 : (proof.length : Int) = consLenT m n) (h4 : hashes proof = true) : consFits m n old proof = true := by
  simp only [consFits, Bool.and_eq_true, decide_eq_true_eq]
  exact ⟨⟨⟨h1, h2⟩, h3⟩, h4⟩
def consRootsT (m n : Int) (old : List Int) (proof : List (List Int)) : List Int × List Int := if consFits m n old proof = true then cRoots m n old proof true else ([], [])
theorem consRootsT_yes {m n : Int} {old : List Int} {proof : List (List Int)} (h : consFits m n old proof = true) : consRootsT m n old proof = cRoots m n old proof true := if_pos h
theorem consRootsT_no {m n : Int} {old : List Int} {proof : List (List Int)} (h : consFits m n old proof = false) : consRootsT m n old proof = ([], []) := by unfold consRootsT; rw [h]; rfl
theorem consRootsT_u8 {m n : Int} {old : List Int} {proof : List (List Int)} (ho : U8s old) (hp : ∀ y ∈ proof, U8s y) : U8s (consRootsT m n old proof).1 ∧ U8s (consRootsT m n old proof).2 := by
  unfold consRootsT
  split
  · exact cRoots_u8 ho hp
  · have hn : U8s [] := fun x hx => by cases hx
    exact ⟨hn, hn⟩
theorem consRootsT_len {m n : Int} {old : List Int} {proof : List (List Int)} (ho : old.length ≤ 1048576) (hp : ∀ y ∈ proof, y.length ≤ 1048576) : (consRootsT m n old proof).1.length ≤ 1048576 ∧ (consRootsT m n old proof).2.length ≤ 1048576 := by
  unfold consRootsT
  split
  · exact cRoots_len ho hp
  · exact ⟨Nat.zero_le _, Nat.zero_le _⟩
def consOk (m n : Int) (old root : List Int) (proof : List (List Int)) : Bool := consFits m n old proof && decide ((consRootsT m n old proof).1 = old) && decide ((consRootsT m n old proof).2 = root)

theorem ok_impl_within (n : Int) (low : Int) (high : Int) : RO Try.prog 52 [.one (.int .i64 n), .one (.int .i64 low), .one (.int .i64 high)] [(false, [.rd (.bool (decide (low ≤ n ∧ n ≤ high)))])] := by
 refine RO.intro Try.func52 rfl 15 rfl (le_ok rfl) fun w Z => ?_
 refine T.seq ?_
 refine T.region ?_
 refine TL.cons rfl (Step.assign (p := (.one (.d (.bool false)))) rfl rfl (lt_ok rfl) rfl) ?_
 refine TL.nil ?_
 refine T.seq ?_
 refine T.region ?_
 refine TL.cons rfl (Step.move (p := (.one (.d (.int .i64 low)))) rfl rfl (lt_ok rfl) rfl) ?_
 refine TL.cons rfl (Step.move (p := (.one (.d (.int .i64 n)))) rfl rfl (lt_ok rfl) rfl) ?_
 refine TL.cons rfl (Step.bin rfl rfl (lt_ok rfl) rfl rfl (Bin.leq (k := .i64) (a := low) (b := n))) ?_
 refine TL.cons rfl (Step.move (p := (.one (.d (.bool (decide (low ≤ n)))))) rfl rfl (lt_ok rfl) rfl) ?_
 rcases Bool.eq_false_or_eq_true (decide (low ≤ n)) with hb1 | hb1
 ·
  refine TL.known 10 hb1 rfl ?_
  refine TL.gyes 10 rfl rfl (lt_ok rfl) rfl (Step.move (p := (.one (.d (.int .i64 n)))) rfl rfl (lt_ok rfl) rfl) ?_
  refine TL.gyes 10 rfl rfl (lt_ok rfl) rfl (Step.move (p := (.one (.d (.int .i64 high)))) rfl rfl (lt_ok rfl) rfl) ?_
  refine TL.gyes 10 rfl rfl (lt_ok rfl) rfl (Step.bin rfl rfl (lt_ok rfl) rfl rfl (Bin.leq (k := .i64) (a := n) (b := high))) ?_
  refine TL.cons rfl (Step.pick (b := true) (p := (.one (.d (.bool (decide (n ≤ high)))))) rfl rfl (lt_ok rfl) rfl rfl) ?_
  refine TL.cons rfl (Step.assign (p := (.one (.d (.bool (decide (n ≤ high)))))) rfl rfl (lt_ok rfl) rfl) ?_
  refine TL.nil ?_
  refine T.ret ?_
  refine ⟨[(false, [.d (.bool (decide (n ≤ high)))])], (.cons rfl .nil), rfl, [], (RetC.rd' ?_ .nil)⟩ <;> (first | (congr 1; simp_all; done) | (congr 1; simp_all; omega))
 ·
  refine TL.known 10 hb1 rfl ?_
  refine TL.goff 10 rfl rfl (lt_ok rfl) rfl rfl rfl (lt_ok rfl) ?_
  refine TL.goff 10 rfl rfl (lt_ok rfl) rfl rfl rfl (lt_ok rfl) ?_
  refine TL.goff 10 rfl rfl (lt_ok rfl) rfl rfl rfl (lt_ok rfl) ?_
  refine TL.cons rfl (Step.pick (b := false) (p := (.one (.d (.bool false)))) rfl rfl (lt_ok rfl) rfl rfl) ?_
  refine TL.cons rfl (Step.assign (p := (.one (.d (.bool false)))) rfl rfl (lt_ok rfl) rfl) ?_
  refine TL.nil ?_
  refine T.ret ?_
  refine ⟨[(false, [.d (.bool false)])], (.cons rfl .nil), rfl, [], (RetC.rd' ?_ .nil)⟩ <;> (first | (congr 1; simp_all; done) | (congr 1; simp_all; omega))
theorem ok_impl_areSizes (m : Int) (n : Int) : RO Try.prog 54 [.one (.int .i64 m), .one (.int .i64 n)] [(false, [.rd (.bool (sizesOk m n))])] := by
 refine RO.intro Try.func54 rfl 12 rfl (le_ok rfl) fun w Z => ?_
 refine T.seq ?_
 refine T.region ?_
 refine TL.cons rfl (Step.assign (p := (.one (.d (.bool false)))) rfl rfl (lt_ok rfl) rfl) ?_
 refine TL.nil ?_
 refine T.seq ?_
 refine T.region ?_
 refine TL.cons rfl (Step.move (p := (.one (.d (.int .i64 m)))) rfl rfl (lt_ok rfl) rfl) ?_
 refine TL.cons rfl (Step.move (p := (.one (.d (.int .i64 n)))) rfl rfl (lt_ok rfl) rfl) ?_
 refine TL.cons rfl (Step.call (f := 52) (xs := [.tmp 5, .const (.int .i64 1), .tmp 6]) (ps := [(.one (.d (.int .i64 m))), (.one (.d (.int .i64 1))), (.one (.d (.int .i64 n)))]) false (g := .func 52) rfl rfl (lt_ok rfl) rfl (by kernel_rfl) rfl (.cons (.one (.d _)) (.cons (.one (.d _)) (.cons (.one (.d _)) .nil))) (ok_impl_within m 1 n) (.inr rfl) rfl (by simp) rfl) ?_
 refine TL.cons rfl (Step.move (p := (.one (.d (.bool (decide (1 ≤ m ∧ m ≤ n)))))) rfl rfl (lt_ok rfl) rfl) ?_
 rcases Bool.eq_false_or_eq_true (decide (1 ≤ m ∧ m ≤ n)) with hb1 | hb1
 ·
  refine TL.known 8 hb1 rfl ?_
  have hb1' := hb1
  replace hb1' := of_decide_eq_true hb1'
  refine TL.gyes 8 rfl rfl (lt_ok rfl) rfl (Step.move (p := (.one (.d (.int .i64 n)))) rfl rfl (lt_ok rfl) rfl) ?_
  refine TL.gyes 8 rfl rfl (lt_ok rfl) rfl (Step.bin rfl rfl (lt_ok rfl) rfl rfl (Bin.leq (k := .i64) (a := n) (b := 1048576))) ?_
  refine TL.cons rfl (Step.pick (b := true) (p := (.one (.d (.bool (decide (n ≤ 1048576)))))) rfl rfl (lt_ok rfl) rfl rfl) ?_
  refine TL.cons rfl (Step.assign (p := (.one (.d (.bool (decide (n ≤ 1048576)))))) rfl rfl (lt_ok rfl) rfl) ?_
  refine TL.nil ?_
  refine T.ret ?_
  refine ⟨[(false, [.d (.bool (decide (n ≤ 1048576)))])], (.cons rfl .nil), rfl, [], (RetC.rd' ?_ .nil)⟩ <;> ((congr 1; symm; unfold sizesOk; first | exact decide_eq_false (by omega) | exact decide_eq_true (by omega) | (apply decide_eq_decide.2; omega)))
 ·
  refine TL.known 8 hb1 rfl ?_
  have hb1' := hb1
  replace hb1' := of_decide_eq_false hb1'
  refine TL.goff 8 rfl rfl (lt_ok rfl) rfl rfl rfl (lt_ok rfl) ?_
  refine TL.goff 8 rfl rfl (lt_ok rfl) rfl rfl rfl (lt_ok rfl) ?_
  refine TL.cons rfl (Step.pick (b := false) (p := (.one (.d (.bool false)))) rfl rfl (lt_ok rfl) rfl rfl) ?_
  refine TL.cons rfl (Step.assign (p := (.one (.d (.bool false)))) rfl rfl (lt_ok rfl) rfl) ?_
  refine TL.nil ?_
  refine T.ret ?_
  refine ⟨[(false, [.d (.bool false)])], (.cons rfl .nil), rfl, [], (RetC.rd' ?_ .nil)⟩ <;> ((congr 1; symm; unfold sizesOk; first | exact decide_eq_false (by omega) | exact decide_eq_true (by omega) | (apply decide_eq_decide.2; omega)))
theorem ok_impl_SplitAt (n : Int) (h0_ : n ≤ 9223372036854775807) : RO Try.prog 50 [.one (.int .i64 n)] [(false, [.rd (.int .i64 (splitAtT n))])] := by
 refine RO.intro Try.func50 rfl 14 rfl (le_ok rfl) fun w Z => ?_
 refine T.seq ?_
 refine T.region ?_
 refine TL.cons rfl (Step.assign (p := (.one (.d (.int .i64 0)))) rfl rfl (lt_ok rfl) rfl) ?_
 refine TL.nil ?_
 refine T.seq ?_
 refine T.seq ?_
 refine T.region ?_
 refine TL.cons rfl (Step.move (p := (.one (.d (.int .i64 n)))) rfl rfl (lt_ok rfl) rfl) ?_
 refine TL.cons rfl (Step.bin rfl rfl (lt_ok rfl) rfl rfl (Bin.lss (k := .i64) (a := n) (b := 2))) ?_
 refine TL.nil ?_
 refine T.cond (b := decide (n < 2)) rfl (fun h1 => ?_) (fun h1 => ?_)
 ·
  replace h1 := of_decide_eq_true h1
  refine T.seq ?_
  refine T.region ?_
  refine TL.cons rfl (Step.assign (p := (.one (.d (.int .i64 0)))) rfl rfl (lt_ok rfl) rfl) ?_
  refine TL.nil ?_
  refine T.ret ?_
  refine ⟨[(false, [.d (.int .i64 0)])], (.cons rfl .nil), rfl, [], (RetC.rd' ?_ .nil)⟩ <;> ((congr 1; unfold splitAtT; first | (rw [if_pos (by omega)]; done) | (rw [if_neg (by omega)]; rw [if_neg (by omega)] at hx4; exact hx4) | (rw [if_neg (by omega)]; omega)))
 ·
  replace h1 := of_decide_eq_false h1
  refine T.skip ?_
  refine T.seq ?_
  refine T.region ?_
  refine TL.cons rfl (Step.assign (p := (.one (.d (.int .i64 1)))) rfl rfl (lt_ok rfl) rfl) ?_
  refine TL.nil ?_
  refine T.seq ?_
  refine T.block ?_
  refine T.loop (ι := Nat × Int) (fun xx_ => { tm := [(0, (.one (.d (.int .i64 n)))), (2, (.one (.d (.int .i64 0)))), (3, (.one (.d (.int .i64 (xx_.2)))))], rows := [], boxes := [] }) (fun xx_ => 1 ≤ (xx_.2) ∧ (xx_.2) < n ∧ n ≤ (xx_.2) + (xx_.1) ∧ splitGo (xx_.1) n (xx_.2) = splitAt n) (fun xx_ => (xx_.1)) (n.toNat, 1) ?_ ?_ ?_
  · refine Env.le_mk ⟨rfl, rfl, ?_, trivial⟩ trivial trivial <;> (first | rfl | (refine congrArg (fun n => PV.one (.d (.int .i64 n))) ?_; rfl))
  · (dsimp only; refine ⟨by omega, by omega, by omega, rfl⟩)
  ·
   intro xx_ hx
   obtain ⟨d, x⟩ := xx_
   try dsimp only at hx ⊢
   obtain ⟨hx1, hx2, hx3, hx4⟩ := hx
   obtain ⟨d', rfl⟩ : ∃ d', d = d' + 1 := ⟨d - 1, by omega⟩
   unfold splitGo at hx4
   refine T.seq ?_
   refine T.seq ?_
   refine T.region ?_
   refine TL.cons rfl (Step.move (p := (.one (.d (.int .i64 x)))) rfl rfl (lt_ok rfl) rfl) ?_
   refine TL.cons rfl (Step.move (p := (.one (.d (.int .i64 n)))) rfl rfl (lt_ok rfl) rfl) ?_
   refine TL.cons rfl (Step.move (p := (.one (.d (.int .i64 x)))) rfl rfl (lt_ok rfl) rfl) ?_
   refine TL.cons rfl (Step.bin (r := .int .i64 (n - x)) rfl rfl (lt_ok rfl) rfl rfl (Bin.sub (a := n) (b := x) (by first | exact wrap_ok (by first | omega | (simp; omega)) (by first | omega | (simp; omega)) | rfl))) ?_
   refine TL.cons rfl (Step.bin rfl rfl (lt_ok rfl) rfl rfl (Bin.lss (k := .i64) (a := x) (b := (n - x)))) ?_
   refine TL.nil ?_
   refine T.cond (b := decide (x < (n - x))) rfl (fun h2 => ?_) (fun h2 => ?_)
   ·
    replace h2 := of_decide_eq_true h2
    refine T.skip ?_
    refine T.block ?_
    refine T.region ?_
    refine TL.cons rfl (Step.move (p := (.one (.d (.int .i64 x)))) rfl rfl (lt_ok rfl) rfl) ?_
    refine TL.cons rfl (Step.bin (r := .int .i64 (x * 2)) rfl rfl (lt_ok rfl) rfl rfl (Bin.mul (a := x) (b := 2) (by first | exact wrap_ok (by first | omega | (simp; omega)) (by first | omega | (simp; omega)) | rfl))) ?_
    refine TL.cons rfl (Step.assign (p := (.one (.d (.int .i64 (x * 2))))) rfl rfl (lt_ok rfl) rfl) ?_
    refine TL.nil ?_
    refine ⟨(d', x * 2), by (try dsimp only); (rw [if_pos (by omega)] at hx4; refine ⟨by omega, by omega, by omega, ?_⟩; first | exact hx4 | (rw [Int.mul_comm]; exact hx4)), by (dsimp only; omega), Env.le_mk ⟨rfl, rfl, ?_, trivial⟩ trivial trivial⟩ <;> (first | rfl | (refine congrArg (fun n => PV.one (.d (.int .i64 n))) ?_; rfl))
   ·
    replace h2 := of_decide_eq_false h2
    refine T.exit ?_
    refine T.seq ?_
    refine T.region ?_
    refine TL.cons rfl (Step.move (p := (.one (.d (.int .i64 x)))) rfl rfl (lt_ok rfl) rfl) ?_
    refine TL.cons rfl (Step.assign (p := (.one (.d (.int .i64 x)))) rfl rfl (lt_ok rfl) rfl) ?_
    refine TL.nil ?_
    refine T.ret ?_
    refine ⟨[(false, [.d (.int .i64 x)])], (.cons rfl .nil), rfl, [], (RetC.rd' ?_ .nil)⟩ <;> ((congr 1; unfold splitAtT; first | (rw [if_pos (by omega)]; done) | (rw [if_neg (by omega)]; rw [if_neg (by omega)] at hx4; exact hx4) | (rw [if_neg (by omega)]; omega)))
theorem ok_impl_consLen_r (d_ : Nat) : ∀ (m : Int) (n : Int) (known : Bool) (hd_ : n.toNat = d_) (h0_ : 1 ≤ m ∧ m ≤ n ∧ n ≤ 1048576), RO Try.prog 57 [.one (.int .i64 m), .one (.int .i64 n), .one (.bool known)] [(false, [.rd (.int .i64 (cLen m n known))])] := by
 refine Nat.strongRecOn d_ ?_
 intro d_ ih m n known hd_ h0_
 subst hd_
 refine RO.intro Try.func57 rfl 30 rfl (le_ok rfl) fun w Z => ?_
 have hsb_ := splitAtT_bd n
 refine T.seq ?_
 refine T.region ?_
 refine TL.cons rfl (Step.assign (p := (.one (.d (.int .i64 0)))) rfl rfl (lt_ok rfl) rfl) ?_
 refine TL.nil ?_
 refine T.seq ?_
 refine T.seq ?_
 refine T.region ?_
 refine TL.cons rfl (Step.move (p := (.one (.d (.int .i64 m)))) rfl rfl (lt_ok rfl) rfl) ?_
 refine TL.cons rfl (Step.move (p := (.one (.d (.int .i64 n)))) rfl rfl (lt_ok rfl) rfl) ?_
 refine TL.cons rfl (Step.bin rfl rfl (lt_ok rfl) rfl rfl (Bin.eql (k := .i64) (a := m) (b := n))) ?_
 refine TL.nil ?_
 refine T.cond (b := decide (m = n)) rfl (fun h1 => ?_) (fun h1 => ?_)
 ·
  replace h1 := of_decide_eq_true h1
  refine T.seq ?_
  refine T.seq ?_
  refine T.region ?_
  refine TL.cons rfl (Step.move (p := (.one (.d (.bool known)))) rfl rfl (lt_ok rfl) rfl) ?_
  refine TL.nil ?_
  refine T.cond (b := known) rfl (fun h2 => ?_) (fun h2 => ?_)
  ·
   refine T.seq ?_
   refine T.region ?_
   refine TL.cons rfl (Step.assign (p := (.one (.d (.int .i64 0)))) rfl rfl (lt_ok rfl) rfl) ?_
   refine TL.nil ?_
   refine T.ret ?_
   refine ⟨[(false, [.d (.int .i64 0)])], (.cons rfl .nil), rfl, [], (RetC.rd' ?_ .nil)⟩ <;> ((congr 1; first | (rw [cLen_eq (m := m) (n := n) (by omega)]; done) | (rw [cLen_eq (m := m) (n := n) (by omega), show known = true from by assumption]; rfl) | (rw [cLen_eq (m := m) (n := n) (by omega), show known = false from by assumption]; rfl) | (rw [cLen_left (m := m) (n := n) (by omega) (by omega) (by omega)]; done) | (rw [cLen_right (m := m) (n := n) (by omega) (by omega) (by omega)]; done)))
  ·
   refine T.skip ?_
   refine T.seq ?_
   refine T.region ?_
   refine TL.cons rfl (Step.assign (p := (.one (.d (.int .i64 1)))) rfl rfl (lt_ok rfl) rfl) ?_
   refine TL.nil ?_
   refine T.ret ?_
   refine ⟨[(false, [.d (.int .i64 1)])], (.cons rfl .nil), rfl, [], (RetC.rd' ?_ .nil)⟩ <;> ((congr 1; first | (rw [cLen_eq (m := m) (n := n) (by omega)]; done) | (rw [cLen_eq (m := m) (n := n) (by omega), show known = true from by assumption]; rfl) | (rw [cLen_eq (m := m) (n := n) (by omega), show known = false from by assumption]; rfl) | (rw [cLen_left (m := m) (n := n) (by omega) (by omega) (by omega)]; done) | (rw [cLen_right (m := m) (n := n) (by omega) (by omega) (by omega)]; done)))
 ·
  replace h1 := of_decide_eq_false h1
  refine T.skip ?_
  refine T.seq ?_
  refine T.region ?_
  refine TL.cons rfl (Step.move (p := (.one (.d (.int .i64 n)))) rfl rfl (lt_ok rfl) rfl) ?_
  have nn3 := splitAtT_bd n
  refine TL.cons rfl (Step.call (f := 50) (xs := [.tmp 12]) (ps := [(.one (.d (.int .i64 n)))]) false (g := .func 50) rfl rfl (lt_ok rfl) rfl (by kernel_rfl) rfl (.cons (.one (.d _)) .nil) (ok_impl_SplitAt n (by first | omega | assumption | (simp only [List.length_append] at *; omega))) (.inr rfl) rfl (by simp) rfl) ?_
  refine TL.cons rfl (Step.assign (p := (.one (.d (.int .i64 (splitAtT n))))) rfl rfl (lt_ok rfl) rfl) ?_
  refine TL.nil ?_
  refine T.seq ?_
  refine T.seq ?_
  refine T.region ?_
  refine TL.cons rfl (Step.move (p := (.one (.d (.int .i64 m)))) rfl rfl (lt_ok rfl) rfl) ?_
  refine TL.cons rfl (Step.move (p := (.one (.d (.int .i64 (splitAtT n))))) rfl rfl (lt_ok rfl) rfl) ?_
  refine TL.cons rfl (Step.bin rfl rfl (lt_ok rfl) rfl rfl (Bin.leq (k := .i64) (a := m) (b := (splitAtT n)))) ?_
  refine TL.nil ?_
  refine T.cond (b := decide (m ≤ (splitAtT n))) rfl (fun h4 => ?_) (fun h4 => ?_)
  ·
   replace h4 := of_decide_eq_true h4
   refine T.seq ?_
   refine T.region ?_
   refine TL.cons rfl (Step.move (p := (.one (.d (.int .i64 m)))) rfl rfl (lt_ok rfl) rfl) ?_
   refine TL.cons rfl (Step.move (p := (.one (.d (.int .i64 (splitAtT n))))) rfl rfl (lt_ok rfl) rfl) ?_
   refine TL.cons rfl (Step.move (p := (.one (.d (.bool known)))) rfl rfl (lt_ok rfl) rfl) ?_
   have nn5 := cLen_bd ((splitAtT n)).toNat m (splitAtT n) known (by omega) (by first | omega | (have h_ := of_decide_eq_true (p := 1 ≤ m ∧ m ≤ (splitAtT n) ∧ (splitAtT n) ≤ 1048576) ‹sizesOk m (splitAtT n) = true›; omega))
   refine TL.cons rfl (Step.call (f := 57) (xs := [.tmp 17, .tmp 18, .tmp 19]) (ps := [(.one (.d (.int .i64 m))), (.one (.d (.int .i64 (splitAtT n)))), (.one (.d (.bool known)))]) false (g := .func 57) rfl rfl (lt_ok rfl) rfl (by kernel_rfl) rfl (.cons (.one (.d _)) (.cons (.one (.d _)) (.cons (.one (.d _)) .nil))) (ih (splitAtT n).toNat (by omega) m (splitAtT n) known rfl (by first | assumption | omega | exact of_decide_eq_true ‹sizesOk _ _ = true›)) (.inr rfl) rfl (by simp) rfl) ?_
   refine TL.cons rfl (Step.bin (r := .int .i64 (1 + (cLen m (splitAtT n) known))) rfl rfl (lt_ok rfl) rfl rfl (Bin.add (a := 1) (b := (cLen m (splitAtT n) known)) (by first | exact wrap_ok (by first | omega | (simp; omega)) (by first | omega | (simp; omega)) | rfl))) ?_
   refine TL.cons rfl (Step.assign (p := (.one (.d (.int .i64 (1 + (cLen m (splitAtT n) known)))))) rfl rfl (lt_ok rfl) rfl) ?_
   refine TL.nil ?_
   refine T.ret ?_
   refine ⟨[(false, [.d (.int .i64 (1 + (cLen m (splitAtT n) known)))])], (.cons rfl .nil), rfl, [], (RetC.rd' ?_ .nil)⟩ <;> ((congr 1; first | (rw [cLen_eq (m := m) (n := n) (by omega)]; done) | (rw [cLen_eq (m := m) (n := n) (by omega), show known = true from by assumption]; rfl) | (rw [cLen_eq (m := m) (n := n) (by omega), show known = false from by assumption]; rfl) | (rw [cLen_left (m := m) (n := n) (by omega) (by omega) (by omega)]; done) | (rw [cLen_right (m := m) (n := n) (by omega) (by omega) (by omega)]; done)))
  ·
   replace h4 := of_decide_eq_false h4
   refine T.skip ?_
   refine T.seq ?_
   refine T.region ?_
   refine TL.cons rfl (Step.move (p := (.one (.d (.int .i64 m)))) rfl rfl (lt_ok rfl) rfl) ?_
   refine TL.cons rfl (Step.move (p := (.one (.d (.int .i64 (splitAtT n))))) rfl rfl (lt_ok rfl) rfl) ?_
   refine TL.cons rfl (Step.bin (r := .int .i64 (m - (splitAtT n))) rfl rfl (lt_ok rfl) rfl rfl (Bin.sub (a := m) (b := (splitAtT n)) (by first | exact wrap_ok (by first | omega | (simp; omega)) (by first | omega | (simp; omega)) | rfl))) ?_
   refine TL.cons rfl (Step.move (p := (.one (.d (.int .i64 n)))) rfl rfl (lt_ok rfl) rfl) ?_
   refine TL.cons rfl (Step.move (p := (.one (.d (.int .i64 (splitAtT n))))) rfl rfl (lt_ok rfl) rfl) ?_
   refine TL.cons rfl (Step.bin (r := .int .i64 (n - (splitAtT n))) rfl rfl (lt_ok rfl) rfl rfl (Bin.sub (a := n) (b := (splitAtT n)) (by first | exact wrap_ok (by first | omega | (simp; omega)) (by first | omega | (simp; omega)) | rfl))) ?_
   have nn6 := cLen_bd ((n - (splitAtT n))).toNat (m - (splitAtT n)) (n - (splitAtT n)) false (by omega) (by first | omega | (have h_ := of_decide_eq_true (p := 1 ≤ (m - (splitAtT n)) ∧ (m - (splitAtT n)) ≤ (n - (splitAtT n)) ∧ (n - (splitAtT n)) ≤ 1048576) ‹sizesOk (m - (splitAtT n)) (n - (splitAtT n)) = true›; omega))
   refine TL.cons rfl (Step.call (f := 57) (xs := [.tmp 24, .tmp 27, .const (.bool false)]) (ps := [(.one (.d (.int .i64 (m - (splitAtT n))))), (.one (.d (.int .i64 (n - (splitAtT n))))), (.one (.d (.bool false)))]) false (g := .func 57) rfl rfl (lt_ok rfl) rfl (by kernel_rfl) rfl (.cons (.one (.d _)) (.cons (.one (.d _)) (.cons (.one (.d _)) .nil))) (ih (n - (splitAtT n)).toNat (by omega) (m - (splitAtT n)) (n - (splitAtT n)) false rfl (by first | assumption | omega | exact of_decide_eq_true ‹sizesOk _ _ = true›)) (.inr rfl) rfl (by simp) rfl) ?_
   refine TL.cons rfl (Step.bin (r := .int .i64 (1 + (cLen (m - (splitAtT n)) (n - (splitAtT n)) false))) rfl rfl (lt_ok rfl) rfl rfl (Bin.add (a := 1) (b := (cLen (m - (splitAtT n)) (n - (splitAtT n)) false)) (by first | exact wrap_ok (by first | omega | (simp; omega)) (by first | omega | (simp; omega)) | rfl))) ?_
   refine TL.cons rfl (Step.assign (p := (.one (.d (.int .i64 (1 + (cLen (m - (splitAtT n)) (n - (splitAtT n)) false)))))) rfl rfl (lt_ok rfl) rfl) ?_
   refine TL.nil ?_
   refine T.ret ?_
   refine ⟨[(false, [.d (.int .i64 (1 + (cLen (m - (splitAtT n)) (n - (splitAtT n)) false)))])], (.cons rfl .nil), rfl, [], (RetC.rd' ?_ .nil)⟩ <;> ((congr 1; first | (rw [cLen_eq (m := m) (n := n) (by omega)]; done) | (rw [cLen_eq (m := m) (n := n) (by omega), show known = true from by assumption]; rfl) | (rw [cLen_eq (m := m) (n := n) (by omega), show known = false from by assumption]; rfl) | (rw [cLen_left (m := m) (n := n) (by omega) (by omega) (by omega)]; done) | (rw [cLen_right (m := m) (n := n) (by omega) (by omega) (by omega)]; done)))
theorem ok_impl_consLen (m : Int) (n : Int) (known : Bool) (h0_ : 1 ≤ m ∧ m ≤ n ∧ n ≤ 1048576) : RO Try.prog 57 [.one (.int .i64 m), .one (.int .i64 n), .one (.bool known)] [(false, [.rd (.int .i64 (cLen m n known))])] := ok_impl_consLen_r _ m n known rfl h0_
theorem ok_impl_ConsLen (m : Int) (n : Int) : RO Try.prog 16 [.one (.int .i64 m), .one (.int .i64 n)] [(false, [.rd (.int .i64 (consLenT m n))])] := by
 refine RO.intro Try.func16 rfl 12 rfl (le_ok rfl) fun w Z => ?_
 have hz_ : sizesOk m n = true → 1 ≤ m ∧ m ≤ n ∧ n ≤ 1048576 := of_decide_eq_true
 refine T.seq ?_
 refine T.region ?_
 refine TL.cons rfl (Step.assign (p := (.one (.d (.int .i64 0)))) rfl rfl (lt_ok rfl) rfl) ?_
 refine TL.nil ?_
 refine T.seq ?_
 refine T.seq ?_
 refine T.region ?_
 refine TL.cons rfl (Step.move (p := (.one (.d (.int .i64 m)))) rfl rfl (lt_ok rfl) rfl) ?_
 refine TL.cons rfl (Step.move (p := (.one (.d (.int .i64 n)))) rfl rfl (lt_ok rfl) rfl) ?_
 refine TL.cons rfl (Step.call (f := 54) (xs := [.tmp 5, .tmp 6]) (ps := [(.one (.d (.int .i64 m))), (.one (.d (.int .i64 n)))]) false (g := .func 54) rfl rfl (lt_ok rfl) rfl (by kernel_rfl) rfl (.cons (.one (.d _)) (.cons (.one (.d _)) .nil)) (ok_impl_areSizes m n) (.inr rfl) rfl (by simp) rfl) ?_
 refine TL.cons rfl (Step.not (b := (sizesOk m n)) rfl rfl (lt_ok rfl) rfl) ?_
 refine TL.nil ?_
 refine T.cond (b := !(sizesOk m n)) rfl (fun h1 => ?_) (fun h1 => ?_)
 ·
  replace h1 : (sizesOk m n) = false := by simpa only [Bool.not_eq_true', Bool.not_eq_false'] using h1
  refine T.seq ?_
  refine T.region ?_
  refine TL.cons rfl (Step.assign (p := (.one (.d (.int .i64 0)))) rfl rfl (lt_ok rfl) rfl) ?_
  refine TL.nil ?_
  refine T.ret ?_
  refine ⟨[(false, [.d (.int .i64 0)])], (.cons rfl .nil), rfl, [], (RetC.rd' ?_ .nil)⟩ <;> ((congr 1; first | (rw [consLenT_yes (m := m) (n := n) (hz_ (by assumption))]; done) | (rw [consLenT_no (m := m) (n := n) (of_decide_eq_false ‹sizesOk m n = false›)]; done)))
 ·
  replace h1 : (sizesOk m n) = true := by simpa only [Bool.not_eq_true', Bool.not_eq_false'] using h1
  refine T.skip ?_
  refine T.seq ?_
  refine T.region ?_
  refine TL.cons rfl (Step.move (p := (.one (.d (.int .i64 m)))) rfl rfl (lt_ok rfl) rfl) ?_
  refine TL.cons rfl (Step.move (p := (.one (.d (.int .i64 n)))) rfl rfl (lt_ok rfl) rfl) ?_
  have nn2 := cLen_bd (n).toNat m n true (by omega) (by first | omega | (have h_ := of_decide_eq_true (p := 1 ≤ m ∧ m ≤ n ∧ n ≤ 1048576) ‹sizesOk m n = true›; omega))
  refine TL.cons rfl (Step.call (f := 57) (xs := [.tmp 9, .tmp 10, .const (.bool true)]) (ps := [(.one (.d (.int .i64 m))), (.one (.d (.int .i64 n))), (.one (.d (.bool true)))]) false (g := .func 57) rfl rfl (lt_ok rfl) rfl (by kernel_rfl) rfl (.cons (.one (.d _)) (.cons (.one (.d _)) (.cons (.one (.d _)) .nil))) (ok_impl_consLen m n true (by first | assumption | omega | exact of_decide_eq_true ‹sizesOk _ _ = true›)) (.inr rfl) rfl (by simp) rfl) ?_
  refine TL.cons rfl (Step.assign (p := (.one (.d (.int .i64 (cLen m n true))))) rfl rfl (lt_ok rfl) rfl) ?_
  refine TL.nil ?_
  refine T.ret ?_
  refine ⟨[(false, [.d (.int .i64 (cLen m n true))])], (.cons rfl .nil), rfl, [], (RetC.rd' ?_ .nil)⟩ <;> ((congr 1; first | (rw [consLenT_yes (m := m) (n := n) (hz_ (by assumption))]; done) | (rw [consLenT_no (m := m) (n := n) (of_decide_eq_false ‹sizesOk m n = false›)]; done)))
theorem ok_impl_areHashes (l : List (List Int)) : RO Try.prog 55 [.one (.bss l)] [(false, [.rd (.bool (hashes l))])] := by
 refine RO.intro Try.func55 rfl 15 rfl (le_ok rfl) fun w Z => ?_
 refine T.bnd 0 0 rfl rfl fun hb_0_0 => ?_
 simp only [D.size, List.length_map] at hb_0_0
 refine T.seq ?_
 refine T.region ?_
 refine TL.cons rfl (Step.assign (p := (.one (.d (.bool false)))) rfl rfl (lt_ok rfl) rfl) ?_
 refine TL.nil ?_
 refine T.seq ?_
 refine T.seq ?_
 refine T.region ?_
 refine TL.cons rfl (Step.move (p := (.one (.d (.bss l)))) rfl rfl (lt_ok rfl) rfl) ?_
 refine TL.cons rfl (Step.len (e := 22) (z := 1) (d := (.bss l)) rfl rfl (lt_ok rfl) (by kernel_rfl) rfl rfl) ?_
 refine TL.cons rfl (Step.move (p := (.one (.d (.int .i64 0)))) rfl rfl (lt_ok rfl) rfl) ?_
 refine TL.nil ?_
 refine T.block ?_
 refine T.loop (ι := Nat) (fun xx_ => { tm := [(5, (.one (.d (.bss l)))), (6, (.one (.d (.int .i64 (l.length : Int))))), (7, (.one (.d (.int .i64 (xx_ : Int)))))], rows := [], boxes := [] }) (fun xx_ => xx_ ≤ l.length ∧ hashes (l.take xx_) = true) (fun xx_ => l.length - xx_) 0 ?_ ?_ ?_
 · refine Env.le_mk ⟨rfl, rfl, ?_, trivial⟩ trivial trivial <;> (first | rfl | (simp; done) | (congr 3; omega))
 · (refine ⟨Nat.zero_le _, by rw [List.take_zero]; rfl⟩)
 ·
  intro i hx
  try dsimp only at hx ⊢
  obtain ⟨hx1, hx2⟩ := hx
  refine T.seq ?_
  refine T.region ?_
  refine TL.cons rfl (Step.bin rfl rfl (lt_ok rfl) rfl rfl (Bin.lss (k := .i64) (a := (i : Int)) (b := (l.length : Int)))) ?_
  refine TL.nil ?_
  refine T.seq ?_
  refine T.cond (b := decide ((i : Int) < (l.length : Int))) rfl (fun h1 => ?_) (fun h1 => ?_)
  ·
   replace h1 := of_decide_eq_true h1
   refine T.skip ?_
   refine T.seq ?_
   refine T.block ?_
   refine T.seq ?_
   refine T.region ?_
   refine TL.cons rfl (Step.index (e := 22) (z := 1) (i := (i : Int)) rfl rfl (lt_ok rfl) (by kernel_rfl) rfl rfl rfl (lt_ok rfl) rfl (by first | omega | (simp; omega)) (by simp only [D.size]; first | omega | (simp; omega))) ?_
   refine TL.cons rfl (Step.load (e := (.ints .u8 (l.getD i []))) rfl rfl (lt_ok rfl) (by kernel_rfl) rfl rfl) ?_
   refine TL.cons rfl (Step.assign (p := (.one (.d (.ints .u8 (l.getD i []))))) rfl rfl (lt_ok rfl) rfl) ?_
   refine TL.nil ?_
   refine T.seq ?_
   refine T.region ?_
   refine TL.cons rfl (Step.move (p := (.one (.d (.ints .u8 (l.getD i []))))) rfl rfl (lt_ok rfl) rfl) ?_
   refine TL.cons rfl (Step.len (e := 5) (z := 1) (d := (.ints .u8 (l.getD i []))) rfl rfl (lt_ok rfl) (by kernel_rfl) rfl rfl) ?_
   refine TL.cons rfl (Step.bin rfl rfl (lt_ok rfl) rfl rfl (Bin.neq (k := .i64) (a := ((l.getD i []).length : Int)) (b := 32))) ?_
   refine TL.nil ?_
   refine T.cond (b := decide (((l.getD i []).length : Int) ≠ 32)) rfl (fun h2 => ?_) (fun h2 => ?_)
   ·
    replace h2 := of_decide_eq_true h2
    refine T.seq ?_
    refine T.region ?_
    refine TL.cons rfl (Step.assign (p := (.one (.d (.bool false)))) rfl rfl (lt_ok rfl) rfl) ?_
    refine TL.nil ?_
    refine T.ret ?_
    refine ⟨[(false, [.d (.bool false)])], (.cons rfl .nil), rfl, [], (RetC.rd' ?_ .nil)⟩ <;> ((congr 1; symm; first | (exact hashes_no (i := i) (by omega) (by omega)) | (rw [List.take_of_length_le (by omega)] at hx2; exact hx2)))
   ·
    replace h2 := of_decide_eq_false h2
    refine T.skip ?_
    refine T.region ?_
    refine TL.cons rfl (Step.bin (r := .int .i64 ((i : Int) + 1)) rfl rfl (lt_ok rfl) rfl rfl (Bin.add (a := (i : Int)) (b := 1) (by first | exact wrap_ok (by first | omega | (simp; omega)) (by first | omega | (simp; omega)) | rfl))) ?_
    refine TL.cons rfl (Step.move (p := (.one (.d (.int .i64 ((i : Int) + 1))))) rfl rfl (lt_ok rfl) rfl) ?_
    refine TL.nil ?_
    refine ⟨i + 1, by (refine ⟨by omega, hashes_step (by omega) hx2 (by omega)⟩), by first | omega | (dsimp only; omega), Env.le_mk ⟨rfl, rfl, ?_, trivial⟩ trivial trivial⟩ <;> (first | rfl | (simp; done) | (congr 3; omega))
  ·
   replace h1 := of_decide_eq_false h1
   refine T.exit ?_
   refine T.seq ?_
   refine T.region ?_
   refine TL.cons rfl (Step.assign (p := (.one (.d (.bool true)))) rfl rfl (lt_ok rfl) rfl) ?_
   refine TL.nil ?_
   refine T.ret ?_
   refine ⟨[(false, [.d (.bool true)])], (.cons rfl .nil), rfl, [], (RetC.rd' ?_ .nil)⟩ <;> ((congr 1; symm; first | (exact hashes_no (i := i) (by omega) (by omega)) | (rw [List.take_of_length_le (by omega)] at hx2; exact hx2)))
theorem ok_impl_ShaInit  : RO Try.prog 85 [] [(false, [.own 3 (.ints .i64 shaInit)])] := by
 refine RO.intro Try.func85 rfl 2 rfl (le_ok rfl) fun w Z => ?_
 refine T.seq ?_
 refine T.region ?_
 refine TL.cons rfl (Step.assign (p := (.one (.nil))) rfl rfl (lt_ok rfl) rfl) ?_
 refine TL.nil ?_
 refine T.seq ?_
 refine T.region ?_
 refine TL.cons rfl (Step.lit (e := 3) (z := 1) (by_ := 8) (xs := [.const (.int .i64 1779033703), .const (.int .i64 3144134277), .const (.int .i64 1013904242), .const (.int .i64 2773480762), .const (.int .i64 1359893119), .const (.int .i64 2600822924), .const (.int .i64 528734635), .const (.int .i64 1541459225)]) (pss := [[.d (.int .i64 1779033703)], [.d (.int .i64 3144134277)], [.d (.int .i64 1013904242)], [.d (.int .i64 2773480762)], [.d (.int .i64 1359893119)], [.d (.int .i64 2600822924)], [.d (.int .i64 528734635)], [.d (.int .i64 1541459225)]]) (es := [(.int .i64 1779033703), (.int .i64 3144134277), (.int .i64 1013904242), (.int .i64 2773480762), (.int .i64 1359893119), (.int .i64 2600822924), (.int .i64 528734635), (.int .i64 1541459225)]) (ss := []) (d := (.ints .i64 [1779033703, 3144134277, 1013904242, 2773480762, 1359893119, 2600822924, 528734635, 1541459225])) rfl rfl (lt_ok rfl) (by kernel_rfl) rfl rfl (.cons rfl (.cons rfl (.cons rfl (.cons rfl (.cons rfl (.cons rfl (.cons rfl (.cons rfl .nil)))))))) (by simp) (le_ok rfl) (le_ok rfl) rfl (.val rfl (.val rfl (.val rfl (.val rfl (.val rfl (.val rfl (.val rfl (.val rfl .nil)))))))) rfl (by simp) (by simp) rfl trivial rfl rfl) ?_
 refine TL.cons rfl (Step.assign (p := (.one (.row 1 []))) rfl rfl (lt_ok rfl) rfl) ?_
 refine TL.nil ?_
 refine T.ret ?_
 refine ⟨[(false, [.row 1 []])], (.cons rfl .nil), rfl, [1], (RetC.own' rfl ?_ rfl .nil)⟩ <;> (rfl)
theorem ok_impl_copyBytes (a : List Int) (h0_ : a.length ≤ 17592186044416) : RO Try.prog 88 [.one (.ints .u8 a)] [(false, [.own 5 (.ints .u8 a)])] := by
 refine RO.intro Try.func88 rfl 6 rfl (le_ok rfl) fun w Z => ?_
 refine T.bnd 0 0 rfl rfl fun hb_0_0 => ?_
 simp only [D.size, List.length_map] at hb_0_0
 refine T.seq ?_
 refine T.region ?_
 refine TL.cons rfl (Step.assign (p := (.one (.nil))) rfl rfl (lt_ok rfl) rfl) ?_
 refine TL.nil ?_
 refine T.seq ?_
 refine T.region ?_
 refine TL.cons rfl (Step.lit (e := 5) (z := 1) (by_ := 1) (xs := []) (pss := []) (es := []) (ss := []) (d := (.ints .u8 [])) rfl rfl (lt_ok rfl) (by kernel_rfl) rfl rfl .nil (by simp) (le_ok rfl) (le_ok rfl) rfl .nil rfl (by simp) (by simp) rfl trivial rfl rfl) ?_
 refine TL.cons rfl (Step.move (p := (.one (.d (.ints .u8 a)))) rfl rfl (lt_ok rfl) rfl) ?_
 refine TL.cons rfl (Step.append (e := 5) (z := 1) (by_ := 1) (d := (.ints .u8 [])) (dy := (.ints .u8 a)) (d' := (.ints .u8 ([] ++ a))) (ss := []) rfl rfl (lt_ok rfl) (by kernel_rfl) rfl rfl rfl (lt_ok rfl) rfl (.froz rfl (by simp [D.flat, D.val])) (by simp) rfl (by simp only [D.size, List.length_map]; first | omega | (simp only [List.length_append, List.length_cons, List.length_nil]; omega) | (simp; omega) | (simp only [List.length_append] at *; omega)) (by simp only [D.size, List.length_map]; first | omega | (simp only [List.length_append, List.length_cons, List.length_nil]; omega) | (simp; omega) | (simp only [List.length_append] at *; omega)) (by simp)) ?_
 refine TL.cons rfl (Step.assign (p := (.one (.row 3 []))) rfl rfl (lt_ok rfl) rfl) ?_
 refine TL.nil ?_
 refine T.ret ?_
 refine ⟨[(false, [.row 3 []])], (.cons rfl .nil), rfl, [3], (RetC.own' rfl ?_ rfl .nil)⟩ <;> (rfl)
theorem ok_impl_ShaPad (b : List Int) (h0_ : b.length ≤ 17592186040000) : RO Try.prog 86 [.one (.ints .u8 b)] [(false, [.own 5 (.ints .u8 (shaPad b))])] := by
 refine RO.intro Try.func86 rfl 31 rfl (le_ok rfl) fun w Z => ?_
 refine T.bnd 0 0 rfl rfl fun hb_0_0 => ?_
 simp only [D.size, List.length_map] at hb_0_0
 refine T.seq ?_
 refine T.region ?_
 refine TL.cons rfl (Step.assign (p := (.one (.nil))) rfl rfl (lt_ok rfl) rfl) ?_
 refine TL.nil ?_
 refine T.seq ?_
 refine T.region ?_
 refine TL.cons rfl (Step.move (p := (.one (.d (.ints .u8 b)))) rfl rfl (lt_ok rfl) rfl) ?_
 refine TL.cons rfl (Step.call (f := 88) (xs := [.tmp 5]) (ps := [(.one (.d (.ints .u8 b)))]) false (g := .func 88) rfl rfl (lt_ok rfl) rfl (by kernel_rfl) rfl (.cons (.one (.d _)) .nil) (ok_impl_copyBytes b (by first | omega | assumption | (simp only [List.length_take, List.length_drop]; omega))) (.inr rfl) rfl (by simp) rfl) ?_
 refine TL.cons rfl (Step.lit (e := 5) (z := 1) (by_ := 1) (xs := [.const (.int .u8 128)]) (pss := [[.d (.int .u8 128)]]) (es := [(.int .u8 128)]) (ss := []) (d := (.ints .u8 [128])) rfl rfl (lt_ok rfl) (by kernel_rfl) rfl rfl (.cons rfl .nil) (by simp) (le_ok rfl) (le_ok rfl) rfl (.val rfl .nil) rfl (by simp) (by simp) rfl trivial rfl rfl) ?_
 refine TL.cons rfl (Step.append (e := 5) (z := 1) (by_ := 1) (d := (.ints .u8 b)) (dy := (.ints .u8 [128])) (d' := (.ints .u8 (b ++ [128]))) (ss := []) rfl rfl (lt_ok rfl) (by kernel_rfl) rfl rfl rfl (lt_ok rfl) rfl (.copy rfl rfl rfl (by simp [D.flat, D.val])) (by simp) rfl (by simp only [D.size, List.length_map]; first | omega | (simp only [List.length_append, List.length_cons, List.length_nil]; omega) | (simp; omega) | (simp only [List.length_append] at *; omega)) (by simp only [D.size, List.length_map]; first | omega | (simp only [List.length_append, List.length_cons, List.length_nil]; omega) | (simp; omega) | (simp only [List.length_append] at *; omega)) (by simp)) ?_
 refine TL.cons rfl (Step.assign (p := (.one (.row 1006 []))) rfl rfl (lt_ok rfl) rfl) ?_
 refine TL.nil ?_
 refine T.seq ?_
 refine T.block ?_
 refine T.loop (ι := Nat) (fun xx_ => { tm := [(0, (.one (.d (.ints .u8 b)))), (2, (.one (.nil))), (3, (.one (.row 1006 [])))], rows := [(1006, (5, (.ints .u8 (b ++ [128] ++ List.replicate xx_ 0)))), (7, (5, (.ints .u8 [128])))], boxes := [] }) (fun xx_ => xx_ ≤ padK b.length) (fun xx_ => padK b.length - xx_) 0 ?_ ?_ ?_
 · refine Env.le_mk ⟨rfl, rfl, rfl, trivial⟩ ⟨?_, rfl, trivial⟩ trivial <;> (first | rfl | (refine congrArg (fun x => some (_, D.ints .u8 x)) ?_; first | (simp; done) | (rw [List.replicate_succ', List.append_assoc, List.append_assoc]; first | done | rfl) | (simp only [List.append_assoc, List.replicate_succ', padB]; done) | (rw [show i = padK b.length from by unfold padK; omega]; simp [padB]; done)) | (refine congrArg (fun n => PV.one (.d (.int .i64 n))) ?_; first | rfl | omega | (simp; done)))
 · exact Nat.zero_le _
 ·
  intro i hx
  try dsimp only at hx ⊢
  have hl_ : (b ++ [128] ++ List.replicate i 0).length = b.length + 1 + i := by simp; omega
  have hk_ : padK b.length ≤ 63 := by unfold padK; omega
  refine T.seq ?_
  refine T.seq ?_
  refine T.region ?_
  refine TL.cons rfl (Step.move (p := (.one (.row 1006 []))) rfl rfl (lt_ok rfl) rfl) ?_
  refine TL.cons rfl (Step.len (e := 5) (z := 1) (d := (.ints .u8 (b ++ [128] ++ List.replicate i 0))) rfl rfl (lt_ok rfl) (by kernel_rfl) rfl rfl) ?_
  refine TL.cons rfl (Step.bin (r := .int .i64 (((b ++ [128] ++ List.replicate i 0).length : Int) % 64)) rfl rfl (lt_ok rfl) rfl rfl (Bin.rem (k := .i64) (a := ((b ++ [128] ++ List.replicate i 0).length : Int)) (b := 64) (by decide) (Int.tmod_eq_emod_of_nonneg (by first | omega | (simp; omega))))) ?_
  refine TL.cons rfl (Step.bin rfl rfl (lt_ok rfl) rfl rfl (Bin.neq (k := .i64) (a := (((b ++ [128] ++ List.replicate i 0).length : Int) % 64)) (b := 56))) ?_
  refine TL.nil ?_
  refine T.cond (b := decide ((((b ++ [128] ++ List.replicate i 0).length : Int) % 64) ≠ 56)) rfl (fun h1 => ?_) (fun h1 => ?_)
  ·
   replace h1 := of_decide_eq_true h1
   refine T.skip ?_
   refine T.block ?_
   refine T.region ?_
   refine TL.cons rfl (Step.move (p := (.one (.row 1006 []))) rfl rfl (lt_ok rfl) rfl) ?_
   refine TL.cons rfl (Step.lit (e := 5) (z := 1) (by_ := 1) (xs := [.const (.int .u8 0)]) (pss := [[.d (.int .u8 0)]]) (es := [(.int .u8 0)]) (ss := []) (d := (.ints .u8 [0])) rfl rfl (lt_ok rfl) (by kernel_rfl) rfl rfl (.cons rfl .nil) (by simp) (le_ok rfl) (le_ok rfl) rfl (.val rfl .nil) rfl (by simp) (by simp) rfl trivial rfl rfl) ?_
   refine TL.cons rfl (Step.append (e := 5) (z := 1) (by_ := 1) (d := (.ints .u8 (b ++ [128] ++ List.replicate i 0))) (dy := (.ints .u8 [0])) (d' := (.ints .u8 ((b ++ [128] ++ List.replicate i 0) ++ [0]))) (ss := []) rfl rfl (lt_ok rfl) (by kernel_rfl) rfl rfl rfl (lt_ok rfl) rfl (.copy rfl rfl rfl (by simp [D.flat, D.val])) (by simp) rfl (by simp only [D.size, List.length_map]; first | omega | (simp only [List.length_append, List.length_cons, List.length_nil]; omega) | (simp; omega) | (simp only [List.length_append] at *; omega)) (by simp only [D.size, List.length_map]; first | omega | (simp only [List.length_append, List.length_cons, List.length_nil]; omega) | (simp; omega) | (simp only [List.length_append] at *; omega)) (by simp)) ?_
   refine TL.cons rfl (Step.assign (p := (.one (.row 1006 []))) rfl rfl (lt_ok rfl) rfl) ?_
   refine TL.nil ?_
   refine ⟨i + 1, by (unfold padK at *; omega), by (unfold padK at *; omega), Env.le_mk ⟨rfl, rfl, rfl, trivial⟩ ⟨?_, rfl, trivial⟩ trivial⟩ <;> (first | rfl | (refine congrArg (fun x => some (_, D.ints .u8 x)) ?_; first | (simp; done) | (rw [List.replicate_succ', List.append_assoc, List.append_assoc]; first | done | rfl) | (simp only [List.append_assoc, List.replicate_succ', padB]; done) | (rw [show i = padK b.length from by unfold padK; omega]; simp [padB]; done)) | (refine congrArg (fun n => PV.one (.d (.int .i64 n))) ?_; first | rfl | omega | (simp; done)))
  ·
   replace h1 := of_decide_eq_false h1
   refine T.exit ?_
   refine T.seq ?_
   refine T.seq ?_
   refine T.region ?_
   refine TL.cons rfl (Step.assign (p := (.one (.d (.int .i64 7)))) rfl rfl (lt_ok rfl) rfl) ?_
   refine TL.nil ?_
   refine T.block ?_
   refine T.loop (ι := Nat) (fun xx_ => { tm := [(0, (.one (.d (.ints .u8 b)))), (2, (.one (.nil))), (3, (.one (.row 1006 []))), (4, (.one (.d (.int .i64 (7 - (xx_ : Int))))))], rows := [(1006, (5, (.ints .u8 (b ++ [128] ++ List.replicate (padK b.length) 0 ++ padB b.length xx_)))), (7, (5, (.ints .u8 [128])))], boxes := [] }) (fun xx_ => xx_ ≤ 8) (fun xx_ => 8 - xx_) 0 ?_ ?_ ?_
   · refine Env.le_mk ⟨rfl, rfl, rfl, ?_, trivial⟩ ⟨?_, rfl, trivial⟩ trivial <;> (first | rfl | (refine congrArg (fun x => some (_, D.ints .u8 x)) ?_; first | (simp; done) | (rw [List.replicate_succ', List.append_assoc, List.append_assoc]; first | done | rfl) | (simp only [List.append_assoc, List.replicate_succ', padB]; done) | (rw [show i = padK b.length from by unfold padK at *; omega]; simp [padB]; done)) | (refine congrArg (fun n => PV.one (.d (.int .i64 n))) ?_; first | rfl | omega | (simp; done)))
   · exact Nat.zero_le _
   ·
    intro i hx
    try dsimp only at hx ⊢
    have hl_ : (b ++ [128] ++ List.replicate (padK b.length) 0 ++ padB b.length i).length = b.length + 1 + padK b.length + i := by simp [padB_len]; omega
    have hl3_ := padB_len b.length i
    have hk_ : padK b.length ≤ 63 := by unfold padK; omega
    refine T.seq ?_
    refine T.seq ?_
    refine T.region ?_
    refine TL.cons rfl (Step.move (p := (.one (.d (.int .i64 (7 - (i : Int)))))) rfl rfl (lt_ok rfl) rfl) ?_
    refine TL.cons rfl (Step.bin rfl rfl (lt_ok rfl) rfl rfl (Bin.geq (k := .i64) (a := (7 - (i : Int))) (b := 0))) ?_
    refine TL.nil ?_
    refine T.cond (b := decide (0 ≤ (7 - (i : Int)))) rfl (fun h2 => ?_) (fun h2 => ?_)
    ·
     replace h2 := of_decide_eq_true h2
     refine T.skip ?_
     refine T.seq ?_
     refine T.block ?_
     refine T.region ?_
     refine TL.cons rfl (Step.move (p := (.one (.row 1006 []))) rfl rfl (lt_ok rfl) rfl) ?_
     refine TL.cons rfl (Step.move (p := (.one (.d (.ints .u8 b)))) rfl rfl (lt_ok rfl) rfl) ?_
     refine TL.cons rfl (Step.len (e := 5) (z := 1) (d := (.ints .u8 b)) rfl rfl (lt_ok rfl) (by kernel_rfl) rfl rfl) ?_
     refine TL.cons rfl (Step.bin (r := .int .i64 (8 * (b.length : Int))) rfl rfl (lt_ok rfl) rfl rfl (Bin.mul (a := 8) (b := (b.length : Int)) (by first | exact wrap_ok (by first | omega | (simp; omega)) (by first | omega | (simp; omega)) | rfl))) ?_
     refine TL.cons rfl (Step.move (p := (.one (.d (.int .i64 (7 - (i : Int)))))) rfl rfl (lt_ok rfl) rfl) ?_
     refine TL.cons rfl (Step.bin (r := .int .i64 (8 * (7 - (i : Int)))) rfl rfl (lt_ok rfl) rfl rfl (Bin.mul (a := 8) (b := (7 - (i : Int))) (by first | exact wrap_ok (by first | omega | (simp; omega)) (by first | omega | (simp; omega)) | rfl))) ?_
     refine TL.cons rfl (Step.bin (r := .int .i64 (bshr (8 * (b.length : Int)) (8 * (7 - (i : Int))))) rfl rfl (lt_ok rfl) rfl rfl (Bin.shr (k := .i64) (k' := .i64) (a := (8 * (b.length : Int))) (b := (8 * (7 - (i : Int)))) (by first | omega | (simp; omega)) (rfl))) ?_
     refine TL.cons rfl (Step.conv (c := ((bshr (8 * (b.length : Int)) (8 * (7 - (i : Int)))) % 256)) rfl rfl (lt_ok rfl) (by kernel_rfl) (by kernel_rfl) rfl (wrap_byte _)) ?_
     refine TL.cons rfl (Step.lit (e := 5) (z := 1) (by_ := 1) (xs := [.tmp 27]) (pss := [[.d (.int .u8 ((bshr (8 * (b.length : Int)) (8 * (7 - (i : Int)))) % 256))]]) (es := [(.int .u8 ((bshr (8 * (b.length : Int)) (8 * (7 - (i : Int)))) % 256))]) (ss := []) (d := (.ints .u8 [(bshr (8 * (b.length : Int)) (8 * (7 - (i : Int)))) % 256])) rfl rfl (lt_ok rfl) (by kernel_rfl) rfl rfl (.cons rfl .nil) (by simp) (le_ok rfl) (le_ok rfl) rfl (.val rfl .nil) rfl (by simp) (by simp) rfl trivial rfl rfl) ?_
     refine TL.cons rfl (Step.append (e := 5) (z := 1) (by_ := 1) (d := (.ints .u8 (b ++ [128] ++ List.replicate (padK b.length) 0 ++ padB b.length i))) (dy := (.ints .u8 [(bshr (8 * (b.length : Int)) (8 * (7 - (i : Int)))) % 256])) (d' := (.ints .u8 ((b ++ [128] ++ List.replicate (padK b.length) 0 ++ padB b.length i) ++ [(bshr (8 * (b.length : Int)) (8 * (7 - (i : Int)))) % 256]))) (ss := []) rfl rfl (lt_ok rfl) (by kernel_rfl) rfl rfl rfl (lt_ok rfl) rfl (.copy rfl rfl rfl (by simp [D.flat, D.val])) (by simp) rfl (by simp only [D.size, List.length_map]; first | omega | (simp only [List.length_append, List.length_cons, List.length_nil]; omega) | (simp; omega) | (simp only [List.length_append] at *; omega)) (by simp only [D.size, List.length_map]; first | omega | (simp only [List.length_append, List.length_cons, List.length_nil]; omega) | (simp; omega) | (simp only [List.length_append] at *; omega)) (by simp)) ?_
     refine TL.cons rfl (Step.assign (p := (.one (.row 1006 []))) rfl rfl (lt_ok rfl) rfl) ?_
     refine TL.nil ?_
     refine T.region ?_
     refine TL.cons rfl (Step.move (p := (.one (.d (.int .i64 (7 - (i : Int)))))) rfl rfl (lt_ok rfl) rfl) ?_
     refine TL.cons rfl (Step.bin (r := .int .i64 ((7 - (i : Int)) - 1)) rfl rfl (lt_ok rfl) rfl rfl (Bin.sub (a := (7 - (i : Int))) (b := 1) (by first | exact wrap_ok (by first | omega | (simp; omega)) (by first | omega | (simp; omega)) | rfl))) ?_
     refine TL.cons rfl (Step.assign (p := (.one (.d (.int .i64 ((7 - (i : Int)) - 1))))) rfl rfl (lt_ok rfl) rfl) ?_
     refine TL.nil ?_
     refine ⟨i + 1, by omega, by omega, Env.le_mk ⟨rfl, rfl, rfl, ?_, trivial⟩ ⟨?_, rfl, trivial⟩ trivial⟩ <;> (first | rfl | (refine congrArg (fun x => some (_, D.ints .u8 x)) ?_; first | (simp; done) | (rw [List.replicate_succ', List.append_assoc, List.append_assoc]; first | done | rfl) | (simp only [List.append_assoc, List.replicate_succ', padB]; done) | (rw [show i = padK b.length from by unfold padK at *; omega]; simp [padB]; done)) | (refine congrArg (fun n => PV.one (.d (.int .i64 n))) ?_; first | rfl | omega | (simp; done)))
    ·
     replace h2 := of_decide_eq_false h2
     refine T.exit ?_
     refine T.seq ?_
     refine T.region ?_
     refine TL.cons rfl (Step.move (p := (.one (.row 1006 []))) rfl rfl (lt_ok rfl) rfl) ?_
     refine TL.cons rfl (Step.assign (p := (.one (.row 1006 []))) rfl rfl (lt_ok rfl) rfl) ?_
     refine TL.nil ?_
     refine T.ret ?_
     refine ⟨[(false, [.row 1006 []])], (.cons rfl .nil), rfl, [1006], (RetC.own' rfl ?_ rfl .nil)⟩ <;> ((congr 1; unfold shaPad; rw [show i = 8 from by omega]))
theorem ok_impl_isWord (x : Int) : RO Try.prog 104 [.one (.int .i64 x)] [(false, [.rd (.bool (decide (0 ≤ x ∧ x ≤ 4294967295)))])] := by
 refine RO.intro Try.func104 rfl 5 rfl (le_ok rfl) fun w Z => ?_
 refine T.seq ?_
 refine T.region ?_
 refine TL.cons rfl (Step.assign (p := (.one (.d (.bool false)))) rfl rfl (lt_ok rfl) rfl) ?_
 refine TL.nil ?_
 refine T.seq ?_
 refine T.region ?_
 refine TL.cons rfl (Step.move (p := (.one (.d (.int .i64 x)))) rfl rfl (lt_ok rfl) rfl) ?_
 refine TL.cons rfl (Step.call (f := 52) (xs := [.tmp 3, .const (.int .i64 0), .const (.int .i64 4294967295)]) (ps := [(.one (.d (.int .i64 x))), (.one (.d (.int .i64 0))), (.one (.d (.int .i64 4294967295)))]) false (g := .func 52) rfl rfl (lt_ok rfl) rfl (by kernel_rfl) rfl (.cons (.one (.d _)) (.cons (.one (.d _)) (.cons (.one (.d _)) .nil))) (ok_impl_within x 0 4294967295) (.inr rfl) rfl (by simp) rfl) ?_
 refine TL.cons rfl (Step.assign (p := (.one (.d (.bool (decide (0 ≤ x ∧ x ≤ 4294967295)))))) rfl rfl (lt_ok rfl) rfl) ?_
 refine TL.nil ?_
 refine T.ret ?_
 exact ⟨[(false, [.d (.bool (decide (0 ≤ x ∧ x ≤ 4294967295)))])], (.cons rfl .nil), rfl, [], (RetC.rd' rfl .nil)⟩
theorem ok_impl_rounds  : RO Try.prog 105 [] [(false, [.own 3 (.ints .i64 shaK)])] := by
 refine RO.intro Try.func105 rfl 2 rfl (le_ok rfl) fun w Z => ?_
 refine T.seq ?_
 refine T.region ?_
 refine TL.cons rfl (Step.assign (p := (.one (.nil))) rfl rfl (lt_ok rfl) rfl) ?_
 refine TL.nil ?_
 refine T.seq ?_
 refine T.region ?_
 refine TL.cons rfl (Step.lit (e := 3) (z := 1) (by_ := 8) (xs := [.const (.int .i64 1116352408), .const (.int .i64 1899447441), .const (.int .i64 3049323471), .const (.int .i64 3921009573), .const (.int .i64 961987163), .const (.int .i64 1508970993), .const (.int .i64 2453635748), .const (.int .i64 2870763221), .const (.int .i64 3624381080), .const (.int .i64 310598401), .const (.int .i64 607225278), .const (.int .i64 1426881987), .const (.int .i64 1925078388), .const (.int .i64 2162078206), .const (.int .i64 2614888103), .const (.int .i64 3248222580), .const (.int .i64 3835390401), .const (.int .i64 4022224774), .const (.int .i64 264347078), .const (.int .i64 604807628), .const (.int .i64 770255983), .const (.int .i64 1249150122), .const (.int .i64 1555081692), .const (.int .i64 1996064986), .const (.int .i64 2554220882), .const (.int .i64 2821834349), .const (.int .i64 2952996808), .const (.int .i64 3210313671), .const (.int .i64 3336571891), .const (.int .i64 3584528711), .const (.int .i64 113926993), .const (.int .i64 338241895), .const (.int .i64 666307205), .const (.int .i64 773529912), .const (.int .i64 1294757372), .const (.int .i64 1396182291), .const (.int .i64 1695183700), .const (.int .i64 1986661051), .const (.int .i64 2177026350), .const (.int .i64 2456956037), .const (.int .i64 2730485921), .const (.int .i64 2820302411), .const (.int .i64 3259730800), .const (.int .i64 3345764771), .const (.int .i64 3516065817), .const (.int .i64 3600352804), .const (.int .i64 4094571909), .const (.int .i64 275423344), .const (.int .i64 430227734), .const (.int .i64 506948616), .const (.int .i64 659060556), .const (.int .i64 883997877), .const (.int .i64 958139571), .const (.int .i64 1322822218), .const (.int .i64 1537002063), .const (.int .i64 1747873779), .const (.int .i64 1955562222), .const (.int .i64 2024104815), .const (.int .i64 2227730452), .const (.int .i64 2361852424), .const (.int .i64 2428436474), .const (.int .i64 2756734187), .const (.int .i64 3204031479), .const (.int .i64 3329325298)]) (pss := [[.d (.int .i64 1116352408)], [.d (.int .i64 1899447441)], [.d (.int .i64 3049323471)], [.d (.int .i64 3921009573)], [.d (.int .i64 961987163)], [.d (.int .i64 1508970993)], [.d (.int .i64 2453635748)], [.d (.int .i64 2870763221)], [.d (.int .i64 3624381080)], [.d (.int .i64 310598401)], [.d (.int .i64 607225278)], [.d (.int .i64 1426881987)], [.d (.int .i64 1925078388)], [.d (.int .i64 2162078206)], [.d (.int .i64 2614888103)], [.d (.int .i64 3248222580)], [.d (.int .i64 3835390401)], [.d (.int .i64 4022224774)], [.d (.int .i64 264347078)], [.d (.int .i64 604807628)], [.d (.int .i64 770255983)], [.d (.int .i64 1249150122)], [.d (.int .i64 1555081692)], [.d (.int .i64 1996064986)], [.d (.int .i64 2554220882)], [.d (.int .i64 2821834349)], [.d (.int .i64 2952996808)], [.d (.int .i64 3210313671)], [.d (.int .i64 3336571891)], [.d (.int .i64 3584528711)], [.d (.int .i64 113926993)], [.d (.int .i64 338241895)], [.d (.int .i64 666307205)], [.d (.int .i64 773529912)], [.d (.int .i64 1294757372)], [.d (.int .i64 1396182291)], [.d (.int .i64 1695183700)], [.d (.int .i64 1986661051)], [.d (.int .i64 2177026350)], [.d (.int .i64 2456956037)], [.d (.int .i64 2730485921)], [.d (.int .i64 2820302411)], [.d (.int .i64 3259730800)], [.d (.int .i64 3345764771)], [.d (.int .i64 3516065817)], [.d (.int .i64 3600352804)], [.d (.int .i64 4094571909)], [.d (.int .i64 275423344)], [.d (.int .i64 430227734)], [.d (.int .i64 506948616)], [.d (.int .i64 659060556)], [.d (.int .i64 883997877)], [.d (.int .i64 958139571)], [.d (.int .i64 1322822218)], [.d (.int .i64 1537002063)], [.d (.int .i64 1747873779)], [.d (.int .i64 1955562222)], [.d (.int .i64 2024104815)], [.d (.int .i64 2227730452)], [.d (.int .i64 2361852424)], [.d (.int .i64 2428436474)], [.d (.int .i64 2756734187)], [.d (.int .i64 3204031479)], [.d (.int .i64 3329325298)]]) (es := [(.int .i64 1116352408), (.int .i64 1899447441), (.int .i64 3049323471), (.int .i64 3921009573), (.int .i64 961987163), (.int .i64 1508970993), (.int .i64 2453635748), (.int .i64 2870763221), (.int .i64 3624381080), (.int .i64 310598401), (.int .i64 607225278), (.int .i64 1426881987), (.int .i64 1925078388), (.int .i64 2162078206), (.int .i64 2614888103), (.int .i64 3248222580), (.int .i64 3835390401), (.int .i64 4022224774), (.int .i64 264347078), (.int .i64 604807628), (.int .i64 770255983), (.int .i64 1249150122), (.int .i64 1555081692), (.int .i64 1996064986), (.int .i64 2554220882), (.int .i64 2821834349), (.int .i64 2952996808), (.int .i64 3210313671), (.int .i64 3336571891), (.int .i64 3584528711), (.int .i64 113926993), (.int .i64 338241895), (.int .i64 666307205), (.int .i64 773529912), (.int .i64 1294757372), (.int .i64 1396182291), (.int .i64 1695183700), (.int .i64 1986661051), (.int .i64 2177026350), (.int .i64 2456956037), (.int .i64 2730485921), (.int .i64 2820302411), (.int .i64 3259730800), (.int .i64 3345764771), (.int .i64 3516065817), (.int .i64 3600352804), (.int .i64 4094571909), (.int .i64 275423344), (.int .i64 430227734), (.int .i64 506948616), (.int .i64 659060556), (.int .i64 883997877), (.int .i64 958139571), (.int .i64 1322822218), (.int .i64 1537002063), (.int .i64 1747873779), (.int .i64 1955562222), (.int .i64 2024104815), (.int .i64 2227730452), (.int .i64 2361852424), (.int .i64 2428436474), (.int .i64 2756734187), (.int .i64 3204031479), (.int .i64 3329325298)]) (ss := []) (d := (.ints .i64 [1116352408, 1899447441, 3049323471, 3921009573, 961987163, 1508970993, 2453635748, 2870763221, 3624381080, 310598401, 607225278, 1426881987, 1925078388, 2162078206, 2614888103, 3248222580, 3835390401, 4022224774, 264347078, 604807628, 770255983, 1249150122, 1555081692, 1996064986, 2554220882, 2821834349, 2952996808, 3210313671, 3336571891, 3584528711, 113926993, 338241895, 666307205, 773529912, 1294757372, 1396182291, 1695183700, 1986661051, 2177026350, 2456956037, 2730485921, 2820302411, 3259730800, 3345764771, 3516065817, 3600352804, 4094571909, 275423344, 430227734, 506948616, 659060556, 883997877, 958139571, 1322822218, 1537002063, 1747873779, 1955562222, 2024104815, 2227730452, 2361852424, 2428436474, 2756734187, 3204031479, 3329325298])) rfl rfl (lt_ok rfl) (by kernel_rfl) rfl rfl (.cons rfl (.cons rfl (.cons rfl (.cons rfl (.cons rfl (.cons rfl (.cons rfl (.cons rfl (.cons rfl (.cons rfl (.cons rfl (.cons rfl (.cons rfl (.cons rfl (.cons rfl (.cons rfl (.cons rfl (.cons rfl (.cons rfl (.cons rfl (.cons rfl (.cons rfl (.cons rfl (.cons rfl (.cons rfl (.cons rfl (.cons rfl (.cons rfl (.cons rfl (.cons rfl (.cons rfl (.cons rfl (.cons rfl (.cons rfl (.cons rfl (.cons rfl (.cons rfl (.cons rfl (.cons rfl (.cons rfl (.cons rfl (.cons rfl (.cons rfl (.cons rfl (.cons rfl (.cons rfl (.cons rfl (.cons rfl (.cons rfl (.cons rfl (.cons rfl (.cons rfl (.cons rfl (.cons rfl (.cons rfl (.cons rfl (.cons rfl (.cons rfl (.cons rfl (.cons rfl (.cons rfl (.cons rfl (.cons rfl (.cons rfl .nil)))))))))))))))))))))))))))))))))))))))))))))))))))))))))))))))) (by simp) (le_ok rfl) (le_ok rfl) rfl (.val rfl (.val rfl (.val rfl (.val rfl (.val rfl (.val rfl (.val rfl (.val rfl (.val rfl (.val rfl (.val rfl (.val rfl (.val rfl (.val rfl (.val rfl (.val rfl (.val rfl (.val rfl (.val rfl (.val rfl (.val rfl (.val rfl (.val rfl (.val rfl (.val rfl (.val rfl (.val rfl (.val rfl (.val rfl (.val rfl (.val rfl (.val rfl (.val rfl (.val rfl (.val rfl (.val rfl (.val rfl (.val rfl (.val rfl (.val rfl (.val rfl (.val rfl (.val rfl (.val rfl (.val rfl (.val rfl (.val rfl (.val rfl (.val rfl (.val rfl (.val rfl (.val rfl (.val rfl (.val rfl (.val rfl (.val rfl (.val rfl (.val rfl (.val rfl (.val rfl (.val rfl (.val rfl (.val rfl (.val rfl .nil)))))))))))))))))))))))))))))))))))))))))))))))))))))))))))))))) rfl (by simp) (by simp) rfl trivial rfl rfl) ?_
 refine TL.cons rfl (Step.assign (p := (.one (.row 1 []))) rfl rfl (lt_ok rfl) rfl) ?_
 refine TL.nil ?_
 refine T.ret ?_
 refine ⟨[(false, [.row 1 []])], (.cons rfl .nil), rfl, [1], (RetC.own' rfl ?_ rfl .nil)⟩ <;> (rfl)
theorem ok_impl_TurnRight (x : Int) (n : Int) (h0_ : 0 ≤ x ∧ x ≤ 4294967295) (h1_ : 0 ≤ n ∧ n ≤ 31) : RO Try.prog 106 [.one (.int .i64 x), .one (.int .i64 n)] [(false, [.rd (.int .i64 (turnW x n))])] := by
 refine RO.intro Try.func106 rfl 22 rfl (le_ok rfl) fun w Z => ?_
 refine T.seq ?_
 refine T.region ?_
 refine TL.cons rfl (Step.assign (p := (.one (.d (.int .i64 0)))) rfl rfl (lt_ok rfl) rfl) ?_
 refine TL.nil ?_
 refine T.seq ?_
 refine T.seq ?_
 refine T.region ?_
 refine TL.cons rfl (Step.move (p := (.one (.d (.int .i64 x)))) rfl rfl (lt_ok rfl) rfl) ?_
 refine TL.cons rfl (Step.call (f := 104) (xs := [.tmp 5]) (ps := [(.one (.d (.int .i64 x)))]) false (g := .func 104) rfl rfl (lt_ok rfl) rfl (by kernel_rfl) rfl (.cons (.one (.d _)) .nil) (ok_impl_isWord x) (.inr rfl) rfl (by simp) rfl) ?_
 refine TL.cons rfl (Step.not (b := (decide (0 ≤ x ∧ x ≤ 4294967295))) rfl rfl (lt_ok rfl) rfl) ?_
 refine TL.cons rfl (Step.move (p := (.one (.d (.bool (!(decide (0 ≤ x ∧ x ≤ 4294967295))))))) rfl rfl (lt_ok rfl) rfl) ?_
 rcases Bool.eq_false_or_eq_true (!(decide (0 ≤ x ∧ x ≤ 4294967295))) with hb1 | hb1
 ·
  refine TL.known 8 hb1 rfl ?_
  have hb1' := hb1
  replace hb1' : (decide (0 ≤ x ∧ x ≤ 4294967295)) = false := by simpa only [Bool.not_eq_true', Bool.not_eq_false'] using hb1'
  replace hb1' := of_decide_eq_false hb1'
  refine TL.goff 8 rfl rfl (lt_ok rfl) rfl rfl rfl (lt_ok rfl) ?_
  refine TL.goff 8 rfl rfl (lt_ok rfl) rfl rfl rfl (lt_ok rfl) ?_
  refine TL.goff 8 rfl rfl (lt_ok rfl) rfl rfl rfl (lt_ok rfl) ?_
  refine TL.cons rfl (Step.pick (b := true) (p := (.one (.d (.bool true)))) rfl rfl (lt_ok rfl) rfl rfl) ?_
  refine TL.nil ?_
  refine T.cond (b := true) rfl (fun h2_ => ?_) (fun h2_ => absurd h2_ (by simp))
  refine T.seq ?_
  refine T.region ?_
  refine TL.cons rfl (Step.assign (p := (.one (.d (.int .i64 0)))) rfl rfl (lt_ok rfl) rfl) ?_
  refine TL.nil ?_
  refine T.ret ?_
  refine ⟨[(false, [.d (.int .i64 0)])], (.cons rfl .nil), rfl, [], (RetC.rd' ?_ .nil)⟩ <;> (first | rfl | (exfalso; omega))
 ·
  refine TL.known 8 hb1 rfl ?_
  have hb1' := hb1
  replace hb1' : (decide (0 ≤ x ∧ x ≤ 4294967295)) = true := by simpa only [Bool.not_eq_true', Bool.not_eq_false'] using hb1'
  replace hb1' := of_decide_eq_true hb1'
  refine TL.gyes 8 rfl rfl (lt_ok rfl) rfl (Step.move (p := (.one (.d (.int .i64 n)))) rfl rfl (lt_ok rfl) rfl) ?_
  refine TL.gyes 8 rfl rfl (lt_ok rfl) rfl (Step.call (f := 52) (xs := [.tmp 9, .const (.int .i64 0), .const (.int .i64 31)]) (ps := [(.one (.d (.int .i64 n))), (.one (.d (.int .i64 0))), (.one (.d (.int .i64 31)))]) false (g := .func 52) rfl rfl (lt_ok rfl) rfl (by kernel_rfl) rfl (.cons (.one (.d _)) (.cons (.one (.d _)) (.cons (.one (.d _)) .nil))) (ok_impl_within n 0 31) (.inr rfl) rfl (by simp) rfl) ?_
  refine TL.gyes 8 rfl rfl (lt_ok rfl) rfl (Step.not (b := (decide (0 ≤ n ∧ n ≤ 31))) rfl rfl (lt_ok rfl) rfl) ?_
  refine TL.cons rfl (Step.pick (b := false) (p := (.one (.d (.bool (!(decide (0 ≤ n ∧ n ≤ 31))))))) rfl rfl (lt_ok rfl) rfl rfl) ?_
  refine TL.nil ?_
  refine T.cond (b := !(decide (0 ≤ n ∧ n ≤ 31))) rfl (fun h3 => ?_) (fun h3 => ?_)
  ·
   replace h3 : (decide (0 ≤ n ∧ n ≤ 31)) = false := by simpa only [Bool.not_eq_true', Bool.not_eq_false'] using h3
   replace h3 := of_decide_eq_false h3
   refine T.seq ?_
   refine T.region ?_
   refine TL.cons rfl (Step.assign (p := (.one (.d (.int .i64 0)))) rfl rfl (lt_ok rfl) rfl) ?_
   refine TL.nil ?_
   refine T.ret ?_
   refine ⟨[(false, [.d (.int .i64 0)])], (.cons rfl .nil), rfl, [], (RetC.rd' ?_ .nil)⟩ <;> (first | rfl | (exfalso; omega))
  ·
   replace h3 : (decide (0 ≤ n ∧ n ≤ 31)) = true := by simpa only [Bool.not_eq_true', Bool.not_eq_false'] using h3
   replace h3 := of_decide_eq_true h3
   refine T.skip ?_
   refine T.seq ?_
   refine T.draw [⟨13, (.one (.d (.int .i64 x))), []⟩, ⟨14, (.one (.d (.int .i64 n))), []⟩, ⟨15, (.one (.d (.int .i64 (bshr x n)))), []⟩, ⟨16, (.one (.d (.int .i64 x))), []⟩, ⟨17, (.one (.d (.int .i64 n))), []⟩, ⟨18, (.one (.d (.int .i64 (32 - n)))), []⟩, ⟨19, (.one (.d (.int .i64 (bshl x (32 - n))))), []⟩, ⟨20, (.one (.d (.int .i64 (bor (bshr x n) (bshl x (32 - n)))))), []⟩, ⟨21, (.one (.d (.int .i64 (band (bor (bshr x n) (bshl x (32 - n))) 4294967295)))), []⟩, ⟨4, (.one (.d (.int .i64 (band (bor (bshr x n) (bshl x (32 - n))) 4294967295)))), []⟩] (by kernel_rfl) (by kernel_rfl) ?_ ?_
   ·
    refine .cons (fun E hA_ => by have g0 := hA_.get 0 (by decide); exact OpStep.plain rfl (Step.move (p := (.one (.d (.int .i64 x)))) (t := 13) rfl rfl (by exact lt_ok rfl) (show Env.ev E (.tmp 0) = _ from g0.trans rfl))) ?_
    refine .cons (fun E hA_ => by have g1 := hA_.get 1 (by decide); exact OpStep.plain rfl (Step.move (p := (.one (.d (.int .i64 n)))) (t := 14) rfl rfl (by exact lt_ok rfl) (show Env.ev E (.tmp 1) = _ from g1.trans rfl))) ?_
    refine .cons (fun E hA_ => by have g13 := hA_.get 13 (by decide); have g14 := hA_.get 14 (by decide); exact OpStep.plain rfl (Step.bin (r := .int .i64 (bshr x n)) (t := 15) rfl rfl (by exact lt_ok rfl) (show Env.ev E (.tmp 13) = _ from g13.trans rfl) (show Env.ev E (.tmp 14) = _ from g14.trans rfl) (Bin.shr (k := .i64) (k' := .i64) (a := x) (b := n) (by first | omega | (simp; omega)) (rfl)))) ?_
    refine .cons (fun E hA_ => by have g0 := hA_.get 0 (by decide); exact OpStep.plain rfl (Step.move (p := (.one (.d (.int .i64 x)))) (t := 16) rfl rfl (by exact lt_ok rfl) (show Env.ev E (.tmp 0) = _ from g0.trans rfl))) ?_
    refine .cons (fun E hA_ => by have g1 := hA_.get 1 (by decide); exact OpStep.plain rfl (Step.move (p := (.one (.d (.int .i64 n)))) (t := 17) rfl rfl (by exact lt_ok rfl) (show Env.ev E (.tmp 1) = _ from g1.trans rfl))) ?_
    refine .cons (fun E hA_ => by have g17 := hA_.get 17 (by decide); exact OpStep.plain rfl (Step.bin (r := .int .i64 (32 - n)) (t := 18) rfl rfl (by exact lt_ok rfl) rfl (show Env.ev E (.tmp 17) = _ from g17.trans rfl) (Bin.sub (a := 32) (b := n) (by first | exact wrap_ok (by first | omega | (simp; omega)) (by first | omega | (simp; omega)) | rfl)))) ?_
    refine .cons (fun E hA_ => by have g16 := hA_.get 16 (by decide); have g18 := hA_.get 18 (by decide); exact OpStep.plain rfl (Step.bin (r := .int .i64 (bshl x (32 - n))) (t := 19) rfl rfl (by exact lt_ok rfl) (show Env.ev E (.tmp 16) = _ from g16.trans rfl) (show Env.ev E (.tmp 18) = _ from g18.trans rfl) (Bin.shl (k := .i64) (k' := .i64) (a := x) (b := (32 - n)) (by first | omega | (simp; omega)) (rfl)))) ?_
    refine .cons (fun E hA_ => by have g15 := hA_.get 15 (by decide); have g19 := hA_.get 19 (by decide); exact OpStep.plain rfl (Step.bin (r := .int .i64 (bor (bshr x n) (bshl x (32 - n)))) (t := 20) rfl rfl (by exact lt_ok rfl) (show Env.ev E (.tmp 15) = _ from g15.trans rfl) (show Env.ev E (.tmp 19) = _ from g19.trans rfl) (Bin.or (k := .i64) (a := (bshr x n)) (b := (bshl x (32 - n))) (rfl)))) ?_
    refine .cons (fun E hA_ => by have g20 := hA_.get 20 (by decide); exact OpStep.plain rfl (Step.bin (r := .int .i64 (band (bor (bshr x n) (bshl x (32 - n))) 4294967295)) (t := 21) rfl rfl (by exact lt_ok rfl) (show Env.ev E (.tmp 20) = _ from g20.trans rfl) rfl (Bin.and (k := .i64) (a := (bor (bshr x n) (bshl x (32 - n)))) (b := 4294967295) (rfl)))) ?_
    refine .cons (fun E hA_ => by have g21 := hA_.get 21 (by decide); exact OpStep.plain rfl (Step.assign (p := (.one (.d (.int .i64 (band (bor (bshr x n) (bshl x (32 - n))) 4294967295))))) (t := 4) rfl rfl (by exact lt_ok rfl) (show Env.ev E (.tmp 21) = _ from g21.trans rfl))) ?_
    exact .nil _ _
   refine TL.nil ?_
   refine T.ret ?_
   refine ⟨[(false, [.d (.int .i64 (band (bor (bshr x n) (bshl x (32 - n))) 4294967295))])], (.cons rfl .nil), rfl, [], (RetC.rd' ?_ .nil)⟩ <;> (first | rfl | (exfalso; omega))
theorem ok_impl_ShaBlock (h : List Int) (b : List Int) (h0_ : U8s b) : RO Try.prog 87 [.one (.ints .i64 h), .one (.ints .u8 b)] [(false, [.own 3 (.ints .i64 (shaBlock h b))])] := by
 refine RO.intro Try.func87 rfl 235 rfl (le_ok rfl) fun w Z => ?_
 refine T.bnd 0 0 rfl rfl fun hb_0_0 => ?_
 simp only [D.size, List.length_map] at hb_0_0
 refine T.bnd 1 0 rfl rfl fun hb_1_0 => ?_
 simp only [D.size, List.length_map] at hb_1_0
 refine T.seq ?_
 refine T.region ?_
 refine TL.cons rfl (Step.assign (p := (.one (.nil))) rfl rfl (lt_ok rfl) rfl) ?_
 refine TL.nil ?_
 refine T.seq ?_
 refine T.seq ?_
 refine T.region ?_
 refine TL.cons rfl (Step.move (p := (.one (.d (.ints .i64 h)))) rfl rfl (lt_ok rfl) rfl) ?_
 refine TL.cons rfl (Step.len (e := 3) (z := 1) (d := (.ints .i64 h)) rfl rfl (lt_ok rfl) (by kernel_rfl) rfl rfl) ?_
 refine TL.cons rfl (Step.bin rfl rfl (lt_ok rfl) rfl rfl (Bin.neq (k := .i64) (a := (h.length : Int)) (b := 8))) ?_
 refine TL.cons rfl (Step.move (p := (.one (.d (.bool (decide ((h.length : Int) ≠ 8)))))) rfl rfl (lt_ok rfl) rfl) ?_
 rcases Bool.eq_false_or_eq_true (decide ((h.length : Int) ≠ 8)) with hb1 | hb1
 ·
  refine TL.known 28 hb1 rfl ?_
  have hb1' := hb1
  replace hb1' := of_decide_eq_true hb1'
  refine TL.goff 28 rfl rfl (lt_ok rfl) rfl rfl rfl (lt_ok rfl) ?_
  refine TL.goff 28 rfl rfl (lt_ok rfl) rfl rfl rfl (lt_ok rfl) ?_
  refine TL.goff 28 rfl rfl (lt_ok rfl) rfl rfl rfl (lt_ok rfl) ?_
  refine TL.cons rfl (Step.pick (b := true) (p := (.one (.d (.bool true)))) rfl rfl (lt_ok rfl) rfl rfl) ?_
  refine TL.nil ?_
  refine T.cond (b := true) rfl (fun h2_ => ?_) (fun h2_ => absurd h2_ (by simp))
  refine T.seq ?_
  refine T.region ?_
  refine TL.cons rfl (Step.assign (p := (.one (.nil))) rfl rfl (lt_ok rfl) rfl) ?_
  refine TL.nil ?_
  refine T.ret ?_
  refine ⟨[(false, [.nil])], (.cons rfl .nil), rfl, [], (RetC.nilown' rfl ?_ (by first | exact trivial | exact D.wf_nil _) .nil)⟩ <;> (first | (rw [shaBlock_yes (h := h) (b := b) ⟨by omega, by omega, hwo_⟩, show i = 8 from by omega]; done) | (simp only [D.size]; first | (rw [shaBlock_no (fun h_ => by have := h_.1; have := h_.2.1; omega)]; rfl) | (rw [shaBlock_no (fun h_ => by have := h_.2.2; rw [words_no (i := i) (by omega) (by omega)] at this; cases this)]; rfl)))
 ·
  refine TL.known 28 hb1 rfl ?_
  have hb1' := hb1
  replace hb1' := of_decide_eq_false hb1'
  refine TL.gyes 28 rfl rfl (lt_ok rfl) rfl (Step.move (p := (.one (.d (.ints .u8 b)))) rfl rfl (lt_ok rfl) rfl) ?_
  refine TL.gyes 28 rfl rfl (lt_ok rfl) rfl (Step.len (e := 5) (z := 1) (d := (.ints .u8 b)) rfl rfl (lt_ok rfl) (by kernel_rfl) rfl rfl) ?_
  refine TL.gyes 28 rfl rfl (lt_ok rfl) rfl (Step.bin rfl rfl (lt_ok rfl) rfl rfl (Bin.neq (k := .i64) (a := (b.length : Int)) (b := 64))) ?_
  refine TL.cons rfl (Step.pick (b := false) (p := (.one (.d (.bool (decide ((b.length : Int) ≠ 64)))))) rfl rfl (lt_ok rfl) rfl rfl) ?_
  refine TL.nil ?_
  refine T.cond (b := decide ((b.length : Int) ≠ 64)) rfl (fun h3 => ?_) (fun h3 => ?_)
  ·
   replace h3 := of_decide_eq_true h3
   refine T.seq ?_
   refine T.region ?_
   refine TL.cons rfl (Step.assign (p := (.one (.nil))) rfl rfl (lt_ok rfl) rfl) ?_
   refine TL.nil ?_
   refine T.ret ?_
   refine ⟨[(false, [.nil])], (.cons rfl .nil), rfl, [], (RetC.nilown' rfl ?_ (by first | exact trivial | exact D.wf_nil _) .nil)⟩ <;> (first | (rw [shaBlock_yes (h := h) (b := b) ⟨by omega, by omega, hwo_⟩, show i = 8 from by omega]; done) | (simp only [D.size]; first | (rw [shaBlock_no (fun h_ => by have := h_.1; have := h_.2.1; omega)]; rfl) | (rw [shaBlock_no (fun h_ => by have := h_.2.2; rw [words_no (i := i) (by omega) (by omega)] at this; cases this)]; rfl)))
  ·
   replace h3 := of_decide_eq_false h3
   refine T.skip ?_
   refine T.seq ?_
   refine T.seq ?_
   refine T.region ?_
   refine TL.cons rfl (Step.move (p := (.one (.d (.ints .i64 h)))) rfl rfl (lt_ok rfl) rfl) ?_
   refine TL.cons rfl (Step.len (e := 3) (z := 1) (d := (.ints .i64 h)) rfl rfl (lt_ok rfl) (by kernel_rfl) rfl rfl) ?_
   refine TL.cons rfl (Step.move (p := (.one (.d (.int .i64 0)))) rfl rfl (lt_ok rfl) rfl) ?_
   refine TL.nil ?_
   refine T.block ?_
   refine T.loop (ι := Nat) (fun xx_ => { tm := [(0, (.one (.d (.ints .i64 h)))), (1, (.one (.d (.ints .u8 b)))), (33, (.one (.d (.ints .i64 h)))), (34, (.one (.d (.int .i64 (h.length : Int))))), (35, (.one (.d (.int .i64 (xx_ : Int)))))], rows := [], boxes := [] }) (fun xx_ => xx_ ≤ h.length ∧ wordsOk (h.take xx_) = true) (fun xx_ => h.length - xx_) 0 ?_ ?_ ?_
   · refine Env.le_mk ⟨rfl, rfl, rfl, rfl, ?_, trivial⟩ trivial trivial <;> (first | rfl | (simp; done) | (congr 3; omega))
   · (refine ⟨Nat.zero_le _, by rw [List.take_zero]; rfl⟩)
   ·
    intro i hx
    try dsimp only at hx ⊢
    obtain ⟨hx1, hx2⟩ := hx
    refine T.seq ?_
    refine T.region ?_
    refine TL.cons rfl (Step.bin rfl rfl (lt_ok rfl) rfl rfl (Bin.lss (k := .i64) (a := (i : Int)) (b := (h.length : Int)))) ?_
    refine TL.nil ?_
    refine T.seq ?_
    refine T.cond (b := decide ((i : Int) < (h.length : Int))) rfl (fun h4 => ?_) (fun h4 => ?_)
    ·
     replace h4 := of_decide_eq_true h4
     refine T.skip ?_
     refine T.seq ?_
     refine T.block ?_
     refine T.seq ?_
     refine T.region ?_
     refine TL.cons rfl (Step.index (e := 3) (z := 1) (i := (i : Int)) rfl rfl (lt_ok rfl) (by kernel_rfl) rfl rfl rfl (lt_ok rfl) rfl (by first | omega | (simp; omega) | (simp [w16_len, wN_len]; omega)) (by simp only [D.size]; first | omega | (simp; omega) | (simp [w16_len, wN_len]; omega))) ?_
     refine TL.cons rfl (Step.load (e := (.int .i64 (h.getD i 0))) rfl rfl (lt_ok rfl) (by kernel_rfl) rfl rfl) ?_
     refine TL.cons rfl (Step.assign (p := (.one (.d (.int .i64 (h.getD i 0))))) rfl rfl (lt_ok rfl) rfl) ?_
     refine TL.nil ?_
     refine T.seq ?_
     refine T.region ?_
     refine TL.cons rfl (Step.move (p := (.one (.d (.int .i64 (h.getD i 0))))) rfl rfl (lt_ok rfl) rfl) ?_
     refine TL.cons rfl (Step.call (f := 104) (xs := [.tmp 39]) (ps := [(.one (.d (.int .i64 (h.getD i 0))))]) false (g := .func 104) rfl rfl (lt_ok rfl) rfl (by kernel_rfl) rfl (.cons (.one (.d _)) .nil) (ok_impl_isWord (h.getD i 0)) (.inr rfl) rfl (by simp) rfl) ?_
     refine TL.cons rfl (Step.not (b := (decide (0 ≤ (h.getD i 0) ∧ (h.getD i 0) ≤ 4294967295))) rfl rfl (lt_ok rfl) rfl) ?_
     refine TL.nil ?_
     refine T.cond (b := !(decide (0 ≤ (h.getD i 0) ∧ (h.getD i 0) ≤ 4294967295))) rfl (fun h5 => ?_) (fun h5 => ?_)
     ·
      replace h5 : (decide (0 ≤ (h.getD i 0) ∧ (h.getD i 0) ≤ 4294967295)) = false := by simpa only [Bool.not_eq_true', Bool.not_eq_false'] using h5
      replace h5 := of_decide_eq_false h5
      refine T.seq ?_
      refine T.region ?_
      refine TL.cons rfl (Step.assign (p := (.one (.nil))) rfl rfl (lt_ok rfl) rfl) ?_
      refine TL.nil ?_
      refine T.ret ?_
      refine ⟨[(false, [.nil])], (.cons rfl .nil), rfl, [], (RetC.nilown' rfl ?_ (by first | exact trivial | exact D.wf_nil _) .nil)⟩ <;> (first | (rw [shaBlock_yes (h := h) (b := b) ⟨by omega, by omega, hwo_⟩, show i = 8 from by omega]; done) | (simp only [D.size]; first | (rw [shaBlock_no (fun h_ => by have := h_.1; have := h_.2.1; omega)]; rfl) | (rw [shaBlock_no (fun h_ => by have := h_.2.2; rw [words_no (i := i) (by omega) (by omega)] at this; cases this)]; rfl)))
     ·
      replace h5 : (decide (0 ≤ (h.getD i 0) ∧ (h.getD i 0) ≤ 4294967295)) = true := by simpa only [Bool.not_eq_true', Bool.not_eq_false'] using h5
      replace h5 := of_decide_eq_true h5
      refine T.skip ?_
      refine T.region ?_
      refine TL.cons rfl (Step.bin (r := .int .i64 ((i : Int) + 1)) rfl rfl (lt_ok rfl) rfl rfl (Bin.add (a := (i : Int)) (b := 1) (by first | exact wrap_ok (by first | omega | (simp; omega) | (simp [w16_len, wN_len]; omega)) (by first | omega | (simp; omega) | (simp [w16_len, wN_len]; omega)) | rfl))) ?_
      refine TL.cons rfl (Step.move (p := (.one (.d (.int .i64 ((i : Int) + 1))))) rfl rfl (lt_ok rfl) rfl) ?_
      refine TL.nil ?_
      refine ⟨i + 1, by (refine ⟨by omega, words_step (by omega) hx2 (by omega)⟩), by first | omega | (dsimp only; omega), Env.le_mk ⟨rfl, rfl, rfl, rfl, ?_, trivial⟩ trivial trivial⟩ <;> (first | rfl | (simp; done) | (congr 3; omega))
    ·
     replace h4 := of_decide_eq_false h4
     refine T.exit ?_
     refine T.seq ?_
     refine T.region ?_
     refine TL.cons rfl (Step.buildArr (zs := List.replicate 64 (.int .i64 0)) (size := 1) (pss := []) (ps' := (List.replicate 64 (.d (.int .i64 0)))) rfl rfl (lt_ok rfl) (by kernel_rfl) .nil rfl (by kernel_rfl) (by kernel_rfl)) ?_
     refine TL.cons rfl (Step.call (f := 105) (xs := []) (ps := []) false (g := .func 105) rfl rfl (lt_ok rfl) rfl (by kernel_rfl) rfl .nil (ok_impl_rounds ) (.inr rfl) rfl (by simp) rfl) ?_
     refine TL.cons rfl (Step.buildArr (zs := List.replicate 8 (.int .i64 0)) (size := 1) (pss := []) (ps' := [.d (.int .i64 0), .d (.int .i64 0), .d (.int .i64 0), .d (.int .i64 0), .d (.int .i64 0), .d (.int .i64 0), .d (.int .i64 0), .d (.int .i64 0)]) rfl rfl (lt_ok rfl) (by kernel_rfl) .nil rfl (by kernel_rfl) (by kernel_rfl)) ?_
     refine TL.cons rfl (Step.allocArr (zs := List.replicate 64 (.int .i64 0)) (zd := List.replicate 64 (.int .i64 0)) (d := (.ints .i64 (List.replicate 64 0))) rfl rfl (lt_ok rfl) (by kernel_rfl) (zeroB_ok _ _ (by kernel_rfl)) (by kernel_rfl) rfl trivial (by decide) (by decide) (by decide) rfl (by simp)) ?_
     refine TL.cons rfl (Step.allocArr (zs := List.replicate 8 (.int .i64 0)) (zd := List.replicate 8 (.int .i64 0)) (d := (.ints .i64 (List.replicate 8 0))) rfl rfl (lt_ok rfl) (by kernel_rfl) (zeroB_ok _ _ (by kernel_rfl)) (by kernel_rfl) rfl trivial (by decide) (by decide) (by decide) rfl (by simp)) ?_
     refine TL.cons rfl (Step.store_row (n := 64) (p := (.agg (List.replicate 64 (.d (.int .i64 0))))) (ps := (List.replicate 64 (.d (.int .i64 0)))) (es := (List.replicate 64 ((.int .i64 0)))) (ss := []) (d1 := (.ints .i64 (List.replicate 64 (0)))) (d' := (.ints .i64 (List.replicate 64 (0)))) rfl rfl (by kernel_rfl) rfl rfl rfl rfl rfl rfl (.val rfl (.val rfl (.val rfl (.val rfl (.val rfl (.val rfl (.val rfl (.val rfl (.val rfl (.val rfl (.val rfl (.val rfl (.val rfl (.val rfl (.val rfl (.val rfl (.val rfl (.val rfl (.val rfl (.val rfl (.val rfl (.val rfl (.val rfl (.val rfl (.val rfl (.val rfl (.val rfl (.val rfl (.val rfl (.val rfl (.val rfl (.val rfl (.val rfl (.val rfl (.val rfl (.val rfl (.val rfl (.val rfl (.val rfl (.val rfl (.val rfl (.val rfl (.val rfl (.val rfl (.val rfl (.val rfl (.val rfl (.val rfl (.val rfl (.val rfl (.val rfl (.val rfl (.val rfl (.val rfl (.val rfl (.val rfl (.val rfl (.val rfl (.val rfl (.val rfl (.val rfl (.val rfl (.val rfl (.val rfl .nil)))))))))))))))))))))))))))))))))))))))))))))))))))))))))))))))) (by simp) (by have h_ := Putd.all (k := .i64) (xs := List.replicate 64 0) (ys := (List.replicate 64 (0))) (by first | exact hl_ | rfl); exact h_) rfl) ?_
     refine TL.cons rfl (Step.assign (p := (.one (.row 1044 []))) rfl rfl (lt_ok rfl) rfl) ?_
     refine TL.cons rfl (Step.store_row (n := 8) (p := (.agg [.d (.int .i64 0), .d (.int .i64 0), .d (.int .i64 0), .d (.int .i64 0), .d (.int .i64 0), .d (.int .i64 0), .d (.int .i64 0), .d (.int .i64 0)])) (ps := [.d (.int .i64 0), .d (.int .i64 0), .d (.int .i64 0), .d (.int .i64 0), .d (.int .i64 0), .d (.int .i64 0), .d (.int .i64 0), .d (.int .i64 0)]) (es := [(.int .i64 0), (.int .i64 0), (.int .i64 0), (.int .i64 0), (.int .i64 0), (.int .i64 0), (.int .i64 0), (.int .i64 0)]) (ss := []) (d1 := (.ints .i64 [0, 0, 0, 0, 0, 0, 0, 0])) (d' := (.ints .i64 [0, 0, 0, 0, 0, 0, 0, 0])) rfl rfl (by kernel_rfl) rfl rfl rfl rfl rfl rfl (.val rfl (.val rfl (.val rfl (.val rfl (.val rfl (.val rfl (.val rfl (.val rfl .nil)))))))) (by simp) (by have h_ := Putd.all (k := .i64) (xs := List.replicate 8 0) (ys := [0, 0, 0, 0, 0, 0, 0, 0]) (by first | exact hvl_ | exact hvl_.symm | rfl | (simp; done)); exact h_) rfl) ?_
     refine TL.nil ?_
     refine T.weaken (E' := { tm := [(0, (.one (.d (.ints .i64 h)))), (1, (.one (.d (.ints .u8 b)))), (7, (.one (.rptr 7 [] 0 0))), (9, (.one (.rptr 9 [] 0 0))), (8, (.one (.row 1044 [])))], rows := [(1044, (3, (.ints .i64 shaK))), (7, (107, (.ints .i64 (List.replicate 64 (0))))), (9, (108, (.ints .i64 [0, 0, 0, 0, 0, 0, 0, 0])))], boxes := [] }) (Env.le_mk ⟨by kernel_rfl, by kernel_rfl, by kernel_rfl, by kernel_rfl, by kernel_rfl, trivial⟩ ⟨by kernel_rfl, by kernel_rfl, by kernel_rfl, trivial⟩ trivial) ?_
     refine T.seq ?_
     refine T.seq ?_
     refine T.region ?_
     refine TL.cons rfl (Step.move (p := (.one (.d (.int .i64 0)))) rfl rfl (lt_ok rfl) rfl) ?_
     refine TL.nil ?_
     refine T.block ?_
     refine T.loop (ι := Nat) (fun xx_ => { tm := [(0, (.one (.d (.ints .i64 h)))), (1, (.one (.d (.ints .u8 b)))), (7, (.one (.rptr 7 [] 0 0))), (9, (.one (.rptr 9 [] 0 0))), (8, (.one (.row 1044 []))), (46, (.one (.d (.int .i64 (xx_ : Int)))))], rows := [(1044, (3, (.ints .i64 shaK))), (7, (107, (.ints .i64 (aI b xx_)))), (9, (108, (.ints .i64 [0, 0, 0, 0, 0, 0, 0, 0])))], boxes := [] }) (fun xx_ => xx_ ≤ 16) (fun xx_ => 16 - xx_) 0 ?_ ?_ ?_
     · refine Env.le_mk ⟨rfl, rfl, rfl, rfl, rfl, ?_, trivial⟩ ⟨rfl, ?_, rfl, trivial⟩ trivial <;> (first | exact congrArg (fun x => some (_, D.ints .i64 x)) (aI_zero b) | exact congrArg (fun x => some (_, D.ints .i64 x)) (aI_set b (by omega)) | rfl | (refine congrArg (fun x => some (_, D.ints .i64 x)) ?_; first | rfl | fail) | (refine congrArg (fun n => PV.one (.d (.int .i64 n))) ?_; first | rfl | omega | (simp; done)))
     · exact Nat.zero_le _
     ·
      intro i hx
      try dsimp only at hx ⊢
      have hwo_ : wordsOk h = true := by rw [List.take_of_length_le (by omega)] at hx2; exact hx2
      have hl_ := aI_len b hx
      have hu0_ := getD_u8 h0_ (4 * (i : Int)).toNat
      have hu1_ := getD_u8 h0_ (4 * (i : Int) + 1).toNat
      have hu2_ := getD_u8 h0_ (4 * (i : Int) + 2).toNat
      have hu3_ := getD_u8 h0_ (4 * (i : Int) + 3).toNat
      refine T.seq ?_
      refine T.region ?_
      refine TL.cons rfl (Step.bin rfl rfl (lt_ok rfl) rfl rfl (Bin.lss (k := .i64) (a := (i : Int)) (b := 16))) ?_
      refine TL.nil ?_
      refine T.seq ?_
      refine T.cond (b := decide ((i : Int) < 16)) rfl (fun h6 => ?_) (fun h6 => ?_)
      ·
       replace h6 := of_decide_eq_true h6
       refine T.skip ?_
       refine T.seq ?_
       refine T.block ?_
       refine T.seq ?_
       refine T.region ?_
       refine TL.cons rfl (Step.move (p := (.one (.d (.int .i64 (i : Int))))) rfl rfl (lt_ok rfl) rfl) ?_
       refine TL.cons rfl (Step.assign (p := (.one (.d (.int .i64 (i : Int))))) rfl rfl (lt_ok rfl) rfl) ?_
       refine TL.nil ?_
       refine T.draw [⟨49, (.one (.d (.int .i64 (i : Int)))), []⟩, ⟨50, (.one (.d (.ints .u8 b))), []⟩, ⟨51, (.one (.d (.int .i64 (i : Int)))), []⟩, ⟨52, (.one (.d (.int .i64 (4 * (i : Int))))), []⟩, ⟨53, (.one (.eptr (.ints .u8 b) (4 * (i : Int)).toNat 0)), []⟩, ⟨54, (.one (.d (.int .u8 (b.getD (4 * (i : Int)).toNat 0)))), []⟩, ⟨55, (.one (.d (.int .i64 (b.getD (4 * (i : Int)).toNat 0)))), []⟩, ⟨56, (.one (.d (.int .i64 (bshl (b.getD (4 * (i : Int)).toNat 0) 24)))), []⟩, ⟨57, (.one (.d (.ints .u8 b))), []⟩, ⟨58, (.one (.d (.int .i64 (i : Int)))), []⟩, ⟨59, (.one (.d (.int .i64 (4 * (i : Int))))), []⟩, ⟨60, (.one (.d (.int .i64 ((4 * (i : Int)) + 1)))), []⟩, ⟨61, (.one (.eptr (.ints .u8 b) ((4 * (i : Int)) + 1).toNat 0)), []⟩, ⟨62, (.one (.d (.int .u8 (b.getD ((4 * (i : Int)) + 1).toNat 0)))), []⟩, ⟨63, (.one (.d (.int .i64 (b.getD ((4 * (i : Int)) + 1).toNat 0)))), []⟩, ⟨64, (.one (.d (.int .i64 (bshl (b.getD ((4 * (i : Int)) + 1).toNat 0) 16)))), []⟩, ⟨65, (.one (.d (.int .i64 (bor (bshl (b.getD (4 * (i : Int)).toNat 0) 24) (bshl (b.getD ((4 * (i : Int)) + 1).toNat 0) 16))))), []⟩, ⟨66, (.one (.d (.ints .u8 b))), []⟩, ⟨67, (.one (.d (.int .i64 (i : Int)))), []⟩, ⟨68, (.one (.d (.int .i64 (4 * (i : Int))))), []⟩, ⟨69, (.one (.d (.int .i64 ((4 * (i : Int)) + 2)))), []⟩, ⟨70, (.one (.eptr (.ints .u8 b) ((4 * (i : Int)) + 2).toNat 0)), []⟩, ⟨71, (.one (.d (.int .u8 (b.getD ((4 * (i : Int)) + 2).toNat 0)))), []⟩, ⟨72, (.one (.d (.int .i64 (b.getD ((4 * (i : Int)) + 2).toNat 0)))), []⟩, ⟨73, (.one (.d (.int .i64 (bshl (b.getD ((4 * (i : Int)) + 2).toNat 0) 8)))), []⟩, ⟨74, (.one (.d (.int .i64 (bor (bor (bshl (b.getD (4 * (i : Int)).toNat 0) 24) (bshl (b.getD ((4 * (i : Int)) + 1).toNat 0) 16)) (bshl (b.getD ((4 * (i : Int)) + 2).toNat 0) 8))))), []⟩, ⟨75, (.one (.d (.ints .u8 b))), []⟩, ⟨76, (.one (.d (.int .i64 (i : Int)))), []⟩, ⟨77, (.one (.d (.int .i64 (4 * (i : Int))))), []⟩, ⟨78, (.one (.d (.int .i64 ((4 * (i : Int)) + 3)))), []⟩, ⟨79, (.one (.eptr (.ints .u8 b) ((4 * (i : Int)) + 3).toNat 0)), []⟩, ⟨80, (.one (.d (.int .u8 (b.getD ((4 * (i : Int)) + 3).toNat 0)))), []⟩, ⟨81, (.one (.d (.int .i64 (b.getD ((4 * (i : Int)) + 3).toNat 0)))), []⟩, ⟨82, (.one (.d (.int .i64 (bor (bor (bor (bshl (b.getD (4 * (i : Int)).toNat 0) 24) (bshl (b.getD ((4 * (i : Int)) + 1).toNat 0) 16)) (bshl (b.getD ((4 * (i : Int)) + 2).toNat 0) 8)) (b.getD ((4 * (i : Int)) + 3).toNat 0))))), []⟩, ⟨83, (.one (.rptr 7 [] i 0)), []⟩] (by kernel_rfl) (by kernel_rfl) ?_ ?_
       ·
        refine .cons (fun E hA_ => by have g10 := hA_.get 10 (by decide); exact OpStep.plain rfl (Step.move (p := (.one (.d (.int .i64 (i : Int))))) (t := 49) rfl rfl (by exact lt_ok rfl) (show Env.ev E (.tmp 10) = _ from g10.trans rfl))) ?_
        refine .cons (fun E hA_ => by have g1 := hA_.get 1 (by decide); exact OpStep.plain rfl (Step.move (p := (.one (.d (.ints .u8 b)))) (t := 50) rfl rfl (by exact lt_ok rfl) (show Env.ev E (.tmp 1) = _ from g1.trans rfl))) ?_
        refine .cons (fun E hA_ => by have g10 := hA_.get 10 (by decide); exact OpStep.plain rfl (Step.move (p := (.one (.d (.int .i64 (i : Int))))) (t := 51) rfl rfl (by exact lt_ok rfl) (show Env.ev E (.tmp 10) = _ from g10.trans rfl))) ?_
        refine .cons (fun E hA_ => by have g51 := hA_.get 51 (by decide); exact OpStep.plain rfl (Step.bin (r := .int .i64 (4 * (i : Int))) (t := 52) rfl rfl (by exact lt_ok rfl) rfl (show Env.ev E (.tmp 51) = _ from g51.trans rfl) (Bin.mul (a := 4) (b := (i : Int)) (by first | exact wrap_ok (by first | omega | (simp; omega) | (simp [w16_len, wN_len]; omega)) (by first | omega | (simp; omega) | (simp [w16_len, wN_len]; omega)) | rfl)))) ?_
        refine .cons (fun E hA_ => by have g50 := hA_.get 50 (by decide); have g52 := hA_.get 52 (by decide); exact OpStep.plain rfl (Step.index (e := 5) (z := 1) (i := (4 * (i : Int))) (t := 53) rfl rfl (by exact lt_ok rfl) (by kernel_rfl) (show Env.ev E (.tmp 50) = _ from g50.trans rfl) rfl rfl (lt_ok rfl) (show Env.ev E (.tmp 52) = _ from g52.trans rfl) (by first | omega | (simp; omega) | (simp [w16_len, wN_len]; omega)) (by simp only [D.size]; first | omega | (simp; omega) | (simp [w16_len, wN_len]; omega)))) ?_
        refine .cons (fun E hA_ => by have g53 := hA_.get 53 (by decide); exact OpStep.plain rfl (Step.load (e := (.int .u8 (b.getD (4 * (i : Int)).toNat 0))) (t := 54) rfl rfl (by exact lt_ok rfl) (by kernel_rfl) (show Env.ev E (.tmp 53) = _ from g53.trans rfl) rfl)) ?_
        refine .cons (fun E hA_ => by have g54 := hA_.get 54 (by decide); exact OpStep.plain rfl (Step.conv (c := (b.getD (4 * (i : Int)).toNat 0)) (t := 55) rfl rfl (by exact lt_ok rfl) (by kernel_rfl) (by kernel_rfl) (show Env.ev E (.tmp 54) = _ from g54.trans rfl) (wrap_ok (by first | omega | (simp; omega) | (simp [w16_len, wN_len]; omega)) (by first | omega | (simp; omega) | (simp [w16_len, wN_len]; omega))))) ?_
        refine .cons (fun E hA_ => by have g55 := hA_.get 55 (by decide); exact OpStep.plain rfl (Step.bin (r := .int .i64 (bshl (b.getD (4 * (i : Int)).toNat 0) 24)) (t := 56) rfl rfl (by exact lt_ok rfl) (show Env.ev E (.tmp 55) = _ from g55.trans rfl) rfl (Bin.shl (k := .i64) (k' := .u64) (a := (b.getD (4 * (i : Int)).toNat 0)) (b := 24) (by first | omega | (simp; omega) | (simp [w16_len, wN_len]; omega)) (rfl)))) ?_
        refine .cons (fun E hA_ => by have g1 := hA_.get 1 (by decide); exact OpStep.plain rfl (Step.move (p := (.one (.d (.ints .u8 b)))) (t := 57) rfl rfl (by exact lt_ok rfl) (show Env.ev E (.tmp 1) = _ from g1.trans rfl))) ?_
        refine .cons (fun E hA_ => by have g10 := hA_.get 10 (by decide); exact OpStep.plain rfl (Step.move (p := (.one (.d (.int .i64 (i : Int))))) (t := 58) rfl rfl (by exact lt_ok rfl) (show Env.ev E (.tmp 10) = _ from g10.trans rfl))) ?_
        refine .cons (fun E hA_ => by have g58 := hA_.get 58 (by decide); exact OpStep.plain rfl (Step.bin (r := .int .i64 (4 * (i : Int))) (t := 59) rfl rfl (by exact lt_ok rfl) rfl (show Env.ev E (.tmp 58) = _ from g58.trans rfl) (Bin.mul (a := 4) (b := (i : Int)) (by first | exact wrap_ok (by first | omega | (simp; omega) | (simp [w16_len, wN_len]; omega)) (by first | omega | (simp; omega) | (simp [w16_len, wN_len]; omega)) | rfl)))) ?_
        refine .cons (fun E hA_ => by have g59 := hA_.get 59 (by decide); exact OpStep.plain rfl (Step.bin (r := .int .i64 ((4 * (i : Int)) + 1)) (t := 60) rfl rfl (by exact lt_ok rfl) (show Env.ev E (.tmp 59) = _ from g59.trans rfl) rfl (Bin.add (a := (4 * (i : Int))) (b := 1) (by first | exact wrap_ok (by first | omega | (simp; omega) | (simp [w16_len, wN_len]; omega)) (by first | omega | (simp; omega) | (simp [w16_len, wN_len]; omega)) | rfl)))) ?_
        refine .cons (fun E hA_ => by have g57 := hA_.get 57 (by decide); have g60 := hA_.get 60 (by decide); exact OpStep.plain rfl (Step.index (e := 5) (z := 1) (i := ((4 * (i : Int)) + 1)) (t := 61) rfl rfl (by exact lt_ok rfl) (by kernel_rfl) (show Env.ev E (.tmp 57) = _ from g57.trans rfl) rfl rfl (lt_ok rfl) (show Env.ev E (.tmp 60) = _ from g60.trans rfl) (by first | omega | (simp; omega) | (simp [w16_len, wN_len]; omega)) (by simp only [D.size]; first | omega | (simp; omega) | (simp [w16_len, wN_len]; omega)))) ?_
        refine .cons (fun E hA_ => by have g61 := hA_.get 61 (by decide); exact OpStep.plain rfl (Step.load (e := (.int .u8 (b.getD ((4 * (i : Int)) + 1).toNat 0))) (t := 62) rfl rfl (by exact lt_ok rfl) (by kernel_rfl) (show Env.ev E (.tmp 61) = _ from g61.trans rfl) rfl)) ?_
        refine .cons (fun E hA_ => by have g62 := hA_.get 62 (by decide); exact OpStep.plain rfl (Step.conv (c := (b.getD ((4 * (i : Int)) + 1).toNat 0)) (t := 63) rfl rfl (by exact lt_ok rfl) (by kernel_rfl) (by kernel_rfl) (show Env.ev E (.tmp 62) = _ from g62.trans rfl) (wrap_ok (by first | omega | (simp; omega) | (simp [w16_len, wN_len]; omega)) (by first | omega | (simp; omega) | (simp [w16_len, wN_len]; omega))))) ?_
        refine .cons (fun E hA_ => by have g63 := hA_.get 63 (by decide); exact OpStep.plain rfl (Step.bin (r := .int .i64 (bshl (b.getD ((4 * (i : Int)) + 1).toNat 0) 16)) (t := 64) rfl rfl (by exact lt_ok rfl) (show Env.ev E (.tmp 63) = _ from g63.trans rfl) rfl (Bin.shl (k := .i64) (k' := .u64) (a := (b.getD ((4 * (i : Int)) + 1).toNat 0)) (b := 16) (by first | omega | (simp; omega) | (simp [w16_len, wN_len]; omega)) (rfl)))) ?_
        refine .cons (fun E hA_ => by have g56 := hA_.get 56 (by decide); have g64 := hA_.get 64 (by decide); exact OpStep.plain rfl (Step.bin (r := .int .i64 (bor (bshl (b.getD (4 * (i : Int)).toNat 0) 24) (bshl (b.getD ((4 * (i : Int)) + 1).toNat 0) 16))) (t := 65) rfl rfl (by exact lt_ok rfl) (show Env.ev E (.tmp 56) = _ from g56.trans rfl) (show Env.ev E (.tmp 64) = _ from g64.trans rfl) (Bin.or (k := .i64) (a := (bshl (b.getD (4 * (i : Int)).toNat 0) 24)) (b := (bshl (b.getD ((4 * (i : Int)) + 1).toNat 0) 16)) (rfl)))) ?_
        refine .cons (fun E hA_ => by have g1 := hA_.get 1 (by decide); exact OpStep.plain rfl (Step.move (p := (.one (.d (.ints .u8 b)))) (t := 66) rfl rfl (by exact lt_ok rfl) (show Env.ev E (.tmp 1) = _ from g1.trans rfl))) ?_
        refine .cons (fun E hA_ => by have g10 := hA_.get 10 (by decide); exact OpStep.plain rfl (Step.move (p := (.one (.d (.int .i64 (i : Int))))) (t := 67) rfl rfl (by exact lt_ok rfl) (show Env.ev E (.tmp 10) = _ from g10.trans rfl))) ?_
        refine .cons (fun E hA_ => by have g67 := hA_.get 67 (by decide); exact OpStep.plain rfl (Step.bin (r := .int .i64 (4 * (i : Int))) (t := 68) rfl rfl (by exact lt_ok rfl) rfl (show Env.ev E (.tmp 67) = _ from g67.trans rfl) (Bin.mul (a := 4) (b := (i : Int)) (by first | exact wrap_ok (by first | omega | (simp; omega) | (simp [w16_len, wN_len]; omega)) (by first | omega | (simp; omega) | (simp [w16_len, wN_len]; omega)) | rfl)))) ?_
        refine .cons (fun E hA_ => by have g68 := hA_.get 68 (by decide); exact OpStep.plain rfl (Step.bin (r := .int .i64 ((4 * (i : Int)) + 2)) (t := 69) rfl rfl (by exact lt_ok rfl) (show Env.ev E (.tmp 68) = _ from g68.trans rfl) rfl (Bin.add (a := (4 * (i : Int))) (b := 2) (by first | exact wrap_ok (by first | omega | (simp; omega) | (simp [w16_len, wN_len]; omega)) (by first | omega | (simp; omega) | (simp [w16_len, wN_len]; omega)) | rfl)))) ?_
        refine .cons (fun E hA_ => by have g66 := hA_.get 66 (by decide); have g69 := hA_.get 69 (by decide); exact OpStep.plain rfl (Step.index (e := 5) (z := 1) (i := ((4 * (i : Int)) + 2)) (t := 70) rfl rfl (by exact lt_ok rfl) (by kernel_rfl) (show Env.ev E (.tmp 66) = _ from g66.trans rfl) rfl rfl (lt_ok rfl) (show Env.ev E (.tmp 69) = _ from g69.trans rfl) (by first | omega | (simp; omega) | (simp [w16_len, wN_len]; omega)) (by simp only [D.size]; first | omega | (simp; omega) | (simp [w16_len, wN_len]; omega)))) ?_
        refine .cons (fun E hA_ => by have g70 := hA_.get 70 (by decide); exact OpStep.plain rfl (Step.load (e := (.int .u8 (b.getD ((4 * (i : Int)) + 2).toNat 0))) (t := 71) rfl rfl (by exact lt_ok rfl) (by kernel_rfl) (show Env.ev E (.tmp 70) = _ from g70.trans rfl) rfl)) ?_
        refine .cons (fun E hA_ => by have g71 := hA_.get 71 (by decide); exact OpStep.plain rfl (Step.conv (c := (b.getD ((4 * (i : Int)) + 2).toNat 0)) (t := 72) rfl rfl (by exact lt_ok rfl) (by kernel_rfl) (by kernel_rfl) (show Env.ev E (.tmp 71) = _ from g71.trans rfl) (wrap_ok (by first | omega | (simp; omega) | (simp [w16_len, wN_len]; omega)) (by first | omega | (simp; omega) | (simp [w16_len, wN_len]; omega))))) ?_
        refine .cons (fun E hA_ => by have g72 := hA_.get 72 (by decide); exact OpStep.plain rfl (Step.bin (r := .int .i64 (bshl (b.getD ((4 * (i : Int)) + 2).toNat 0) 8)) (t := 73) rfl rfl (by exact lt_ok rfl) (show Env.ev E (.tmp 72) = _ from g72.trans rfl) rfl (Bin.shl (k := .i64) (k' := .u64) (a := (b.getD ((4 * (i : Int)) + 2).toNat 0)) (b := 8) (by first | omega | (simp; omega) | (simp [w16_len, wN_len]; omega)) (rfl)))) ?_
        refine .cons (fun E hA_ => by have g65 := hA_.get 65 (by decide); have g73 := hA_.get 73 (by decide); exact OpStep.plain rfl (Step.bin (r := .int .i64 (bor (bor (bshl (b.getD (4 * (i : Int)).toNat 0) 24) (bshl (b.getD ((4 * (i : Int)) + 1).toNat 0) 16)) (bshl (b.getD ((4 * (i : Int)) + 2).toNat 0) 8))) (t := 74) rfl rfl (by exact lt_ok rfl) (show Env.ev E (.tmp 65) = _ from g65.trans rfl) (show Env.ev E (.tmp 73) = _ from g73.trans rfl) (Bin.or (k := .i64) (a := (bor (bshl (b.getD (4 * (i : Int)).toNat 0) 24) (bshl (b.getD ((4 * (i : Int)) + 1).toNat 0) 16))) (b := (bshl (b.getD ((4 * (i : Int)) + 2).toNat 0) 8)) (rfl)))) ?_
        refine .cons (fun E hA_ => by have g1 := hA_.get 1 (by decide); exact OpStep.plain rfl (Step.move (p := (.one (.d (.ints .u8 b)))) (t := 75) rfl rfl (by exact lt_ok rfl) (show Env.ev E (.tmp 1) = _ from g1.trans rfl))) ?_
        refine .cons (fun E hA_ => by have g10 := hA_.get 10 (by decide); exact OpStep.plain rfl (Step.move (p := (.one (.d (.int .i64 (i : Int))))) (t := 76) rfl rfl (by exact lt_ok rfl) (show Env.ev E (.tmp 10) = _ from g10.trans rfl))) ?_
        refine .cons (fun E hA_ => by have g76 := hA_.get 76 (by decide); exact OpStep.plain rfl (Step.bin (r := .int .i64 (4 * (i : Int))) (t := 77) rfl rfl (by exact lt_ok rfl) rfl (show Env.ev E (.tmp 76) = _ from g76.trans rfl) (Bin.mul (a := 4) (b := (i : Int)) (by first | exact wrap_ok (by first | omega | (simp; omega) | (simp [w16_len, wN_len]; omega)) (by first | omega | (simp; omega) | (simp [w16_len, wN_len]; omega)) | rfl)))) ?_
        refine .cons (fun E hA_ => by have g77 := hA_.get 77 (by decide); exact OpStep.plain rfl (Step.bin (r := .int .i64 ((4 * (i : Int)) + 3)) (t := 78) rfl rfl (by exact lt_ok rfl) (show Env.ev E (.tmp 77) = _ from g77.trans rfl) rfl (Bin.add (a := (4 * (i : Int))) (b := 3) (by first | exact wrap_ok (by first | omega | (simp; omega) | (simp [w16_len, wN_len]; omega)) (by first | omega | (simp; omega) | (simp [w16_len, wN_len]; omega)) | rfl)))) ?_
        refine .cons (fun E hA_ => by have g75 := hA_.get 75 (by decide); have g78 := hA_.get 78 (by decide); exact OpStep.plain rfl (Step.index (e := 5) (z := 1) (i := ((4 * (i : Int)) + 3)) (t := 79) rfl rfl (by exact lt_ok rfl) (by kernel_rfl) (show Env.ev E (.tmp 75) = _ from g75.trans rfl) rfl rfl (lt_ok rfl) (show Env.ev E (.tmp 78) = _ from g78.trans rfl) (by first | omega | (simp; omega) | (simp [w16_len, wN_len]; omega)) (by simp only [D.size]; first | omega | (simp; omega) | (simp [w16_len, wN_len]; omega)))) ?_
        refine .cons (fun E hA_ => by have g79 := hA_.get 79 (by decide); exact OpStep.plain rfl (Step.load (e := (.int .u8 (b.getD ((4 * (i : Int)) + 3).toNat 0))) (t := 80) rfl rfl (by exact lt_ok rfl) (by kernel_rfl) (show Env.ev E (.tmp 79) = _ from g79.trans rfl) rfl)) ?_
        refine .cons (fun E hA_ => by have g80 := hA_.get 80 (by decide); exact OpStep.plain rfl (Step.conv (c := (b.getD ((4 * (i : Int)) + 3).toNat 0)) (t := 81) rfl rfl (by exact lt_ok rfl) (by kernel_rfl) (by kernel_rfl) (show Env.ev E (.tmp 80) = _ from g80.trans rfl) (wrap_ok (by first | omega | (simp; omega) | (simp [w16_len, wN_len]; omega)) (by first | omega | (simp; omega) | (simp [w16_len, wN_len]; omega))))) ?_
        refine .cons (fun E hA_ => by have g74 := hA_.get 74 (by decide); have g81 := hA_.get 81 (by decide); exact OpStep.plain rfl (Step.bin (r := .int .i64 (bor (bor (bor (bshl (b.getD (4 * (i : Int)).toNat 0) 24) (bshl (b.getD ((4 * (i : Int)) + 1).toNat 0) 16)) (bshl (b.getD ((4 * (i : Int)) + 2).toNat 0) 8)) (b.getD ((4 * (i : Int)) + 3).toNat 0))) (t := 82) rfl rfl (by exact lt_ok rfl) (show Env.ev E (.tmp 74) = _ from g74.trans rfl) (show Env.ev E (.tmp 81) = _ from g81.trans rfl) (Bin.or (k := .i64) (a := (bor (bor (bshl (b.getD (4 * (i : Int)).toNat 0) 24) (bshl (b.getD ((4 * (i : Int)) + 1).toNat 0) 16)) (bshl (b.getD ((4 * (i : Int)) + 2).toNat 0) 8))) (b := (b.getD ((4 * (i : Int)) + 3).toNat 0)) (rfl)))) ?_
        refine .cons (fun E hA_ => by have g7 := hA_.get 7 (by decide); have g49 := hA_.get 49 (by decide); exact OpStep.plain rfl (Step.index_arr (d := (.ints .i64 (aI b i))) (e := 3) (n := 64) (z := 1) (i := (i : Int)) (t := 83) rfl rfl (by exact lt_ok rfl) (by kernel_rfl) (show Env.ev E (.tmp 7) = _ from g7.trans rfl) (by exact (hA_.row 7 (by kernel_rfl)).trans rfl) (by first | exact hl_ | rfl) rfl (lt_ok rfl) (show Env.ev E (.tmp 49) = _ from g49.trans rfl) (by first | omega | (simp; omega) | (simp [w16_len, wN_len]; omega)) (by first | omega | (simp; omega) | (simp [w16_len, wN_len]; omega)))) ?_
        exact .nil _ _
       refine TL.cons rfl (Step.store_row (n := 1) (p := (.one (.d (.int .i64 (bor (bor (bor (bshl (b.getD (4 * (i : Int)).toNat 0) 24) (bshl (b.getD ((4 * (i : Int)) + 1).toNat 0) 16)) (bshl (b.getD ((4 * (i : Int)) + 2).toNat 0) 8)) (b.getD ((4 * (i : Int)) + 3).toNat 0)))))) (ps := [.d (.int .i64 (bor (bor (bor (bshl (b.getD (4 * (i : Int)).toNat 0) 24) (bshl (b.getD ((4 * (i : Int)) + 1).toNat 0) 16)) (bshl (b.getD ((4 * (i : Int)) + 2).toNat 0) 8)) (b.getD ((4 * (i : Int)) + 3).toNat 0)))]) (es := [(.int .i64 (bor (bor (bor (bshl (b.getD (4 * (i : Int)).toNat 0) 24) (bshl (b.getD ((4 * (i : Int)) + 1).toNat 0) 16)) (bshl (b.getD ((4 * (i : Int)) + 2).toNat 0) 8)) (b.getD ((4 * (i : Int)) + 3).toNat 0)))]) (ss := []) (d1 := (.ints .i64 ((aI b i).set i (bor (bor (bor (bshl (b.getD (4 * (i : Int)).toNat 0) 24) (bshl (b.getD ((4 * (i : Int)) + 1).toNat 0) 16)) (bshl (b.getD ((4 * (i : Int)) + 2).toNat 0) 8)) (b.getD ((4 * (i : Int)) + 3).toNat 0))))) (d' := (.ints .i64 ((aI b i).set i (bor (bor (bor (bshl (b.getD (4 * (i : Int)).toNat 0) 24) (bshl (b.getD ((4 * (i : Int)) + 1).toNat 0) 16)) (bshl (b.getD ((4 * (i : Int)) + 2).toNat 0) 8)) (b.getD ((4 * (i : Int)) + 3).toNat 0))))) rfl rfl (by kernel_rfl) rfl rfl rfl rfl rfl rfl (.val rfl .nil) (by simp) (Putd.one rfl trivial rfl (by simp only [D.at_, D.size, List.length_set, upTo_length]; first | omega | (simp; omega) | (simp [w16_len, wN_len]; omega)) (lt_ok rfl)) rfl) ?_
       refine TL.nil ?_
       refine T.region ?_
       refine TL.cons rfl (Step.bin (r := .int .i64 ((i : Int) + 1)) rfl rfl (lt_ok rfl) rfl rfl (Bin.add (a := (i : Int)) (b := 1) (by first | exact wrap_ok (by first | omega | (simp; omega) | (simp [w16_len, wN_len]; omega)) (by first | omega | (simp; omega) | (simp [w16_len, wN_len]; omega)) | rfl))) ?_
       refine TL.cons rfl (Step.move (p := (.one (.d (.int .i64 ((i : Int) + 1))))) rfl rfl (lt_ok rfl) rfl) ?_
       refine TL.nil ?_
       refine ⟨i + 1, by omega, by first | omega | (dsimp only; omega), Env.le_mk ⟨rfl, rfl, rfl, rfl, rfl, ?_, trivial⟩ ⟨rfl, ?_, rfl, trivial⟩ trivial⟩ <;> (first | exact congrArg (fun x => some (_, D.ints .i64 x)) (aI_zero b) | exact congrArg (fun x => some (_, D.ints .i64 x)) (aI_set b (by omega)) | rfl | (refine congrArg (fun x => some (_, D.ints .i64 x)) ?_; first | rfl | fail) | (refine congrArg (fun n => PV.one (.d (.int .i64 n))) ?_; first | rfl | omega | (simp; done)))
      ·
       replace h6 := of_decide_eq_false h6
       refine T.exit ?_
       refine T.seq ?_
       refine T.seq ?_
       refine T.region ?_
       refine TL.cons rfl (Step.assign (p := (.one (.d (.int .i64 16)))) rfl rfl (lt_ok rfl) rfl) ?_
       refine TL.nil ?_
       refine T.block ?_
       refine T.loop (ι := Nat) (fun xx_ => { tm := [(0, (.one (.d (.ints .i64 h)))), (7, (.one (.rptr 7 [] 0 0))), (9, (.one (.rptr 9 [] 0 0))), (8, (.one (.row 1044 []))), (11, (.one (.d (.int .i64 (16 + (xx_ : Int))))))], rows := [(1044, (3, (.ints .i64 shaK))), (7, (107, (.ints .i64 (wI b xx_)))), (9, (108, (.ints .i64 [0, 0, 0, 0, 0, 0, 0, 0])))], boxes := [] }) (fun xx_ => xx_ ≤ 48) (fun xx_ => 48 - xx_) 0 ?_ ?_ ?_
       · refine Env.le_mk ⟨rfl, rfl, rfl, rfl, ?_, trivial⟩ ⟨rfl, ?_, rfl, trivial⟩ trivial <;> (first | exact congrArg (fun x => some (_, D.ints .i64 x)) ((congrArg (aI b) (show i = 16 by omega)).trans (wI_zero b)) | exact congrArg (fun x => some (_, D.ints .i64 x)) (wI_set b (by omega)) | rfl | (refine congrArg (fun x => some (_, D.ints .i64 x)) ?_; first | rfl | fail) | (refine congrArg (fun n => PV.one (.d (.int .i64 n))) ?_; first | rfl | omega | (simp; done)))
       · exact Nat.zero_le _
       ·
        intro i hx
        try dsimp only at hx ⊢
        have hl_ := wI_len b hx
        have hW_ := wI_W h0_ i
        refine T.seq ?_
        refine T.seq ?_
        refine T.region ?_
        refine TL.cons rfl (Step.move (p := (.one (.d (.int .i64 (16 + (i : Int)))))) rfl rfl (lt_ok rfl) rfl) ?_
        refine TL.cons rfl (Step.bin rfl rfl (lt_ok rfl) rfl rfl (Bin.lss (k := .i64) (a := (16 + (i : Int))) (b := 64))) ?_
        refine TL.nil ?_
        refine T.cond (b := decide ((16 + (i : Int)) < 64)) rfl (fun h7 => ?_) (fun h7 => ?_)
        ·
         replace h7 := of_decide_eq_true h7
         refine T.skip ?_
         refine T.seq ?_
         refine T.block ?_
         refine T.seq ?_
         refine T.draw [⟨89, (.one (.d (.int .i64 (16 + (i : Int))))), []⟩, ⟨90, (.one (.d (.int .i64 ((16 + (i : Int)) - 15)))), []⟩, ⟨91, (.one (.rptr 7 [] ((16 + (i : Int)) - 15).toNat 0)), []⟩, ⟨92, (.one (.d (.int .i64 ((wI b i).getD ((16 + (i : Int)) - 15).toNat 0)))), []⟩, ⟨93, (.one (.d (.int .i64 (16 + (i : Int))))), []⟩, ⟨94, (.one (.d (.int .i64 ((16 + (i : Int)) - 2)))), []⟩, ⟨95, (.one (.rptr 7 [] ((16 + (i : Int)) - 2).toNat 0)), []⟩, ⟨96, (.one (.d (.int .i64 ((wI b i).getD ((16 + (i : Int)) - 2).toNat 0)))), []⟩, ⟨12, (.one (.d (.int .i64 ((wI b i).getD ((16 + (i : Int)) - 15).toNat 0)))), []⟩, ⟨13, (.one (.d (.int .i64 ((wI b i).getD ((16 + (i : Int)) - 2).toNat 0)))), []⟩] (by kernel_rfl) (by kernel_rfl) ?_ ?_
         ·
          refine .cons (fun E hA_ => by have g11 := hA_.get 11 (by decide); exact OpStep.plain rfl (Step.move (p := (.one (.d (.int .i64 (16 + (i : Int)))))) (t := 89) rfl rfl (by exact lt_ok rfl) (show Env.ev E (.tmp 11) = _ from g11.trans rfl))) ?_
          refine .cons (fun E hA_ => by have g89 := hA_.get 89 (by decide); exact OpStep.plain rfl (Step.bin (r := .int .i64 ((16 + (i : Int)) - 15)) (t := 90) rfl rfl (by exact lt_ok rfl) (show Env.ev E (.tmp 89) = _ from g89.trans rfl) rfl (Bin.sub (a := (16 + (i : Int))) (b := 15) (by first | exact wrap_ok (by first | omega | (simp; omega) | (simp [w16_len, wN_len]; omega)) (by first | omega | (simp; omega) | (simp [w16_len, wN_len]; omega)) | rfl)))) ?_
          refine .cons (fun E hA_ => by have g7 := hA_.get 7 (by decide); have g90 := hA_.get 90 (by decide); exact OpStep.plain rfl (Step.index_arr (d := (.ints .i64 (wI b i))) (e := 3) (n := 64) (z := 1) (i := ((16 + (i : Int)) - 15)) (t := 91) rfl rfl (by exact lt_ok rfl) (by kernel_rfl) (show Env.ev E (.tmp 7) = _ from g7.trans rfl) (by exact (hA_.row 7 (by kernel_rfl)).trans rfl) (by first | exact hl_ | rfl) rfl (lt_ok rfl) (show Env.ev E (.tmp 90) = _ from g90.trans rfl) (by first | omega | (simp; omega) | (simp [w16_len, wN_len]; omega)) (by first | omega | (simp; omega) | (simp [w16_len, wN_len]; omega)))) ?_
          refine .cons (fun E hA_ => by have g91 := hA_.get 91 (by decide); exact OpStep.plain rfl (Step.load_row (c := .d (.int .i64 ((wI b i).getD ((16 + (i : Int)) - 15).toNat 0))) (t := 92) rfl rfl (by exact lt_ok rfl) (by kernel_rfl) (show Env.ev E (.tmp 91) = _ from g91.trans rfl) (by exact (hA_.row 7 (by kernel_rfl)).trans rfl) rfl)) ?_
          refine .cons (fun E hA_ => by have g11 := hA_.get 11 (by decide); exact OpStep.plain rfl (Step.move (p := (.one (.d (.int .i64 (16 + (i : Int)))))) (t := 93) rfl rfl (by exact lt_ok rfl) (show Env.ev E (.tmp 11) = _ from g11.trans rfl))) ?_
          refine .cons (fun E hA_ => by have g93 := hA_.get 93 (by decide); exact OpStep.plain rfl (Step.bin (r := .int .i64 ((16 + (i : Int)) - 2)) (t := 94) rfl rfl (by exact lt_ok rfl) (show Env.ev E (.tmp 93) = _ from g93.trans rfl) rfl (Bin.sub (a := (16 + (i : Int))) (b := 2) (by first | exact wrap_ok (by first | omega | (simp; omega) | (simp [w16_len, wN_len]; omega)) (by first | omega | (simp; omega) | (simp [w16_len, wN_len]; omega)) | rfl)))) ?_
          refine .cons (fun E hA_ => by have g7 := hA_.get 7 (by decide); have g94 := hA_.get 94 (by decide); exact OpStep.plain rfl (Step.index_arr (d := (.ints .i64 (wI b i))) (e := 3) (n := 64) (z := 1) (i := ((16 + (i : Int)) - 2)) (t := 95) rfl rfl (by exact lt_ok rfl) (by kernel_rfl) (show Env.ev E (.tmp 7) = _ from g7.trans rfl) (by exact (hA_.row 7 (by kernel_rfl)).trans rfl) (by first | exact hl_ | rfl) rfl (lt_ok rfl) (show Env.ev E (.tmp 94) = _ from g94.trans rfl) (by first | omega | (simp; omega) | (simp [w16_len, wN_len]; omega)) (by first | omega | (simp; omega) | (simp [w16_len, wN_len]; omega)))) ?_
          refine .cons (fun E hA_ => by have g95 := hA_.get 95 (by decide); exact OpStep.plain rfl (Step.load_row (c := .d (.int .i64 ((wI b i).getD ((16 + (i : Int)) - 2).toNat 0))) (t := 96) rfl rfl (by exact lt_ok rfl) (by kernel_rfl) (show Env.ev E (.tmp 95) = _ from g95.trans rfl) (by exact (hA_.row 7 (by kernel_rfl)).trans rfl) rfl)) ?_
          refine .cons (fun E hA_ => by have g92 := hA_.get 92 (by decide); exact OpStep.plain rfl (Step.assign (p := (.one (.d (.int .i64 ((wI b i).getD ((16 + (i : Int)) - 15).toNat 0))))) (t := 12) rfl rfl (by exact lt_ok rfl) (show Env.ev E (.tmp 92) = _ from g92.trans rfl))) ?_
          refine .cons (fun E hA_ => by have g96 := hA_.get 96 (by decide); exact OpStep.plain rfl (Step.assign (p := (.one (.d (.int .i64 ((wI b i).getD ((16 + (i : Int)) - 2).toNat 0))))) (t := 13) rfl rfl (by exact lt_ok rfl) (show Env.ev E (.tmp 96) = _ from g96.trans rfl))) ?_
          exact .nil _ _
         refine TL.nil ?_
         refine T.seq ?_
         refine T.region ?_
         refine TL.cons rfl (Step.move (p := (.one (.d (.int .i64 ((wI b i).getD ((16 + (i : Int)) - 15).toNat 0))))) rfl rfl (lt_ok rfl) rfl) ?_
         refine TL.cons rfl (Step.call (f := 106) (xs := [.tmp 97, .const (.int .i64 7)]) (ps := [(.one (.d (.int .i64 ((wI b i).getD ((16 + (i : Int)) - 15).toNat 0)))), (.one (.d (.int .i64 7)))]) false (g := .func 106) rfl rfl (lt_ok rfl) rfl (by kernel_rfl) rfl (.cons (.one (.d _)) (.cons (.one (.d _)) .nil)) (ok_impl_TurnRight ((wI b i).getD ((16 + (i : Int)) - 15).toNat 0) 7 (by first | assumption | exact hW_ _ | exact hV_ _ | omega) (by first | omega | decide)) (.inr rfl) rfl (by simp) rfl) ?_
         refine TL.cons rfl (Step.move (p := (.one (.d (.int .i64 ((wI b i).getD ((16 + (i : Int)) - 15).toNat 0))))) rfl rfl (lt_ok rfl) rfl) ?_
         refine TL.cons rfl (Step.call (f := 106) (xs := [.tmp 99, .const (.int .i64 18)]) (ps := [(.one (.d (.int .i64 ((wI b i).getD ((16 + (i : Int)) - 15).toNat 0)))), (.one (.d (.int .i64 18)))]) false (g := .func 106) rfl rfl (lt_ok rfl) rfl (by kernel_rfl) rfl (.cons (.one (.d _)) (.cons (.one (.d _)) .nil)) (ok_impl_TurnRight ((wI b i).getD ((16 + (i : Int)) - 15).toNat 0) 18 (by first | assumption | exact hW_ _ | exact hV_ _ | omega) (by first | omega | decide)) (.inr rfl) rfl (by simp) rfl) ?_
         refine TL.cons rfl (Step.bin (r := .int .i64 (bxor (turnW ((wI b i).getD ((16 + (i : Int)) - 15).toNat 0) 7) (turnW ((wI b i).getD ((16 + (i : Int)) - 15).toNat 0) 18))) rfl rfl (lt_ok rfl) rfl rfl (Bin.xor (k := .i64) (a := (turnW ((wI b i).getD ((16 + (i : Int)) - 15).toNat 0) 7)) (b := (turnW ((wI b i).getD ((16 + (i : Int)) - 15).toNat 0) 18)) (rfl))) ?_
         refine TL.cons rfl (Step.move (p := (.one (.d (.int .i64 ((wI b i).getD ((16 + (i : Int)) - 15).toNat 0))))) rfl rfl (lt_ok rfl) rfl) ?_
         refine TL.cons rfl (Step.bin (r := .int .i64 (bshr ((wI b i).getD ((16 + (i : Int)) - 15).toNat 0) 3)) rfl rfl (lt_ok rfl) rfl rfl (Bin.shr (k := .i64) (k' := .u64) (a := ((wI b i).getD ((16 + (i : Int)) - 15).toNat 0)) (b := 3) (by first | omega | (simp; omega) | (simp [w16_len, wN_len]; omega)) (rfl))) ?_
         refine TL.cons rfl (Step.bin (r := .int .i64 (bxor (bxor (turnW ((wI b i).getD ((16 + (i : Int)) - 15).toNat 0) 7) (turnW ((wI b i).getD ((16 + (i : Int)) - 15).toNat 0) 18)) (bshr ((wI b i).getD ((16 + (i : Int)) - 15).toNat 0) 3))) rfl rfl (lt_ok rfl) rfl rfl (Bin.xor (k := .i64) (a := (bxor (turnW ((wI b i).getD ((16 + (i : Int)) - 15).toNat 0) 7) (turnW ((wI b i).getD ((16 + (i : Int)) - 15).toNat 0) 18))) (b := (bshr ((wI b i).getD ((16 + (i : Int)) - 15).toNat 0) 3)) (rfl))) ?_
         refine TL.cons rfl (Step.assign (p := (.one (.d (.int .i64 (bxor (bxor (turnW ((wI b i).getD ((16 + (i : Int)) - 15).toNat 0) 7) (turnW ((wI b i).getD ((16 + (i : Int)) - 15).toNat 0) 18)) (bshr ((wI b i).getD ((16 + (i : Int)) - 15).toNat 0) 3)))))) rfl rfl (lt_ok rfl) rfl) ?_
         refine TL.nil ?_
         refine T.seq ?_
         refine T.region ?_
         refine TL.cons rfl (Step.move (p := (.one (.d (.int .i64 ((wI b i).getD ((16 + (i : Int)) - 2).toNat 0))))) rfl rfl (lt_ok rfl) rfl) ?_
         refine TL.cons rfl (Step.call (f := 106) (xs := [.tmp 105, .const (.int .i64 17)]) (ps := [(.one (.d (.int .i64 ((wI b i).getD ((16 + (i : Int)) - 2).toNat 0)))), (.one (.d (.int .i64 17)))]) false (g := .func 106) rfl rfl (lt_ok rfl) rfl (by kernel_rfl) rfl (.cons (.one (.d _)) (.cons (.one (.d _)) .nil)) (ok_impl_TurnRight ((wI b i).getD ((16 + (i : Int)) - 2).toNat 0) 17 (by first | assumption | exact hW_ _ | exact hV_ _ | omega) (by first | omega | decide)) (.inr rfl) rfl (by simp) rfl) ?_
         refine TL.cons rfl (Step.move (p := (.one (.d (.int .i64 ((wI b i).getD ((16 + (i : Int)) - 2).toNat 0))))) rfl rfl (lt_ok rfl) rfl) ?_
         refine TL.cons rfl (Step.call (f := 106) (xs := [.tmp 107, .const (.int .i64 19)]) (ps := [(.one (.d (.int .i64 ((wI b i).getD ((16 + (i : Int)) - 2).toNat 0)))), (.one (.d (.int .i64 19)))]) false (g := .func 106) rfl rfl (lt_ok rfl) rfl (by kernel_rfl) rfl (.cons (.one (.d _)) (.cons (.one (.d _)) .nil)) (ok_impl_TurnRight ((wI b i).getD ((16 + (i : Int)) - 2).toNat 0) 19 (by first | assumption | exact hW_ _ | exact hV_ _ | omega) (by first | omega | decide)) (.inr rfl) rfl (by simp) rfl) ?_
         refine TL.cons rfl (Step.bin (r := .int .i64 (bxor (turnW ((wI b i).getD ((16 + (i : Int)) - 2).toNat 0) 17) (turnW ((wI b i).getD ((16 + (i : Int)) - 2).toNat 0) 19))) rfl rfl (lt_ok rfl) rfl rfl (Bin.xor (k := .i64) (a := (turnW ((wI b i).getD ((16 + (i : Int)) - 2).toNat 0) 17)) (b := (turnW ((wI b i).getD ((16 + (i : Int)) - 2).toNat 0) 19)) (rfl))) ?_
         refine TL.cons rfl (Step.move (p := (.one (.d (.int .i64 ((wI b i).getD ((16 + (i : Int)) - 2).toNat 0))))) rfl rfl (lt_ok rfl) rfl) ?_
         refine TL.cons rfl (Step.bin (r := .int .i64 (bshr ((wI b i).getD ((16 + (i : Int)) - 2).toNat 0) 10)) rfl rfl (lt_ok rfl) rfl rfl (Bin.shr (k := .i64) (k' := .u64) (a := ((wI b i).getD ((16 + (i : Int)) - 2).toNat 0)) (b := 10) (by first | omega | (simp; omega) | (simp [w16_len, wN_len]; omega)) (rfl))) ?_
         refine TL.cons rfl (Step.bin (r := .int .i64 (bxor (bxor (turnW ((wI b i).getD ((16 + (i : Int)) - 2).toNat 0) 17) (turnW ((wI b i).getD ((16 + (i : Int)) - 2).toNat 0) 19)) (bshr ((wI b i).getD ((16 + (i : Int)) - 2).toNat 0) 10))) rfl rfl (lt_ok rfl) rfl rfl (Bin.xor (k := .i64) (a := (bxor (turnW ((wI b i).getD ((16 + (i : Int)) - 2).toNat 0) 17) (turnW ((wI b i).getD ((16 + (i : Int)) - 2).toNat 0) 19))) (b := (bshr ((wI b i).getD ((16 + (i : Int)) - 2).toNat 0) 10)) (rfl))) ?_
         refine TL.cons rfl (Step.assign (p := (.one (.d (.int .i64 (bxor (bxor (turnW ((wI b i).getD ((16 + (i : Int)) - 2).toNat 0) 17) (turnW ((wI b i).getD ((16 + (i : Int)) - 2).toNat 0) 19)) (bshr ((wI b i).getD ((16 + (i : Int)) - 2).toNat 0) 10)))))) rfl rfl (lt_ok rfl) rfl) ?_
         refine TL.nil ?_
         refine T.draw [⟨113, (.one (.d (.int .i64 (16 + (i : Int))))), []⟩, ⟨114, (.one (.d (.int .i64 (16 + (i : Int))))), []⟩, ⟨115, (.one (.d (.int .i64 ((16 + (i : Int)) - 16)))), []⟩, ⟨116, (.one (.rptr 7 [] ((16 + (i : Int)) - 16).toNat 0)), []⟩, ⟨117, (.one (.d (.int .i64 ((wI b i).getD ((16 + (i : Int)) - 16).toNat 0)))), []⟩, ⟨118, (.one (.d (.int .i64 (bxor (bxor (turnW ((wI b i).getD ((16 + (i : Int)) - 15).toNat 0) 7) (turnW ((wI b i).getD ((16 + (i : Int)) - 15).toNat 0) 18)) (bshr ((wI b i).getD ((16 + (i : Int)) - 15).toNat 0) 3))))), []⟩, ⟨119, (.one (.d (.int .i64 (wadd ((wI b i).getD ((16 + (i : Int)) - 16).toNat 0) (bxor (bxor (turnW ((wI b i).getD ((16 + (i : Int)) - 15).toNat 0) 7) (turnW ((wI b i).getD ((16 + (i : Int)) - 15).toNat 0) 18)) (bshr ((wI b i).getD ((16 + (i : Int)) - 15).toNat 0) 3)))))), []⟩, ⟨120, (.one (.d (.int .i64 (16 + (i : Int))))), []⟩, ⟨121, (.one (.d (.int .i64 ((16 + (i : Int)) - 7)))), []⟩, ⟨122, (.one (.rptr 7 [] ((16 + (i : Int)) - 7).toNat 0)), []⟩, ⟨123, (.one (.d (.int .i64 ((wI b i).getD ((16 + (i : Int)) - 7).toNat 0)))), []⟩, ⟨124, (.one (.d (.int .i64 (wadd (wadd ((wI b i).getD ((16 + (i : Int)) - 16).toNat 0) (bxor (bxor (turnW ((wI b i).getD ((16 + (i : Int)) - 15).toNat 0) 7) (turnW ((wI b i).getD ((16 + (i : Int)) - 15).toNat 0) 18)) (bshr ((wI b i).getD ((16 + (i : Int)) - 15).toNat 0) 3))) ((wI b i).getD ((16 + (i : Int)) - 7).toNat 0))))), []⟩, ⟨125, (.one (.d (.int .i64 (bxor (bxor (turnW ((wI b i).getD ((16 + (i : Int)) - 2).toNat 0) 17) (turnW ((wI b i).getD ((16 + (i : Int)) - 2).toNat 0) 19)) (bshr ((wI b i).getD ((16 + (i : Int)) - 2).toNat 0) 10))))), []⟩, ⟨126, (.one (.d (.int .i64 (wadd (wadd (wadd ((wI b i).getD ((16 + (i : Int)) - 16).toNat 0) (bxor (bxor (turnW ((wI b i).getD ((16 + (i : Int)) - 15).toNat 0) 7) (turnW ((wI b i).getD ((16 + (i : Int)) - 15).toNat 0) 18)) (bshr ((wI b i).getD ((16 + (i : Int)) - 15).toNat 0) 3))) ((wI b i).getD ((16 + (i : Int)) - 7).toNat 0)) (bxor (bxor (turnW ((wI b i).getD ((16 + (i : Int)) - 2).toNat 0) 17) (turnW ((wI b i).getD ((16 + (i : Int)) - 2).toNat 0) 19)) (bshr ((wI b i).getD ((16 + (i : Int)) - 2).toNat 0) 10)))))), []⟩, ⟨127, (.one (.d (.int .i64 (band (wadd (wadd (wadd ((wI b i).getD ((16 + (i : Int)) - 16).toNat 0) (bxor (bxor (turnW ((wI b i).getD ((16 + (i : Int)) - 15).toNat 0) 7) (turnW ((wI b i).getD ((16 + (i : Int)) - 15).toNat 0) 18)) (bshr ((wI b i).getD ((16 + (i : Int)) - 15).toNat 0) 3))) ((wI b i).getD ((16 + (i : Int)) - 7).toNat 0)) (bxor (bxor (turnW ((wI b i).getD ((16 + (i : Int)) - 2).toNat 0) 17) (turnW ((wI b i).getD ((16 + (i : Int)) - 2).toNat 0) 19)) (bshr ((wI b i).getD ((16 + (i : Int)) - 2).toNat 0) 10))) 4294967295)))), []⟩, ⟨128, (.one (.rptr 7 [] (16 + (i : Int)).toNat 0)), []⟩] (by kernel_rfl) (by kernel_rfl) ?_ ?_
         ·
          refine .cons (fun E hA_ => by have g11 := hA_.get 11 (by decide); exact OpStep.plain rfl (Step.move (p := (.one (.d (.int .i64 (16 + (i : Int)))))) (t := 113) rfl rfl (by exact lt_ok rfl) (show Env.ev E (.tmp 11) = _ from g11.trans rfl))) ?_
          refine .cons (fun E hA_ => by have g11 := hA_.get 11 (by decide); exact OpStep.plain rfl (Step.move (p := (.one (.d (.int .i64 (16 + (i : Int)))))) (t := 114) rfl rfl (by exact lt_ok rfl) (show Env.ev E (.tmp 11) = _ from g11.trans rfl))) ?_
          refine .cons (fun E hA_ => by have g114 := hA_.get 114 (by decide); exact OpStep.plain rfl (Step.bin (r := .int .i64 ((16 + (i : Int)) - 16)) (t := 115) rfl rfl (by exact lt_ok rfl) (show Env.ev E (.tmp 114) = _ from g114.trans rfl) rfl (Bin.sub (a := (16 + (i : Int))) (b := 16) (by first | exact wrap_ok (by first | omega | (simp; omega) | (simp [w16_len, wN_len]; omega)) (by first | omega | (simp; omega) | (simp [w16_len, wN_len]; omega)) | rfl)))) ?_
          refine .cons (fun E hA_ => by have g7 := hA_.get 7 (by decide); have g115 := hA_.get 115 (by decide); exact OpStep.plain rfl (Step.index_arr (d := (.ints .i64 (wI b i))) (e := 3) (n := 64) (z := 1) (i := ((16 + (i : Int)) - 16)) (t := 116) rfl rfl (by exact lt_ok rfl) (by kernel_rfl) (show Env.ev E (.tmp 7) = _ from g7.trans rfl) (by exact (hA_.row 7 (by kernel_rfl)).trans rfl) (by first | exact hl_ | rfl) rfl (lt_ok rfl) (show Env.ev E (.tmp 115) = _ from g115.trans rfl) (by first | omega | (simp; omega) | (simp [w16_len, wN_len]; omega)) (by first | omega | (simp; omega) | (simp [w16_len, wN_len]; omega)))) ?_
          refine .cons (fun E hA_ => by have g116 := hA_.get 116 (by decide); exact OpStep.plain rfl (Step.load_row (c := .d (.int .i64 ((wI b i).getD ((16 + (i : Int)) - 16).toNat 0))) (t := 117) rfl rfl (by exact lt_ok rfl) (by kernel_rfl) (show Env.ev E (.tmp 116) = _ from g116.trans rfl) (by exact (hA_.row 7 (by kernel_rfl)).trans rfl) rfl)) ?_
          refine .cons (fun E hA_ => by have g14 := hA_.get 14 (by decide); exact OpStep.plain rfl (Step.move (p := (.one (.d (.int .i64 (bxor (bxor (turnW ((wI b i).getD ((16 + (i : Int)) - 15).toNat 0) 7) (turnW ((wI b i).getD ((16 + (i : Int)) - 15).toNat 0) 18)) (bshr ((wI b i).getD ((16 + (i : Int)) - 15).toNat 0) 3)))))) (t := 118) rfl rfl (by exact lt_ok rfl) (show Env.ev E (.tmp 14) = _ from g14.trans rfl))) ?_
          refine .cons (fun E hA_ => by have g117 := hA_.get 117 (by decide); have g118 := hA_.get 118 (by decide); exact OpStep.plain rfl (Step.bin (r := .int .i64 (wadd ((wI b i).getD ((16 + (i : Int)) - 16).toNat 0) (bxor (bxor (turnW ((wI b i).getD ((16 + (i : Int)) - 15).toNat 0) 7) (turnW ((wI b i).getD ((16 + (i : Int)) - 15).toNat 0) 18)) (bshr ((wI b i).getD ((16 + (i : Int)) - 15).toNat 0) 3)))) (t := 119) rfl rfl (by exact lt_ok rfl) (show Env.ev E (.tmp 117) = _ from g117.trans rfl) (show Env.ev E (.tmp 118) = _ from g118.trans rfl) (Bin.add (k := .i64) (a := ((wI b i).getD ((16 + (i : Int)) - 16).toNat 0)) (b := (bxor (bxor (turnW ((wI b i).getD ((16 + (i : Int)) - 15).toNat 0) 7) (turnW ((wI b i).getD ((16 + (i : Int)) - 15).toNat 0) 18)) (bshr ((wI b i).getD ((16 + (i : Int)) - 15).toNat 0) 3))) (rfl)))) ?_
          refine .cons (fun E hA_ => by have g11 := hA_.get 11 (by decide); exact OpStep.plain rfl (Step.move (p := (.one (.d (.int .i64 (16 + (i : Int)))))) (t := 120) rfl rfl (by exact lt_ok rfl) (show Env.ev E (.tmp 11) = _ from g11.trans rfl))) ?_
          refine .cons (fun E hA_ => by have g120 := hA_.get 120 (by decide); exact OpStep.plain rfl (Step.bin (r := .int .i64 ((16 + (i : Int)) - 7)) (t := 121) rfl rfl (by exact lt_ok rfl) (show Env.ev E (.tmp 120) = _ from g120.trans rfl) rfl (Bin.sub (a := (16 + (i : Int))) (b := 7) (by first | exact wrap_ok (by first | omega | (simp; omega) | (simp [w16_len, wN_len]; omega)) (by first | omega | (simp; omega) | (simp [w16_len, wN_len]; omega)) | rfl)))) ?_
          refine .cons (fun E hA_ => by have g7 := hA_.get 7 (by decide); have g121 := hA_.get 121 (by decide); exact OpStep.plain rfl (Step.index_arr (d := (.ints .i64 (wI b i))) (e := 3) (n := 64) (z := 1) (i := ((16 + (i : Int)) - 7)) (t := 122) rfl rfl (by exact lt_ok rfl) (by kernel_rfl) (show Env.ev E (.tmp 7) = _ from g7.trans rfl) (by exact (hA_.row 7 (by kernel_rfl)).trans rfl) (by first | exact hl_ | rfl) rfl (lt_ok rfl) (show Env.ev E (.tmp 121) = _ from g121.trans rfl) (by first | omega | (simp; omega) | (simp [w16_len, wN_len]; omega)) (by first | omega | (simp; omega) | (simp [w16_len, wN_len]; omega)))) ?_
          refine .cons (fun E hA_ => by have g122 := hA_.get 122 (by decide); exact OpStep.plain rfl (Step.load_row (c := .d (.int .i64 ((wI b i).getD ((16 + (i : Int)) - 7).toNat 0))) (t := 123) rfl rfl (by exact lt_ok rfl) (by kernel_rfl) (show Env.ev E (.tmp 122) = _ from g122.trans rfl) (by exact (hA_.row 7 (by kernel_rfl)).trans rfl) rfl)) ?_
          refine .cons (fun E hA_ => by have g119 := hA_.get 119 (by decide); have g123 := hA_.get 123 (by decide); exact OpStep.plain rfl (Step.bin (r := .int .i64 (wadd (wadd ((wI b i).getD ((16 + (i : Int)) - 16).toNat 0) (bxor (bxor (turnW ((wI b i).getD ((16 + (i : Int)) - 15).toNat 0) 7) (turnW ((wI b i).getD ((16 + (i : Int)) - 15).toNat 0) 18)) (bshr ((wI b i).getD ((16 + (i : Int)) - 15).toNat 0) 3))) ((wI b i).getD ((16 + (i : Int)) - 7).toNat 0))) (t := 124) rfl rfl (by exact lt_ok rfl) (show Env.ev E (.tmp 119) = _ from g119.trans rfl) (show Env.ev E (.tmp 123) = _ from g123.trans rfl) (Bin.add (k := .i64) (a := (wadd ((wI b i).getD ((16 + (i : Int)) - 16).toNat 0) (bxor (bxor (turnW ((wI b i).getD ((16 + (i : Int)) - 15).toNat 0) 7) (turnW ((wI b i).getD ((16 + (i : Int)) - 15).toNat 0) 18)) (bshr ((wI b i).getD ((16 + (i : Int)) - 15).toNat 0) 3)))) (b := ((wI b i).getD ((16 + (i : Int)) - 7).toNat 0)) (rfl)))) ?_
          refine .cons (fun E hA_ => by have g15 := hA_.get 15 (by decide); exact OpStep.plain rfl (Step.move (p := (.one (.d (.int .i64 (bxor (bxor (turnW ((wI b i).getD ((16 + (i : Int)) - 2).toNat 0) 17) (turnW ((wI b i).getD ((16 + (i : Int)) - 2).toNat 0) 19)) (bshr ((wI b i).getD ((16 + (i : Int)) - 2).toNat 0) 10)))))) (t := 125) rfl rfl (by exact lt_ok rfl) (show Env.ev E (.tmp 15) = _ from g15.trans rfl))) ?_
          refine .cons (fun E hA_ => by have g124 := hA_.get 124 (by decide); have g125 := hA_.get 125 (by decide); exact OpStep.plain rfl (Step.bin (r := .int .i64 (wadd (wadd (wadd ((wI b i).getD ((16 + (i : Int)) - 16).toNat 0) (bxor (bxor (turnW ((wI b i).getD ((16 + (i : Int)) - 15).toNat 0) 7) (turnW ((wI b i).getD ((16 + (i : Int)) - 15).toNat 0) 18)) (bshr ((wI b i).getD ((16 + (i : Int)) - 15).toNat 0) 3))) ((wI b i).getD ((16 + (i : Int)) - 7).toNat 0)) (bxor (bxor (turnW ((wI b i).getD ((16 + (i : Int)) - 2).toNat 0) 17) (turnW ((wI b i).getD ((16 + (i : Int)) - 2).toNat 0) 19)) (bshr ((wI b i).getD ((16 + (i : Int)) - 2).toNat 0) 10)))) (t := 126) rfl rfl (by exact lt_ok rfl) (show Env.ev E (.tmp 124) = _ from g124.trans rfl) (show Env.ev E (.tmp 125) = _ from g125.trans rfl) (Bin.add (k := .i64) (a := (wadd (wadd ((wI b i).getD ((16 + (i : Int)) - 16).toNat 0) (bxor (bxor (turnW ((wI b i).getD ((16 + (i : Int)) - 15).toNat 0) 7) (turnW ((wI b i).getD ((16 + (i : Int)) - 15).toNat 0) 18)) (bshr ((wI b i).getD ((16 + (i : Int)) - 15).toNat 0) 3))) ((wI b i).getD ((16 + (i : Int)) - 7).toNat 0))) (b := (bxor (bxor (turnW ((wI b i).getD ((16 + (i : Int)) - 2).toNat 0) 17) (turnW ((wI b i).getD ((16 + (i : Int)) - 2).toNat 0) 19)) (bshr ((wI b i).getD ((16 + (i : Int)) - 2).toNat 0) 10))) (rfl)))) ?_
          refine .cons (fun E hA_ => by have g126 := hA_.get 126 (by decide); exact OpStep.plain rfl (Step.bin (r := .int .i64 (band (wadd (wadd (wadd ((wI b i).getD ((16 + (i : Int)) - 16).toNat 0) (bxor (bxor (turnW ((wI b i).getD ((16 + (i : Int)) - 15).toNat 0) 7) (turnW ((wI b i).getD ((16 + (i : Int)) - 15).toNat 0) 18)) (bshr ((wI b i).getD ((16 + (i : Int)) - 15).toNat 0) 3))) ((wI b i).getD ((16 + (i : Int)) - 7).toNat 0)) (bxor (bxor (turnW ((wI b i).getD ((16 + (i : Int)) - 2).toNat 0) 17) (turnW ((wI b i).getD ((16 + (i : Int)) - 2).toNat 0) 19)) (bshr ((wI b i).getD ((16 + (i : Int)) - 2).toNat 0) 10))) 4294967295)) (t := 127) rfl rfl (by exact lt_ok rfl) (show Env.ev E (.tmp 126) = _ from g126.trans rfl) rfl (Bin.and (k := .i64) (a := (wadd (wadd (wadd ((wI b i).getD ((16 + (i : Int)) - 16).toNat 0) (bxor (bxor (turnW ((wI b i).getD ((16 + (i : Int)) - 15).toNat 0) 7) (turnW ((wI b i).getD ((16 + (i : Int)) - 15).toNat 0) 18)) (bshr ((wI b i).getD ((16 + (i : Int)) - 15).toNat 0) 3))) ((wI b i).getD ((16 + (i : Int)) - 7).toNat 0)) (bxor (bxor (turnW ((wI b i).getD ((16 + (i : Int)) - 2).toNat 0) 17) (turnW ((wI b i).getD ((16 + (i : Int)) - 2).toNat 0) 19)) (bshr ((wI b i).getD ((16 + (i : Int)) - 2).toNat 0) 10)))) (b := 4294967295) (rfl)))) ?_
          refine .cons (fun E hA_ => by have g7 := hA_.get 7 (by decide); have g113 := hA_.get 113 (by decide); exact OpStep.plain rfl (Step.index_arr (d := (.ints .i64 (wI b i))) (e := 3) (n := 64) (z := 1) (i := (16 + (i : Int))) (t := 128) rfl rfl (by exact lt_ok rfl) (by kernel_rfl) (show Env.ev E (.tmp 7) = _ from g7.trans rfl) (by exact (hA_.row 7 (by kernel_rfl)).trans rfl) (by first | exact hl_ | rfl) rfl (lt_ok rfl) (show Env.ev E (.tmp 113) = _ from g113.trans rfl) (by first | omega | (simp; omega) | (simp [w16_len, wN_len]; omega)) (by first | omega | (simp; omega) | (simp [w16_len, wN_len]; omega)))) ?_
          exact .nil _ _
         refine TL.cons rfl (Step.store_row (n := 1) (p := (.one (.d (.int .i64 (band (wadd (wadd (wadd ((wI b i).getD ((16 + (i : Int)) - 16).toNat 0) (bxor (bxor (turnW ((wI b i).getD ((16 + (i : Int)) - 15).toNat 0) 7) (turnW ((wI b i).getD ((16 + (i : Int)) - 15).toNat 0) 18)) (bshr ((wI b i).getD ((16 + (i : Int)) - 15).toNat 0) 3))) ((wI b i).getD ((16 + (i : Int)) - 7).toNat 0)) (bxor (bxor (turnW ((wI b i).getD ((16 + (i : Int)) - 2).toNat 0) 17) (turnW ((wI b i).getD ((16 + (i : Int)) - 2).toNat 0) 19)) (bshr ((wI b i).getD ((16 + (i : Int)) - 2).toNat 0) 10))) 4294967295))))) (ps := [.d (.int .i64 (band (wadd (wadd (wadd ((wI b i).getD ((16 + (i : Int)) - 16).toNat 0) (bxor (bxor (turnW ((wI b i).getD ((16 + (i : Int)) - 15).toNat 0) 7) (turnW ((wI b i).getD ((16 + (i : Int)) - 15).toNat 0) 18)) (bshr ((wI b i).getD ((16 + (i : Int)) - 15).toNat 0) 3))) ((wI b i).getD ((16 + (i : Int)) - 7).toNat 0)) (bxor (bxor (turnW ((wI b i).getD ((16 + (i : Int)) - 2).toNat 0) 17) (turnW ((wI b i).getD ((16 + (i : Int)) - 2).toNat 0) 19)) (bshr ((wI b i).getD ((16 + (i : Int)) - 2).toNat 0) 10))) 4294967295))]) (es := [(.int .i64 (band (wadd (wadd (wadd ((wI b i).getD ((16 + (i : Int)) - 16).toNat 0) (bxor (bxor (turnW ((wI b i).getD ((16 + (i : Int)) - 15).toNat 0) 7) (turnW ((wI b i).getD ((16 + (i : Int)) - 15).toNat 0) 18)) (bshr ((wI b i).getD ((16 + (i : Int)) - 15).toNat 0) 3))) ((wI b i).getD ((16 + (i : Int)) - 7).toNat 0)) (bxor (bxor (turnW ((wI b i).getD ((16 + (i : Int)) - 2).toNat 0) 17) (turnW ((wI b i).getD ((16 + (i : Int)) - 2).toNat 0) 19)) (bshr ((wI b i).getD ((16 + (i : Int)) - 2).toNat 0) 10))) 4294967295))]) (ss := []) (d1 := (.ints .i64 ((wI b i).set (16 + (i : Int)).toNat (band (wadd (wadd (wadd ((wI b i).getD ((16 + (i : Int)) - 16).toNat 0) (bxor (bxor (turnW ((wI b i).getD ((16 + (i : Int)) - 15).toNat 0) 7) (turnW ((wI b i).getD ((16 + (i : Int)) - 15).toNat 0) 18)) (bshr ((wI b i).getD ((16 + (i : Int)) - 15).toNat 0) 3))) ((wI b i).getD ((16 + (i : Int)) - 7).toNat 0)) (bxor (bxor (turnW ((wI b i).getD ((16 + (i : Int)) - 2).toNat 0) 17) (turnW ((wI b i).getD ((16 + (i : Int)) - 2).toNat 0) 19)) (bshr ((wI b i).getD ((16 + (i : Int)) - 2).toNat 0) 10))) 4294967295)))) (d' := (.ints .i64 ((wI b i).set (16 + (i : Int)).toNat (band (wadd (wadd (wadd ((wI b i).getD ((16 + (i : Int)) - 16).toNat 0) (bxor (bxor (turnW ((wI b i).getD ((16 + (i : Int)) - 15).toNat 0) 7) (turnW ((wI b i).getD ((16 + (i : Int)) - 15).toNat 0) 18)) (bshr ((wI b i).getD ((16 + (i : Int)) - 15).toNat 0) 3))) ((wI b i).getD ((16 + (i : Int)) - 7).toNat 0)) (bxor (bxor (turnW ((wI b i).getD ((16 + (i : Int)) - 2).toNat 0) 17) (turnW ((wI b i).getD ((16 + (i : Int)) - 2).toNat 0) 19)) (bshr ((wI b i).getD ((16 + (i : Int)) - 2).toNat 0) 10))) 4294967295)))) rfl rfl (by kernel_rfl) rfl rfl rfl rfl rfl rfl (.val rfl .nil) (by simp) (Putd.one rfl trivial rfl (by simp only [D.at_, D.size, List.length_set, upTo_length]; first | omega | (simp; omega) | (simp [w16_len, wN_len]; omega)) (lt_ok rfl)) rfl) ?_
         refine TL.nil ?_
         refine T.region ?_
         refine TL.cons rfl (Step.move (p := (.one (.d (.int .i64 (16 + (i : Int)))))) rfl rfl (lt_ok rfl) rfl) ?_
         refine TL.cons rfl (Step.bin (r := .int .i64 ((16 + (i : Int)) + 1)) rfl rfl (lt_ok rfl) rfl rfl (Bin.add (a := (16 + (i : Int))) (b := 1) (by first | exact wrap_ok (by first | omega | (simp; omega) | (simp [w16_len, wN_len]; omega)) (by first | omega | (simp; omega) | (simp [w16_len, wN_len]; omega)) | rfl))) ?_
         refine TL.cons rfl (Step.assign (p := (.one (.d (.int .i64 ((16 + (i : Int)) + 1))))) rfl rfl (lt_ok rfl) rfl) ?_
         refine TL.nil ?_
         refine ⟨i + 1, by omega, by first | omega | (dsimp only; omega), Env.le_mk ⟨rfl, rfl, rfl, rfl, ?_, trivial⟩ ⟨rfl, ?_, rfl, trivial⟩ trivial⟩ <;> (first | exact congrArg (fun x => some (_, D.ints .i64 x)) ((congrArg (aI b) (show i = 16 by omega)).trans (wI_zero b)) | exact congrArg (fun x => some (_, D.ints .i64 x)) (wI_set b (by omega)) | rfl | (refine congrArg (fun x => some (_, D.ints .i64 x)) ?_; first | rfl | fail) | (refine congrArg (fun n => PV.one (.d (.int .i64 n))) ?_; first | rfl | omega | (simp; done)))
        ·
         replace h7 := of_decide_eq_false h7
         refine T.exit ?_
         refine T.seq ?_
         refine T.region ?_
         refine TL.copyArr (e := 3) (n := 8) (t1 := 129) (t2 := 130) (t3 := 131) (r := 9) (xs := [0, 0, 0, 0, 0, 0, 0, 0]) (ys := h) rfl rfl rfl rfl rfl (lt_ok rfl) rfl rfl (lt_ok rfl) rfl rfl (lt_ok rfl) (by kernel_rfl) (by kernel_rfl) (by decide) rfl rfl (by first | exact hvl_ | exact hvl_.symm | rfl | (simp; done)) rfl (by first | omega | (simp; omega) | (simp [w16_len, wN_len]; omega)) (by decide) ?_
         refine TL.nil ?_
         refine T.seq ?_
         refine T.seq ?_
         refine T.region ?_
         refine TL.cons rfl (Step.move (p := (.one (.d (.int .i64 0)))) rfl rfl (lt_ok rfl) rfl) ?_
         refine TL.nil ?_
         refine T.block ?_
         refine T.loop (ι := Nat) (fun xx_ => { tm := [(0, (.one (.d (.ints .i64 h)))), (7, (.one (.rptr 7 [] 0 0))), (9, (.one (.rptr 9 [] 0 0))), (8, (.one (.row 1044 []))), (132, (.one (.d (.int .i64 (xx_ : Int)))))], rows := [(1044, (3, (.ints .i64 shaK))), (7, (107, (.ints .i64 (wI b 48)))), (9, (108, (.ints .i64 (vN h (wN b 48) xx_))))], boxes := [] }) (fun xx_ => xx_ ≤ 64) (fun xx_ => 64 - xx_) 0 ?_ ?_ ?_
         · refine Env.le_mk ⟨rfl, rfl, rfl, rfl, ?_, trivial⟩ ⟨rfl, ?_, ?_, trivial⟩ trivial <;> (first | exact congrArg (fun x => some (_, D.ints .i64 (wI b x))) (show i = 48 by omega) | exact congrArg (fun x => some (_, D.ints .i64 x)) ((stepI_eq (hV_ 4)).trans (congrArg (stepV _ _) (hwq_ _))) | rfl | (refine congrArg (fun x => some (_, D.ints .i64 x)) ?_; first | rfl | fail) | (refine congrArg (fun n => PV.one (.d (.int .i64 n))) ?_; first | rfl | omega | (simp; done)))
         · exact Nat.zero_le _
         ·
          intro i hx
          try dsimp only at hx ⊢
          have hl_ := wI_len b (i := 48) (by omega)
          have hvl_ := vN_len (h := h) (w := wN b 48) (by omega) i
          have hkl_ : shaK.length = 64 := rfl
          have hV_ := vN_W (h := h) (w := wN b 48) hwo_ i
          have hwq_ : ∀ q, (wI b 48).getD q 0 = (wN b 48).getD q 0 := fun q => by rw [wI_all]
          refine T.seq ?_
          refine T.region ?_
          refine TL.cons rfl (Step.bin rfl rfl (lt_ok rfl) rfl rfl (Bin.lss (k := .i64) (a := (i : Int)) (b := 64))) ?_
          refine TL.nil ?_
          refine T.seq ?_
          refine T.cond (b := decide ((i : Int) < 64)) rfl (fun h8 => ?_) (fun h8 => ?_)
          ·
           replace h8 := of_decide_eq_true h8
           refine T.skip ?_
           refine T.seq ?_
           refine T.block ?_
           refine T.seq ?_
           refine T.region ?_
           refine TL.cons rfl (Step.move (p := (.one (.d (.int .i64 (i : Int))))) rfl rfl (lt_ok rfl) rfl) ?_
           refine TL.cons rfl (Step.assign (p := (.one (.d (.int .i64 (i : Int))))) rfl rfl (lt_ok rfl) rfl) ?_
           refine TL.nil ?_
           refine T.seq ?_
           refine T.draw [⟨135, (.one (.rptr 9 [] 4 0)), []⟩, ⟨136, (.one (.d (.int .i64 ((vN h (wN b 48) i).getD 4 0)))), []⟩, ⟨137, (.one (.rptr 9 [] 0 0)), []⟩, ⟨138, (.one (.d (.int .i64 ((vN h (wN b 48) i).getD 0 0)))), []⟩, ⟨17, (.one (.d (.int .i64 ((vN h (wN b 48) i).getD 4 0)))), []⟩, ⟨18, (.one (.d (.int .i64 ((vN h (wN b 48) i).getD 0 0)))), []⟩] (by kernel_rfl) (by kernel_rfl) ?_ ?_
           ·
            refine .cons (fun E hA_ => by have g9 := hA_.get 9 (by decide); exact OpStep.plain rfl (Step.index_arr (d := (.ints .i64 (vN h (wN b 48) i))) (e := 3) (n := 8) (z := 1) (i := 4) (t := 135) rfl rfl (by exact lt_ok rfl) (by kernel_rfl) (show Env.ev E (.tmp 9) = _ from g9.trans rfl) (by exact (hA_.row 9 (by kernel_rfl)).trans rfl) (by first | exact hvl_ | exact hvl_.symm | rfl | (simp; done)) rfl (lt_ok rfl) rfl (by first | omega | (simp; omega) | (simp [w16_len, wN_len]; omega)) (by first | omega | (simp; omega) | (simp [w16_len, wN_len]; omega)))) ?_
            refine .cons (fun E hA_ => by have g135 := hA_.get 135 (by decide); exact OpStep.plain rfl (Step.load_row (c := .d (.int .i64 ((vN h (wN b 48) i).getD 4 0))) (t := 136) rfl rfl (by exact lt_ok rfl) (by kernel_rfl) (show Env.ev E (.tmp 135) = _ from g135.trans rfl) (by exact (hA_.row 9 (by kernel_rfl)).trans rfl) rfl)) ?_
            refine .cons (fun E hA_ => by have g9 := hA_.get 9 (by decide); exact OpStep.plain rfl (Step.index_arr (d := (.ints .i64 (vN h (wN b 48) i))) (e := 3) (n := 8) (z := 1) (i := 0) (t := 137) rfl rfl (by exact lt_ok rfl) (by kernel_rfl) (show Env.ev E (.tmp 9) = _ from g9.trans rfl) (by exact (hA_.row 9 (by kernel_rfl)).trans rfl) (by first | exact hvl_ | exact hvl_.symm | rfl | (simp; done)) rfl (lt_ok rfl) rfl (by first | omega | (simp; omega) | (simp [w16_len, wN_len]; omega)) (by first | omega | (simp; omega) | (simp [w16_len, wN_len]; omega)))) ?_
            refine .cons (fun E hA_ => by have g137 := hA_.get 137 (by decide); exact OpStep.plain rfl (Step.load_row (c := .d (.int .i64 ((vN h (wN b 48) i).getD 0 0))) (t := 138) rfl rfl (by exact lt_ok rfl) (by kernel_rfl) (show Env.ev E (.tmp 137) = _ from g137.trans rfl) (by exact (hA_.row 9 (by kernel_rfl)).trans rfl) rfl)) ?_
            refine .cons (fun E hA_ => by have g136 := hA_.get 136 (by decide); exact OpStep.plain rfl (Step.assign (p := (.one (.d (.int .i64 ((vN h (wN b 48) i).getD 4 0))))) (t := 17) rfl rfl (by exact lt_ok rfl) (show Env.ev E (.tmp 136) = _ from g136.trans rfl))) ?_
            refine .cons (fun E hA_ => by have g138 := hA_.get 138 (by decide); exact OpStep.plain rfl (Step.assign (p := (.one (.d (.int .i64 ((vN h (wN b 48) i).getD 0 0))))) (t := 18) rfl rfl (by exact lt_ok rfl) (show Env.ev E (.tmp 138) = _ from g138.trans rfl))) ?_
            exact .nil _ _
           refine TL.nil ?_
           refine T.seq ?_
           refine T.region ?_
           refine TL.cons rfl (Step.move (p := (.one (.d (.int .i64 ((vN h (wN b 48) i).getD 4 0))))) rfl rfl (lt_ok rfl) rfl) ?_
           refine TL.cons rfl (Step.index_arr (d := (.ints .i64 (vN h (wN b 48) i))) (e := 3) (n := 8) (z := 1) (i := 5) rfl rfl (lt_ok rfl) (by kernel_rfl) rfl rfl (by first | exact hvl_ | exact hvl_.symm | rfl | (simp; done)) rfl (lt_ok rfl) rfl (by first | omega | (simp; omega) | (simp [w16_len, wN_len]; omega)) (by first | omega | (simp; omega) | (simp [w16_len, wN_len]; omega))) ?_
           refine TL.cons rfl (Step.load_row (c := .d (.int .i64 ((vN h (wN b 48) i).getD 5 0))) rfl rfl (lt_ok rfl) (by kernel_rfl) rfl rfl rfl) ?_
           refine TL.cons rfl (Step.bin (r := .int .i64 (band ((vN h (wN b 48) i).getD 4 0) ((vN h (wN b 48) i).getD 5 0))) rfl rfl (lt_ok rfl) rfl rfl (Bin.and (k := .i64) (a := ((vN h (wN b 48) i).getD 4 0)) (b := ((vN h (wN b 48) i).getD 5 0)) (rfl))) ?_
           refine TL.cons rfl (Step.move (p := (.one (.d (.int .i64 ((vN h (wN b 48) i).getD 4 0))))) rfl rfl (lt_ok rfl) rfl) ?_
           refine TL.cons rfl (Step.bin (r := .int .i64 (bxor ((vN h (wN b 48) i).getD 4 0) 4294967295)) rfl rfl (lt_ok rfl) rfl rfl (Bin.xor (k := .i64) (a := ((vN h (wN b 48) i).getD 4 0)) (b := 4294967295) (rfl))) ?_
           refine TL.cons rfl (Step.index_arr (d := (.ints .i64 (vN h (wN b 48) i))) (e := 3) (n := 8) (z := 1) (i := 6) rfl rfl (lt_ok rfl) (by kernel_rfl) rfl rfl (by first | exact hvl_ | exact hvl_.symm | rfl | (simp; done)) rfl (lt_ok rfl) rfl (by first | omega | (simp; omega) | (simp [w16_len, wN_len]; omega)) (by first | omega | (simp; omega) | (simp [w16_len, wN_len]; omega))) ?_
           refine TL.cons rfl (Step.load_row (c := .d (.int .i64 ((vN h (wN b 48) i).getD 6 0))) rfl rfl (lt_ok rfl) (by kernel_rfl) rfl rfl rfl) ?_
           refine TL.cons rfl (Step.bin (r := .int .i64 (band (bxor ((vN h (wN b 48) i).getD 4 0) 4294967295) ((vN h (wN b 48) i).getD 6 0))) rfl rfl (lt_ok rfl) rfl rfl (Bin.and (k := .i64) (a := (bxor ((vN h (wN b 48) i).getD 4 0) 4294967295)) (b := ((vN h (wN b 48) i).getD 6 0)) (rfl))) ?_
           refine TL.cons rfl (Step.bin (r := .int .i64 (bor (band ((vN h (wN b 48) i).getD 4 0) ((vN h (wN b 48) i).getD 5 0)) (band (bxor ((vN h (wN b 48) i).getD 4 0) 4294967295) ((vN h (wN b 48) i).getD 6 0)))) rfl rfl (lt_ok rfl) rfl rfl (Bin.or (k := .i64) (a := (band ((vN h (wN b 48) i).getD 4 0) ((vN h (wN b 48) i).getD 5 0))) (b := (band (bxor ((vN h (wN b 48) i).getD 4 0) 4294967295) ((vN h (wN b 48) i).getD 6 0))) (rfl))) ?_
           refine TL.cons rfl (Step.assign (p := (.one (.d (.int .i64 (bor (band ((vN h (wN b 48) i).getD 4 0) ((vN h (wN b 48) i).getD 5 0)) (band (bxor ((vN h (wN b 48) i).getD 4 0) 4294967295) ((vN h (wN b 48) i).getD 6 0))))))) rfl rfl (lt_ok rfl) rfl) ?_
           refine TL.nil ?_
           refine T.seq ?_
           refine T.region ?_
           refine TL.cons rfl (Step.move (p := (.one (.d (.int .i64 ((vN h (wN b 48) i).getD 0 0))))) rfl rfl (lt_ok rfl) rfl) ?_
           refine TL.cons rfl (Step.index_arr (d := (.ints .i64 (vN h (wN b 48) i))) (e := 3) (n := 8) (z := 1) (i := 1) rfl rfl (lt_ok rfl) (by kernel_rfl) rfl rfl (by first | exact hvl_ | exact hvl_.symm | rfl | (simp; done)) rfl (lt_ok rfl) rfl (by first | omega | (simp; omega) | (simp [w16_len, wN_len]; omega)) (by first | omega | (simp; omega) | (simp [w16_len, wN_len]; omega))) ?_
           refine TL.cons rfl (Step.load_row (c := .d (.int .i64 ((vN h (wN b 48) i).getD 1 0))) rfl rfl (lt_ok rfl) (by kernel_rfl) rfl rfl rfl) ?_
           refine TL.cons rfl (Step.bin (r := .int .i64 (band ((vN h (wN b 48) i).getD 0 0) ((vN h (wN b 48) i).getD 1 0))) rfl rfl (lt_ok rfl) rfl rfl (Bin.and (k := .i64) (a := ((vN h (wN b 48) i).getD 0 0)) (b := ((vN h (wN b 48) i).getD 1 0)) (rfl))) ?_
           refine TL.cons rfl (Step.move (p := (.one (.d (.int .i64 ((vN h (wN b 48) i).getD 0 0))))) rfl rfl (lt_ok rfl) rfl) ?_
           refine TL.cons rfl (Step.index_arr (d := (.ints .i64 (vN h (wN b 48) i))) (e := 3) (n := 8) (z := 1) (i := 2) rfl rfl (lt_ok rfl) (by kernel_rfl) rfl rfl (by first | exact hvl_ | exact hvl_.symm | rfl | (simp; done)) rfl (lt_ok rfl) rfl (by first | omega | (simp; omega) | (simp [w16_len, wN_len]; omega)) (by first | omega | (simp; omega) | (simp [w16_len, wN_len]; omega))) ?_
           refine TL.cons rfl (Step.load_row (c := .d (.int .i64 ((vN h (wN b 48) i).getD 2 0))) rfl rfl (lt_ok rfl) (by kernel_rfl) rfl rfl rfl) ?_
           refine TL.cons rfl (Step.bin (r := .int .i64 (band ((vN h (wN b 48) i).getD 0 0) ((vN h (wN b 48) i).getD 2 0))) rfl rfl (lt_ok rfl) rfl rfl (Bin.and (k := .i64) (a := ((vN h (wN b 48) i).getD 0 0)) (b := ((vN h (wN b 48) i).getD 2 0)) (rfl))) ?_
           refine TL.cons rfl (Step.bin (r := .int .i64 (bor (band ((vN h (wN b 48) i).getD 0 0) ((vN h (wN b 48) i).getD 1 0)) (band ((vN h (wN b 48) i).getD 0 0) ((vN h (wN b 48) i).getD 2 0)))) rfl rfl (lt_ok rfl) rfl rfl (Bin.or (k := .i64) (a := (band ((vN h (wN b 48) i).getD 0 0) ((vN h (wN b 48) i).getD 1 0))) (b := (band ((vN h (wN b 48) i).getD 0 0) ((vN h (wN b 48) i).getD 2 0))) (rfl))) ?_
           refine TL.cons rfl (Step.index_arr (d := (.ints .i64 (vN h (wN b 48) i))) (e := 3) (n := 8) (z := 1) (i := 1) rfl rfl (lt_ok rfl) (by kernel_rfl) rfl rfl (by first | exact hvl_ | exact hvl_.symm | rfl | (simp; done)) rfl (lt_ok rfl) rfl (by first | omega | (simp; omega) | (simp [w16_len, wN_len]; omega)) (by first | omega | (simp; omega) | (simp [w16_len, wN_len]; omega))) ?_
           refine TL.cons rfl (Step.load_row (c := .d (.int .i64 ((vN h (wN b 48) i).getD 1 0))) rfl rfl (lt_ok rfl) (by kernel_rfl) rfl rfl rfl) ?_
           refine TL.cons rfl (Step.index_arr (d := (.ints .i64 (vN h (wN b 48) i))) (e := 3) (n := 8) (z := 1) (i := 2) rfl rfl (lt_ok rfl) (by kernel_rfl) rfl rfl (by first | exact hvl_ | exact hvl_.symm | rfl | (simp; done)) rfl (lt_ok rfl) rfl (by first | omega | (simp; omega) | (simp [w16_len, wN_len]; omega)) (by first | omega | (simp; omega) | (simp [w16_len, wN_len]; omega))) ?_
           refine TL.cons rfl (Step.load_row (c := .d (.int .i64 ((vN h (wN b 48) i).getD 2 0))) rfl rfl (lt_ok rfl) (by kernel_rfl) rfl rfl rfl) ?_
           refine TL.cons rfl (Step.bin (r := .int .i64 (band ((vN h (wN b 48) i).getD 1 0) ((vN h (wN b 48) i).getD 2 0))) rfl rfl (lt_ok rfl) rfl rfl (Bin.and (k := .i64) (a := ((vN h (wN b 48) i).getD 1 0)) (b := ((vN h (wN b 48) i).getD 2 0)) (rfl))) ?_
           refine TL.cons rfl (Step.bin (r := .int .i64 (bor (bor (band ((vN h (wN b 48) i).getD 0 0) ((vN h (wN b 48) i).getD 1 0)) (band ((vN h (wN b 48) i).getD 0 0) ((vN h (wN b 48) i).getD 2 0))) (band ((vN h (wN b 48) i).getD 1 0) ((vN h (wN b 48) i).getD 2 0)))) rfl rfl (lt_ok rfl) rfl rfl (Bin.or (k := .i64) (a := (bor (band ((vN h (wN b 48) i).getD 0 0) ((vN h (wN b 48) i).getD 1 0)) (band ((vN h (wN b 48) i).getD 0 0) ((vN h (wN b 48) i).getD 2 0)))) (b := (band ((vN h (wN b 48) i).getD 1 0) ((vN h (wN b 48) i).getD 2 0))) (rfl))) ?_
           refine TL.cons rfl (Step.assign (p := (.one (.d (.int .i64 (bor (bor (band ((vN h (wN b 48) i).getD 0 0) ((vN h (wN b 48) i).getD 1 0)) (band ((vN h (wN b 48) i).getD 0 0) ((vN h (wN b 48) i).getD 2 0))) (band ((vN h (wN b 48) i).getD 1 0) ((vN h (wN b 48) i).getD 2 0))))))) rfl rfl (lt_ok rfl) rfl) ?_
           refine TL.nil ?_
           refine T.seq ?_
           refine T.draw [⟨164, (.one (.rptr 9 [] 7 0)), []⟩, ⟨165, (.one (.d (.int .i64 ((vN h (wN b 48) i).getD 7 0)))), []⟩, ⟨166, (.one (.d (.int .i64 ((vN h (wN b 48) i).getD 4 0)))), []⟩, ⟨167, (.one (.d (.int .i64 (turnW ((vN h (wN b 48) i).getD 4 0) 6)))), []⟩, ⟨168, (.one (.d (.int .i64 ((vN h (wN b 48) i).getD 4 0)))), []⟩, ⟨169, (.one (.d (.int .i64 (turnW ((vN h (wN b 48) i).getD 4 0) 11)))), []⟩, ⟨170, (.one (.d (.int .i64 (bxor (turnW ((vN h (wN b 48) i).getD 4 0) 6) (turnW ((vN h (wN b 48) i).getD 4 0) 11))))), []⟩, ⟨171, (.one (.d (.int .i64 ((vN h (wN b 48) i).getD 4 0)))), []⟩, ⟨172, (.one (.d (.int .i64 (turnW ((vN h (wN b 48) i).getD 4 0) 25)))), []⟩, ⟨173, (.one (.d (.int .i64 (bxor (bxor (turnW ((vN h (wN b 48) i).getD 4 0) 6) (turnW ((vN h (wN b 48) i).getD 4 0) 11)) (turnW ((vN h (wN b 48) i).getD 4 0) 25))))), []⟩, ⟨174, (.one (.d (.int .i64 (wadd ((vN h (wN b 48) i).getD 7 0) (bxor (bxor (turnW ((vN h (wN b 48) i).getD 4 0) 6) (turnW ((vN h (wN b 48) i).getD 4 0) 11)) (turnW ((vN h (wN b 48) i).getD 4 0) 25)))))), []⟩, ⟨175, (.one (.d (.int .i64 (bor (band ((vN h (wN b 48) i).getD 4 0) ((vN h (wN b 48) i).getD 5 0)) (band (bxor ((vN h (wN b 48) i).getD 4 0) 4294967295) ((vN h (wN b 48) i).getD 6 0)))))), []⟩, ⟨176, (.one (.d (.int .i64 (wadd (wadd ((vN h (wN b 48) i).getD 7 0) (bxor (bxor (turnW ((vN h (wN b 48) i).getD 4 0) 6) (turnW ((vN h (wN b 48) i).getD 4 0) 11)) (turnW ((vN h (wN b 48) i).getD 4 0) 25))) (bor (band ((vN h (wN b 48) i).getD 4 0) ((vN h (wN b 48) i).getD 5 0)) (band (bxor ((vN h (wN b 48) i).getD 4 0) 4294967295) ((vN h (wN b 48) i).getD 6 0))))))), []⟩, ⟨177, (.one (.row 1044 [])), []⟩, ⟨178, (.one (.d (.int .i64 (i : Int)))), []⟩, ⟨179, (.one (.rptr 1044 [] i 0)), []⟩, ⟨180, (.one (.d (.int .i64 (shaK.getD i 0)))), []⟩, ⟨181, (.one (.d (.int .i64 (wadd (wadd (wadd ((vN h (wN b 48) i).getD 7 0) (bxor (bxor (turnW ((vN h (wN b 48) i).getD 4 0) 6) (turnW ((vN h (wN b 48) i).getD 4 0) 11)) (turnW ((vN h (wN b 48) i).getD 4 0) 25))) (bor (band ((vN h (wN b 48) i).getD 4 0) ((vN h (wN b 48) i).getD 5 0)) (band (bxor ((vN h (wN b 48) i).getD 4 0) 4294967295) ((vN h (wN b 48) i).getD 6 0)))) (shaK.getD i 0))))), []⟩, ⟨182, (.one (.d (.int .i64 (i : Int)))), []⟩, ⟨183, (.one (.rptr 7 [] i 0)), []⟩, ⟨184, (.one (.d (.int .i64 ((wI b 48).getD i 0)))), []⟩, ⟨185, (.one (.d (.int .i64 (wadd (wadd (wadd (wadd ((vN h (wN b 48) i).getD 7 0) (bxor (bxor (turnW ((vN h (wN b 48) i).getD 4 0) 6) (turnW ((vN h (wN b 48) i).getD 4 0) 11)) (turnW ((vN h (wN b 48) i).getD 4 0) 25))) (bor (band ((vN h (wN b 48) i).getD 4 0) ((vN h (wN b 48) i).getD 5 0)) (band (bxor ((vN h (wN b 48) i).getD 4 0) 4294967295) ((vN h (wN b 48) i).getD 6 0)))) (shaK.getD i 0)) ((wI b 48).getD i 0))))), []⟩, ⟨21, (.one (.d (.int .i64 (wadd (wadd (wadd (wadd ((vN h (wN b 48) i).getD 7 0) (bxor (bxor (turnW ((vN h (wN b 48) i).getD 4 0) 6) (turnW ((vN h (wN b 48) i).getD 4 0) 11)) (turnW ((vN h (wN b 48) i).getD 4 0) 25))) (bor (band ((vN h (wN b 48) i).getD 4 0) ((vN h (wN b 48) i).getD 5 0)) (band (bxor ((vN h (wN b 48) i).getD 4 0) 4294967295) ((vN h (wN b 48) i).getD 6 0)))) (shaK.getD i 0)) ((wI b 48).getD i 0))))), []⟩] (by kernel_rfl) (by kernel_rfl) ?_ ?_
           ·
            refine .cons (fun E hA_ => by have g9 := hA_.get 9 (by decide); exact OpStep.plain rfl (Step.index_arr (d := (.ints .i64 (vN h (wN b 48) i))) (e := 3) (n := 8) (z := 1) (i := 7) (t := 164) rfl rfl (by exact lt_ok rfl) (by kernel_rfl) (show Env.ev E (.tmp 9) = _ from g9.trans rfl) (by exact (hA_.row 9 (by kernel_rfl)).trans rfl) (by first | exact hvl_ | exact hvl_.symm | rfl | (simp; done)) rfl (lt_ok rfl) rfl (by first | omega | (simp; omega) | (simp [w16_len, wN_len]; omega)) (by first | omega | (simp; omega) | (simp [w16_len, wN_len]; omega)))) ?_
            refine .cons (fun E hA_ => by have g164 := hA_.get 164 (by decide); exact OpStep.plain rfl (Step.load_row (c := .d (.int .i64 ((vN h (wN b 48) i).getD 7 0))) (t := 165) rfl rfl (by exact lt_ok rfl) (by kernel_rfl) (show Env.ev E (.tmp 164) = _ from g164.trans rfl) (by exact (hA_.row 9 (by kernel_rfl)).trans rfl) rfl)) ?_
            refine .cons (fun E hA_ => by have g17 := hA_.get 17 (by decide); exact OpStep.plain rfl (Step.move (p := (.one (.d (.int .i64 ((vN h (wN b 48) i).getD 4 0))))) (t := 166) rfl rfl (by exact lt_ok rfl) (show Env.ev E (.tmp 17) = _ from g17.trans rfl))) ?_
            refine .cons (fun E hA_ => by have g166 := hA_.get 166 (by decide); exact OpStep.plain rfl (Step.call (f := 106) (xs := [.tmp 166, .const (.int .i64 6)]) (ps := [(.one (.d (.int .i64 ((vN h (wN b 48) i).getD 4 0)))), (.one (.d (.int .i64 6)))]) false (g := .func 106) (t := 167) rfl rfl (by exact lt_ok rfl) rfl (by kernel_rfl) (evs_cons (show Env.ev E (.tmp 166) = _ from g166.trans rfl) (evs_cons rfl (rfl))) (.cons (.one (.d _)) (.cons (.one (.d _)) .nil)) (ok_impl_TurnRight ((vN h (wN b 48) i).getD 4 0) 6 (by first | assumption | exact hW_ _ | exact hV_ _ | omega) (by first | omega | decide)) (.inr rfl) (At.freshRows hA_ rfl) (by simp) rfl)) ?_
            refine .cons (fun E hA_ => by have g17 := hA_.get 17 (by decide); exact OpStep.plain rfl (Step.move (p := (.one (.d (.int .i64 ((vN h (wN b 48) i).getD 4 0))))) (t := 168) rfl rfl (by exact lt_ok rfl) (show Env.ev E (.tmp 17) = _ from g17.trans rfl))) ?_
            refine .cons (fun E hA_ => by have g168 := hA_.get 168 (by decide); exact OpStep.plain rfl (Step.call (f := 106) (xs := [.tmp 168, .const (.int .i64 11)]) (ps := [(.one (.d (.int .i64 ((vN h (wN b 48) i).getD 4 0)))), (.one (.d (.int .i64 11)))]) false (g := .func 106) (t := 169) rfl rfl (by exact lt_ok rfl) rfl (by kernel_rfl) (evs_cons (show Env.ev E (.tmp 168) = _ from g168.trans rfl) (evs_cons rfl (rfl))) (.cons (.one (.d _)) (.cons (.one (.d _)) .nil)) (ok_impl_TurnRight ((vN h (wN b 48) i).getD 4 0) 11 (by first | assumption | exact hW_ _ | exact hV_ _ | omega) (by first | omega | decide)) (.inr rfl) (At.freshRows hA_ rfl) (by simp) rfl)) ?_
            refine .cons (fun E hA_ => by have g167 := hA_.get 167 (by decide); have g169 := hA_.get 169 (by decide); exact OpStep.plain rfl (Step.bin (r := .int .i64 (bxor (turnW ((vN h (wN b 48) i).getD 4 0) 6) (turnW ((vN h (wN b 48) i).getD 4 0) 11))) (t := 170) rfl rfl (by exact lt_ok rfl) (show Env.ev E (.tmp 167) = _ from g167.trans rfl) (show Env.ev E (.tmp 169) = _ from g169.trans rfl) (Bin.xor (k := .i64) (a := (turnW ((vN h (wN b 48) i).getD 4 0) 6)) (b := (turnW ((vN h (wN b 48) i).getD 4 0) 11)) (rfl)))) ?_
            refine .cons (fun E hA_ => by have g17 := hA_.get 17 (by decide); exact OpStep.plain rfl (Step.move (p := (.one (.d (.int .i64 ((vN h (wN b 48) i).getD 4 0))))) (t := 171) rfl rfl (by exact lt_ok rfl) (show Env.ev E (.tmp 17) = _ from g17.trans rfl))) ?_
            refine .cons (fun E hA_ => by have g171 := hA_.get 171 (by decide); exact OpStep.plain rfl (Step.call (f := 106) (xs := [.tmp 171, .const (.int .i64 25)]) (ps := [(.one (.d (.int .i64 ((vN h (wN b 48) i).getD 4 0)))), (.one (.d (.int .i64 25)))]) false (g := .func 106) (t := 172) rfl rfl (by exact lt_ok rfl) rfl (by kernel_rfl) (evs_cons (show Env.ev E (.tmp 171) = _ from g171.trans rfl) (evs_cons rfl (rfl))) (.cons (.one (.d _)) (.cons (.one (.d _)) .nil)) (ok_impl_TurnRight ((vN h (wN b 48) i).getD 4 0) 25 (by first | assumption | exact hW_ _ | exact hV_ _ | omega) (by first | omega | decide)) (.inr rfl) (At.freshRows hA_ rfl) (by simp) rfl)) ?_
            refine .cons (fun E hA_ => by have g170 := hA_.get 170 (by decide); have g172 := hA_.get 172 (by decide); exact OpStep.plain rfl (Step.bin (r := .int .i64 (bxor (bxor (turnW ((vN h (wN b 48) i).getD 4 0) 6) (turnW ((vN h (wN b 48) i).getD 4 0) 11)) (turnW ((vN h (wN b 48) i).getD 4 0) 25))) (t := 173) rfl rfl (by exact lt_ok rfl) (show Env.ev E (.tmp 170) = _ from g170.trans rfl) (show Env.ev E (.tmp 172) = _ from g172.trans rfl) (Bin.xor (k := .i64) (a := (bxor (turnW ((vN h (wN b 48) i).getD 4 0) 6) (turnW ((vN h (wN b 48) i).getD 4 0) 11))) (b := (turnW ((vN h (wN b 48) i).getD 4 0) 25)) (rfl)))) ?_
            refine .cons (fun E hA_ => by have g165 := hA_.get 165 (by decide); have g173 := hA_.get 173 (by decide); exact OpStep.plain rfl (Step.bin (r := .int .i64 (wadd ((vN h (wN b 48) i).getD 7 0) (bxor (bxor (turnW ((vN h (wN b 48) i).getD 4 0) 6) (turnW ((vN h (wN b 48) i).getD 4 0) 11)) (turnW ((vN h (wN b 48) i).getD 4 0) 25)))) (t := 174) rfl rfl (by exact lt_ok rfl) (show Env.ev E (.tmp 165) = _ from g165.trans rfl) (show Env.ev E (.tmp 173) = _ from g173.trans rfl) (Bin.add (k := .i64) (a := ((vN h (wN b 48) i).getD 7 0)) (b := (bxor (bxor (turnW ((vN h (wN b 48) i).getD 4 0) 6) (turnW ((vN h (wN b 48) i).getD 4 0) 11)) (turnW ((vN h (wN b 48) i).getD 4 0) 25))) (rfl)))) ?_
            refine .cons (fun E hA_ => by have g19 := hA_.get 19 (by decide); exact OpStep.plain rfl (Step.move (p := (.one (.d (.int .i64 (bor (band ((vN h (wN b 48) i).getD 4 0) ((vN h (wN b 48) i).getD 5 0)) (band (bxor ((vN h (wN b 48) i).getD 4 0) 4294967295) ((vN h (wN b 48) i).getD 6 0))))))) (t := 175) rfl rfl (by exact lt_ok rfl) (show Env.ev E (.tmp 19) = _ from g19.trans rfl))) ?_
            refine .cons (fun E hA_ => by have g174 := hA_.get 174 (by decide); have g175 := hA_.get 175 (by decide); exact OpStep.plain rfl (Step.bin (r := .int .i64 (wadd (wadd ((vN h (wN b 48) i).getD 7 0) (bxor (bxor (turnW ((vN h (wN b 48) i).getD 4 0) 6) (turnW ((vN h (wN b 48) i).getD 4 0) 11)) (turnW ((vN h (wN b 48) i).getD 4 0) 25))) (bor (band ((vN h (wN b 48) i).getD 4 0) ((vN h (wN b 48) i).getD 5 0)) (band (bxor ((vN h (wN b 48) i).getD 4 0) 4294967295) ((vN h (wN b 48) i).getD 6 0))))) (t := 176) rfl rfl (by exact lt_ok rfl) (show Env.ev E (.tmp 174) = _ from g174.trans rfl) (show Env.ev E (.tmp 175) = _ from g175.trans rfl) (Bin.add (k := .i64) (a := (wadd ((vN h (wN b 48) i).getD 7 0) (bxor (bxor (turnW ((vN h (wN b 48) i).getD 4 0) 6) (turnW ((vN h (wN b 48) i).getD 4 0) 11)) (turnW ((vN h (wN b 48) i).getD 4 0) 25)))) (b := (bor (band ((vN h (wN b 48) i).getD 4 0) ((vN h (wN b 48) i).getD 5 0)) (band (bxor ((vN h (wN b 48) i).getD 4 0) 4294967295) ((vN h (wN b 48) i).getD 6 0)))) (rfl)))) ?_
            refine .cons (fun E hA_ => by have g8 := hA_.get 8 (by decide); exact OpStep.plain rfl (Step.move (p := (.one (.row 1044 []))) (t := 177) rfl rfl (by exact lt_ok rfl) (show Env.ev E (.tmp 8) = _ from g8.trans rfl))) ?_
            refine .cons (fun E hA_ => by have g16 := hA_.get 16 (by decide); exact OpStep.plain rfl (Step.move (p := (.one (.d (.int .i64 (i : Int))))) (t := 178) rfl rfl (by exact lt_ok rfl) (show Env.ev E (.tmp 16) = _ from g16.trans rfl))) ?_
            refine .cons (fun E hA_ => by have g177 := hA_.get 177 (by decide); have g178 := hA_.get 178 (by decide); exact OpStep.plain rfl (Step.index_row (e := 3) (z := 1) (i := (i : Int)) (t := 179) rfl rfl (by exact lt_ok rfl) (by kernel_rfl) (show Env.ev E (.tmp 177) = _ from g177.trans rfl) (by exact (hA_.row 1044 (by kernel_rfl)).trans rfl) rfl rfl (lt_ok rfl) (show Env.ev E (.tmp 178) = _ from g178.trans rfl) (by first | omega | (simp; omega) | (simp [w16_len, wN_len]; omega)) (by simp only [D.at_, D.cell, D.size]; first | omega | (simp; omega) | (simp [w16_len, wN_len]; omega)))) ?_
            refine .cons (fun E hA_ => by have g179 := hA_.get 179 (by decide); exact OpStep.plain rfl (Step.load_row (c := .d (.int .i64 (shaK.getD i 0))) (t := 180) rfl rfl (by exact lt_ok rfl) (by kernel_rfl) (show Env.ev E (.tmp 179) = _ from g179.trans rfl) (by exact (hA_.row 1044 (by kernel_rfl)).trans rfl) rfl)) ?_
            refine .cons (fun E hA_ => by have g176 := hA_.get 176 (by decide); have g180 := hA_.get 180 (by decide); exact OpStep.plain rfl (Step.bin (r := .int .i64 (wadd (wadd (wadd ((vN h (wN b 48) i).getD 7 0) (bxor (bxor (turnW ((vN h (wN b 48) i).getD 4 0) 6) (turnW ((vN h (wN b 48) i).getD 4 0) 11)) (turnW ((vN h (wN b 48) i).getD 4 0) 25))) (bor (band ((vN h (wN b 48) i).getD 4 0) ((vN h (wN b 48) i).getD 5 0)) (band (bxor ((vN h (wN b 48) i).getD 4 0) 4294967295) ((vN h (wN b 48) i).getD 6 0)))) (shaK.getD i 0))) (t := 181) rfl rfl (by exact lt_ok rfl) (show Env.ev E (.tmp 176) = _ from g176.trans rfl) (show Env.ev E (.tmp 180) = _ from g180.trans rfl) (Bin.add (k := .i64) (a := (wadd (wadd ((vN h (wN b 48) i).getD 7 0) (bxor (bxor (turnW ((vN h (wN b 48) i).getD 4 0) 6) (turnW ((vN h (wN b 48) i).getD 4 0) 11)) (turnW ((vN h (wN b 48) i).getD 4 0) 25))) (bor (band ((vN h (wN b 48) i).getD 4 0) ((vN h (wN b 48) i).getD 5 0)) (band (bxor ((vN h (wN b 48) i).getD 4 0) 4294967295) ((vN h (wN b 48) i).getD 6 0))))) (b := (shaK.getD i 0)) (rfl)))) ?_
            refine .cons (fun E hA_ => by have g16 := hA_.get 16 (by decide); exact OpStep.plain rfl (Step.move (p := (.one (.d (.int .i64 (i : Int))))) (t := 182) rfl rfl (by exact lt_ok rfl) (show Env.ev E (.tmp 16) = _ from g16.trans rfl))) ?_
            refine .cons (fun E hA_ => by have g7 := hA_.get 7 (by decide); have g182 := hA_.get 182 (by decide); exact OpStep.plain rfl (Step.index_arr (d := (.ints .i64 (wI b 48))) (e := 3) (n := 64) (z := 1) (i := (i : Int)) (t := 183) rfl rfl (by exact lt_ok rfl) (by kernel_rfl) (show Env.ev E (.tmp 7) = _ from g7.trans rfl) (by exact (hA_.row 7 (by kernel_rfl)).trans rfl) (by first | exact hl_ | rfl) rfl (lt_ok rfl) (show Env.ev E (.tmp 182) = _ from g182.trans rfl) (by first | omega | (simp; omega) | (simp [w16_len, wN_len]; omega)) (by first | omega | (simp; omega) | (simp [w16_len, wN_len]; omega)))) ?_
            refine .cons (fun E hA_ => by have g183 := hA_.get 183 (by decide); exact OpStep.plain rfl (Step.load_row (c := .d (.int .i64 ((wI b 48).getD i 0))) (t := 184) rfl rfl (by exact lt_ok rfl) (by kernel_rfl) (show Env.ev E (.tmp 183) = _ from g183.trans rfl) (by exact (hA_.row 7 (by kernel_rfl)).trans rfl) rfl)) ?_
            refine .cons (fun E hA_ => by have g181 := hA_.get 181 (by decide); have g184 := hA_.get 184 (by decide); exact OpStep.plain rfl (Step.bin (r := .int .i64 (wadd (wadd (wadd (wadd ((vN h (wN b 48) i).getD 7 0) (bxor (bxor (turnW ((vN h (wN b 48) i).getD 4 0) 6) (turnW ((vN h (wN b 48) i).getD 4 0) 11)) (turnW ((vN h (wN b 48) i).getD 4 0) 25))) (bor (band ((vN h (wN b 48) i).getD 4 0) ((vN h (wN b 48) i).getD 5 0)) (band (bxor ((vN h (wN b 48) i).getD 4 0) 4294967295) ((vN h (wN b 48) i).getD 6 0)))) (shaK.getD i 0)) ((wI b 48).getD i 0))) (t := 185) rfl rfl (by exact lt_ok rfl) (show Env.ev E (.tmp 181) = _ from g181.trans rfl) (show Env.ev E (.tmp 184) = _ from g184.trans rfl) (Bin.add (k := .i64) (a := (wadd (wadd (wadd ((vN h (wN b 48) i).getD 7 0) (bxor (bxor (turnW ((vN h (wN b 48) i).getD 4 0) 6) (turnW ((vN h (wN b 48) i).getD 4 0) 11)) (turnW ((vN h (wN b 48) i).getD 4 0) 25))) (bor (band ((vN h (wN b 48) i).getD 4 0) ((vN h (wN b 48) i).getD 5 0)) (band (bxor ((vN h (wN b 48) i).getD 4 0) 4294967295) ((vN h (wN b 48) i).getD 6 0)))) (shaK.getD i 0))) (b := ((wI b 48).getD i 0)) (rfl)))) ?_
            refine .cons (fun E hA_ => by have g185 := hA_.get 185 (by decide); exact OpStep.plain rfl (Step.assign (p := (.one (.d (.int .i64 (wadd (wadd (wadd (wadd ((vN h (wN b 48) i).getD 7 0) (bxor (bxor (turnW ((vN h (wN b 48) i).getD 4 0) 6) (turnW ((vN h (wN b 48) i).getD 4 0) 11)) (turnW ((vN h (wN b 48) i).getD 4 0) 25))) (bor (band ((vN h (wN b 48) i).getD 4 0) ((vN h (wN b 48) i).getD 5 0)) (band (bxor ((vN h (wN b 48) i).getD 4 0) 4294967295) ((vN h (wN b 48) i).getD 6 0)))) (shaK.getD i 0)) ((wI b 48).getD i 0)))))) (t := 21) rfl rfl (by exact lt_ok rfl) (show Env.ev E (.tmp 185) = _ from g185.trans rfl))) ?_
            exact .nil _ _
           refine TL.nil ?_
           refine T.seq ?_
           refine T.region ?_
           refine TL.cons rfl (Step.move (p := (.one (.d (.int .i64 ((vN h (wN b 48) i).getD 0 0))))) rfl rfl (lt_ok rfl) rfl) ?_
           refine TL.cons rfl (Step.call (f := 106) (xs := [.tmp 186, .const (.int .i64 2)]) (ps := [(.one (.d (.int .i64 ((vN h (wN b 48) i).getD 0 0)))), (.one (.d (.int .i64 2)))]) false (g := .func 106) rfl rfl (lt_ok rfl) rfl (by kernel_rfl) rfl (.cons (.one (.d _)) (.cons (.one (.d _)) .nil)) (ok_impl_TurnRight ((vN h (wN b 48) i).getD 0 0) 2 (by first | assumption | exact hW_ _ | exact hV_ _ | omega) (by first | omega | decide)) (.inr rfl) rfl (by simp) rfl) ?_
           refine TL.cons rfl (Step.move (p := (.one (.d (.int .i64 ((vN h (wN b 48) i).getD 0 0))))) rfl rfl (lt_ok rfl) rfl) ?_
           refine TL.cons rfl (Step.call (f := 106) (xs := [.tmp 188, .const (.int .i64 13)]) (ps := [(.one (.d (.int .i64 ((vN h (wN b 48) i).getD 0 0)))), (.one (.d (.int .i64 13)))]) false (g := .func 106) rfl rfl (lt_ok rfl) rfl (by kernel_rfl) rfl (.cons (.one (.d _)) (.cons (.one (.d _)) .nil)) (ok_impl_TurnRight ((vN h (wN b 48) i).getD 0 0) 13 (by first | assumption | exact hW_ _ | exact hV_ _ | omega) (by first | omega | decide)) (.inr rfl) rfl (by simp) rfl) ?_
           refine TL.cons rfl (Step.bin (r := .int .i64 (bxor (turnW ((vN h (wN b 48) i).getD 0 0) 2) (turnW ((vN h (wN b 48) i).getD 0 0) 13))) rfl rfl (lt_ok rfl) rfl rfl (Bin.xor (k := .i64) (a := (turnW ((vN h (wN b 48) i).getD 0 0) 2)) (b := (turnW ((vN h (wN b 48) i).getD 0 0) 13)) (rfl))) ?_
           refine TL.cons rfl (Step.move (p := (.one (.d (.int .i64 ((vN h (wN b 48) i).getD 0 0))))) rfl rfl (lt_ok rfl) rfl) ?_
           refine TL.cons rfl (Step.call (f := 106) (xs := [.tmp 191, .const (.int .i64 22)]) (ps := [(.one (.d (.int .i64 ((vN h (wN b 48) i).getD 0 0)))), (.one (.d (.int .i64 22)))]) false (g := .func 106) rfl rfl (lt_ok rfl) rfl (by kernel_rfl) rfl (.cons (.one (.d _)) (.cons (.one (.d _)) .nil)) (ok_impl_TurnRight ((vN h (wN b 48) i).getD 0 0) 22 (by first | assumption | exact hW_ _ | exact hV_ _ | omega) (by first | omega | decide)) (.inr rfl) rfl (by simp) rfl) ?_
           refine TL.cons rfl (Step.bin (r := .int .i64 (bxor (bxor (turnW ((vN h (wN b 48) i).getD 0 0) 2) (turnW ((vN h (wN b 48) i).getD 0 0) 13)) (turnW ((vN h (wN b 48) i).getD 0 0) 22))) rfl rfl (lt_ok rfl) rfl rfl (Bin.xor (k := .i64) (a := (bxor (turnW ((vN h (wN b 48) i).getD 0 0) 2) (turnW ((vN h (wN b 48) i).getD 0 0) 13))) (b := (turnW ((vN h (wN b 48) i).getD 0 0) 22)) (rfl))) ?_
           refine TL.cons rfl (Step.move (p := (.one (.d (.int .i64 (bor (bor (band ((vN h (wN b 48) i).getD 0 0) ((vN h (wN b 48) i).getD 1 0)) (band ((vN h (wN b 48) i).getD 0 0) ((vN h (wN b 48) i).getD 2 0))) (band ((vN h (wN b 48) i).getD 1 0) ((vN h (wN b 48) i).getD 2 0))))))) rfl rfl (lt_ok rfl) rfl) ?_
           refine TL.cons rfl (Step.bin (r := .int .i64 (wadd (bxor (bxor (turnW ((vN h (wN b 48) i).getD 0 0) 2) (turnW ((vN h (wN b 48) i).getD 0 0) 13)) (turnW ((vN h (wN b 48) i).getD 0 0) 22)) (bor (bor (band ((vN h (wN b 48) i).getD 0 0) ((vN h (wN b 48) i).getD 1 0)) (band ((vN h (wN b 48) i).getD 0 0) ((vN h (wN b 48) i).getD 2 0))) (band ((vN h (wN b 48) i).getD 1 0) ((vN h (wN b 48) i).getD 2 0))))) rfl rfl (lt_ok rfl) rfl rfl (Bin.add (k := .i64) (a := (bxor (bxor (turnW ((vN h (wN b 48) i).getD 0 0) 2) (turnW ((vN h (wN b 48) i).getD 0 0) 13)) (turnW ((vN h (wN b 48) i).getD 0 0) 22))) (b := (bor (bor (band ((vN h (wN b 48) i).getD 0 0) ((vN h (wN b 48) i).getD 1 0)) (band ((vN h (wN b 48) i).getD 0 0) ((vN h (wN b 48) i).getD 2 0))) (band ((vN h (wN b 48) i).getD 1 0) ((vN h (wN b 48) i).getD 2 0)))) (rfl))) ?_
           refine TL.cons rfl (Step.assign (p := (.one (.d (.int .i64 (wadd (bxor (bxor (turnW ((vN h (wN b 48) i).getD 0 0) 2) (turnW ((vN h (wN b 48) i).getD 0 0) 13)) (turnW ((vN h (wN b 48) i).getD 0 0) 22)) (bor (bor (band ((vN h (wN b 48) i).getD 0 0) ((vN h (wN b 48) i).getD 1 0)) (band ((vN h (wN b 48) i).getD 0 0) ((vN h (wN b 48) i).getD 2 0))) (band ((vN h (wN b 48) i).getD 1 0) ((vN h (wN b 48) i).getD 2 0)))))))) rfl rfl (lt_ok rfl) rfl) ?_
           refine TL.nil ?_
           refine T.weaken (E' := { tm := [(0, (.one (.d (.ints .i64 h)))), (7, (.one (.rptr 7 [] 0 0))), (9, (.one (.rptr 9 [] 0 0))), (8, (.one (.row 1044 []))), (132, (.one (.d (.int .i64 (i : Int))))), (17, (.one (.d (.int .i64 ((vN h (wN b 48) i).getD 4 0))))), (18, (.one (.d (.int .i64 ((vN h (wN b 48) i).getD 0 0))))), (21, (.one (.d (.int .i64 (wadd (wadd (wadd (wadd ((vN h (wN b 48) i).getD 7 0) (bxor (bxor (turnW ((vN h (wN b 48) i).getD 4 0) 6) (turnW ((vN h (wN b 48) i).getD 4 0) 11)) (turnW ((vN h (wN b 48) i).getD 4 0) 25))) (bor (band ((vN h (wN b 48) i).getD 4 0) ((vN h (wN b 48) i).getD 5 0)) (band (bxor ((vN h (wN b 48) i).getD 4 0) 4294967295) ((vN h (wN b 48) i).getD 6 0)))) (shaK.getD i 0)) ((wI b 48).getD i 0)))))), (22, (.one (.d (.int .i64 (wadd (bxor (bxor (turnW ((vN h (wN b 48) i).getD 0 0) 2) (turnW ((vN h (wN b 48) i).getD 0 0) 13)) (turnW ((vN h (wN b 48) i).getD 0 0) 22)) (bor (bor (band ((vN h (wN b 48) i).getD 0 0) ((vN h (wN b 48) i).getD 1 0)) (band ((vN h (wN b 48) i).getD 0 0) ((vN h (wN b 48) i).getD 2 0))) (band ((vN h (wN b 48) i).getD 1 0) ((vN h (wN b 48) i).getD 2 0))))))))], rows := [(1044, (3, (.ints .i64 shaK))), (7, (107, (.ints .i64 (wI b 48)))), (9, (108, (.ints .i64 (vN h (wN b 48) i))))], boxes := [] }) (Env.le_mk ⟨by kernel_rfl, by kernel_rfl, by kernel_rfl, by kernel_rfl, by kernel_rfl, by kernel_rfl, by kernel_rfl, by kernel_rfl, by kernel_rfl, trivial⟩ ⟨by kernel_rfl, by kernel_rfl, by kernel_rfl, trivial⟩ trivial) ?_
           refine T.region ?_
           refine TL.cons rfl (Step.move (p := (.one (.d (.int .i64 (wadd (wadd (wadd (wadd ((vN h (wN b 48) i).getD 7 0) (bxor (bxor (turnW ((vN h (wN b 48) i).getD 4 0) 6) (turnW ((vN h (wN b 48) i).getD 4 0) 11)) (turnW ((vN h (wN b 48) i).getD 4 0) 25))) (bor (band ((vN h (wN b 48) i).getD 4 0) ((vN h (wN b 48) i).getD 5 0)) (band (bxor ((vN h (wN b 48) i).getD 4 0) 4294967295) ((vN h (wN b 48) i).getD 6 0)))) (shaK.getD i 0)) ((wI b 48).getD i 0)))))) rfl rfl (lt_ok rfl) rfl) ?_
           refine TL.cons rfl (Step.move (p := (.one (.d (.int .i64 (wadd (bxor (bxor (turnW ((vN h (wN b 48) i).getD 0 0) 2) (turnW ((vN h (wN b 48) i).getD 0 0) 13)) (turnW ((vN h (wN b 48) i).getD 0 0) 22)) (bor (bor (band ((vN h (wN b 48) i).getD 0 0) ((vN h (wN b 48) i).getD 1 0)) (band ((vN h (wN b 48) i).getD 0 0) ((vN h (wN b 48) i).getD 2 0))) (band ((vN h (wN b 48) i).getD 1 0) ((vN h (wN b 48) i).getD 2 0)))))))) rfl rfl (lt_ok rfl) rfl) ?_
           refine TL.cons rfl (Step.bin (r := .int .i64 (wadd (wadd (wadd (wadd (wadd ((vN h (wN b 48) i).getD 7 0) (bxor (bxor (turnW ((vN h (wN b 48) i).getD 4 0) 6) (turnW ((vN h (wN b 48) i).getD 4 0) 11)) (turnW ((vN h (wN b 48) i).getD 4 0) 25))) (bor (band ((vN h (wN b 48) i).getD 4 0) ((vN h (wN b 48) i).getD 5 0)) (band (bxor ((vN h (wN b 48) i).getD 4 0) 4294967295) ((vN h (wN b 48) i).getD 6 0)))) (shaK.getD i 0)) ((wI b 48).getD i 0)) (wadd (bxor (bxor (turnW ((vN h (wN b 48) i).getD 0 0) 2) (turnW ((vN h (wN b 48) i).getD 0 0) 13)) (turnW ((vN h (wN b 48) i).getD 0 0) 22)) (bor (bor (band ((vN h (wN b 48) i).getD 0 0) ((vN h (wN b 48) i).getD 1 0)) (band ((vN h (wN b 48) i).getD 0 0) ((vN h (wN b 48) i).getD 2 0))) (band ((vN h (wN b 48) i).getD 1 0) ((vN h (wN b 48) i).getD 2 0)))))) rfl rfl (lt_ok rfl) rfl rfl (Bin.add (k := .i64) (a := (wadd (wadd (wadd (wadd ((vN h (wN b 48) i).getD 7 0) (bxor (bxor (turnW ((vN h (wN b 48) i).getD 4 0) 6) (turnW ((vN h (wN b 48) i).getD 4 0) 11)) (turnW ((vN h (wN b 48) i).getD 4 0) 25))) (bor (band ((vN h (wN b 48) i).getD 4 0) ((vN h (wN b 48) i).getD 5 0)) (band (bxor ((vN h (wN b 48) i).getD 4 0) 4294967295) ((vN h (wN b 48) i).getD 6 0)))) (shaK.getD i 0)) ((wI b 48).getD i 0))) (b := (wadd (bxor (bxor (turnW ((vN h (wN b 48) i).getD 0 0) 2) (turnW ((vN h (wN b 48) i).getD 0 0) 13)) (turnW ((vN h (wN b 48) i).getD 0 0) 22)) (bor (bor (band ((vN h (wN b 48) i).getD 0 0) ((vN h (wN b 48) i).getD 1 0)) (band ((vN h (wN b 48) i).getD 0 0) ((vN h (wN b 48) i).getD 2 0))) (band ((vN h (wN b 48) i).getD 1 0) ((vN h (wN b 48) i).getD 2 0))))) (rfl))) ?_
           refine TL.cons rfl (Step.bin (r := .int .i64 (band (wadd (wadd (wadd (wadd (wadd ((vN h (wN b 48) i).getD 7 0) (bxor (bxor (turnW ((vN h (wN b 48) i).getD 4 0) 6) (turnW ((vN h (wN b 48) i).getD 4 0) 11)) (turnW ((vN h (wN b 48) i).getD 4 0) 25))) (bor (band ((vN h (wN b 48) i).getD 4 0) ((vN h (wN b 48) i).getD 5 0)) (band (bxor ((vN h (wN b 48) i).getD 4 0) 4294967295) ((vN h (wN b 48) i).getD 6 0)))) (shaK.getD i 0)) ((wI b 48).getD i 0)) (wadd (bxor (bxor (turnW ((vN h (wN b 48) i).getD 0 0) 2) (turnW ((vN h (wN b 48) i).getD 0 0) 13)) (turnW ((vN h (wN b 48) i).getD 0 0) 22)) (bor (bor (band ((vN h (wN b 48) i).getD 0 0) ((vN h (wN b 48) i).getD 1 0)) (band ((vN h (wN b 48) i).getD 0 0) ((vN h (wN b 48) i).getD 2 0))) (band ((vN h (wN b 48) i).getD 1 0) ((vN h (wN b 48) i).getD 2 0))))) 4294967295)) rfl rfl (lt_ok rfl) rfl rfl (Bin.and (k := .i64) (a := (wadd (wadd (wadd (wadd (wadd ((vN h (wN b 48) i).getD 7 0) (bxor (bxor (turnW ((vN h (wN b 48) i).getD 4 0) 6) (turnW ((vN h (wN b 48) i).getD 4 0) 11)) (turnW ((vN h (wN b 48) i).getD 4 0) 25))) (bor (band ((vN h (wN b 48) i).getD 4 0) ((vN h (wN b 48) i).getD 5 0)) (band (bxor ((vN h (wN b 48) i).getD 4 0) 4294967295) ((vN h (wN b 48) i).getD 6 0)))) (shaK.getD i 0)) ((wI b 48).getD i 0)) (wadd (bxor (bxor (turnW ((vN h (wN b 48) i).getD 0 0) 2) (turnW ((vN h (wN b 48) i).getD 0 0) 13)) (turnW ((vN h (wN b 48) i).getD 0 0) 22)) (bor (bor (band ((vN h (wN b 48) i).getD 0 0) ((vN h (wN b 48) i).getD 1 0)) (band ((vN h (wN b 48) i).getD 0 0) ((vN h (wN b 48) i).getD 2 0))) (band ((vN h (wN b 48) i).getD 1 0) ((vN h (wN b 48) i).getD 2 0)))))) (b := 4294967295) (rfl))) ?_
           refine TL.cons rfl (Step.move (p := (.one (.d (.int .i64 ((vN h (wN b 48) i).getD 0 0))))) rfl rfl (lt_ok rfl) rfl) ?_
           refine TL.cons rfl (Step.index_arr (d := (.ints .i64 (vN h (wN b 48) i))) (e := 3) (n := 8) (z := 1) (i := 1) rfl rfl (lt_ok rfl) (by kernel_rfl) rfl rfl (by first | exact hvl_ | exact hvl_.symm | rfl | (simp; done)) rfl (lt_ok rfl) rfl (by first | omega | (simp; omega) | (simp [w16_len, wN_len]; omega)) (by first | omega | (simp; omega) | (simp [w16_len, wN_len]; omega))) ?_
           refine TL.cons rfl (Step.load_row (c := .d (.int .i64 ((vN h (wN b 48) i).getD 1 0))) rfl rfl (lt_ok rfl) (by kernel_rfl) rfl rfl rfl) ?_
           refine TL.cons rfl (Step.index_arr (d := (.ints .i64 (vN h (wN b 48) i))) (e := 3) (n := 8) (z := 1) (i := 2) rfl rfl (lt_ok rfl) (by kernel_rfl) rfl rfl (by first | exact hvl_ | exact hvl_.symm | rfl | (simp; done)) rfl (lt_ok rfl) rfl (by first | omega | (simp; omega) | (simp [w16_len, wN_len]; omega)) (by first | omega | (simp; omega) | (simp [w16_len, wN_len]; omega))) ?_
           refine TL.cons rfl (Step.load_row (c := .d (.int .i64 ((vN h (wN b 48) i).getD 2 0))) rfl rfl (lt_ok rfl) (by kernel_rfl) rfl rfl rfl) ?_
           refine TL.cons rfl (Step.index_arr (d := (.ints .i64 (vN h (wN b 48) i))) (e := 3) (n := 8) (z := 1) (i := 3) rfl rfl (lt_ok rfl) (by kernel_rfl) rfl rfl (by first | exact hvl_ | exact hvl_.symm | rfl | (simp; done)) rfl (lt_ok rfl) rfl (by first | omega | (simp; omega) | (simp [w16_len, wN_len]; omega)) (by first | omega | (simp; omega) | (simp [w16_len, wN_len]; omega))) ?_
           refine TL.cons rfl (Step.load_row (c := .d (.int .i64 ((vN h (wN b 48) i).getD 3 0))) rfl rfl (lt_ok rfl) (by kernel_rfl) rfl rfl rfl) ?_
           refine TL.cons rfl (Step.move (p := (.one (.d (.int .i64 (wadd (wadd (wadd (wadd ((vN h (wN b 48) i).getD 7 0) (bxor (bxor (turnW ((vN h (wN b 48) i).getD 4 0) 6) (turnW ((vN h (wN b 48) i).getD 4 0) 11)) (turnW ((vN h (wN b 48) i).getD 4 0) 25))) (bor (band ((vN h (wN b 48) i).getD 4 0) ((vN h (wN b 48) i).getD 5 0)) (band (bxor ((vN h (wN b 48) i).getD 4 0) 4294967295) ((vN h (wN b 48) i).getD 6 0)))) (shaK.getD i 0)) ((wI b 48).getD i 0)))))) rfl rfl (lt_ok rfl) rfl) ?_
           refine TL.cons rfl (Step.bin (r := .int .i64 (wadd ((vN h (wN b 48) i).getD 3 0) (wadd (wadd (wadd (wadd ((vN h (wN b 48) i).getD 7 0) (bxor (bxor (turnW ((vN h (wN b 48) i).getD 4 0) 6) (turnW ((vN h (wN b 48) i).getD 4 0) 11)) (turnW ((vN h (wN b 48) i).getD 4 0) 25))) (bor (band ((vN h (wN b 48) i).getD 4 0) ((vN h (wN b 48) i).getD 5 0)) (band (bxor ((vN h (wN b 48) i).getD 4 0) 4294967295) ((vN h (wN b 48) i).getD 6 0)))) (shaK.getD i 0)) ((wI b 48).getD i 0)))) rfl rfl (lt_ok rfl) rfl rfl (Bin.add (k := .i64) (a := ((vN h (wN b 48) i).getD 3 0)) (b := (wadd (wadd (wadd (wadd ((vN h (wN b 48) i).getD 7 0) (bxor (bxor (turnW ((vN h (wN b 48) i).getD 4 0) 6) (turnW ((vN h (wN b 48) i).getD 4 0) 11)) (turnW ((vN h (wN b 48) i).getD 4 0) 25))) (bor (band ((vN h (wN b 48) i).getD 4 0) ((vN h (wN b 48) i).getD 5 0)) (band (bxor ((vN h (wN b 48) i).getD 4 0) 4294967295) ((vN h (wN b 48) i).getD 6 0)))) (shaK.getD i 0)) ((wI b 48).getD i 0))) (rfl))) ?_
           refine TL.cons rfl (Step.bin (r := .int .i64 (band (wadd ((vN h (wN b 48) i).getD 3 0) (wadd (wadd (wadd (wadd ((vN h (wN b 48) i).getD 7 0) (bxor (bxor (turnW ((vN h (wN b 48) i).getD 4 0) 6) (turnW ((vN h (wN b 48) i).getD 4 0) 11)) (turnW ((vN h (wN b 48) i).getD 4 0) 25))) (bor (band ((vN h (wN b 48) i).getD 4 0) ((vN h (wN b 48) i).getD 5 0)) (band (bxor ((vN h (wN b 48) i).getD 4 0) 4294967295) ((vN h (wN b 48) i).getD 6 0)))) (shaK.getD i 0)) ((wI b 48).getD i 0))) 4294967295)) rfl rfl (lt_ok rfl) rfl rfl (Bin.and (k := .i64) (a := (wadd ((vN h (wN b 48) i).getD 3 0) (wadd (wadd (wadd (wadd ((vN h (wN b 48) i).getD 7 0) (bxor (bxor (turnW ((vN h (wN b 48) i).getD 4 0) 6) (turnW ((vN h (wN b 48) i).getD 4 0) 11)) (turnW ((vN h (wN b 48) i).getD 4 0) 25))) (bor (band ((vN h (wN b 48) i).getD 4 0) ((vN h (wN b 48) i).getD 5 0)) (band (bxor ((vN h (wN b 48) i).getD 4 0) 4294967295) ((vN h (wN b 48) i).getD 6 0)))) (shaK.getD i 0)) ((wI b 48).getD i 0)))) (b := 4294967295) (rfl))) ?_
           refine TL.cons rfl (Step.move (p := (.one (.d (.int .i64 ((vN h (wN b 48) i).getD 4 0))))) rfl rfl (lt_ok rfl) rfl) ?_
           refine TL.cons rfl (Step.index_arr (d := (.ints .i64 (vN h (wN b 48) i))) (e := 3) (n := 8) (z := 1) (i := 5) rfl rfl (lt_ok rfl) (by kernel_rfl) rfl rfl (by first | exact hvl_ | exact hvl_.symm | rfl | (simp; done)) rfl (lt_ok rfl) rfl (by first | omega | (simp; omega) | (simp [w16_len, wN_len]; omega)) (by first | omega | (simp; omega) | (simp [w16_len, wN_len]; omega))) ?_
           refine TL.cons rfl (Step.load_row (c := .d (.int .i64 ((vN h (wN b 48) i).getD 5 0))) rfl rfl (lt_ok rfl) (by kernel_rfl) rfl rfl rfl) ?_
           refine TL.cons rfl (Step.index_arr (d := (.ints .i64 (vN h (wN b 48) i))) (e := 3) (n := 8) (z := 1) (i := 6) rfl rfl (lt_ok rfl) (by kernel_rfl) rfl rfl (by first | exact hvl_ | exact hvl_.symm | rfl | (simp; done)) rfl (lt_ok rfl) rfl (by first | omega | (simp; omega) | (simp [w16_len, wN_len]; omega)) (by first | omega | (simp; omega) | (simp [w16_len, wN_len]; omega))) ?_
           refine TL.cons rfl (Step.load_row (c := .d (.int .i64 ((vN h (wN b 48) i).getD 6 0))) rfl rfl (lt_ok rfl) (by kernel_rfl) rfl rfl rfl) ?_
           refine TL.cons rfl (Step.buildArr (zs := List.replicate 8 (.int .i64 0)) (size := 1) (pss := [(0, [.d (.int .i64 (band (wadd (wadd (wadd (wadd (wadd ((vN h (wN b 48) i).getD 7 0) (bxor (bxor (turnW ((vN h (wN b 48) i).getD 4 0) 6) (turnW ((vN h (wN b 48) i).getD 4 0) 11)) (turnW ((vN h (wN b 48) i).getD 4 0) 25))) (bor (band ((vN h (wN b 48) i).getD 4 0) ((vN h (wN b 48) i).getD 5 0)) (band (bxor ((vN h (wN b 48) i).getD 4 0) 4294967295) ((vN h (wN b 48) i).getD 6 0)))) (shaK.getD i 0)) ((wI b 48).getD i 0)) (wadd (bxor (bxor (turnW ((vN h (wN b 48) i).getD 0 0) 2) (turnW ((vN h (wN b 48) i).getD 0 0) 13)) (turnW ((vN h (wN b 48) i).getD 0 0) 22)) (bor (bor (band ((vN h (wN b 48) i).getD 0 0) ((vN h (wN b 48) i).getD 1 0)) (band ((vN h (wN b 48) i).getD 0 0) ((vN h (wN b 48) i).getD 2 0))) (band ((vN h (wN b 48) i).getD 1 0) ((vN h (wN b 48) i).getD 2 0))))) 4294967295))]), (1, [.d (.int .i64 ((vN h (wN b 48) i).getD 0 0))]), (2, [.d (.int .i64 ((vN h (wN b 48) i).getD 1 0))]), (3, [.d (.int .i64 ((vN h (wN b 48) i).getD 2 0))]), (4, [.d (.int .i64 (band (wadd ((vN h (wN b 48) i).getD 3 0) (wadd (wadd (wadd (wadd ((vN h (wN b 48) i).getD 7 0) (bxor (bxor (turnW ((vN h (wN b 48) i).getD 4 0) 6) (turnW ((vN h (wN b 48) i).getD 4 0) 11)) (turnW ((vN h (wN b 48) i).getD 4 0) 25))) (bor (band ((vN h (wN b 48) i).getD 4 0) ((vN h (wN b 48) i).getD 5 0)) (band (bxor ((vN h (wN b 48) i).getD 4 0) 4294967295) ((vN h (wN b 48) i).getD 6 0)))) (shaK.getD i 0)) ((wI b 48).getD i 0))) 4294967295))]), (5, [.d (.int .i64 ((vN h (wN b 48) i).getD 4 0))]), (6, [.d (.int .i64 ((vN h (wN b 48) i).getD 5 0))]), (7, [.d (.int .i64 ((vN h (wN b 48) i).getD 6 0))])]) (ps' := [.d (.int .i64 (band (wadd (wadd (wadd (wadd (wadd ((vN h (wN b 48) i).getD 7 0) (bxor (bxor (turnW ((vN h (wN b 48) i).getD 4 0) 6) (turnW ((vN h (wN b 48) i).getD 4 0) 11)) (turnW ((vN h (wN b 48) i).getD 4 0) 25))) (bor (band ((vN h (wN b 48) i).getD 4 0) ((vN h (wN b 48) i).getD 5 0)) (band (bxor ((vN h (wN b 48) i).getD 4 0) 4294967295) ((vN h (wN b 48) i).getD 6 0)))) (shaK.getD i 0)) ((wI b 48).getD i 0)) (wadd (bxor (bxor (turnW ((vN h (wN b 48) i).getD 0 0) 2) (turnW ((vN h (wN b 48) i).getD 0 0) 13)) (turnW ((vN h (wN b 48) i).getD 0 0) 22)) (bor (bor (band ((vN h (wN b 48) i).getD 0 0) ((vN h (wN b 48) i).getD 1 0)) (band ((vN h (wN b 48) i).getD 0 0) ((vN h (wN b 48) i).getD 2 0))) (band ((vN h (wN b 48) i).getD 1 0) ((vN h (wN b 48) i).getD 2 0))))) 4294967295)), .d (.int .i64 ((vN h (wN b 48) i).getD 0 0)), .d (.int .i64 ((vN h (wN b 48) i).getD 1 0)), .d (.int .i64 ((vN h (wN b 48) i).getD 2 0)), .d (.int .i64 (band (wadd ((vN h (wN b 48) i).getD 3 0) (wadd (wadd (wadd (wadd ((vN h (wN b 48) i).getD 7 0) (bxor (bxor (turnW ((vN h (wN b 48) i).getD 4 0) 6) (turnW ((vN h (wN b 48) i).getD 4 0) 11)) (turnW ((vN h (wN b 48) i).getD 4 0) 25))) (bor (band ((vN h (wN b 48) i).getD 4 0) ((vN h (wN b 48) i).getD 5 0)) (band (bxor ((vN h (wN b 48) i).getD 4 0) 4294967295) ((vN h (wN b 48) i).getD 6 0)))) (shaK.getD i 0)) ((wI b 48).getD i 0))) 4294967295)), .d (.int .i64 ((vN h (wN b 48) i).getD 4 0)), .d (.int .i64 ((vN h (wN b 48) i).getD 5 0)), .d (.int .i64 ((vN h (wN b 48) i).getD 6 0))]) rfl rfl (lt_ok rfl) (by kernel_rfl) (.cons ⟨rfl, rfl⟩ (.cons ⟨rfl, rfl⟩ (.cons ⟨rfl, rfl⟩ (.cons ⟨rfl, rfl⟩ (.cons ⟨rfl, rfl⟩ (.cons ⟨rfl, rfl⟩ (.cons ⟨rfl, rfl⟩ (.cons ⟨rfl, rfl⟩ .nil)))))))) rfl (by kernel_rfl) (by kernel_rfl)) ?_
           refine TL.cons rfl (Step.store_row (n := 8) (p := (.agg [.d (.int .i64 (band (wadd (wadd (wadd (wadd (wadd ((vN h (wN b 48) i).getD 7 0) (bxor (bxor (turnW ((vN h (wN b 48) i).getD 4 0) 6) (turnW ((vN h (wN b 48) i).getD 4 0) 11)) (turnW ((vN h (wN b 48) i).getD 4 0) 25))) (bor (band ((vN h (wN b 48) i).getD 4 0) ((vN h (wN b 48) i).getD 5 0)) (band (bxor ((vN h (wN b 48) i).getD 4 0) 4294967295) ((vN h (wN b 48) i).getD 6 0)))) (shaK.getD i 0)) ((wI b 48).getD i 0)) (wadd (bxor (bxor (turnW ((vN h (wN b 48) i).getD 0 0) 2) (turnW ((vN h (wN b 48) i).getD 0 0) 13)) (turnW ((vN h (wN b 48) i).getD 0 0) 22)) (bor (bor (band ((vN h (wN b 48) i).getD 0 0) ((vN h (wN b 48) i).getD 1 0)) (band ((vN h (wN b 48) i).getD 0 0) ((vN h (wN b 48) i).getD 2 0))) (band ((vN h (wN b 48) i).getD 1 0) ((vN h (wN b 48) i).getD 2 0))))) 4294967295)), .d (.int .i64 ((vN h (wN b 48) i).getD 0 0)), .d (.int .i64 ((vN h (wN b 48) i).getD 1 0)), .d (.int .i64 ((vN h (wN b 48) i).getD 2 0)), .d (.int .i64 (band (wadd ((vN h (wN b 48) i).getD 3 0) (wadd (wadd (wadd (wadd ((vN h (wN b 48) i).getD 7 0) (bxor (bxor (turnW ((vN h (wN b 48) i).getD 4 0) 6) (turnW ((vN h (wN b 48) i).getD 4 0) 11)) (turnW ((vN h (wN b 48) i).getD 4 0) 25))) (bor (band ((vN h (wN b 48) i).getD 4 0) ((vN h (wN b 48) i).getD 5 0)) (band (bxor ((vN h (wN b 48) i).getD 4 0) 4294967295) ((vN h (wN b 48) i).getD 6 0)))) (shaK.getD i 0)) ((wI b 48).getD i 0))) 4294967295)), .d (.int .i64 ((vN h (wN b 48) i).getD 4 0)), .d (.int .i64 ((vN h (wN b 48) i).getD 5 0)), .d (.int .i64 ((vN h (wN b 48) i).getD 6 0))])) (ps := [.d (.int .i64 (band (wadd (wadd (wadd (wadd (wadd ((vN h (wN b 48) i).getD 7 0) (bxor (bxor (turnW ((vN h (wN b 48) i).getD 4 0) 6) (turnW ((vN h (wN b 48) i).getD 4 0) 11)) (turnW ((vN h (wN b 48) i).getD 4 0) 25))) (bor (band ((vN h (wN b 48) i).getD 4 0) ((vN h (wN b 48) i).getD 5 0)) (band (bxor ((vN h (wN b 48) i).getD 4 0) 4294967295) ((vN h (wN b 48) i).getD 6 0)))) (shaK.getD i 0)) ((wI b 48).getD i 0)) (wadd (bxor (bxor (turnW ((vN h (wN b 48) i).getD 0 0) 2) (turnW ((vN h (wN b 48) i).getD 0 0) 13)) (turnW ((vN h (wN b 48) i).getD 0 0) 22)) (bor (bor (band ((vN h (wN b 48) i).getD 0 0) ((vN h (wN b 48) i).getD 1 0)) (band ((vN h (wN b 48) i).getD 0 0) ((vN h (wN b 48) i).getD 2 0))) (band ((vN h (wN b 48) i).getD 1 0) ((vN h (wN b 48) i).getD 2 0))))) 4294967295)), .d (.int .i64 ((vN h (wN b 48) i).getD 0 0)), .d (.int .i64 ((vN h (wN b 48) i).getD 1 0)), .d (.int .i64 ((vN h (wN b 48) i).getD 2 0)), .d (.int .i64 (band (wadd ((vN h (wN b 48) i).getD 3 0) (wadd (wadd (wadd (wadd ((vN h (wN b 48) i).getD 7 0) (bxor (bxor (turnW ((vN h (wN b 48) i).getD 4 0) 6) (turnW ((vN h (wN b 48) i).getD 4 0) 11)) (turnW ((vN h (wN b 48) i).getD 4 0) 25))) (bor (band ((vN h (wN b 48) i).getD 4 0) ((vN h (wN b 48) i).getD 5 0)) (band (bxor ((vN h (wN b 48) i).getD 4 0) 4294967295) ((vN h (wN b 48) i).getD 6 0)))) (shaK.getD i 0)) ((wI b 48).getD i 0))) 4294967295)), .d (.int .i64 ((vN h (wN b 48) i).getD 4 0)), .d (.int .i64 ((vN h (wN b 48) i).getD 5 0)), .d (.int .i64 ((vN h (wN b 48) i).getD 6 0))]) (es := [(.int .i64 (band (wadd (wadd (wadd (wadd (wadd ((vN h (wN b 48) i).getD 7 0) (bxor (bxor (turnW ((vN h (wN b 48) i).getD 4 0) 6) (turnW ((vN h (wN b 48) i).getD 4 0) 11)) (turnW ((vN h (wN b 48) i).getD 4 0) 25))) (bor (band ((vN h (wN b 48) i).getD 4 0) ((vN h (wN b 48) i).getD 5 0)) (band (bxor ((vN h (wN b 48) i).getD 4 0) 4294967295) ((vN h (wN b 48) i).getD 6 0)))) (shaK.getD i 0)) ((wI b 48).getD i 0)) (wadd (bxor (bxor (turnW ((vN h (wN b 48) i).getD 0 0) 2) (turnW ((vN h (wN b 48) i).getD 0 0) 13)) (turnW ((vN h (wN b 48) i).getD 0 0) 22)) (bor (bor (band ((vN h (wN b 48) i).getD 0 0) ((vN h (wN b 48) i).getD 1 0)) (band ((vN h (wN b 48) i).getD 0 0) ((vN h (wN b 48) i).getD 2 0))) (band ((vN h (wN b 48) i).getD 1 0) ((vN h (wN b 48) i).getD 2 0))))) 4294967295)), (.int .i64 ((vN h (wN b 48) i).getD 0 0)), (.int .i64 ((vN h (wN b 48) i).getD 1 0)), (.int .i64 ((vN h (wN b 48) i).getD 2 0)), (.int .i64 (band (wadd ((vN h (wN b 48) i).getD 3 0) (wadd (wadd (wadd (wadd ((vN h (wN b 48) i).getD 7 0) (bxor (bxor (turnW ((vN h (wN b 48) i).getD 4 0) 6) (turnW ((vN h (wN b 48) i).getD 4 0) 11)) (turnW ((vN h (wN b 48) i).getD 4 0) 25))) (bor (band ((vN h (wN b 48) i).getD 4 0) ((vN h (wN b 48) i).getD 5 0)) (band (bxor ((vN h (wN b 48) i).getD 4 0) 4294967295) ((vN h (wN b 48) i).getD 6 0)))) (shaK.getD i 0)) ((wI b 48).getD i 0))) 4294967295)), (.int .i64 ((vN h (wN b 48) i).getD 4 0)), (.int .i64 ((vN h (wN b 48) i).getD 5 0)), (.int .i64 ((vN h (wN b 48) i).getD 6 0))]) (ss := []) (d1 := (.ints .i64 [band (wadd (wadd (wadd (wadd (wadd ((vN h (wN b 48) i).getD 7 0) (bxor (bxor (turnW ((vN h (wN b 48) i).getD 4 0) 6) (turnW ((vN h (wN b 48) i).getD 4 0) 11)) (turnW ((vN h (wN b 48) i).getD 4 0) 25))) (bor (band ((vN h (wN b 48) i).getD 4 0) ((vN h (wN b 48) i).getD 5 0)) (band (bxor ((vN h (wN b 48) i).getD 4 0) 4294967295) ((vN h (wN b 48) i).getD 6 0)))) (shaK.getD i 0)) ((wI b 48).getD i 0)) (wadd (bxor (bxor (turnW ((vN h (wN b 48) i).getD 0 0) 2) (turnW ((vN h (wN b 48) i).getD 0 0) 13)) (turnW ((vN h (wN b 48) i).getD 0 0) 22)) (bor (bor (band ((vN h (wN b 48) i).getD 0 0) ((vN h (wN b 48) i).getD 1 0)) (band ((vN h (wN b 48) i).getD 0 0) ((vN h (wN b 48) i).getD 2 0))) (band ((vN h (wN b 48) i).getD 1 0) ((vN h (wN b 48) i).getD 2 0))))) 4294967295, (vN h (wN b 48) i).getD 0 0, (vN h (wN b 48) i).getD 1 0, (vN h (wN b 48) i).getD 2 0, band (wadd ((vN h (wN b 48) i).getD 3 0) (wadd (wadd (wadd (wadd ((vN h (wN b 48) i).getD 7 0) (bxor (bxor (turnW ((vN h (wN b 48) i).getD 4 0) 6) (turnW ((vN h (wN b 48) i).getD 4 0) 11)) (turnW ((vN h (wN b 48) i).getD 4 0) 25))) (bor (band ((vN h (wN b 48) i).getD 4 0) ((vN h (wN b 48) i).getD 5 0)) (band (bxor ((vN h (wN b 48) i).getD 4 0) 4294967295) ((vN h (wN b 48) i).getD 6 0)))) (shaK.getD i 0)) ((wI b 48).getD i 0))) 4294967295, (vN h (wN b 48) i).getD 4 0, (vN h (wN b 48) i).getD 5 0, (vN h (wN b 48) i).getD 6 0])) (d' := (.ints .i64 [band (wadd (wadd (wadd (wadd (wadd ((vN h (wN b 48) i).getD 7 0) (bxor (bxor (turnW ((vN h (wN b 48) i).getD 4 0) 6) (turnW ((vN h (wN b 48) i).getD 4 0) 11)) (turnW ((vN h (wN b 48) i).getD 4 0) 25))) (bor (band ((vN h (wN b 48) i).getD 4 0) ((vN h (wN b 48) i).getD 5 0)) (band (bxor ((vN h (wN b 48) i).getD 4 0) 4294967295) ((vN h (wN b 48) i).getD 6 0)))) (shaK.getD i 0)) ((wI b 48).getD i 0)) (wadd (bxor (bxor (turnW ((vN h (wN b 48) i).getD 0 0) 2) (turnW ((vN h (wN b 48) i).getD 0 0) 13)) (turnW ((vN h (wN b 48) i).getD 0 0) 22)) (bor (bor (band ((vN h (wN b 48) i).getD 0 0) ((vN h (wN b 48) i).getD 1 0)) (band ((vN h (wN b 48) i).getD 0 0) ((vN h (wN b 48) i).getD 2 0))) (band ((vN h (wN b 48) i).getD 1 0) ((vN h (wN b 48) i).getD 2 0))))) 4294967295, (vN h (wN b 48) i).getD 0 0, (vN h (wN b 48) i).getD 1 0, (vN h (wN b 48) i).getD 2 0, band (wadd ((vN h (wN b 48) i).getD 3 0) (wadd (wadd (wadd (wadd ((vN h (wN b 48) i).getD 7 0) (bxor (bxor (turnW ((vN h (wN b 48) i).getD 4 0) 6) (turnW ((vN h (wN b 48) i).getD 4 0) 11)) (turnW ((vN h (wN b 48) i).getD 4 0) 25))) (bor (band ((vN h (wN b 48) i).getD 4 0) ((vN h (wN b 48) i).getD 5 0)) (band (bxor ((vN h (wN b 48) i).getD 4 0) 4294967295) ((vN h (wN b 48) i).getD 6 0)))) (shaK.getD i 0)) ((wI b 48).getD i 0))) 4294967295, (vN h (wN b 48) i).getD 4 0, (vN h (wN b 48) i).getD 5 0, (vN h (wN b 48) i).getD 6 0])) rfl rfl (by kernel_rfl) rfl rfl rfl rfl rfl rfl (.val rfl (.val rfl (.val rfl (.val rfl (.val rfl (.val rfl (.val rfl (.val rfl .nil)))))))) (by simp) (by have h_ := Putd.all (k := .i64) (xs := vN h (wN b 48) i) (ys := [band (wadd (wadd (wadd (wadd (wadd ((vN h (wN b 48) i).getD 7 0) (bxor (bxor (turnW ((vN h (wN b 48) i).getD 4 0) 6) (turnW ((vN h (wN b 48) i).getD 4 0) 11)) (turnW ((vN h (wN b 48) i).getD 4 0) 25))) (bor (band ((vN h (wN b 48) i).getD 4 0) ((vN h (wN b 48) i).getD 5 0)) (band (bxor ((vN h (wN b 48) i).getD 4 0) 4294967295) ((vN h (wN b 48) i).getD 6 0)))) (shaK.getD i 0)) ((wI b 48).getD i 0)) (wadd (bxor (bxor (turnW ((vN h (wN b 48) i).getD 0 0) 2) (turnW ((vN h (wN b 48) i).getD 0 0) 13)) (turnW ((vN h (wN b 48) i).getD 0 0) 22)) (bor (bor (band ((vN h (wN b 48) i).getD 0 0) ((vN h (wN b 48) i).getD 1 0)) (band ((vN h (wN b 48) i).getD 0 0) ((vN h (wN b 48) i).getD 2 0))) (band ((vN h (wN b 48) i).getD 1 0) ((vN h (wN b 48) i).getD 2 0))))) 4294967295, (vN h (wN b 48) i).getD 0 0, (vN h (wN b 48) i).getD 1 0, (vN h (wN b 48) i).getD 2 0, band (wadd ((vN h (wN b 48) i).getD 3 0) (wadd (wadd (wadd (wadd ((vN h (wN b 48) i).getD 7 0) (bxor (bxor (turnW ((vN h (wN b 48) i).getD 4 0) 6) (turnW ((vN h (wN b 48) i).getD 4 0) 11)) (turnW ((vN h (wN b 48) i).getD 4 0) 25))) (bor (band ((vN h (wN b 48) i).getD 4 0) ((vN h (wN b 48) i).getD 5 0)) (band (bxor ((vN h (wN b 48) i).getD 4 0) 4294967295) ((vN h (wN b 48) i).getD 6 0)))) (shaK.getD i 0)) ((wI b 48).getD i 0))) 4294967295, (vN h (wN b 48) i).getD 4 0, (vN h (wN b 48) i).getD 5 0, (vN h (wN b 48) i).getD 6 0]) (by first | exact hvl_ | exact hvl_.symm | rfl | (simp; done)); exact h_) rfl) ?_
           refine TL.nil ?_
           refine T.region ?_
           refine TL.cons rfl (Step.bin (r := .int .i64 ((i : Int) + 1)) rfl rfl (lt_ok rfl) rfl rfl (Bin.add (a := (i : Int)) (b := 1) (by first | exact wrap_ok (by first | omega | (simp; omega) | (simp [w16_len, wN_len]; omega)) (by first | omega | (simp; omega) | (simp [w16_len, wN_len]; omega)) | rfl))) ?_
           refine TL.cons rfl (Step.move (p := (.one (.d (.int .i64 ((i : Int) + 1))))) rfl rfl (lt_ok rfl) rfl) ?_
           refine TL.nil ?_
           refine ⟨i + 1, by omega, by first | omega | (dsimp only; omega), Env.le_mk ⟨rfl, rfl, rfl, rfl, ?_, trivial⟩ ⟨rfl, rfl, ?_, trivial⟩ trivial⟩ <;> (first | exact congrArg (fun x => some (_, D.ints .i64 (wI b x))) (show i = 48 by omega) | exact congrArg (fun x => some (_, D.ints .i64 x)) ((stepI_eq (hV_ 4)).trans (congrArg (stepV _ _) (hwq_ _))) | rfl | (refine congrArg (fun x => some (_, D.ints .i64 x)) ?_; first | rfl | fail) | (refine congrArg (fun n => PV.one (.d (.int .i64 n))) ?_; first | rfl | omega | (simp; done)))
          ·
           replace h8 := of_decide_eq_false h8
           refine T.exit ?_
           refine T.seq ?_
           refine T.region ?_
           refine TL.cons rfl (Step.lit (e := 3) (z := 1) (by_ := 8) (xs := []) (pss := []) (es := []) (ss := []) (d := (.ints .i64 [])) rfl rfl (lt_ok rfl) (by kernel_rfl) rfl rfl .nil (by simp) (le_ok rfl) (le_ok rfl) rfl .nil rfl (by simp) (by simp) rfl trivial rfl rfl) ?_
           refine TL.cons rfl (Step.assign (p := (.one (.row 217 []))) rfl rfl (lt_ok rfl) rfl) ?_
           refine TL.nil ?_
           refine T.seq ?_
           refine T.seq ?_
           refine T.region ?_
           refine TL.cons rfl (Step.move (p := (.one (.d (.int .i64 0)))) rfl rfl (lt_ok rfl) rfl) ?_
           refine TL.nil ?_
           refine T.block ?_
           refine T.loop (ι := Nat) (fun xx_ => { tm := [(0, (.one (.d (.ints .i64 h)))), (9, (.one (.rptr 9 [] 0 0))), (218, (.one (.d (.int .i64 (xx_ : Int))))), (23, (.one (.row 217 [])))], rows := [(1044, (3, (.ints .i64 shaK))), (9, (108, (.ints .i64 (vN h (wN b 48) 64)))), (217, (3, (.ints .i64 (outs h (vN h (wN b 48) 64) xx_))))], boxes := [] }) (fun xx_ => xx_ ≤ 8) (fun xx_ => 8 - xx_) 0 ?_ ?_ ?_
           · refine Env.le_mk ⟨rfl, rfl, ?_, rfl, trivial⟩ ⟨rfl, ?_, ?_, trivial⟩ trivial <;> (first | (exact congrArg (fun x => some (_, D.ints .i64 (vN h (wN b 48) x))) (show i = 64 by omega)) | (exact congrArg (fun x => PV.one (.d (.ints .i64 (vN h (wN b 48) x)))) (show i = 64 by omega)) | rfl | (refine congrArg (fun x => some (_, D.ints .i64 x)) ?_; first | rfl | (rw [show i = 64 from by omega]; first | done | rfl)) | (refine congrArg (fun n => PV.one (.d (.int .i64 n))) ?_; first | rfl | omega | (simp; done)))
           · exact Nat.zero_le _
           ·
            intro i hx
            try dsimp only at hx ⊢
            have hvl_ := vN_len (h := h) (w := wN b 48) (by omega) 64
            have hol_ := outs_len h (vN h (wN b 48) 64) i
            refine T.seq ?_
            refine T.region ?_
            refine TL.cons rfl (Step.bin rfl rfl (lt_ok rfl) rfl rfl (Bin.lss (k := .i64) (a := (i : Int)) (b := 8))) ?_
            refine TL.nil ?_
            refine T.seq ?_
            refine T.cond (b := decide ((i : Int) < 8)) rfl (fun h9 => ?_) (fun h9 => ?_)
            ·
             replace h9 := of_decide_eq_true h9
             refine T.skip ?_
             refine T.seq ?_
             refine T.block ?_
             refine T.seq ?_
             refine T.region ?_
             refine TL.cons rfl (Step.move (p := (.one (.d (.int .i64 (i : Int))))) rfl rfl (lt_ok rfl) rfl) ?_
             refine TL.cons rfl (Step.assign (p := (.one (.d (.int .i64 (i : Int))))) rfl rfl (lt_ok rfl) rfl) ?_
             refine TL.nil ?_
             refine T.draw [⟨221, (.one (.row 217 [])), []⟩, ⟨222, (.one (.d (.ints .i64 h))), []⟩, ⟨223, (.one (.d (.int .i64 (i : Int)))), []⟩, ⟨224, (.one (.eptr (.ints .i64 h) i 0)), []⟩, ⟨225, (.one (.d (.int .i64 (h.getD i 0)))), []⟩, ⟨226, (.one (.d (.int .i64 (i : Int)))), []⟩, ⟨227, (.one (.rptr 9 [] i 0)), []⟩, ⟨228, (.one (.d (.int .i64 ((vN h (wN b 48) 64).getD i 0)))), []⟩, ⟨229, (.one (.d (.int .i64 (wadd (h.getD i 0) ((vN h (wN b 48) 64).getD i 0))))), []⟩, ⟨230, (.one (.d (.int .i64 (band (wadd (h.getD i 0) ((vN h (wN b 48) 64).getD i 0)) 4294967295)))), []⟩, ⟨231, (.one (.d (.ints .i64 [band (wadd (h.getD i 0) ((vN h (wN b 48) 64).getD i 0)) 4294967295]))), []⟩] (by kernel_rfl) (by kernel_rfl) ?_ ?_
             ·
              refine .cons (fun E hA_ => by have g23 := hA_.get 23 (by decide); exact OpStep.plain rfl (Step.move (p := (.one (.row 217 []))) (t := 221) rfl rfl (by exact lt_ok rfl) (show Env.ev E (.tmp 23) = _ from g23.trans rfl))) ?_
              refine .cons (fun E hA_ => by have g0 := hA_.get 0 (by decide); exact OpStep.plain rfl (Step.move (p := (.one (.d (.ints .i64 h)))) (t := 222) rfl rfl (by exact lt_ok rfl) (show Env.ev E (.tmp 0) = _ from g0.trans rfl))) ?_
              refine .cons (fun E hA_ => by have g24 := hA_.get 24 (by decide); exact OpStep.plain rfl (Step.move (p := (.one (.d (.int .i64 (i : Int))))) (t := 223) rfl rfl (by exact lt_ok rfl) (show Env.ev E (.tmp 24) = _ from g24.trans rfl))) ?_
              refine .cons (fun E hA_ => by have g222 := hA_.get 222 (by decide); have g223 := hA_.get 223 (by decide); exact OpStep.plain rfl (Step.index (e := 3) (z := 1) (i := (i : Int)) (t := 224) rfl rfl (by exact lt_ok rfl) (by kernel_rfl) (show Env.ev E (.tmp 222) = _ from g222.trans rfl) rfl rfl (lt_ok rfl) (show Env.ev E (.tmp 223) = _ from g223.trans rfl) (by first | omega | (simp; omega) | (simp [w16_len, wN_len]; omega)) (by simp only [D.size]; first | omega | (simp; omega) | (simp [w16_len, wN_len]; omega)))) ?_
              refine .cons (fun E hA_ => by have g224 := hA_.get 224 (by decide); exact OpStep.plain rfl (Step.load (e := (.int .i64 (h.getD i 0))) (t := 225) rfl rfl (by exact lt_ok rfl) (by kernel_rfl) (show Env.ev E (.tmp 224) = _ from g224.trans rfl) rfl)) ?_
              refine .cons (fun E hA_ => by have g24 := hA_.get 24 (by decide); exact OpStep.plain rfl (Step.move (p := (.one (.d (.int .i64 (i : Int))))) (t := 226) rfl rfl (by exact lt_ok rfl) (show Env.ev E (.tmp 24) = _ from g24.trans rfl))) ?_
              refine .cons (fun E hA_ => by have g9 := hA_.get 9 (by decide); have g226 := hA_.get 226 (by decide); exact OpStep.plain rfl (Step.index_arr (d := (.ints .i64 (vN h (wN b 48) 64))) (e := 3) (n := 8) (z := 1) (i := (i : Int)) (t := 227) rfl rfl (by exact lt_ok rfl) (by kernel_rfl) (show Env.ev E (.tmp 9) = _ from g9.trans rfl) (by exact (hA_.row 9 (by kernel_rfl)).trans rfl) (by first | exact hvl_ | exact hvl_.symm | rfl | (simp; done)) rfl (lt_ok rfl) (show Env.ev E (.tmp 226) = _ from g226.trans rfl) (by first | omega | (simp; omega) | (simp [w16_len, wN_len]; omega)) (by first | omega | (simp; omega) | (simp [w16_len, wN_len]; omega)))) ?_
              refine .cons (fun E hA_ => by have g227 := hA_.get 227 (by decide); exact OpStep.plain rfl (Step.load_row (c := .d (.int .i64 ((vN h (wN b 48) 64).getD i 0))) (t := 228) rfl rfl (by exact lt_ok rfl) (by kernel_rfl) (show Env.ev E (.tmp 227) = _ from g227.trans rfl) (by exact (hA_.row 9 (by kernel_rfl)).trans rfl) rfl)) ?_
              refine .cons (fun E hA_ => by have g225 := hA_.get 225 (by decide); have g228 := hA_.get 228 (by decide); exact OpStep.plain rfl (Step.bin (r := .int .i64 (wadd (h.getD i 0) ((vN h (wN b 48) 64).getD i 0))) (t := 229) rfl rfl (by exact lt_ok rfl) (show Env.ev E (.tmp 225) = _ from g225.trans rfl) (show Env.ev E (.tmp 228) = _ from g228.trans rfl) (Bin.add (k := .i64) (a := (h.getD i 0)) (b := ((vN h (wN b 48) 64).getD i 0)) (rfl)))) ?_
              refine .cons (fun E hA_ => by have g229 := hA_.get 229 (by decide); exact OpStep.plain rfl (Step.bin (r := .int .i64 (band (wadd (h.getD i 0) ((vN h (wN b 48) 64).getD i 0)) 4294967295)) (t := 230) rfl rfl (by exact lt_ok rfl) (show Env.ev E (.tmp 229) = _ from g229.trans rfl) rfl (Bin.and (k := .i64) (a := (wadd (h.getD i 0) ((vN h (wN b 48) 64).getD i 0))) (b := 4294967295) (rfl)))) ?_
              refine .cons (fun E hA_ => by have g230 := hA_.get 230 (by decide); exact OpStep.plain rfl (Step.lit_d (e := 3) (z := 1) (by_ := 8) (xs := [.tmp 230]) (pss := [[.d (.int .i64 (band (wadd (h.getD i 0) ((vN h (wN b 48) 64).getD i 0)) 4294967295))]]) (ds := [(.int .i64 (band (wadd (h.getD i 0) ((vN h (wN b 48) 64).getD i 0)) 4294967295))]) (d := (.ints .i64 [band (wadd (h.getD i 0) ((vN h (wN b 48) 64).getD i 0)) 4294967295])) (t := 231) rfl rfl (by exact lt_ok rfl) (by kernel_rfl) rfl rfl (.cons (by exact (congrArg PV.flat (show Env.ev E (.tmp 230) = _ from g230.trans rfl)).trans rfl) .nil) (by simp) (le_ok rfl) (le_ok rfl) rfl rfl trivial rfl rfl)) ?_
              exact .nil _ _
             refine TL.cons rfl (Step.append (e := 3) (z := 1) (by_ := 8) (d := (.ints .i64 (outs h (vN h (wN b 48) 64) i))) (dy := (.ints .i64 [band (wadd (h.getD i 0) ((vN h (wN b 48) 64).getD i 0)) 4294967295])) (d' := (.ints .i64 ((outs h (vN h (wN b 48) 64) i) ++ [band (wadd (h.getD i 0) ((vN h (wN b 48) 64).getD i 0)) 4294967295]))) (ss := []) rfl rfl (lt_ok rfl) (by kernel_rfl) rfl rfl rfl (lt_ok rfl) rfl (.froz rfl (by simp [D.flat, D.val])) (by simp) rfl (by simp only [D.size, List.length_map]; first | omega | (simp only [List.length_append, List.length_cons, List.length_nil]; omega) | (simp; omega) | (simp only [List.length_append] at *; omega)) (by simp only [D.size, List.length_map]; first | omega | (simp only [List.length_append, List.length_cons, List.length_nil]; omega) | (simp; omega) | (simp only [List.length_append] at *; omega)) (by simp)) ?_
             refine TL.cons rfl (Step.assign (p := (.one (.row 217 []))) rfl rfl (lt_ok rfl) rfl) ?_
             refine TL.nil ?_
             refine T.region ?_
             refine TL.cons rfl (Step.bin (r := .int .i64 ((i : Int) + 1)) rfl rfl (lt_ok rfl) rfl rfl (Bin.add (a := (i : Int)) (b := 1) (by first | exact wrap_ok (by first | omega | (simp; omega) | (simp [w16_len, wN_len]; omega)) (by first | omega | (simp; omega) | (simp [w16_len, wN_len]; omega)) | rfl))) ?_
             refine TL.cons rfl (Step.move (p := (.one (.d (.int .i64 ((i : Int) + 1))))) rfl rfl (lt_ok rfl) rfl) ?_
             refine TL.nil ?_
             refine ⟨i + 1, by omega, by first | omega | (dsimp only; omega), Env.le_mk ⟨rfl, rfl, ?_, rfl, trivial⟩ ⟨rfl, rfl, ?_, trivial⟩ trivial⟩ <;> (first | (exact congrArg (fun x => some (_, D.ints .i64 (vN h (wN b 48) x))) (show i = 64 by omega)) | (exact congrArg (fun x => PV.one (.d (.ints .i64 (vN h (wN b 48) x)))) (show i = 64 by omega)) | rfl | (refine congrArg (fun x => some (_, D.ints .i64 x)) ?_; first | rfl | (rw [show i = 64 from by omega]; first | done | rfl)) | (refine congrArg (fun n => PV.one (.d (.int .i64 n))) ?_; first | rfl | omega | (simp; done)))
            ·
             replace h9 := of_decide_eq_false h9
             refine T.exit ?_
             refine T.seq ?_
             refine T.region ?_
             refine TL.cons rfl (Step.move (p := (.one (.row 217 []))) rfl rfl (lt_ok rfl) rfl) ?_
             refine TL.cons rfl (Step.assign (p := (.one (.row 217 []))) rfl rfl (lt_ok rfl) rfl) ?_
             refine TL.nil ?_
             refine T.ret ?_
             refine ⟨[(false, [.row 217 []])], (.cons rfl .nil), rfl, [217], (RetC.own' rfl ?_ rfl .nil)⟩ <;> (first | (rw [shaBlock_yes (h := h) (b := b) ⟨by omega, by omega, hwo_⟩, show i = 8 from by omega]; done) | (simp only [D.size]; first | (rw [shaBlock_no (fun h_ => by have := h_.1; have := h_.2.1; omega)]; rfl) | (rw [shaBlock_no (fun h_ => by have := h_.2.2; rw [words_no (i := i) (by omega) (by omega)] at this; cases this)]; rfl)))
theorem ok_impl_Sha (b : List Int) (h0_ : U8s b) (h1_ : b.length ≤ 17592186040000) : RO Try.prog 48 [.one (.ints .u8 b)] [(false, [.own 5 (.ints .u8 (sha b))])] := by
 refine RO.intro Try.func48 rfl 48 rfl (le_ok rfl) fun w Z => ?_
 refine T.bnd 0 0 rfl rfl fun hb_0_0 => ?_
 simp only [D.size, List.length_map] at hb_0_0
 refine T.seq ?_
 refine T.region ?_
 refine TL.cons rfl (Step.assign (p := (.one (.nil))) rfl rfl (lt_ok rfl) rfl) ?_
 refine TL.nil ?_
 refine T.seq ?_
 refine T.region ?_
 refine TL.cons rfl (Step.call (f := 85) (xs := []) (ps := []) false (g := .func 85) rfl rfl (lt_ok rfl) rfl (by kernel_rfl) rfl .nil (ok_impl_ShaInit ) (.inr rfl) rfl (by simp) rfl) ?_
 refine TL.cons rfl (Step.move (p := (.one (.d (.ints .u8 b)))) rfl rfl (lt_ok rfl) rfl) ?_
 have nn1 := shaPad_mod b
 refine TL.cons rfl (Step.call (f := 86) (xs := [.tmp 10]) (ps := [(.one (.d (.ints .u8 b)))]) false (g := .func 86) rfl rfl (lt_ok rfl) rfl (by kernel_rfl) rfl (.cons (.one (.d _)) .nil) (ok_impl_ShaPad b (by first | omega | assumption | (simp only [List.length_append] at *; omega))) (.inr rfl) rfl (by simp) rfl) ?_
 refine TL.cons rfl (Step.assign (p := (.one (.row 1009 []))) rfl rfl (lt_ok rfl) rfl) ?_
 refine TL.freeze (r := 1011) rfl (fun _ h => h) ?_
 refine TL.cons rfl (Step.assign (p := (.one (.d (.ints .u8 (shaPad b))))) rfl rfl (lt_ok rfl) rfl) ?_
 refine TL.ren 1009 600003 rfl (by simp) ?_
 refine TL.nil ?_
 refine T.seq ?_
 refine T.seq ?_
 refine T.region ?_
 refine TL.cons rfl (Step.assign (p := (.one (.d (.int .i64 0)))) rfl rfl (lt_ok rfl) rfl) ?_
 refine TL.nil ?_
 refine T.block ?_
 refine T.loop (ι := Nat) (fun xx_ => { tm := [(2, (.one (.nil))), (4, (.one (.d (.ints .u8 (shaPad b))))), (5, (.one (.d (.int .i64 (64 * (xx_ : Int)))))), (3, (.one (.row 600003 [])))], rows := [(600003, (3, (.ints .i64 (hN (shaPad b) xx_))))], boxes := [] }) (fun xx_ => 64 * xx_ ≤ (shaPad b).length) (fun xx_ => (shaPad b).length - 64 * xx_) 0 ?_ ?_ ?_
 · refine Env.le_mk ⟨rfl, rfl, ?_, rfl, trivial⟩ ⟨?_, trivial⟩ trivial <;> (first | rfl | (refine congrArg (fun n => PV.one (.d (.int .i64 n))) ?_; first | rfl | omega | (simp; done)))
 · exact Nat.zero_le _
 ·
  intro i hx
  try dsimp only at hx ⊢
  have hu_ := u8_sub (shaPad_u8 h0_)
  refine T.seq ?_
  refine T.seq ?_
  refine T.region ?_
  refine TL.cons rfl (Step.move (p := (.one (.d (.int .i64 (64 * (i : Int)))))) rfl rfl (lt_ok rfl) rfl) ?_
  refine TL.cons rfl (Step.move (p := (.one (.d (.ints .u8 (shaPad b))))) rfl rfl (lt_ok rfl) rfl) ?_
  refine TL.cons rfl (Step.len (e := 5) (z := 1) (d := (.ints .u8 (shaPad b))) rfl rfl (lt_ok rfl) (by kernel_rfl) rfl rfl) ?_
  refine TL.cons rfl (Step.bin rfl rfl (lt_ok rfl) rfl rfl (Bin.lss (k := .i64) (a := (64 * (i : Int))) (b := ((shaPad b).length : Int)))) ?_
  refine TL.nil ?_
  refine T.cond (b := decide ((64 * (i : Int)) < ((shaPad b).length : Int))) rfl (fun h2 => ?_) (fun h2 => ?_)
  ·
   replace h2 := of_decide_eq_true h2
   refine T.skip ?_
   refine T.seq ?_
   refine T.block ?_
   refine T.region ?_
   refine TL.cons rfl (Step.move (p := (.one (.row 600003 []))) rfl rfl (lt_ok rfl) rfl) ?_
   refine TL.cons rfl (Step.move (p := (.one (.d (.ints .u8 (shaPad b))))) rfl rfl (lt_ok rfl) rfl) ?_
   refine TL.cons rfl (Step.move (p := (.one (.d (.int .i64 (64 * (i : Int)))))) rfl rfl (lt_ok rfl) rfl) ?_
   refine TL.cons rfl (Step.move (p := (.one (.d (.int .i64 (64 * (i : Int)))))) rfl rfl (lt_ok rfl) rfl) ?_
   refine TL.cons rfl (Step.bin (r := .int .i64 ((64 * (i : Int)) + 64)) rfl rfl (lt_ok rfl) rfl rfl (Bin.add (a := (64 * (i : Int))) (b := 64) (by first | exact wrap_ok (by first | omega | (simp; omega)) (by first | omega | (simp; omega)) | rfl))) ?_
   refine TL.cons rfl (Step.slice (e := 5) (z := 1) (l := (64 * (i : Int)).toNat) (h := ((64 * (i : Int)) + 64).toNat) rfl rfl (lt_ok rfl) (by kernel_rfl) rfl rfl rfl ((.some (i := (64 * (i : Int))) rfl (by first | omega | (simp; omega)))) ((.some (i := ((64 * (i : Int)) + 64)) rfl (by first | omega | (simp; omega)))) (by first | omega | (simp; omega)) (by simp only [D.size]; first | omega | (simp; omega)) rfl) ?_
   have nn3 := shaBlock_len (hN (shaPad b) i) (((shaPad b).drop (64 * (i : Int)).toNat).take (((64 * (i : Int)) + 64).toNat - (64 * (i : Int)).toNat))
   refine TL.cons rfl (Step.call (f := 87) (xs := [.tmp 18, .tmp 23]) (ps := [(.one (.row 600003 [])), (.one (.d (.ints .u8 (((shaPad b).drop (64 * (i : Int)).toNat).take (((64 * (i : Int)) + 64).toNat - (64 * (i : Int)).toNat)))))]) false (g := .func 87) rfl rfl (lt_ok rfl) rfl (by kernel_rfl) rfl (.cons (.one (.row rfl rfl rfl rfl)) (.cons (.one (.d _)) .nil)) (ok_impl_ShaBlock (hN (shaPad b) i) (((shaPad b).drop (64 * (i : Int)).toNat).take (((64 * (i : Int)) + 64).toNat - (64 * (i : Int)).toNat)) (by first | assumption | exact hu_ _ _)) (.inr rfl) rfl (by simp) rfl) ?_
   refine TL.cons rfl (Step.assign (p := (.one (.row 1024 []))) rfl rfl (lt_ok rfl) rfl) ?_
   refine TL.weaken (Env.drops_le [600003] _) ?_
   refine TL.ren 1024 600003 rfl (by simp) ?_
   refine TL.nil ?_
   refine T.region ?_
   refine TL.cons rfl (Step.move (p := (.one (.d (.int .i64 (64 * (i : Int)))))) rfl rfl (lt_ok rfl) rfl) ?_
   refine TL.cons rfl (Step.bin (r := .int .i64 ((64 * (i : Int)) + 64)) rfl rfl (lt_ok rfl) rfl rfl (Bin.add (a := (64 * (i : Int))) (b := 64) (by first | exact wrap_ok (by first | omega | (simp; omega)) (by first | omega | (simp; omega)) | rfl))) ?_
   refine TL.cons rfl (Step.assign (p := (.one (.d (.int .i64 ((64 * (i : Int)) + 64))))) rfl rfl (lt_ok rfl) rfl) ?_
   refine TL.nil ?_
   refine ⟨i + 1, by omega, by first | omega | (dsimp only; omega), Env.le_mk ⟨rfl, rfl, ?_, rfl, trivial⟩ ⟨?_, trivial⟩ trivial⟩ <;> (first | rfl | (refine congrArg (fun n => PV.one (.d (.int .i64 n))) ?_; first | rfl | omega | (simp; done)))
  ·
   replace h2 := of_decide_eq_false h2
   refine T.exit ?_
   refine T.seq ?_
   refine T.region ?_
   refine TL.cons rfl (Step.lit (e := 5) (z := 1) (by_ := 1) (xs := []) (pss := []) (es := []) (ss := []) (d := (.ints .u8 [])) rfl rfl (lt_ok rfl) (by kernel_rfl) rfl rfl .nil (by simp) (le_ok rfl) (le_ok rfl) rfl .nil rfl (by simp) (by simp) rfl trivial rfl rfl) ?_
   refine TL.cons rfl (Step.assign (p := (.one (.row 25 []))) rfl rfl (lt_ok rfl) rfl) ?_
   refine TL.nil ?_
   refine T.seq ?_
   refine T.seq ?_
   refine T.region ?_
   refine TL.cons rfl (Step.move (p := (.one (.row 600003 []))) rfl rfl (lt_ok rfl) rfl) ?_
   refine TL.cons rfl (Step.len (e := 3) (z := 1) (d := (.ints .i64 (hN (shaPad b) i))) rfl rfl (lt_ok rfl) (by kernel_rfl) rfl rfl) ?_
   refine TL.cons rfl (Step.move (p := (.one (.d (.int .i64 0)))) rfl rfl (lt_ok rfl) rfl) ?_
   refine TL.nil ?_
   refine T.block ?_
   refine T.loop (ι := Nat) (fun xx_ => { tm := [(2, (.one (.nil))), (26, (.one (.row 600003 []))), (27, (.one (.d (.int .i64 ((shaH b).length : Int))))), (28, (.one (.d (.int .i64 (xx_ : Int))))), (6, (.one (.row 25 [])))], rows := [(600003, (3, (.ints .i64 (shaH b)))), (25, (5, (.ints .u8 (outB (shaH b) xx_))))], boxes := [] }) (fun xx_ => xx_ ≤ (shaH b).length) (fun xx_ => (shaH b).length - xx_) 0 ?_ ?_ ?_
   · refine Env.le_mk ⟨rfl, rfl, ?_, ?_, rfl, trivial⟩ ⟨?_, ?_, trivial⟩ trivial <;> (first | rfl | (refine congrArg (fun x => some (_, D.ints .i64 x)) ?_; unfold shaH; rw [show i = (shaPad b).length / 64 from by omega]) | (refine congrArg (fun n => PV.one (.d (.int .i64 n))) ?_; first | rfl | omega | (unfold shaH; rw [show i = (shaPad b).length / 64 from by omega]; first | done | rfl) | (simp; done)))
   · exact Nat.zero_le _
   ·
    intro i hx
    try dsimp only at hx ⊢
    have hl_ := outB_len (shaH b) i
    have hh_ : (shaH b).length ≤ 8 := hN_len _ _
    refine T.seq ?_
    refine T.region ?_
    refine TL.cons rfl (Step.bin rfl rfl (lt_ok rfl) rfl rfl (Bin.lss (k := .i64) (a := (i : Int)) (b := ((shaH b).length : Int)))) ?_
    refine TL.nil ?_
    refine T.seq ?_
    refine T.cond (b := decide ((i : Int) < ((shaH b).length : Int))) rfl (fun h4 => ?_) (fun h4 => ?_)
    ·
     replace h4 := of_decide_eq_true h4
     refine T.skip ?_
     refine T.seq ?_
     refine T.block ?_
     refine T.seq ?_
     refine T.region ?_
     refine TL.cons rfl (Step.index_row (e := 3) (z := 1) (i := (i : Int)) rfl rfl (lt_ok rfl) (by kernel_rfl) rfl rfl rfl rfl (lt_ok rfl) rfl (by first | omega | (simp; omega)) (by simp only [D.at_, D.cell, D.size]; first | omega | (simp; omega))) ?_
     refine TL.cons rfl (Step.load_row (c := .d (.int .i64 ((shaH b).getD i 0))) rfl rfl (lt_ok rfl) (by kernel_rfl) rfl rfl rfl) ?_
     refine TL.cons rfl (Step.assign (p := (.one (.d (.int .i64 ((shaH b).getD i 0))))) rfl rfl (lt_ok rfl) rfl) ?_
     refine TL.nil ?_
     refine T.region ?_
     refine TL.cons rfl (Step.move (p := (.one (.row 25 []))) rfl rfl (lt_ok rfl) rfl) ?_
     refine TL.cons rfl (Step.move (p := (.one (.d (.int .i64 ((shaH b).getD i 0))))) rfl rfl (lt_ok rfl) rfl) ?_
     refine TL.cons rfl (Step.bin (r := .int .i64 (bshr ((shaH b).getD i 0) 24)) rfl rfl (lt_ok rfl) rfl rfl (Bin.shr (k := .i64) (k' := .u64) (a := ((shaH b).getD i 0)) (b := 24) (by first | omega | (simp; omega)) (rfl))) ?_
     refine TL.cons rfl (Step.conv (c := ((bshr ((shaH b).getD i 0) 24) % 256)) rfl rfl (lt_ok rfl) (by kernel_rfl) (by kernel_rfl) rfl (wrap_byte _)) ?_
     refine TL.cons rfl (Step.move (p := (.one (.d (.int .i64 ((shaH b).getD i 0))))) rfl rfl (lt_ok rfl) rfl) ?_
     refine TL.cons rfl (Step.bin (r := .int .i64 (bshr ((shaH b).getD i 0) 16)) rfl rfl (lt_ok rfl) rfl rfl (Bin.shr (k := .i64) (k' := .u64) (a := ((shaH b).getD i 0)) (b := 16) (by first | omega | (simp; omega)) (rfl))) ?_
     refine TL.cons rfl (Step.conv (c := ((bshr ((shaH b).getD i 0) 16) % 256)) rfl rfl (lt_ok rfl) (by kernel_rfl) (by kernel_rfl) rfl (wrap_byte _)) ?_
     refine TL.cons rfl (Step.move (p := (.one (.d (.int .i64 ((shaH b).getD i 0))))) rfl rfl (lt_ok rfl) rfl) ?_
     refine TL.cons rfl (Step.bin (r := .int .i64 (bshr ((shaH b).getD i 0) 8)) rfl rfl (lt_ok rfl) rfl rfl (Bin.shr (k := .i64) (k' := .u64) (a := ((shaH b).getD i 0)) (b := 8) (by first | omega | (simp; omega)) (rfl))) ?_
     refine TL.cons rfl (Step.conv (c := ((bshr ((shaH b).getD i 0) 8) % 256)) rfl rfl (lt_ok rfl) (by kernel_rfl) (by kernel_rfl) rfl (wrap_byte _)) ?_
     refine TL.cons rfl (Step.move (p := (.one (.d (.int .i64 ((shaH b).getD i 0))))) rfl rfl (lt_ok rfl) rfl) ?_
     refine TL.cons rfl (Step.conv (c := (((shaH b).getD i 0) % 256)) rfl rfl (lt_ok rfl) (by kernel_rfl) (by kernel_rfl) rfl (wrap_byte _)) ?_
     refine TL.cons rfl (Step.lit (e := 5) (z := 1) (by_ := 1) (xs := [.tmp 35, .tmp 38, .tmp 41, .tmp 43]) (pss := [[.d (.int .u8 ((bshr ((shaH b).getD i 0) 24) % 256))], [.d (.int .u8 ((bshr ((shaH b).getD i 0) 16) % 256))], [.d (.int .u8 ((bshr ((shaH b).getD i 0) 8) % 256))], [.d (.int .u8 (((shaH b).getD i 0) % 256))]]) (es := [(.int .u8 ((bshr ((shaH b).getD i 0) 24) % 256)), (.int .u8 ((bshr ((shaH b).getD i 0) 16) % 256)), (.int .u8 ((bshr ((shaH b).getD i 0) 8) % 256)), (.int .u8 (((shaH b).getD i 0) % 256))]) (ss := []) (d := (.ints .u8 [(bshr ((shaH b).getD i 0) 24) % 256, (bshr ((shaH b).getD i 0) 16) % 256, (bshr ((shaH b).getD i 0) 8) % 256, ((shaH b).getD i 0) % 256])) rfl rfl (lt_ok rfl) (by kernel_rfl) rfl rfl (.cons rfl (.cons rfl (.cons rfl (.cons rfl .nil)))) (by simp) (le_ok rfl) (le_ok rfl) rfl (.val rfl (.val rfl (.val rfl (.val rfl .nil)))) rfl (by simp) (by simp) rfl trivial rfl rfl) ?_
     refine TL.cons rfl (Step.append (e := 5) (z := 1) (by_ := 1) (d := (.ints .u8 (outB (shaH b) i))) (dy := (.ints .u8 [(bshr ((shaH b).getD i 0) 24) % 256, (bshr ((shaH b).getD i 0) 16) % 256, (bshr ((shaH b).getD i 0) 8) % 256, ((shaH b).getD i 0) % 256])) (d' := (.ints .u8 ((outB (shaH b) i) ++ [(bshr ((shaH b).getD i 0) 24) % 256, (bshr ((shaH b).getD i 0) 16) % 256, (bshr ((shaH b).getD i 0) 8) % 256, ((shaH b).getD i 0) % 256]))) (ss := []) rfl rfl (lt_ok rfl) (by kernel_rfl) rfl rfl rfl (lt_ok rfl) rfl (.copy rfl rfl rfl (by simp [D.flat, D.val])) (by simp) rfl (by simp only [D.size, List.length_map]; first | omega | (simp only [List.length_append, List.length_cons, List.length_nil]; omega) | (simp; omega) | (simp only [List.length_append] at *; omega)) (by simp only [D.size, List.length_map]; first | omega | (simp only [List.length_append, List.length_cons, List.length_nil]; omega) | (simp; omega) | (simp only [List.length_append] at *; omega)) (by simp)) ?_
     refine TL.cons rfl (Step.assign (p := (.one (.row 25 []))) rfl rfl (lt_ok rfl) rfl) ?_
     refine TL.nil ?_
     refine T.region ?_
     refine TL.cons rfl (Step.bin (r := .int .i64 ((i : Int) + 1)) rfl rfl (lt_ok rfl) rfl rfl (Bin.add (a := (i : Int)) (b := 1) (by first | exact wrap_ok (by first | omega | (simp; omega)) (by first | omega | (simp; omega)) | rfl))) ?_
     refine TL.cons rfl (Step.move (p := (.one (.d (.int .i64 ((i : Int) + 1))))) rfl rfl (lt_ok rfl) rfl) ?_
     refine TL.nil ?_
     refine ⟨i + 1, by omega, by first | omega | (dsimp only; omega), Env.le_mk ⟨rfl, rfl, rfl, ?_, rfl, trivial⟩ ⟨rfl, ?_, trivial⟩ trivial⟩ <;> (first | rfl | (refine congrArg (fun x => some (_, D.ints .i64 x)) ?_; unfold shaH; rw [show i = (shaPad b).length / 64 from by omega]) | (refine congrArg (fun n => PV.one (.d (.int .i64 n))) ?_; first | rfl | omega | (unfold shaH; rw [show i = (shaPad b).length / 64 from by omega]; first | done | rfl) | (simp; done)))
    ·
     replace h4 := of_decide_eq_false h4
     refine T.exit ?_
     refine T.seq ?_
     refine T.region ?_
     refine TL.cons rfl (Step.move (p := (.one (.row 25 []))) rfl rfl (lt_ok rfl) rfl) ?_
     refine TL.cons rfl (Step.assign (p := (.one (.row 25 []))) rfl rfl (lt_ok rfl) rfl) ?_
     refine TL.nil ?_
     refine T.ret ?_
     refine ⟨[(false, [.row 25 []])], (.cons rfl .nil), rfl, [25], (RetC.own' rfl ?_ rfl .nil)⟩ <;> ((congr 1; unfold sha; rw [show i = (shaH b).length from by omega]))
theorem ok_impl_NodeHash (a : List Int) (b : List Int) (h0_ : U8s a) (h1_ : U8s b) (h2_ : a.length ≤ 1048576) (h3_ : b.length ≤ 1048576) : RO Try.prog 51 [.one (.ints .u8 a), .one (.ints .u8 b)] [(false, [.own 5 (.ints .u8 (nodeHash a b))])] := by
 refine RO.intro Try.func51 rfl 11 rfl (le_ok rfl) fun w Z => ?_
 refine T.bnd 0 0 rfl rfl fun hb_0_0 => ?_
 simp only [D.size, List.length_map] at hb_0_0
 refine T.bnd 1 0 rfl rfl fun hb_1_0 => ?_
 simp only [D.size, List.length_map] at hb_1_0
 refine T.seq ?_
 refine T.region ?_
 refine TL.cons rfl (Step.assign (p := (.one (.nil))) rfl rfl (lt_ok rfl) rfl) ?_
 refine TL.nil ?_
 refine T.seq ?_
 refine T.region ?_
 refine TL.cons rfl (Step.lit (e := 5) (z := 1) (by_ := 1) (xs := [.const (.int .u8 1)]) (pss := [[.d (.int .u8 1)]]) (es := [(.int .u8 1)]) (ss := []) (d := (.ints .u8 [1])) rfl rfl (lt_ok rfl) (by kernel_rfl) rfl rfl (.cons rfl .nil) (by simp) (le_ok rfl) (le_ok rfl) rfl (.val rfl .nil) rfl (by simp) (by simp) rfl trivial rfl rfl) ?_
 refine TL.cons rfl (Step.move (p := (.one (.d (.ints .u8 a)))) rfl rfl (lt_ok rfl) rfl) ?_
 refine TL.cons rfl (Step.append (e := 5) (z := 1) (by_ := 1) (d := (.ints .u8 [1])) (dy := (.ints .u8 a)) (d' := (.ints .u8 ([1] ++ a))) (ss := []) rfl rfl (lt_ok rfl) (by kernel_rfl) rfl rfl rfl (lt_ok rfl) rfl (.froz rfl (by simp [D.flat, D.val])) (by simp) rfl (by simp only [D.size, List.length_map]; first | omega | (simp only [List.length_append, List.length_cons, List.length_nil]; omega) | (simp; omega) | (simp only [List.length_append] at *; omega)) (by simp only [D.size, List.length_map]; first | omega | (simp only [List.length_append, List.length_cons, List.length_nil]; omega) | (simp; omega) | (simp only [List.length_append] at *; omega)) (by simp)) ?_
 refine TL.cons rfl (Step.move (p := (.one (.d (.ints .u8 b)))) rfl rfl (lt_ok rfl) rfl) ?_
 refine TL.cons rfl (Step.append (e := 5) (z := 1) (by_ := 1) (d := (.ints .u8 ([1] ++ a))) (dy := (.ints .u8 b)) (d' := (.ints .u8 (([1] ++ a) ++ b))) (ss := []) rfl rfl (lt_ok rfl) (by kernel_rfl) rfl rfl rfl (lt_ok rfl) rfl (.froz rfl (by simp [D.flat, D.val])) (by simp) rfl (by simp only [D.size, List.length_map]; first | omega | (simp only [List.length_append, List.length_cons, List.length_nil]; omega) | (simp; omega) | (simp only [List.length_append] at *; omega)) (by simp only [D.size, List.length_map]; first | omega | (simp only [List.length_append, List.length_cons, List.length_nil]; omega) | (simp; omega) | (simp only [List.length_append] at *; omega)) (by simp)) ?_
 have nn1 := sha_len (([1] ++ a) ++ b)
 have nn2 := sha_u8 (([1] ++ a) ++ b)
 refine TL.cons rfl (Step.call (f := 48) (xs := [.tmp 9]) (ps := [(.one (.row 5 []))]) false (g := .func 48) rfl rfl (lt_ok rfl) rfl (by kernel_rfl) rfl (.cons (.one (.row rfl rfl rfl rfl)) .nil) (ok_impl_Sha (([1] ++ a) ++ b) (by first | assumption | exact sha_u8 _ | exact treeRoot_u8 _ | exact nodeHash_u8 _ _ | exact leafHash_u8 _ | exact u8_cons (by decide) (by assumption) | exact mem_getD (p := U8s) (by assumption) (by omega) | exact u8_app (u8_cons (by decide) (by assumption)) (by assumption) | exact fun x hx => by cases hx) (by first | omega | assumption | (simp only [List.length_append] at *; omega) | (simp; done) | (simp; omega))) (.inr rfl) rfl (by simp) rfl) ?_
 refine TL.cons rfl (Step.assign (p := (.one (.row 1010 []))) rfl rfl (lt_ok rfl) rfl) ?_
 refine TL.nil ?_
 refine T.ret ?_
 refine ⟨[(false, [.row 1010 []])], (.cons rfl .nil), rfl, [1010], (RetC.own' rfl ?_ rfl .nil)⟩ <;> (rfl)
theorem ok_impl_consRoots_r (d_ : Nat) : ∀ (m : Int) (n : Int) (old : List Int) (proof : List (List Int)) (known : Bool) (hd_ : n.toNat = d_) (h0_ : 1 ≤ m ∧ m ≤ n ∧ n ≤ 1048576) (h1_ : (proof.length : Int) = cLen m n known) (h2_ : U8s old) (h3_ : ∀ y ∈ proof, U8s y) (h4_ : ∀ y ∈ proof, y.length ≤ 1048576) (h5_ : old.length ≤ 1048576), RO Try.prog 56 [.one (.int .i64 m), .one (.int .i64 n), .one (.ints .u8 old), .one (.bss proof), .one (.bool known)] [(false, [.own 5 (.ints .u8 (cRoots m n old proof known).1)]), (false, [.own 5 (.ints .u8 (cRoots m n old proof known).2)])] := by
 refine Nat.strongRecOn d_ ?_
 intro d_ ih m n old proof known hd_ h0_ h1_ h2_ h3_ h4_ h5_
 subst hd_
 refine RO.intro Try.func56 rfl 78 rfl (le_ok rfl) fun w Z => ?_
 refine T.bnd 2 0 rfl rfl fun hb_2_0 => ?_
 simp only [D.size, List.length_map] at hb_2_0
 refine T.bnd 3 0 rfl rfl fun hb_3_0 => ?_
 simp only [D.size, List.length_map] at hb_3_0
 have hsb_ := splitAtT_bd n
 have hcl_ := @cLen_left m n known
 have hcr_ := @cLen_right m n known
 have hce_ := @cLen_eq m n known
 have hfk_ : known = false → flag (!known) = 1 := fun h => by rw [h]; rfl
 have hbl_ := cLen_bd (splitAtT n).toNat m (splitAtT n) known (by omega)
 have hbr_ := cLen_bd (n - splitAtT n).toNat (m - splitAtT n) (n - splitAtT n) false (by omega)
 have hpp_ := pre_len proof
 have hy_ := mem_len h4_ ((proof.length : Int) - 1).toNat
 have hy0_ := mem_len h4_ 0
 refine T.seq ?_
 refine T.region ?_
 refine TL.cons rfl (Step.assign (p := (.one (.nil))) rfl rfl (lt_ok rfl) rfl) ?_
 refine TL.cons rfl (Step.assign (p := (.one (.nil))) rfl rfl (lt_ok rfl) rfl) ?_
 refine TL.nil ?_
 refine T.seq ?_
 refine T.seq ?_
 refine T.region ?_
 refine TL.cons rfl (Step.move (p := (.one (.d (.int .i64 m)))) rfl rfl (lt_ok rfl) rfl) ?_
 refine TL.cons rfl (Step.move (p := (.one (.d (.int .i64 n)))) rfl rfl (lt_ok rfl) rfl) ?_
 refine TL.cons rfl (Step.bin rfl rfl (lt_ok rfl) rfl rfl (Bin.eql (k := .i64) (a := m) (b := n))) ?_
 refine TL.nil ?_
 refine T.cond (b := decide (m = n)) rfl (fun h1 => ?_) (fun h1 => ?_)
 ·
  replace h1 := of_decide_eq_true h1
  refine T.seq ?_
  refine T.seq ?_
  refine T.region ?_
  refine TL.cons rfl (Step.move (p := (.one (.d (.bool known)))) rfl rfl (lt_ok rfl) rfl) ?_
  refine TL.cons rfl (Step.not (b := known) rfl rfl (lt_ok rfl) rfl) ?_
  refine TL.nil ?_
  refine T.cond (b := !known) rfl (fun h2 => ?_) (fun h2 => ?_)
  ·
   replace h2 : (known) = false := by simpa only [Bool.not_eq_true', Bool.not_eq_false'] using h2
   refine T.region ?_
   refine TL.cons rfl (Step.move (p := (.one (.d (.bss proof)))) rfl rfl (lt_ok rfl) rfl) ?_
   refine TL.cons rfl (Step.index (e := 22) (z := 1) (i := 0) rfl rfl (lt_ok rfl) (by kernel_rfl) rfl rfl rfl (lt_ok rfl) rfl (by first | omega | (simp; omega) | (have := hcl_ (by omega) (by omega) (by omega); omega) | (have := hcr_ (by omega) (by omega) (by omega); omega) | (have := hce_ (by omega); have := hfk_ (by assumption); omega)) (by simp only [D.size]; first | omega | (simp; omega) | (have := hcl_ (by omega) (by omega) (by omega); omega) | (have := hcr_ (by omega) (by omega) (by omega); omega) | (have := hce_ (by omega); have := hfk_ (by assumption); omega))) ?_
   refine TL.cons rfl (Step.load (e := (.ints .u8 (proof.getD 0 []))) rfl rfl (lt_ok rfl) (by kernel_rfl) rfl rfl) ?_
   refine TL.cons rfl (Step.assign (p := (.one (.d (.ints .u8 (proof.getD 0 []))))) rfl rfl (lt_ok rfl) rfl) ?_
   refine TL.nil ?_
   refine T.seq ?_
   refine T.region ?_
   refine TL.cons rfl (Step.move (p := (.one (.d (.ints .u8 (proof.getD 0 []))))) rfl rfl (lt_ok rfl) rfl) ?_
   refine TL.cons rfl (Step.call (f := 88) (xs := [.tmp 27]) (ps := [(.one (.d (.ints .u8 (proof.getD 0 []))))]) false (g := .func 88) rfl rfl (lt_ok rfl) rfl (by kernel_rfl) rfl (.cons (.one (.d _)) .nil) (ok_impl_copyBytes (proof.getD 0 []) (by first | omega | assumption | (simp only [List.length_take, List.length_drop]; omega))) (.inr rfl) rfl (by simp) rfl) ?_
   refine TL.cons rfl (Step.move (p := (.one (.d (.ints .u8 (proof.getD 0 []))))) rfl rfl (lt_ok rfl) rfl) ?_
   refine TL.cons rfl (Step.call (f := 88) (xs := [.tmp 29]) (ps := [(.one (.d (.ints .u8 (proof.getD 0 []))))]) false (g := .func 88) rfl rfl (lt_ok rfl) rfl (by kernel_rfl) rfl (.cons (.one (.d _)) .nil) (ok_impl_copyBytes (proof.getD 0 []) (by first | omega | assumption | (simp only [List.length_take, List.length_drop]; omega))) (.inr rfl) rfl (by simp) rfl) ?_
   refine TL.cons rfl (Step.assign (p := (.one (.row 1028 []))) rfl rfl (lt_ok rfl) rfl) ?_
   refine TL.cons rfl (Step.assign (p := (.one (.row 1030 []))) rfl rfl (lt_ok rfl) rfl) ?_
   refine TL.nil ?_
   refine T.ret ?_
   refine ⟨[(false, [.row 1028 []]), (false, [.row 1030 []])], (.cons rfl (.cons rfl .nil)), rfl, [1028, 1030], (RetC.own' rfl ?_ rfl (RetC.own' rfl ?_ rfl .nil))⟩ <;> ((congr 1; first | (rw [cRoots_known (m := m) (n := n) (old := old) (proof := proof) (by omega) (by assumption)]; done) | (rw [cRoots_new (m := m) (n := n) (old := old) (proof := proof) (by omega) (by assumption)]; done) | (rw [cRoots_left (m := m) (n := n) (old := old) (proof := proof) (by omega) (by omega) (by omega)]; done) | (rw [cRoots_right (m := m) (n := n) (old := old) (proof := proof) (by omega) (by omega) (by omega)]; done)))
  ·
   replace h2 : (known) = true := by simpa only [Bool.not_eq_true', Bool.not_eq_false'] using h2
   refine T.skip ?_
   refine T.seq ?_
   refine T.region ?_
   refine TL.cons rfl (Step.move (p := (.one (.d (.ints .u8 old)))) rfl rfl (lt_ok rfl) rfl) ?_
   refine TL.cons rfl (Step.call (f := 88) (xs := [.tmp 27]) (ps := [(.one (.d (.ints .u8 old)))]) false (g := .func 88) rfl rfl (lt_ok rfl) rfl (by kernel_rfl) rfl (.cons (.one (.d _)) .nil) (ok_impl_copyBytes old (by first | omega | assumption | (simp only [List.length_take, List.length_drop]; omega))) (.inr rfl) rfl (by simp) rfl) ?_
   refine TL.cons rfl (Step.move (p := (.one (.d (.ints .u8 old)))) rfl rfl (lt_ok rfl) rfl) ?_
   refine TL.cons rfl (Step.call (f := 88) (xs := [.tmp 29]) (ps := [(.one (.d (.ints .u8 old)))]) false (g := .func 88) rfl rfl (lt_ok rfl) rfl (by kernel_rfl) rfl (.cons (.one (.d _)) .nil) (ok_impl_copyBytes old (by first | omega | assumption | (simp only [List.length_take, List.length_drop]; omega))) (.inr rfl) rfl (by simp) rfl) ?_
   refine TL.cons rfl (Step.assign (p := (.one (.row 1028 []))) rfl rfl (lt_ok rfl) rfl) ?_
   refine TL.cons rfl (Step.assign (p := (.one (.row 1030 []))) rfl rfl (lt_ok rfl) rfl) ?_
   refine TL.nil ?_
   refine T.ret ?_
   refine ⟨[(false, [.row 1028 []]), (false, [.row 1030 []])], (.cons rfl (.cons rfl .nil)), rfl, [1028, 1030], (RetC.own' rfl ?_ rfl (RetC.own' rfl ?_ rfl .nil))⟩ <;> ((congr 1; first | (rw [cRoots_known (m := m) (n := n) (old := old) (proof := proof) (by omega) (by assumption)]; done) | (rw [cRoots_new (m := m) (n := n) (old := old) (proof := proof) (by omega) (by assumption)]; done) | (rw [cRoots_left (m := m) (n := n) (old := old) (proof := proof) (by omega) (by omega) (by omega)]; done) | (rw [cRoots_right (m := m) (n := n) (old := old) (proof := proof) (by omega) (by omega) (by omega)]; done)))
 ·
  replace h1 := of_decide_eq_false h1
  refine T.skip ?_
  refine T.seq ?_
  refine T.region ?_
  refine TL.cons rfl (Step.move (p := (.one (.d (.int .i64 n)))) rfl rfl (lt_ok rfl) rfl) ?_
  have nn3 := splitAtT_bd n
  refine TL.cons rfl (Step.call (f := 50) (xs := [.tmp 31]) (ps := [(.one (.d (.int .i64 n)))]) false (g := .func 50) rfl rfl (lt_ok rfl) rfl (by kernel_rfl) rfl (.cons (.one (.d _)) .nil) (ok_impl_SplitAt n (by first | omega | assumption | (simp only [List.length_append] at *; omega))) (.inr rfl) rfl (by simp) rfl) ?_
  refine TL.cons rfl (Step.move (p := (.one (.d (.bss proof)))) rfl rfl (lt_ok rfl) rfl) ?_
  refine TL.cons rfl (Step.len (e := 22) (z := 1) (d := (.bss proof)) rfl rfl (lt_ok rfl) (by kernel_rfl) rfl rfl) ?_
  refine TL.cons rfl (Step.bin (r := .int .i64 ((proof.length : Int) - 1)) rfl rfl (lt_ok rfl) rfl rfl (Bin.sub (a := (proof.length : Int)) (b := 1) (by first | exact wrap_ok (by first | omega | (simp; omega) | (have := hcl_ (by omega) (by omega) (by omega); omega) | (have := hcr_ (by omega) (by omega) (by omega); omega) | (have := hce_ (by omega); have := hfk_ (by assumption); omega)) (by first | omega | (simp; omega) | (have := hcl_ (by omega) (by omega) (by omega); omega) | (have := hcr_ (by omega) (by omega) (by omega); omega) | (have := hce_ (by omega); have := hfk_ (by assumption); omega)) | rfl))) ?_
  refine TL.cons rfl (Step.assign (p := (.one (.d (.int .i64 (splitAtT n))))) rfl rfl (lt_ok rfl) rfl) ?_
  refine TL.cons rfl (Step.assign (p := (.one (.d (.int .i64 ((proof.length : Int) - 1))))) rfl rfl (lt_ok rfl) rfl) ?_
  refine TL.nil ?_
  refine T.seq ?_
  refine T.region ?_
  refine TL.cons rfl (Step.move (p := (.one (.d (.bss proof)))) rfl rfl (lt_ok rfl) rfl) ?_
  refine TL.cons rfl (Step.move (p := (.one (.d (.int .i64 ((proof.length : Int) - 1))))) rfl rfl (lt_ok rfl) rfl) ?_
  refine TL.cons rfl (Step.index (e := 22) (z := 1) (i := ((proof.length : Int) - 1)) rfl rfl (lt_ok rfl) (by kernel_rfl) rfl rfl rfl (lt_ok rfl) rfl (by first | omega | (simp; omega) | (have := hcl_ (by omega) (by omega) (by omega); omega) | (have := hcr_ (by omega) (by omega) (by omega); omega) | (have := hce_ (by omega); have := hfk_ (by assumption); omega)) (by simp only [D.size]; first | omega | (simp; omega) | (have := hcl_ (by omega) (by omega) (by omega); omega) | (have := hcr_ (by omega) (by omega) (by omega); omega) | (have := hce_ (by omega); have := hfk_ (by assumption); omega))) ?_
  refine TL.cons rfl (Step.load (e := (.ints .u8 (proof.getD ((proof.length : Int) - 1).toNat []))) rfl rfl (lt_ok rfl) (by kernel_rfl) rfl rfl) ?_
  refine TL.cons rfl (Step.assign (p := (.one (.d (.ints .u8 (proof.getD ((proof.length : Int) - 1).toNat []))))) rfl rfl (lt_ok rfl) rfl) ?_
  refine TL.nil ?_
  refine T.seq ?_
  refine T.seq ?_
  refine T.region ?_
  refine TL.cons rfl (Step.move (p := (.one (.d (.int .i64 m)))) rfl rfl (lt_ok rfl) rfl) ?_
  refine TL.cons rfl (Step.move (p := (.one (.d (.int .i64 (splitAtT n))))) rfl rfl (lt_ok rfl) rfl) ?_
  refine TL.cons rfl (Step.bin rfl rfl (lt_ok rfl) rfl rfl (Bin.leq (k := .i64) (a := m) (b := (splitAtT n)))) ?_
  refine TL.nil ?_
  refine T.cond (b := decide (m ≤ (splitAtT n))) rfl (fun h4 => ?_) (fun h4 => ?_)
  ·
   replace h4 := of_decide_eq_true h4
   refine T.seq ?_
   refine T.region ?_
   refine TL.cons rfl (Step.move (p := (.one (.d (.int .i64 m)))) rfl rfl (lt_ok rfl) rfl) ?_
   refine TL.cons rfl (Step.move (p := (.one (.d (.int .i64 (splitAtT n))))) rfl rfl (lt_ok rfl) rfl) ?_
   refine TL.cons rfl (Step.move (p := (.one (.d (.ints .u8 old)))) rfl rfl (lt_ok rfl) rfl) ?_
   refine TL.cons rfl (Step.move (p := (.one (.d (.bss proof)))) rfl rfl (lt_ok rfl) rfl) ?_
   refine TL.cons rfl (Step.move (p := (.one (.d (.int .i64 ((proof.length : Int) - 1))))) rfl rfl (lt_ok rfl) rfl) ?_
   refine TL.cons rfl (Step.slice (e := 22) (z := 1) (l := 0) (h := ((proof.length : Int) - 1).toNat) rfl rfl (lt_ok rfl) (by kernel_rfl) rfl rfl rfl (.none _) ((.some (i := ((proof.length : Int) - 1)) rfl (by first | omega | (simp; omega) | (have := hcl_ (by omega) (by omega) (by omega); omega) | (have := hcr_ (by omega) (by omega) (by omega); omega) | (have := hce_ (by omega); have := hfk_ (by assumption); omega)))) (by first | omega | (simp; omega) | (have := hcl_ (by omega) (by omega) (by omega); omega) | (have := hcr_ (by omega) (by omega) (by omega); omega) | (have := hce_ (by omega); have := hfk_ (by assumption); omega)) (by simp only [D.size]; first | omega | (simp; omega) | (have := hcl_ (by omega) (by omega) (by omega); omega) | (have := hcr_ (by omega) (by omega) (by omega); omega) | (have := hce_ (by omega); have := hfk_ (by assumption); omega)) rfl) ?_
   refine TL.cons rfl (Step.move (p := (.one (.d (.bool known)))) rfl rfl (lt_ok rfl) rfl) ?_
   have nn5 := @cRoots_len m (splitAtT n) old ((proof.drop 0).take (((proof.length : Int) - 1).toNat - 0)) known (by first | assumption | omega) (by first | assumption | exact mem_sub (by assumption) _ _ | exact s0.2)
   have nn6 := (@cRoots_u8 m (splitAtT n) old ((proof.drop 0).take (((proof.length : Int) - 1).toNat - 0)) known (by first | assumption | skip) (by first | assumption | exact mem_sub (by assumption) _ _ | exact s0.2)).1
   have nn7 := (@cRoots_u8 m (splitAtT n) old ((proof.drop 0).take (((proof.length : Int) - 1).toNat - 0)) known (by first | assumption | skip) (by first | assumption | exact mem_sub (by assumption) _ _ | exact s0.2)).2
   refine TL.cons rfl (Step.call (f := 56) (xs := [.tmp 44, .tmp 45, .tmp 46, .tmp 49, .tmp 50]) (ps := [(.one (.d (.int .i64 m))), (.one (.d (.int .i64 (splitAtT n)))), (.one (.d (.ints .u8 old))), (.one (.d (.bss ((proof.drop 0).take (((proof.length : Int) - 1).toNat - 0))))), (.one (.d (.bool known)))]) false (g := .func 56) rfl rfl (lt_ok rfl) rfl (by kernel_rfl) rfl (.cons (.one (.d _)) (.cons (.one (.d _)) (.cons (.one (.d _)) (.cons (.one (.d _)) (.cons (.one (.d _)) .nil))))) (ih (splitAtT n).toNat (by omega) m (splitAtT n) old ((proof.drop 0).take (((proof.length : Int) - 1).toNat - 0)) known rfl (by first | assumption | omega | exact of_decide_eq_true ‹sizesOk _ _ = true›) (by first | assumption | omega | (rw [← consLenT_yes (of_decide_eq_true ‹sizesOk _ _ = true›)]; omega) | (have := hcl_ (by omega) (by omega) (by omega); omega) | (have := hcr_ (by omega) (by omega) (by omega); omega)) (by first | assumption | exact sha_u8 _ | exact treeRoot_u8 _ | exact nodeHash_u8 _ _ | exact leafHash_u8 _ | exact u8_cons (by decide) (by assumption) | exact mem_getD (p := U8s) (by assumption) (by omega) | exact u8_app (u8_cons (by decide) (by assumption)) (by assumption) | exact fun x hx => by cases hx) (by first | assumption | exact mem_sub (by assumption) _ _ | exact s0.2) (by first | assumption | exact mem_sub (by assumption) _ _ | exact s0.2) (by first | omega | assumption | (simp only [List.length_append] at *; omega))) (.inr rfl) rfl (by simp) rfl) ?_
   refine TL.cons rfl (Step.move (p := (.tup [(false, [.row 1051 []]), (false, [.row 2051 []])])) rfl rfl (lt_ok rfl) rfl) ?_
   refine TL.cons rfl (Step.extract (p := (.one (.row 1051 []))) rfl rfl (lt_ok rfl) rfl rfl) ?_
   refine TL.cons rfl (Step.extract (p := (.one (.row 2051 []))) rfl rfl (lt_ok rfl) rfl rfl) ?_
   refine TL.cons rfl (Step.assign (p := (.one (.row 1051 []))) rfl rfl (lt_ok rfl) rfl) ?_
   refine TL.cons rfl (Step.assign (p := (.one (.row 2051 []))) rfl rfl (lt_ok rfl) rfl) ?_
   refine TL.nil ?_
   refine T.seq ?_
   refine T.region ?_
   refine TL.cons rfl (Step.move (p := (.one (.row 1051 []))) rfl rfl (lt_ok rfl) rfl) ?_
   refine TL.cons rfl (Step.move (p := (.one (.row 2051 []))) rfl rfl (lt_ok rfl) rfl) ?_
   refine TL.cons rfl (Step.move (p := (.one (.d (.ints .u8 (proof.getD ((proof.length : Int) - 1).toNat []))))) rfl rfl (lt_ok rfl) rfl) ?_
   have nn8 := nodeHash_len (cRoots m (splitAtT n) old ((proof.drop 0).take (((proof.length : Int) - 1).toNat - 0)) known).2 (proof.getD ((proof.length : Int) - 1).toNat [])
   have nn9 := nodeHash_u8 (cRoots m (splitAtT n) old ((proof.drop 0).take (((proof.length : Int) - 1).toNat - 0)) known).2 (proof.getD ((proof.length : Int) - 1).toNat [])
   refine TL.cons rfl (Step.call (f := 51) (xs := [.tmp 55, .tmp 56]) (ps := [(.one (.row 2051 [])), (.one (.d (.ints .u8 (proof.getD ((proof.length : Int) - 1).toNat []))))]) false (g := .func 51) rfl rfl (lt_ok rfl) rfl (by kernel_rfl) rfl (.cons (.one (.row rfl rfl rfl rfl)) (.cons (.one (.d _)) .nil)) (ok_impl_NodeHash (cRoots m (splitAtT n) old ((proof.drop 0).take (((proof.length : Int) - 1).toNat - 0)) known).2 (proof.getD ((proof.length : Int) - 1).toNat []) (by first | assumption | exact sha_u8 _ | exact treeRoot_u8 _ | exact nodeHash_u8 _ _ | exact leafHash_u8 _ | exact u8_cons (by decide) (by assumption) | exact mem_getD (p := U8s) (by assumption) (by omega) | exact u8_app (u8_cons (by decide) (by assumption)) (by assumption) | exact fun x hx => by cases hx) (by first | assumption | exact sha_u8 _ | exact treeRoot_u8 _ | exact nodeHash_u8 _ _ | exact leafHash_u8 _ | exact u8_cons (by decide) (by assumption) | exact mem_getD (p := U8s) (by assumption) (by omega) | exact u8_app (u8_cons (by decide) (by assumption)) (by assumption) | exact fun x hx => by cases hx) (by first | omega | assumption | (simp only [List.length_append] at *; omega)) (by first | omega | assumption | (simp only [List.length_append] at *; omega))) (.inr rfl) rfl (by simp) rfl) ?_
   refine TL.cons rfl (Step.assign (p := (.one (.row 1051 []))) rfl rfl (lt_ok rfl) rfl) ?_
   refine TL.cons rfl (Step.assign (p := (.one (.row 1057 []))) rfl rfl (lt_ok rfl) rfl) ?_
   refine TL.nil ?_
   refine T.ret ?_
   refine ⟨[(false, [.row 1051 []]), (false, [.row 1057 []])], (.cons rfl (.cons rfl .nil)), rfl, [1051, 1057], (RetC.own' rfl ?_ rfl (RetC.own' rfl ?_ rfl .nil))⟩ <;> ((congr 1; first | (rw [cRoots_known (m := m) (n := n) (old := old) (proof := proof) (by omega) (by assumption)]; done) | (rw [cRoots_new (m := m) (n := n) (old := old) (proof := proof) (by omega) (by assumption)]; done) | (rw [cRoots_left (m := m) (n := n) (old := old) (proof := proof) (by omega) (by omega) (by omega)]; done) | (rw [cRoots_right (m := m) (n := n) (old := old) (proof := proof) (by omega) (by omega) (by omega)]; done)))
  ·
   replace h4 := of_decide_eq_false h4
   refine T.skip ?_
   refine T.seq ?_
   refine T.region ?_
   refine TL.cons rfl (Step.move (p := (.one (.d (.int .i64 m)))) rfl rfl (lt_ok rfl) rfl) ?_
   refine TL.cons rfl (Step.move (p := (.one (.d (.int .i64 (splitAtT n))))) rfl rfl (lt_ok rfl) rfl) ?_
   refine TL.cons rfl (Step.bin (r := .int .i64 (m - (splitAtT n))) rfl rfl (lt_ok rfl) rfl rfl (Bin.sub (a := m) (b := (splitAtT n)) (by first | exact wrap_ok (by first | omega | (simp; omega) | (have := hcl_ (by omega) (by omega) (by omega); omega) | (have := hcr_ (by omega) (by omega) (by omega); omega) | (have := hce_ (by omega); have := hfk_ (by assumption); omega)) (by first | omega | (simp; omega) | (have := hcl_ (by omega) (by omega) (by omega); omega) | (have := hcr_ (by omega) (by omega) (by omega); omega) | (have := hce_ (by omega); have := hfk_ (by assumption); omega)) | rfl))) ?_
   refine TL.cons rfl (Step.move (p := (.one (.d (.int .i64 n)))) rfl rfl (lt_ok rfl) rfl) ?_
   refine TL.cons rfl (Step.move (p := (.one (.d (.int .i64 (splitAtT n))))) rfl rfl (lt_ok rfl) rfl) ?_
   refine TL.cons rfl (Step.bin (r := .int .i64 (n - (splitAtT n))) rfl rfl (lt_ok rfl) rfl rfl (Bin.sub (a := n) (b := (splitAtT n)) (by first | exact wrap_ok (by first | omega | (simp; omega) | (have := hcl_ (by omega) (by omega) (by omega); omega) | (have := hcr_ (by omega) (by omega) (by omega); omega) | (have := hce_ (by omega); have := hfk_ (by assumption); omega)) (by first | omega | (simp; omega) | (have := hcl_ (by omega) (by omega) (by omega); omega) | (have := hcr_ (by omega) (by omega) (by omega); omega) | (have := hce_ (by omega); have := hfk_ (by assumption); omega)) | rfl))) ?_
   refine TL.cons rfl (Step.move (p := (.one (.d (.ints .u8 old)))) rfl rfl (lt_ok rfl) rfl) ?_
   refine TL.cons rfl (Step.move (p := (.one (.d (.bss proof)))) rfl rfl (lt_ok rfl) rfl) ?_
   refine TL.cons rfl (Step.move (p := (.one (.d (.int .i64 ((proof.length : Int) - 1))))) rfl rfl (lt_ok rfl) rfl) ?_
   refine TL.cons rfl (Step.slice (e := 22) (z := 1) (l := 0) (h := ((proof.length : Int) - 1).toNat) rfl rfl (lt_ok rfl) (by kernel_rfl) rfl rfl rfl (.none _) ((.some (i := ((proof.length : Int) - 1)) rfl (by first | omega | (simp; omega) | (have := hcl_ (by omega) (by omega) (by omega); omega) | (have := hcr_ (by omega) (by omega) (by omega); omega) | (have := hce_ (by omega); have := hfk_ (by assumption); omega)))) (by first | omega | (simp; omega) | (have := hcl_ (by omega) (by omega) (by omega); omega) | (have := hcr_ (by omega) (by omega) (by omega); omega) | (have := hce_ (by omega); have := hfk_ (by assumption); omega)) (by simp only [D.size]; first | omega | (simp; omega) | (have := hcl_ (by omega) (by omega) (by omega); omega) | (have := hcr_ (by omega) (by omega) (by omega); omega) | (have := hce_ (by omega); have := hfk_ (by assumption); omega)) rfl) ?_
   have nn10 := @cRoots_len (m - (splitAtT n)) (n - (splitAtT n)) old ((proof.drop 0).take (((proof.length : Int) - 1).toNat - 0)) false (by first | assumption | omega) (by first | assumption | exact mem_sub (by assumption) _ _ | exact s0.2)
   have nn11 := (@cRoots_u8 (m - (splitAtT n)) (n - (splitAtT n)) old ((proof.drop 0).take (((proof.length : Int) - 1).toNat - 0)) false (by first | assumption | skip) (by first | assumption | exact mem_sub (by assumption) _ _ | exact s0.2)).1
   have nn12 := (@cRoots_u8 (m - (splitAtT n)) (n - (splitAtT n)) old ((proof.drop 0).take (((proof.length : Int) - 1).toNat - 0)) false (by first | assumption | skip) (by first | assumption | exact mem_sub (by assumption) _ _ | exact s0.2)).2
   refine TL.cons rfl (Step.call (f := 56) (xs := [.tmp 61, .tmp 64, .tmp 65, .tmp 68, .const (.bool false)]) (ps := [(.one (.d (.int .i64 (m - (splitAtT n))))), (.one (.d (.int .i64 (n - (splitAtT n))))), (.one (.d (.ints .u8 old))), (.one (.d (.bss ((proof.drop 0).take (((proof.length : Int) - 1).toNat - 0))))), (.one (.d (.bool false)))]) false (g := .func 56) rfl rfl (lt_ok rfl) rfl (by kernel_rfl) rfl (.cons (.one (.d _)) (.cons (.one (.d _)) (.cons (.one (.d _)) (.cons (.one (.d _)) (.cons (.one (.d _)) .nil))))) (ih (n - (splitAtT n)).toNat (by omega) (m - (splitAtT n)) (n - (splitAtT n)) old ((proof.drop 0).take (((proof.length : Int) - 1).toNat - 0)) false rfl (by first | assumption | omega | exact of_decide_eq_true ‹sizesOk _ _ = true›) (by first | assumption | omega | (rw [← consLenT_yes (of_decide_eq_true ‹sizesOk _ _ = true›)]; omega) | (have := hcl_ (by omega) (by omega) (by omega); omega) | (have := hcr_ (by omega) (by omega) (by omega); omega)) (by first | assumption | exact sha_u8 _ | exact treeRoot_u8 _ | exact nodeHash_u8 _ _ | exact leafHash_u8 _ | exact u8_cons (by decide) (by assumption) | exact mem_getD (p := U8s) (by assumption) (by omega) | exact u8_app (u8_cons (by decide) (by assumption)) (by assumption) | exact fun x hx => by cases hx) (by first | assumption | exact mem_sub (by assumption) _ _ | exact s0.2) (by first | assumption | exact mem_sub (by assumption) _ _ | exact s0.2) (by first | omega | assumption | (simp only [List.length_append] at *; omega))) (.inr rfl) rfl (by simp) rfl) ?_
   refine TL.cons rfl (Step.move (p := (.tup [(false, [.row 1069 []]), (false, [.row 2069 []])])) rfl rfl (lt_ok rfl) rfl) ?_
   refine TL.cons rfl (Step.extract (p := (.one (.row 1069 []))) rfl rfl (lt_ok rfl) rfl rfl) ?_
   refine TL.cons rfl (Step.extract (p := (.one (.row 2069 []))) rfl rfl (lt_ok rfl) rfl rfl) ?_
   refine TL.cons rfl (Step.assign (p := (.one (.row 1069 []))) rfl rfl (lt_ok rfl) rfl) ?_
   refine TL.cons rfl (Step.assign (p := (.one (.row 2069 []))) rfl rfl (lt_ok rfl) rfl) ?_
   refine TL.nil ?_
   refine T.seq ?_
   refine T.region ?_
   refine TL.cons rfl (Step.move (p := (.one (.d (.ints .u8 (proof.getD ((proof.length : Int) - 1).toNat []))))) rfl rfl (lt_ok rfl) rfl) ?_
   refine TL.cons rfl (Step.move (p := (.one (.row 1069 []))) rfl rfl (lt_ok rfl) rfl) ?_
   have nn13 := nodeHash_len (proof.getD ((proof.length : Int) - 1).toNat []) (cRoots (m - (splitAtT n)) (n - (splitAtT n)) old ((proof.drop 0).take (((proof.length : Int) - 1).toNat - 0)) false).1
   have nn14 := nodeHash_u8 (proof.getD ((proof.length : Int) - 1).toNat []) (cRoots (m - (splitAtT n)) (n - (splitAtT n)) old ((proof.drop 0).take (((proof.length : Int) - 1).toNat - 0)) false).1
   refine TL.cons rfl (Step.call (f := 51) (xs := [.tmp 72, .tmp 73]) (ps := [(.one (.d (.ints .u8 (proof.getD ((proof.length : Int) - 1).toNat [])))), (.one (.row 1069 []))]) false (g := .func 51) rfl rfl (lt_ok rfl) rfl (by kernel_rfl) rfl (.cons (.one (.d _)) (.cons (.one (.row rfl rfl rfl rfl)) .nil)) (ok_impl_NodeHash (proof.getD ((proof.length : Int) - 1).toNat []) (cRoots (m - (splitAtT n)) (n - (splitAtT n)) old ((proof.drop 0).take (((proof.length : Int) - 1).toNat - 0)) false).1 (by first | assumption | exact sha_u8 _ | exact treeRoot_u8 _ | exact nodeHash_u8 _ _ | exact leafHash_u8 _ | exact u8_cons (by decide) (by assumption) | exact mem_getD (p := U8s) (by assumption) (by omega) | exact u8_app (u8_cons (by decide) (by assumption)) (by assumption) | exact fun x hx => by cases hx) (by first | assumption | exact sha_u8 _ | exact treeRoot_u8 _ | exact nodeHash_u8 _ _ | exact leafHash_u8 _ | exact u8_cons (by decide) (by assumption) | exact mem_getD (p := U8s) (by assumption) (by omega) | exact u8_app (u8_cons (by decide) (by assumption)) (by assumption) | exact fun x hx => by cases hx) (by first | omega | assumption | (simp only [List.length_append] at *; omega)) (by first | omega | assumption | (simp only [List.length_append] at *; omega))) (.inr rfl) rfl (by simp) rfl) ?_
   refine TL.cons rfl (Step.move (p := (.one (.d (.ints .u8 (proof.getD ((proof.length : Int) - 1).toNat []))))) rfl rfl (lt_ok rfl) rfl) ?_
   refine TL.cons rfl (Step.move (p := (.one (.row 2069 []))) rfl rfl (lt_ok rfl) rfl) ?_
   have nn15 := nodeHash_len (proof.getD ((proof.length : Int) - 1).toNat []) (cRoots (m - (splitAtT n)) (n - (splitAtT n)) old ((proof.drop 0).take (((proof.length : Int) - 1).toNat - 0)) false).2
   have nn16 := nodeHash_u8 (proof.getD ((proof.length : Int) - 1).toNat []) (cRoots (m - (splitAtT n)) (n - (splitAtT n)) old ((proof.drop 0).take (((proof.length : Int) - 1).toNat - 0)) false).2
   refine TL.cons rfl (Step.call (f := 51) (xs := [.tmp 75, .tmp 76]) (ps := [(.one (.d (.ints .u8 (proof.getD ((proof.length : Int) - 1).toNat [])))), (.one (.row 2069 []))]) false (g := .func 51) rfl rfl (lt_ok rfl) rfl (by kernel_rfl) rfl (.cons (.one (.d _)) (.cons (.one (.row rfl rfl rfl rfl)) .nil)) (ok_impl_NodeHash (proof.getD ((proof.length : Int) - 1).toNat []) (cRoots (m - (splitAtT n)) (n - (splitAtT n)) old ((proof.drop 0).take (((proof.length : Int) - 1).toNat - 0)) false).2 (by first | assumption | exact sha_u8 _ | exact treeRoot_u8 _ | exact nodeHash_u8 _ _ | exact leafHash_u8 _ | exact u8_cons (by decide) (by assumption) | exact mem_getD (p := U8s) (by assumption) (by omega) | exact u8_app (u8_cons (by decide) (by assumption)) (by assumption) | exact fun x hx => by cases hx) (by first | assumption | exact sha_u8 _ | exact treeRoot_u8 _ | exact nodeHash_u8 _ _ | exact leafHash_u8 _ | exact u8_cons (by decide) (by assumption) | exact mem_getD (p := U8s) (by assumption) (by omega) | exact u8_app (u8_cons (by decide) (by assumption)) (by assumption) | exact fun x hx => by cases hx) (by first | omega | assumption | (simp only [List.length_append] at *; omega)) (by first | omega | assumption | (simp only [List.length_append] at *; omega))) (.inr rfl) rfl (by simp) rfl) ?_
   refine TL.cons rfl (Step.assign (p := (.one (.row 1074 []))) rfl rfl (lt_ok rfl) rfl) ?_
   refine TL.cons rfl (Step.assign (p := (.one (.row 1077 []))) rfl rfl (lt_ok rfl) rfl) ?_
   refine TL.nil ?_
   refine T.ret ?_
   refine ⟨[(false, [.row 1074 []]), (false, [.row 1077 []])], (.cons rfl (.cons rfl .nil)), rfl, [1074, 1077], (RetC.own' rfl ?_ rfl (RetC.own' rfl ?_ rfl .nil))⟩ <;> ((congr 1; first | (rw [cRoots_known (m := m) (n := n) (old := old) (proof := proof) (by omega) (by assumption)]; done) | (rw [cRoots_new (m := m) (n := n) (old := old) (proof := proof) (by omega) (by assumption)]; done) | (rw [cRoots_left (m := m) (n := n) (old := old) (proof := proof) (by omega) (by omega) (by omega)]; done) | (rw [cRoots_right (m := m) (n := n) (old := old) (proof := proof) (by omega) (by omega) (by omega)]; done)))
theorem ok_impl_consRoots (m : Int) (n : Int) (old : List Int) (proof : List (List Int)) (known : Bool) (h0_ : 1 ≤ m ∧ m ≤ n ∧ n ≤ 1048576) (h1_ : (proof.length : Int) = cLen m n known) (h2_ : U8s old) (h3_ : ∀ y ∈ proof, U8s y) (h4_ : ∀ y ∈ proof, y.length ≤ 1048576) (h5_ : old.length ≤ 1048576) : RO Try.prog 56 [.one (.int .i64 m), .one (.int .i64 n), .one (.ints .u8 old), .one (.bss proof), .one (.bool known)] [(false, [.own 5 (.ints .u8 (cRoots m n old proof known).1)]), (false, [.own 5 (.ints .u8 (cRoots m n old proof known).2)])] := ok_impl_consRoots_r _ m n old proof known rfl h0_ h1_ h2_ h3_ h4_ h5_
end Go.Proofs.Ytmdojlglemnijaa.Rf
