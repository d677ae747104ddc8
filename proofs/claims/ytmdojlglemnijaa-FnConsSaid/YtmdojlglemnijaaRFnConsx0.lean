/- The functions that FnCons calls, each held to what it answers. Printed by a program of this session; Lean checks it. -/
import Derived.Test.YtmdojlglemnijaaProg
import Derived.Test.YtmdojlglemnijaaTrFnConsb
namespace Go.Proofs.Ytmdojlglemnijaa.Rf
open Go.RowKit
set_option linter.unusedVariables false
set_option linter.unnecessarySimpa false
set_option linter.unusedSimpArgs false
set_option maxRecDepth 100000
set_option maxHeartbeats 4000000
def splitAtT (n : Int) : Int := if n < 2 then 0 else splitAt n
theorem splitAtT_bd (n : Int) : (n < 2 → splitAtT n = 0) ∧ (2 ≤ n → 1 ≤ splitAtT n ∧ splitAtT n < n) := by
  unfold splitAtT
  refine ⟨fun h => by rw [if_pos h], fun h => ?_⟩
  rw [if_neg (by omega)]
  exact splitAt_bd n h
def leafHash (x : List Int) : List Int := sha ([0] ++ x)
def nodeHash (a b : List Int) : List Int := sha ([1] ++ a ++ b)
theorem leafHash_len (x : List Int) : (leafHash x).length ≤ 32 := sha_len _
theorem leafHash_u8 (x : List Int) : U8s (leafHash x) := sha_u8 _
theorem nodeHash_len (a b : List Int) : (nodeHash a b).length ≤ 32 := sha_len _
theorem nodeHash_u8 (a b : List Int) : U8s (nodeHash a b) := sha_u8 _
theorem u8_cons {x : Int} {a : List Int} (h0 : 0 ≤ x ∧ x ≤ 255) (h : U8s a) : U8s ([x] ++ a) := fun y hy => by
  rcases List.mem_append.1 hy with hy | hy
  · rcases List.mem_singleton.1 hy with rfl; exact h0
  · exact h y hy
theorem u8_app {a b : List Int} (h : U8s a) (h' : U8s b) : U8s (a ++ b) := fun y hy => by
  rcases List.mem_append.1 hy with hy | hy
  · exact h y hy
  · exact h' y hy
theorem mem_sub {α : Type} {p : α → Prop} {l : List α} (h : ∀ y ∈ l, p y) (a b : Nat) : ∀ y ∈ (l.drop a).take b, p y := fun y hy => h y (List.mem_of_mem_drop (List.mem_of_mem_take hy))
theorem splitAtT_le (n : Int) : 0 ≤ splitAtT n ∧ (0 ≤ n → splitAtT n ≤ n) := by have := splitAtT_bd n; omega
theorem part_len {α : Type} (l : List α) : ((l.drop 0).take ((splitAtT (l.length : Int)).toNat - 0)).length = (splitAtT (l.length : Int)).toNat ∧ ((l.drop (splitAtT (l.length : Int)).toNat).take (l.length - (splitAtT (l.length : Int)).toNat)).length = l.length - (splitAtT (l.length : Int)).toNat := by
  have := splitAtT_le (l.length : Int)
  simp only [List.length_take, List.length_drop]
  omega
theorem pre_len {α : Type} (l : List α) : ((l.drop 0).take (((l.length : Int) - 1).toNat - 0)).length = l.length - 1 := by
  simp only [List.length_take, List.length_drop]
  omega
def treeRoot (l : List (List Int)) : List Int :=
  if h0 : l.length = 0 then sha [] else if h1 : l.length = 1 then leafHash (l.getD 0 []) else
  nodeHash (treeRoot ((l.drop 0).take ((splitAtT (l.length : Int)).toNat - 0))) (treeRoot ((l.drop (splitAtT (l.length : Int)).toNat).take (l.length - (splitAtT (l.length : Int)).toNat)))
termination_by l.length
decreasing_by
  · have h1 := part_len l; have h2 := splitAtT_bd (l.length : Int); omega
  · have h1 := part_len l; have h2 := splitAtT_bd (l.length : Int); omega
theorem treeRoot_nil {l : List (List Int)} (h : (l.length : Int) = 0) : treeRoot l = sha [] := by rw [treeRoot, dif_pos (by omega)]
theorem treeRoot_one {l : List (List Int)} (h : (l.length : Int) = 1) : treeRoot l = leafHash (l.getD 0 []) := by rw [treeRoot, dif_neg (by omega), dif_pos (by omega)]
theorem treeRoot_two {l : List (List Int)} (h0 : ¬ (l.length : Int) = 0) (h1 : ¬ (l.length : Int) = 1) : treeRoot l = nodeHash (treeRoot ((l.drop 0).take ((splitAtT (l.length : Int)).toNat - 0))) (treeRoot ((l.drop (splitAtT (l.length : Int)).toNat).take (l.length - (splitAtT (l.length : Int)).toNat))) := by rw [treeRoot, dif_neg (by omega), dif_neg (by omega)]
theorem treeRoot_len (l : List (List Int)) : (treeRoot l).length ≤ 32 := by
  rw [treeRoot]
  split
  · exact sha_len _
  · split
    · exact leafHash_len _
    · exact nodeHash_len _ _
theorem treeRoot_u8 (l : List (List Int)) : U8s (treeRoot l) := by
  rw [treeRoot]
  split
  · exact sha_u8 _
  · split
    · exact leafHash_u8 _
    · exact nodeHash_u8 _ _
def hashes (l : List (List Int)) : Bool := l.all fun x => decide ((x.length : Int) = 32)
theorem hashes_step {l : List (List Int)} {i : Nat} (hi : i < l.length) (h : hashes (l.take i) = true) (hx : ((l.getD i []).length : Int) = 32) : hashes (l.take (i + 1)) = true := by
  rw [take_succ' (df := []) hi]; simp only [hashes, List.all_append, List.all_cons, List.all_nil, Bool.and_true, Bool.and_eq_true] at h ⊢; exact ⟨h, decide_eq_true hx⟩
theorem hashes_no {l : List (List Int)} {i : Nat} (hi : i < l.length) (hx : ¬ ((l.getD i []).length : Int) = 32) : hashes l = false := by
  cases h : hashes l with
  | false => rfl
  | true =>
    rw [hashes, List.all_eq_true] at h
    have := h (l.getD i []) (by rw [List.getD_eq_getElem?_getD, List.getElem?_eq_getElem hi]; exact List.getElem_mem hi)
    exact absurd (of_decide_eq_true this) hx
theorem hashes_one {h : List Int} : hashes [h] = decide ((h.length : Int) = 32) := by simp [hashes]
def flag (b : Bool) : Int := if b = true then 1 else 0
def sizesOk (m n : Int) : Bool := decide (1 ≤ m ∧ m ≤ n ∧ n ≤ 1048576)
def cLen (m n : Int) (known : Bool) : Int := if m = n then flag (!known) else if h : n < 2 then 0 else if m ≤ splitAtT n then 1 + cLen m (splitAtT n) known else 1 + cLen (m - splitAtT n) (n - splitAtT n) false
termination_by n.toNat
decreasing_by
  · have h2 := splitAtT_bd n; omega
  · have h2 := splitAtT_bd n; omega
theorem cLen_eq {m n : Int} {k : Bool} (h : m = n) : cLen m n k = flag (!k) := by rw [cLen, if_pos h]
theorem cLen_left {m n : Int} {k : Bool} (h : ¬ m = n) (h2 : 2 ≤ n) (h3 : m ≤ splitAtT n) : cLen m n k = 1 + cLen m (splitAtT n) k := by rw [cLen, if_neg h, dif_neg (by omega), if_pos h3]
theorem cLen_right {m n : Int} {k : Bool} (h : ¬ m = n) (h2 : 2 ≤ n) (h3 : ¬ m ≤ splitAtT n) : cLen m n k = 1 + cLen (m - splitAtT n) (n - splitAtT n) false := by rw [cLen, if_neg h, dif_neg (by omega), if_neg h3]
theorem flag_bd (b : Bool) : 0 ≤ flag b ∧ flag b ≤ 1 := by unfold flag; split <;> omega
theorem cLen_bd : ∀ (d : Nat) (m n : Int) (k : Bool), n ≤ d → 1 ≤ n → 0 ≤ cLen m n k ∧ cLen m n k ≤ n
  | 0, m, n, k, h, h1 => by omega
  | d + 1, m, n, k, h, h1 => by
    by_cases c : m = n
    · rw [cLen_eq c]; have := flag_bd (!k); omega
    · by_cases c2 : n < 2
      · rw [cLen, if_neg c, dif_pos c2]; omega
      · have hb := splitAtT_bd n
        by_cases c3 : m ≤ splitAtT n
        · rw [cLen_left c (by omega) c3]; have := cLen_bd d m (splitAtT n) k (by omega) (by omega); omega
        · rw [cLen_right c (by omega) c3]; have := cLen_bd d (m - splitAtT n) (n - splitAtT n) false (by omega) (by omega); omega
def consLenT (m n : Int) : Int := if sizesOk m n = true then cLen m n true else 0
theorem consLenT_yes {m n : Int} (h : 1 ≤ m ∧ m ≤ n ∧ n ≤ 1048576) : consLenT m n = cLen m n true := if_pos (decide_eq_true h)
theorem consLenT_no {m n : Int} (h : ¬ (1 ≤ m ∧ m ≤ n ∧ n ≤ 1048576)) : consLenT m n = 0 := if_neg (fun x => h (of_decide_eq_true x))
def consOf (l : List (List Int)) (m : Int) (known : Bool) : List (List Int) :=
  if m = (l.length : Int) then (if known = true then [] else [treeRoot l]) else if h : (l.length : Int) < 2 then [] else
  if m ≤ splitAtT (l.length : Int) then consOf ((l.drop 0).take ((splitAtT (l.length : Int)).toNat - 0)) m known ++ [treeRoot ((l.drop (splitAtT (l.length : Int)).toNat).take (l.length - (splitAtT (l.length : Int)).toNat))] else consOf ((l.drop (splitAtT (l.length : Int)).toNat).take (l.length - (splitAtT (l.length : Int)).toNat)) (m - splitAtT (l.length : Int)) false ++ [treeRoot ((l.drop 0).take ((splitAtT (l.length : Int)).toNat - 0))]
termination_by l.length
decreasing_by
  · have h1 := part_len l; have h2 := splitAtT_bd (l.length : Int); omega
  · have h1 := part_len l; have h2 := splitAtT_bd (l.length : Int); omega
theorem consOf_known {l : List (List Int)} {m : Int} {k : Bool} (h : m = (l.length : Int)) (hk : k = true) : consOf l m k = [] := by rw [consOf, if_pos h, if_pos hk]
theorem consOf_new {l : List (List Int)} {m : Int} {k : Bool} (h : m = (l.length : Int)) (hk : k = false) : consOf l m k = [treeRoot l] := by subst hk; rw [consOf, if_pos h]; rfl
theorem consOf_left {l : List (List Int)} {m : Int} {k : Bool} (h : ¬ m = (l.length : Int)) (h2 : 2 ≤ (l.length : Int)) (h3 : m ≤ splitAtT (l.length : Int)) : consOf l m k = consOf ((l.drop 0).take ((splitAtT (l.length : Int)).toNat - 0)) m k ++ [treeRoot ((l.drop (splitAtT (l.length : Int)).toNat).take (l.length - (splitAtT (l.length : Int)).toNat))] := by rw [consOf, if_neg h, dif_neg (by omega), if_pos h3]
theorem consOf_right {l : List (List Int)} {m : Int} {k : Bool} (h : ¬ m = (l.length : Int)) (h2 : 2 ≤ (l.length : Int)) (h3 : ¬ m ≤ splitAtT (l.length : Int)) : consOf l m k = consOf ((l.drop (splitAtT (l.length : Int)).toNat).take (l.length - (splitAtT (l.length : Int)).toNat)) (m - splitAtT (l.length : Int)) false ++ [treeRoot ((l.drop 0).take ((splitAtT (l.length : Int)).toNat - 0))] := by rw [consOf, if_neg h, dif_neg (by omega), if_neg h3]
theorem consOf_short {l : List (List Int)} {m : Int} {k : Bool} (h : ¬ m = (l.length : Int)) (h2 : (l.length : Int) < 2) : consOf l m k = [] := by rw [consOf, if_neg h, dif_pos h2]
theorem consOf_ind {p : List (List Int) → Int → Bool → Prop} (h1 : ∀ l m k, m = (l.length : Int) → p l m k) (h2 : ∀ l m k, ¬ m = (l.length : Int) → (l.length : Int) < 2 → p l m k)
    (h3 : ∀ l m k, ¬ m = (l.length : Int) → 2 ≤ (l.length : Int) → m ≤ splitAtT (l.length : Int) → p ((l.drop 0).take ((splitAtT (l.length : Int)).toNat - 0)) m k → p l m k)
    (h4 : ∀ l m k, ¬ m = (l.length : Int) → 2 ≤ (l.length : Int) → ¬ m ≤ splitAtT (l.length : Int) → p ((l.drop (splitAtT (l.length : Int)).toNat).take (l.length - (splitAtT (l.length : Int)).toNat)) (m - splitAtT (l.length : Int)) false → p l m k) : ∀ (d : Nat) (l : List (List Int)) (m : Int) (k : Bool), l.length ≤ d → p l m k
  | d, l, m, k, h => by
    by_cases c : m = (l.length : Int)
    · exact h1 l m k c
    · by_cases c2 : (l.length : Int) < 2
      · exact h2 l m k c c2
      · have hb := splitAtT_bd (l.length : Int)
        have hp := part_len l
        cases d with
        | zero => omega
        | succ d =>
          by_cases c3 : m ≤ splitAtT (l.length : Int)
          · exact h3 l m k c (by omega) c3 (consOf_ind h1 h2 h3 h4 d _ m k (by omega))
          · exact h4 l m k c (by omega) c3 (consOf_ind h1 h2 h3 h4 d _ _ false (by omega))
theorem consOf_len (l : List (List Int)) (m : Int) (k : Bool) : (consOf l m k).length ≤ l.length + 1 := by
  refine consOf_ind (p := fun l m k => (consOf l m k).length ≤ l.length + 1) (fun l m k h => ?_) (fun l m k h h2 => ?_) (fun l m k h h2 h3 ih => ?_) (fun l m k h h2 h3 ih => ?_) l.length l m k (Nat.le_refl _)
  · cases k
    · rw [consOf_new h rfl]; simp
    · rw [consOf_known h rfl]; simp
  · rw [consOf_short h h2]; simp
  · have hb := splitAtT_bd (l.length : Int)
    have hp := part_len l
    rw [consOf_left h h2 h3, List.length_append]
    simp only [List.length_cons, List.length_nil]
    omega
  · have hb := splitAtT_bd (l.length : Int)
    have hp := part_len l
    rw [consOf_right h h2 h3, List.length_append]
    simp only [List.length_cons, List.length_nil]
    omega
theorem consOf_mem {q : List Int → Prop} (hq : ∀ l, q (treeRoot l)) (l : List (List Int)) (m : Int) (k : Bool) : ∀ y ∈ consOf l m k, q y := by
  refine consOf_ind (p := fun l m k => ∀ y ∈ consOf l m k, q y) (fun l m k h => ?_) (fun l m k h h2 => ?_) (fun l m k h h2 h3 ih => ?_) (fun l m k h h2 h3 ih => ?_) l.length l m k (Nat.le_refl _)
  · cases k
    · rw [consOf_new h rfl]; intro y hy; rcases List.mem_singleton.1 hy with rfl; exact hq _
    · rw [consOf_known h rfl]; intro y hy; cases hy
  · rw [consOf_short h h2]; intro y hy; cases hy
  · rw [consOf_left h h2 h3]; intro y hy
    rcases List.mem_append.1 hy with hy | hy
    · exact ih y hy
    · rcases List.mem_singleton.1 hy with rfl; exact hq _
  · rw [consOf_right h h2 h3]; intro y hy
    rcases List.mem_append.1 hy with hy | hy
    · exact ih y hy
    · rcases List.mem_singleton.1 hy with rfl; exact hq _
theorem consOf_le (l : List (List Int)) (m : Int) (k : Bool) : 1 ≤ m → m ≤ (l.length : Int) → (m = (l.length : Int) → (consOf l m k).length ≤ 1) ∧ (m < (l.length : Int) → (consOf l m k).length ≤ l.length) := by
  refine consOf_ind (p := fun l m k => 1 ≤ m → m ≤ (l.length : Int) → (m = (l.length : Int) → (consOf l m k).length ≤ 1) ∧ (m < (l.length : Int) → (consOf l m k).length ≤ l.length)) (fun l m k h => ?_) (fun l m k h h2 => ?_) (fun l m k h h2 h3 ih => ?_) (fun l m k h h2 h3 ih => ?_) l.length l m k (Nat.le_refl _)
  · intro h1 h2
    cases k
    · rw [consOf_new h rfl]; simp only [List.length_cons, List.length_nil]; omega
    · rw [consOf_known h rfl]; simp
  · intro h3 h4; omega
  · have hb := splitAtT_bd (l.length : Int)
    have hp := part_len l
    intro h4 h5
    have := ih h4 (by omega)
    rw [consOf_left h h2 h3, List.length_append]
    simp only [List.length_cons, List.length_nil]
    omega
  · have hb := splitAtT_bd (l.length : Int)
    have hp := part_len l
    intro h4 h5
    have := ih (by omega) (by omega)
    rw [consOf_right h h2 h3, List.length_append]
    simp only [List.length_cons, List.length_nil]
    omega
def consOfT (l : List (List Int)) (m : Int) : List (List Int) := if 1 ≤ m ∧ m ≤ (l.length : Int) then consOf l m true else []
theorem consOfT_yes {l : List (List Int)} {m : Int} (h : 1 ≤ m ∧ m ≤ (l.length : Int)) : consOfT l m = consOf l m true := if_pos h
theorem consOfT_no {l : List (List Int)} {m : Int} (h : ¬ (1 ≤ m ∧ m ≤ (l.length : Int))) : consOfT l m = [] := if_neg h
theorem consOfT_sm {l : List (List Int)} {m : Int} (h : l.length ≤ 1048576) : (consOfT l m).length ≤ 1048576 ∧ ∀ y ∈ consOfT l m, y.length ≤ 1048576 := by
  unfold consOfT
  split
  · rename_i hm
    have := consOf_le l m true hm.1 hm.2
    exact ⟨by omega, consOf_mem (q := fun y => y.length ≤ 1048576) (fun l => Nat.le_trans (treeRoot_len l) (by decide)) l m true⟩
  · exact ⟨Nat.zero_le _, fun y hy => by cases hy⟩
def cRoots (m n : Int) (old : List Int) (proof : List (List Int)) (known : Bool) : List Int × List Int :=
  if m = n then (if known = true then (old, old) else (proof.getD 0 [], proof.getD 0 [])) else if h : n < 2 then ([], []) else
  if m ≤ splitAtT n then ((cRoots m (splitAtT n) old ((proof.drop 0).take (((proof.length : Int) - 1).toNat - 0)) known).1, nodeHash (cRoots m (splitAtT n) old ((proof.drop 0).take (((proof.length : Int) - 1).toNat - 0)) known).2 (proof.getD ((proof.length : Int) - 1).toNat []))
  else (nodeHash (proof.getD ((proof.length : Int) - 1).toNat []) (cRoots (m - splitAtT n) (n - splitAtT n) old ((proof.drop 0).take (((proof.length : Int) - 1).toNat - 0)) false).1, nodeHash (proof.getD ((proof.length : Int) - 1).toNat []) (cRoots (m - splitAtT n) (n - splitAtT n) old ((proof.drop 0).take (((proof.length : Int) - 1).toNat - 0)) false).2)
termination_by n.toNat
decreasing_by
  all_goals (have h2 := splitAtT_bd n; omega)
theorem cRoots_known {m n : Int} {old : List Int} {proof : List (List Int)} {k : Bool} (h : m = n) (hk : k = true) : cRoots m n old proof k = (old, old) := by rw [cRoots, if_pos h, if_pos hk]
theorem cRoots_new {m n : Int} {old : List Int} {proof : List (List Int)} {k : Bool} (h : m = n) (hk : k = false) : cRoots m n old proof k = (proof.getD 0 [], proof.getD 0 []) := by subst hk; rw [cRoots, if_pos h]; rfl
theorem cRoots_left {m n : Int} {old : List Int} {proof : List (List Int)} {k : Bool} (h : ¬ m = n) (h2 : 2 ≤ n) (h3 : m ≤ splitAtT n) : cRoots m n old proof k = ((cRoots m (splitAtT n) old ((proof.drop 0).take (((proof.length : Int) - 1).toNat - 0)) k).1, nodeHash (cRoots m (splitAtT n) old ((proof.drop 0).take (((proof.length : Int) - 1).toNat - 0)) k).2 (proof.getD ((proof.length : Int) - 1).toNat [])) := by rw [cRoots, if_neg h, dif_neg (by omega), if_pos h3]
theorem cRoots_right {m n : Int} {old : List Int} {proof : List (List Int)} {k : Bool} (h : ¬ m = n) (h2 : 2 ≤ n) (h3 : ¬ m ≤ splitAtT n) : cRoots m n old proof k = (nodeHash (proof.getD ((proof.length : Int) - 1).toNat []) (cRoots (m - splitAtT n) (n - splitAtT n) old ((proof.drop 0).take (((proof.length : Int) - 1).toNat - 0)) false).1, nodeHash (proof.getD ((proof.length : Int) - 1).toNat []) (cRoots (m - splitAtT n) (n - splitAtT n) old ((proof.drop 0).take (((proof.length : Int) - 1).toNat - 0)) false).2) := by rw [cRoots, if_neg h, dif_neg (by omega), if_neg h3]
theorem cRoots_pr {q : List Int → Prop} (h0 : q []) (hn : ∀ a b, q (nodeHash a b)) {old : List Int} (ho : q old) : ∀ (d : Nat) (m n : Int) (proof : List (List Int)) (k : Bool), n ≤ d → (∀ y ∈ proof, q y) → q (cRoots m n old proof k).1 ∧ q (cRoots m n old proof k).2
  | d, m, n, proof, k, h, hp => by
    by_cases c : m = n
    · cases k with
      | true => rw [cRoots_known c rfl]; exact ⟨ho, ho⟩
      | false =>
        rw [cRoots_new c rfl]
        have : q (proof.getD 0 []) := by
          rw [List.getD_eq_getElem?_getD]
          cases hx : proof[0]? with
          | none => exact h0
          | some x => exact hp x (List.mem_of_getElem? hx)
        exact ⟨this, this⟩
    · by_cases c2 : n < 2
      · rw [cRoots, if_neg c, dif_pos c2]; exact ⟨h0, h0⟩
      · have hb := splitAtT_bd n
        cases d with
        | zero => omega
        | succ d =>
          by_cases c3 : m ≤ splitAtT n
          · rw [cRoots_left c (by omega) c3]
            exact ⟨(cRoots_pr h0 hn ho d m (splitAtT n) _ k (by omega) (mem_sub hp _ _)).1, hn _ _⟩
          · rw [cRoots_right c (by omega) c3]; exact ⟨hn _ _, hn _ _⟩
theorem cRoots_u8 {m n : Int} {old : List Int} {proof : List (List Int)} {k : Bool} (ho : U8s old) (hp : ∀ y ∈ proof, U8s y) : U8s (cRoots m n old proof k).1 ∧ U8s (cRoots m n old proof k).2 := cRoots_pr (q := U8s) (fun x hx => by cases hx) nodeHash_u8 ho n.toNat m n proof k (by omega) hp
theorem cRoots_len {m n : Int} {old : List Int} {proof : List (List Int)} {k : Bool} (ho : old.length ≤ 1048576) (hp : ∀ y ∈ proof, y.length ≤ 1048576) : (cRoots m n old proof k).1.length ≤ 1048576 ∧ (cRoots m n old proof k).2.length ≤ 1048576 := cRoots_pr (q := fun y => y.length ≤ 1048576) (Nat.zero_le _) (fun a b => Nat.le_trans (nodeHash_len a b) (by decide)) ho n.toNat m n proof k (by omega) hp
def consFits (m n : Int) (old : List Int) (proof : List (List Int)) : Bool := sizesOk m n && decide ((old.length : Int) = 32) && decide ((proof.length : Int) = consLenT m n) && hashes proof
theorem consFits_all {m n : Int} {old : List Int} {proof : List (List Int)} (h : consFits m n old proof = true) : sizesOk m n = true ∧ (old.length : Int) = 32 ∧ (proof.length : Int) = consLenT m n ∧ hashes proof = true := by
  simp only [consFits, Bool.and_eq_true, decide_eq_true_eq] at h
  exact ⟨h.1.1.1, h.1.1.2, h.1.2, h.2⟩
theorem consFits_mk {m n : Int} {old : List Int} {proof : List (List Int)} (h1 : sizesOk m n = true) (h2 : (old.length : Int) = 32) (h3 : (proof.length : Int) = consLenT m n) (h4 : hashes proof = true) : consFits m n old proof = true := by
  simp only [consFits, Bool.and_eq_true, decide_eq_true_eq]
  exact ⟨⟨⟨h1, h2⟩, h3⟩, h4⟩
def consRootsT (m n : Int) (old : List Int) (proof : List (List Int)) : List Int × List Int := if consFits m n old proof = true then cRoots m n old proof true else ([], [])
theorem consRootsT_yes {m n : Int} {old : List Int} {proof : List (List Int)} (h : consFits m n old proof = true) : consRootsT m n old proof = cRoots m n old proof true := if_pos h
theorem consRootsT_no {m n : Int} {old : List Int} {proof : List (List Int)} (h : consFits m n old proof = false) : consRootsT m n old proof = ([], []) := by unfold consRootsT; rw [h]; rfl
theorem consRootsT_u8 {m n : Int} {old : List Int} {proof : List (List Int)} (ho : U8s old) (hp : ∀ y ∈ proof, U8s y) : U8s (consRootsT m n old proof).1 ∧ U8s (consRootsT m n old proof).2 := by
  unfold consRootsT
  split
  · exact cRoots_u8 ho hp
  · have hn : U8s [] := fun x hx => by cases hx
    exact ⟨hn, hn⟩
theorem consRootsT_len {m n : Int} {old : List Int} {proof : List (List Int)} (ho : old.length ≤ 1048576) (hp : ∀ y ∈ proof, y.length ≤ 1048576) : (consRootsT m n old proof).1.length ≤ 1048576 ∧ (consRootsT m n old proof).2.length ≤ 1048576 := by
  unfold consRootsT
  split
  · exact cRoots_len ho hp
  · exact ⟨Nat.zero_le _, Nat.zero_le _⟩
def consOk (m n : Int) (old root : List Int) (proof : List (List Int)) : Bool := consFits m n old proof && decide ((consRootsT m n old proof).1 = old) && decide ((consRootsT m n old proof).2 = root)
structure SRS where
  f0 : Int
  f1 : Int
  deriving Inhabited, DecidableEq
theorem band_255 (x : Int) : 0 ≤ band x 255 ∧ band x 255 ≤ 255 := by
  unfold band
  have h : (BitVec.ofInt IntKind.i64.bits x &&& BitVec.ofInt IntKind.i64.bits 255).toNat ≤ 255 := by
    rw [BitVec.toNat_and]
    exact Nat.le_trans Nat.and_le_right (by decide)
  generalize (BitVec.ofInt IntKind.i64.bits x &&& BitVec.ofInt IntKind.i64.bits 255).toNat = n at h
  rw [wrap_ok (by omega) (by omega)]
  omega
theorem band_30 (x : Int) : 0 ≤ band x 1073741823 ∧ band x 1073741823 ≤ 1073741823 := by
  unfold band
  have h : (BitVec.ofInt IntKind.i64.bits x &&& BitVec.ofInt IntKind.i64.bits 1073741823).toNat ≤ 1073741823 := by
    rw [BitVec.toNat_and]
    exact Nat.le_trans Nat.and_le_right (by decide)
  generalize (BitVec.ofInt IntKind.i64.bits x &&& BitVec.ofInt IntKind.i64.bits 1073741823).toNat = n at h
  rw [wrap_ok (by omega) (by omega)]
  omega
def curH (h : Int) : Int := IntKind.i64.wrap (IntKind.i64.wrap (h * 6364136223846793005) + 1442695040888963407)
def curX (h : Int) : Int := band (bxor (bshr h 33) (bshr h 45)) 255
def curB (b : List Int) (s : SRS) : SRS × Int := if s.f0 < (b.length : Int) then (⟨s.f0 + 1, curH s.f1⟩, band (curX (curH s.f1) + b.getD s.f0.toNat 0) 255) else (⟨s.f0, curH s.f1⟩, curX (curH s.f1))
theorem curB_bd (b : List Int) (s : SRS) : (0 ≤ (curB b s).2 ∧ (curB b s).2 ≤ 255) ∧ (0 ≤ s.f0 ∧ s.f0 ≤ (b.length : Int) → 0 ≤ (curB b s).1.f0 ∧ (curB b s).1.f0 ≤ (b.length : Int)) := by
  unfold curB
  split
  · have := band_255 (curX (curH s.f1) + b.getD s.f0.toNat 0); exact ⟨this, fun h => by dsimp only; omega⟩
  · have := band_255 (bxor (bshr (curH s.f1) 33) (bshr (curH s.f1) 45)); exact ⟨this, fun h => h⟩
def curN (b : List Int) (s : SRS) (n : Int) : SRS × Int := ((curB b s).1, (curB b s).2 % n)
def curGo (b : List Int) : Nat → SRS → List Int → SRS × List Int
  | 0, q, o => (q, o)
  | d + 1, q, o => curGo b d (curB b q).1 (o ++ [(curB b q).2 % 256])
theorem curGo_next {b : List Int} {d : Nat} {q : SRS} {o : List Int} (h : 0 < d) : curGo b d q o = curGo b (d - 1) (curB b q).1 (o ++ [(curB b q).2 % 256]) := by
  obtain ⟨e, rfl⟩ : ∃ e, d = e + 1 := ⟨d - 1, by omega⟩
  rfl
theorem curGo_end {b : List Int} {d : Nat} {q : SRS} {o : List Int} (h : ¬ 0 < d) : curGo b d q o = (q, o) := by rw [show d = 0 from by omega]; rfl
def curBs (b : List Int) (s : SRS) (most : Int) : SRS × List Int := curGo b (curN b s (most + 1)).2.toNat (curN b s (most + 1)).1 []
theorem curGo_bd (b : List Int) : ∀ (d : Nat) (q : SRS) (o : List Int), (0 ≤ q.f0 ∧ q.f0 ≤ (b.length : Int)) → U8s o → (0 ≤ (curGo b d q o).1.f0 ∧ (curGo b d q o).1.f0 ≤ (b.length : Int)) ∧ U8s (curGo b d q o).2 ∧ (curGo b d q o).2.length = o.length + d
  | 0, q, o, h, hu => ⟨h, hu, rfl⟩
  | d + 1, q, o, h, hu => by
    have hb := curB_bd b q
    have := curGo_bd b d (curB b q).1 (o ++ [(curB b q).2 % 256]) (hb.2 h) (fun x hx => by
      rcases List.mem_append.1 hx with hx | hx
      · exact hu x hx
      · rcases List.mem_singleton.1 hx with rfl; omega)
    simp only [List.length_append, List.length_cons, List.length_nil] at this
    exact ⟨this.1, this.2.1, by show (curGo b d (curB b q).1 (o ++ [(curB b q).2 % 256])).2.length = _; omega⟩
theorem curBs_bd {b : List Int} {s : SRS} {most : Int} (h : 0 ≤ s.f0 ∧ s.f0 ≤ (b.length : Int)) (hm : 0 ≤ most) : (0 ≤ (curBs b s most).1.f0 ∧ (curBs b s most).1.f0 ≤ (b.length : Int)) ∧ U8s (curBs b s most).2 ∧ ((curBs b s most).2.length : Int) ≤ most := by
  have hb := curB_bd b s
  have := curGo_bd b (curN b s (most + 1)).2.toNat (curN b s (most + 1)).1 [] (hb.2 h) (fun x hx => by cases hx)
  refine ⟨this.1, this.2.1, ?_⟩
  show (((curGo b (curN b s (most + 1)).2.toNat (curN b s (most + 1)).1 []).2.length : Nat) : Int) ≤ most
  rw [this.2.2]
  show (((0 + ((curB b s).2 % (most + 1)).toNat : Nat)) : Int) ≤ most
  have h1 := Int.emod_lt_of_pos (curB b s).2 (show (0 : Int) < most + 1 by omega)
  have h2 := Int.emod_nonneg (curB b s).2 (show most + 1 ≠ 0 by omega)
  omega
def curLGo (b : List Int) : Nat → SRS → List (List Int) → SRS × List (List Int)
  | 0, q, o => (q, o)
  | d + 1, q, o => curLGo b d (curBs b q 4).1 (o ++ [(curBs b q 4).2])
theorem curLGo_next {b : List Int} {d : Nat} {q : SRS} {o : List (List Int)} (h : 0 < d) : curLGo b d q o = curLGo b (d - 1) (curBs b q 4).1 (o ++ [(curBs b q 4).2]) := by
  obtain ⟨e, rfl⟩ : ∃ e, d = e + 1 := ⟨d - 1, by omega⟩
  rfl
theorem curLGo_end {b : List Int} {d : Nat} {q : SRS} {o : List (List Int)} (h : ¬ 0 < d) : curLGo b d q o = (q, o) := by rw [show d = 0 from by omega]; rfl
def curL (b : List Int) (s : SRS) (most : Int) : SRS × List (List Int) := curLGo b (curN b s (most + 1)).2.toNat (curN b s (most + 1)).1 []
theorem curLGo_bd (b : List Int) : ∀ (d : Nat) (q : SRS) (o : List (List Int)), (0 ≤ q.f0 ∧ q.f0 ≤ (b.length : Int)) → (∀ y ∈ o, U8s y ∧ y.length ≤ 4) → (0 ≤ (curLGo b d q o).1.f0 ∧ (curLGo b d q o).1.f0 ≤ (b.length : Int)) ∧ (∀ y ∈ (curLGo b d q o).2, U8s y ∧ y.length ≤ 4) ∧ (curLGo b d q o).2.length = o.length + d
  | 0, q, o, h, hu => ⟨h, hu, rfl⟩
  | d + 1, q, o, h, hu => by
    have hb := curBs_bd (most := 4) h (by decide)
    have := curLGo_bd b d (curBs b q 4).1 (o ++ [(curBs b q 4).2]) hb.1 (fun x hx => by
      rcases List.mem_append.1 hx with hx | hx
      · exact hu x hx
      · rcases List.mem_singleton.1 hx with rfl; exact ⟨hb.2.1, by omega⟩)
    simp only [List.length_append, List.length_cons, List.length_nil] at this
    exact ⟨this.1, this.2.1, by show (curLGo b d (curBs b q 4).1 (o ++ [(curBs b q 4).2])).2.length = _; omega⟩
theorem curN_bd {b : List Int} {s : SRS} {n : Int} (h : 0 ≤ s.f0 ∧ s.f0 ≤ (b.length : Int)) (hn : 1 ≤ n) : (0 ≤ (curN b s n).1.f0 ∧ (curN b s n).1.f0 ≤ (b.length : Int)) ∧ 0 ≤ (curN b s n).2 ∧ (curN b s n).2 < n := by
  have hb := curB_bd b s
  have h1 := Int.emod_lt_of_pos (curB b s).2 (show (0 : Int) < n by omega)
  have h2 := Int.emod_nonneg (curB b s).2 (show n ≠ 0 by omega)
  exact ⟨hb.2 h, h2, h1⟩
theorem curL_bd {b : List Int} {s : SRS} {most : Int} (h : 0 ≤ s.f0 ∧ s.f0 ≤ (b.length : Int)) (hm : 0 ≤ most) : (0 ≤ (curL b s most).1.f0 ∧ (curL b s most).1.f0 ≤ (b.length : Int)) ∧ (∀ y ∈ (curL b s most).2, U8s y ∧ y.length ≤ 4) ∧ ((curL b s most).2.length : Int) ≤ most := by
  have hn := curN_bd (n := most + 1) h (by omega)
  have := curLGo_bd b (curN b s (most + 1)).2.toNat (curN b s (most + 1)).1 [] hn.1 (fun x hx => by cases hx)
  refine ⟨this.1, this.2.1, ?_⟩
  show (((curLGo b (curN b s (most + 1)).2.toNat (curN b s (most + 1)).1 []).2.length : Nat) : Int) ≤ most
  rw [this.2.2, List.length_nil]
  omega
def curLL (b : List Int) (s : SRS) : List (List Int) := (curL b s 8).2 ++ [(curBs b (curL b s 8).1 3).2]
theorem curLL_bd {b : List Int} {s : SRS} (h : 0 ≤ s.f0 ∧ s.f0 ≤ (b.length : Int)) : (1 ≤ (curLL b s).length ∧ (curLL b s).length ≤ 9) ∧ (∀ y ∈ curLL b s, U8s y) ∧ (∀ y ∈ curLL b s, y.length ≤ 1048576) := by
  have h1 := curL_bd (most := 8) h (by decide)
  have h2 := curBs_bd (most := 3) h1.1 (by decide)
  have hm : ∀ y ∈ curLL b s, U8s y ∧ y.length ≤ 4 := fun y hy => by
    rcases List.mem_append.1 hy with hy | hy
    · exact h1.2.1 y hy
    · rcases List.mem_singleton.1 hy with rfl; exact ⟨h2.2.1, by omega⟩
  refine ⟨?_, fun y hy => (hm y hy).1, fun y hy => Nat.le_trans (hm y hy).2 (by decide)⟩
  simp only [curLL, List.length_append, List.length_cons, List.length_nil]
  omega
def newH (b : List Int) : Nat → Int
  | 0 => 1611 + (b.length : Int)
  | i + 1 => band (newH b i * 37 + b.getD i 0 + 7) 1073741823
theorem newH_bd {b : List Int} (h : b.length ≤ 1048576) : ∀ i, 0 ≤ newH b i ∧ newH b i ≤ 1073741823
  | 0 => by simp only [newH]; omega
  | i + 1 => band_30 _
def cur0 (b : List Int) : SRS := ⟨0, newH b (min b.length 4000)⟩
def makeList (b : List Int) : List (List Int) := curLL b (cur0 b)
theorem makeList_bd (b : List Int) : (1 ≤ (makeList b).length ∧ (makeList b).length ≤ 9) ∧ (∀ y ∈ makeList b, U8s y) ∧ (∀ y ∈ makeList b, y.length ≤ 1048576) := curLL_bd ⟨Int.le_refl _, by show (0 : Int) ≤ (b.length : Int); omega⟩
theorem outs_ok (h v : List Int) : ∀ i, wordsOk (outs h v i) = true
  | 0 => rfl
  | i + 1 => by
    have ih := outs_ok h v i
    have hb := band_W (wadd (h.getD i 0) (v.getD i 0))
    rw [outs]
    simp only [wordsOk, List.all_append, List.all_cons, List.all_nil, Bool.and_true, Bool.and_eq_true] at ih ⊢
    exact ⟨ih, decide_eq_true hb⟩
theorem hN_ok {p : List Int} (hp : p.length % 64 = 0) : ∀ i, 64 * i ≤ p.length → (hN p i).length = 8 ∧ wordsOk (hN p i) = true
  | 0, _ => ⟨rfl, show wordsOk shaInit = true by decide⟩
  | i + 1, h => by
    obtain ⟨h1, h2⟩ := hN_ok hp i (by omega)
    rw [hN, shaBlock_yes ⟨h1, by simp only [List.length_take, List.length_drop]; omega, h2⟩]
    exact ⟨outs_len _ _ _, outs_ok _ _ _⟩
theorem sha_32 (b : List Int) : (sha b).length = 32 := by
  have hm := shaPad_mod b
  have h := (hN_ok hm.1 ((shaPad b).length / 64) (by omega)).1
  unfold sha
  rw [outB_len]
  unfold shaH
  omega
theorem treeRoot_32 (l : List (List Int)) : (treeRoot l).length = 32 := by
  rw [treeRoot]
  split
  · exact sha_32 _
  · split
    · exact sha_32 _
    · exact sha_32 _
theorem splitGo_pow : ∀ (d : Nat) (n x : Int), (∃ j : Nat, x = ((2 ^ j : Nat) : Int)) → x < n → n ≤ x + d → (∃ j : Nat, splitGo d n x = ((2 ^ j : Nat) : Int)) ∧ splitGo d n x < n ∧ n ≤ 2 * splitGo d n x
  | 0, n, x, hx, h1, h2 => by omega
  | d + 1, n, x, hx, h1, h2 => by
    obtain ⟨j, rfl⟩ := hx
    have hp : 1 ≤ 2 ^ j := Nat.one_le_two_pow
    unfold splitGo
    by_cases c : ((2 ^ j : Nat) : Int) < n - ((2 ^ j : Nat) : Int)
    · rw [if_pos c]
      have e : 2 * ((2 ^ j : Nat) : Int) = ((2 ^ (j + 1) : Nat) : Int) := by rw [Nat.pow_succ]; omega
      rw [e]
      exact splitGo_pow d n _ ⟨j + 1, rfl⟩ (by omega) (by omega)
    · rw [if_neg c]; exact ⟨⟨j, rfl⟩, h1, by omega⟩
theorem splitAtT_pow {n : Int} (h : 2 ≤ n) : ∃ j : Nat, splitAtT n = ((2 ^ j : Nat) : Int) ∧ ((2 ^ j : Nat) : Int) < n ∧ n ≤ ((2 ^ (j + 1) : Nat) : Int) := by
  obtain ⟨⟨j, e⟩, h1, h2⟩ := splitGo_pow n.toNat n 1 ⟨0, rfl⟩ (by omega) (by omega)
  have e2 : splitAtT n = ((2 ^ j : Nat) : Int) := by unfold splitAtT splitAt; rw [if_neg (by omega)]; exact e
  rw [e] at h1 h2
  exact ⟨j, e2, h1, by rw [Nat.pow_succ]; omega⟩
theorem splitAtT_same {m n : Int} (h : 2 ≤ n) (h1 : splitAtT n < m) (h2 : m ≤ n) : splitAtT m = splitAtT n := by
  obtain ⟨b, eb, b1, b2⟩ := splitAtT_pow h
  have hb0 : 1 ≤ 2 ^ b := Nat.one_le_two_pow
  obtain ⟨a, ea, a1, a2⟩ := splitAtT_pow (n := m) (by rw [eb] at h1; omega)
  rw [eb] at h1
  have k1 : 2 ^ a < 2 ^ (b + 1) := by omega
  have k2 : 2 ^ b < 2 ^ (a + 1) := by omega
  have k3 := (Nat.pow_lt_pow_iff_right (a := 2) (by decide)).1 k1
  have k4 := (Nat.pow_lt_pow_iff_right (a := 2) (by decide)).1 k2
  rw [ea, eb, show a = b from by omega]
theorem pre_snoc {α : Type} (p : List α) (x : α) : ((p ++ [x]).drop 0).take ((((p ++ [x]).length : Int) - 1).toNat - 0) = p := by
  rw [List.drop_zero, show ((((p ++ [x]).length : Int) - 1).toNat - 0) = p.length from by simp, List.take_left]
theorem last_snoc (p : List (List Int)) (x : List Int) : (p ++ [x]).getD (((p ++ [x]).length : Int) - 1).toNat [] = x := by
  rw [show (((p ++ [x]).length : Int) - 1).toNat = p.length from by simp, List.getD_eq_getElem?_getD, List.getElem?_append_right (Nat.le_refl _), Nat.sub_self]; rfl
theorem cons_main : ∀ (d : Nat) (l : List (List Int)) (m : Int) (k : Bool) (old : List Int), l.length ≤ d → 1 ≤ m → m ≤ (l.length : Int) → (k = true → old = treeRoot (l.take m.toNat)) → ((consOf l m k).length : Int) = cLen m (l.length : Int) k ∧ cRoots m (l.length : Int) old (consOf l m k) k = (treeRoot (l.take m.toNat), treeRoot l)
  | 0, l, m, k, old, h, h1, h2, _ => by omega
  | d + 1, l, m, k, old, h, h1, h2, ho => by
    by_cases c : m = (l.length : Int)
    · have et : l.take m.toNat = l := List.take_of_length_le (by omega)
      rw [et] at ho ⊢
      cases k with
      | true => rw [consOf_known c rfl, cLen_eq c, cRoots_known c rfl, ho rfl]; exact ⟨rfl, rfl⟩
      | false => rw [consOf_new c rfl, cLen_eq c, cRoots_new c rfl]; exact ⟨rfl, rfl⟩
    · have hn : 2 ≤ (l.length : Int) := by omega
      have hb := (splitAtT_bd (l.length : Int)).2 hn
      have hp := part_len l
      have e1 : (((l.drop 0).take ((splitAtT (l.length : Int)).toNat - 0)).length : Int) = splitAtT (l.length : Int) := by omega
      have e2 : (((l.drop (splitAtT (l.length : Int)).toNat).take (l.length - (splitAtT (l.length : Int)).toNat)).length : Int) = (l.length : Int) - splitAtT (l.length : Int) := by omega
      have er := treeRoot_two (l := l) (by omega) (by omega)
      by_cases c3 : m ≤ splitAtT (l.length : Int)
      · have et : ((l.drop 0).take ((splitAtT (l.length : Int)).toNat - 0)).take m.toNat = l.take m.toNat := by rw [List.drop_zero, List.take_take]; congr 1; omega
        obtain ⟨i1, i2⟩ := cons_main d ((l.drop 0).take ((splitAtT (l.length : Int)).toNat - 0)) m k old (by omega) h1 (by omega) (fun hk => by rw [et]; exact ho hk)
        rw [e1] at i1 i2
        rw [et] at i2
        rw [consOf_left c hn c3, cLen_left c hn c3, cRoots_left c hn c3, pre_snoc, last_snoc, i2, er]
        refine ⟨?_, rfl⟩
        rw [List.length_append]
        simp only [List.length_cons, List.length_nil]
        omega
      · obtain ⟨i1, i2⟩ := cons_main d ((l.drop (splitAtT (l.length : Int)).toNat).take (l.length - (splitAtT (l.length : Int)).toNat)) (m - splitAtT (l.length : Int)) false old (by omega) (by omega) (by omega) (fun hk => by cases hk)
        rw [e2] at i1 i2
        have hs := splitAtT_same (m := m) (n := (l.length : Int)) hn (by omega) h2
        have ht : treeRoot (l.take m.toNat) = nodeHash (treeRoot ((l.drop 0).take ((splitAtT (l.length : Int)).toNat - 0))) (treeRoot (((l.drop (splitAtT (l.length : Int)).toNat).take (l.length - (splitAtT (l.length : Int)).toNat)).take (m - splitAtT (l.length : Int)).toNat)) := by
          have el : (((l.take m.toNat).length : Nat) : Int) = m := by simp only [List.length_take]; omega
          rw [treeRoot_two (l := l.take m.toNat) (by omega) (by omega), el, hs]
          congr 2
          · rw [List.drop_zero, List.drop_zero, List.take_take]; congr 1; omega
          · rw [List.drop_take, List.take_take, List.take_take]; congr 1; simp only [List.length_take]; omega
        rw [consOf_right c hn c3, cLen_right c hn c3, cRoots_right c hn c3, pre_snoc, last_snoc, i2, er, ht]
        refine ⟨?_, rfl⟩
        rw [List.length_append]
        simp only [List.length_cons, List.length_nil]
        omega
theorem hashes_of {l : List (List Int)} (h : ∀ y ∈ l, y.length = 32) : hashes l = true := by
  unfold hashes
  rw [List.all_eq_true]
  exact fun y hy => decide_eq_true (by rw [h y hy]; rfl)
theorem cons_all {l : List (List Int)} {m : Int} (h1 : 1 ≤ m) (h2 : m ≤ (l.length : Int)) (h3 : l.length ≤ 1048576) : consFits m (l.length : Int) (treeRoot (l.take m.toNat)) (consOfT l m) = true ∧ ((consOfT l m).length : Int) = consLenT m (l.length : Int) ∧ consRootsT m (l.length : Int) (treeRoot (l.take m.toNat)) (consOfT l m) = (treeRoot (l.take m.toNat), treeRoot l) := by
  have hz : 1 ≤ m ∧ m ≤ (l.length : Int) ∧ (l.length : Int) ≤ 1048576 := ⟨h1, h2, by omega⟩
  obtain ⟨c1, c2⟩ := cons_main l.length l m true (treeRoot (l.take m.toNat)) (Nat.le_refl _) h1 h2 (fun _ => rfl)
  have e := consOfT_yes (l := l) (m := m) ⟨h1, h2⟩
  have hl : ((consOfT l m).length : Int) = consLenT m (l.length : Int) := by rw [e, consLenT_yes hz]; exact c1
  have hf : consFits m (l.length : Int) (treeRoot (l.take m.toNat)) (consOfT l m) = true := consFits_mk (decide_eq_true hz) (by rw [treeRoot_32]; rfl) hl (by rw [e]; exact hashes_of (consOf_mem (q := fun y => y.length = 32) treeRoot_32 l m true))
  exact ⟨hf, hl, by rw [consRootsT_yes hf, e]; exact c2⟩
theorem consOk_all {l : List (List Int)} {m : Int} (h1 : 1 ≤ m) (h2 : m ≤ (l.length : Int)) (h3 : l.length ≤ 1048576) : consOk m (l.length : Int) (treeRoot (l.take m.toNat)) (treeRoot l) (consOfT l m) = true := by
  obtain ⟨a, b, c⟩ := cons_all h1 h2 h3
  unfold consOk
  rw [a, c, decide_eq_true rfl, decide_eq_true rfl]; rfl
theorem consOfT_u8 (l : List (List Int)) (m : Int) : ∀ y ∈ consOfT l m, U8s y := by
  unfold consOfT
  split
  · exact consOf_mem (q := U8s) treeRoot_u8 l m true
  · exact fun y hy => by cases hy
theorem ok_spec_l01New (b : List Int) (h0_ : U8s b) (h1_ : b.length ≤ 1048576) : NX Try.prog 46 [.one (.ints .u8 b)] 89 [(.ints .u8 b), (.int .i64 (cur0 b).f0), (.int .i64 (cur0 b).f1)] := by
 refine NX.intro 2 Try.func46 rfl 32 rfl (le_ok rfl) rfl fun w Z => ?_
 refine T.seq ?_
 refine T.region ?_
 refine TL.as (.one (.und)) ?_
 refine TL.nil ?_
 refine T.seq ?_
 refine T.region ?_
 refine TL.mv (pS b) ?_
 refine TL.c (Step.len (e := 5) (z := 1) (d := (.ints .u8 b)) rfl rfl (lt_ok rfl) (by kernel_rfl) rfl rfl) ?_
 refine TL.c (Step.bin (r := .int .i64 (1611 + (b.length : Int))) rfl rfl (lt_ok rfl) rfl rfl (Bin.add (a := 1611) (b := (b.length : Int)) (by first | exact wrap_ok (by first | omega | (simp; omega)) (by first | omega | (simp; omega)) | rfl))) ?_
 refine TL.as (pI (1611 + (b.length : Int))) ?_
 refine TL.nil ?_
 refine T.seq ?_
 refine T.seq ?_
 refine T.region ?_
 refine TL.as (pI 0) ?_
 refine TL.nil ?_
 refine T.block ?_
 refine T.loop (ι := Nat) (fun xx_ => { tm := [(0, (pS b)), (4, (pI (xx_ : Int))), (3, (pI (newH b xx_)))], rows := [], boxes := [] }) (fun xx_ => xx_ ≤ b.length ∧ xx_ ≤ 4000) (fun xx_ => b.length - xx_) 0 ?_ ?_ ?_
 · refine Env.le_mk ⟨rfl, ?_, ?_, trivial⟩ trivial trivial <;> (first | rfl | (refine congrArg (fun n => PV.one (.d (.int .i64 n))) ?_; first | rfl | omega | (simp; done)))
 · exact ⟨Nat.zero_le _, Nat.zero_le _⟩
 intro i hx
 try dsimp only at hx ⊢
 obtain ⟨hx1, hx2⟩ := hx
 have hb_ := newH_bd h1_ i
 have hu_ := getD_u8 h0_ i
 refine T.seq ?_
 refine T.seq ?_
 refine T.region ?_
 refine TL.mv (pI (i : Int)) ?_
 refine TL.mv (pS b) ?_
 refine TL.c (Step.len (e := 5) (z := 1) (d := (.ints .u8 b)) rfl rfl (lt_ok rfl) (by kernel_rfl) rfl rfl) ?_
 refine TL.b _ (Bin.lss (k := .i64) (a := (i : Int)) (b := (b.length : Int))) ?_
 refine TL.mv (pB (decide ((i : Int) < (b.length : Int)))) ?_
 rcases Bool.eq_false_or_eq_true (decide ((i : Int) < (b.length : Int))) with hb1 | hb1
 ·
  refine TL.known 12 hb1 rfl ?_
  have hb1' := hb1
  replace hb1' := of_decide_eq_true hb1'
  refine TL.gm 12 (pI (i : Int)) ?_
  refine TL.gy 12 (Step.bin rfl rfl (lt_ok rfl) rfl rfl (Bin.lss (k := .i64) (a := (i : Int)) (b := 4000))) ?_
  refine TL.pk true (pB (decide ((i : Int) < 4000))) ?_
  refine TL.nil ?_
  refine T.ci rfl (fun h2 => ?_) (fun h2 => ?_)
  ·
   refine T.skip ?_
   refine T.seq ?_
   refine T.block ?_
   refine T.region ?_
   refine TL.mv (pI (newH b i)) ?_
   refine TL.c (Step.bin (r := .int .i64 ((newH b i) * 37)) rfl rfl (lt_ok rfl) rfl rfl (Bin.mul (a := (newH b i)) (b := 37) (by first | exact wrap_ok (by first | omega | (simp; omega)) (by first | omega | (simp; omega)) | rfl))) ?_
   refine TL.mv (pS b) ?_
   refine TL.mv (pI (i : Int)) ?_
   refine TL.c (Step.index (e := 5) (z := 1) (i := (i : Int)) rfl rfl (lt_ok rfl) (by kernel_rfl) rfl rfl rfl (lt_ok rfl) rfl (by first | omega | (simp; omega)) (by simp only [D.size]; first | omega | (simp; omega))) ?_
   refine TL.c (Step.load (e := (.int .u8 (b.getD i 0))) rfl rfl (lt_ok rfl) (by kernel_rfl) rfl rfl) ?_
   refine TL.c (Step.conv (c := (b.getD i 0)) rfl rfl (lt_ok rfl) (by kernel_rfl) (by kernel_rfl) rfl (wrap_ok (by first | omega | (simp; omega)) (by first | omega | (simp; omega)))) ?_
   refine TL.c (Step.bin (r := .int .i64 (((newH b i) * 37) + (b.getD i 0))) rfl rfl (lt_ok rfl) rfl rfl (Bin.add (a := ((newH b i) * 37)) (b := (b.getD i 0)) (by first | exact wrap_ok (by first | omega | (simp; omega)) (by first | omega | (simp; omega)) | rfl))) ?_
   refine TL.c (Step.bin (r := .int .i64 ((((newH b i) * 37) + (b.getD i 0)) + 7)) rfl rfl (lt_ok rfl) rfl rfl (Bin.add (a := (((newH b i) * 37) + (b.getD i 0))) (b := 7) (by first | exact wrap_ok (by first | omega | (simp; omega)) (by first | omega | (simp; omega)) | rfl))) ?_
   refine TL.c (Step.bin (r := .int .i64 (band ((((newH b i) * 37) + (b.getD i 0)) + 7) 1073741823)) rfl rfl (lt_ok rfl) rfl rfl (Bin.and (k := .i64) (a := ((((newH b i) * 37) + (b.getD i 0)) + 7)) (b := 1073741823) (rfl))) ?_
   refine TL.as (pI (band ((((newH b i) * 37) + (b.getD i 0)) + 7) 1073741823)) ?_
   refine TL.nil ?_
   refine T.region ?_
   refine TL.mv (pI (i : Int)) ?_
   refine TL.c (Step.bin (r := .int .i64 ((i : Int) + 1)) rfl rfl (lt_ok rfl) rfl rfl (Bin.add (a := (i : Int)) (b := 1) (by first | exact wrap_ok (by first | omega | (simp; omega)) (by first | omega | (simp; omega)) | rfl))) ?_
   refine TL.as (pI ((i : Int) + 1)) ?_
   refine TL.nil ?_
   refine ⟨i + 1, by (refine ⟨by omega, by omega⟩), by first | omega | (dsimp only; omega), Env.le_mk ⟨rfl, ?_, ?_, trivial⟩ trivial trivial⟩ <;> (first | rfl | (refine congrArg (fun n => PV.one (.d (.int .i64 n))) ?_; first | rfl | omega | (simp; done)))
  refine T.exit ?_
  refine T.seq ?_
  refine T.region ?_
  refine TL.mv (pS b) ?_
  refine TL.mv (pI (newH b i)) ?_
  refine TL.c (Step.build (zs := [.slice none 0 0, .int .i64 0, .int .i64 0]) (places := [(0, 1), (1, 1), (2, 1)]) (pss := [(0, [cS b]), (2, [cI (newH b i)])]) (ps' := [cS b, cI 0, cI (newH b i)]) rfl rfl (lt_ok rfl) (by kernel_rfl) (.cons ⟨rfl, rfl⟩ (.cons ⟨rfl, rfl⟩ .nil)) rfl rfl rfl) ?_
  refine TL.c (Step.bx [cS b, cI 0, cI (newH b i)]) ?_
  refine TL.as (.one (.ptr 31 0)) ?_
  refine TL.nil ?_
  refine T.ret ?_
  exact ⟨31, rfl, by (rw [show cur0 b = ⟨0, newH b i⟩ from by unfold cur0; rw [show min b.length 4000 = i from by omega]]; rfl)⟩
 refine TL.known 12 hb1 rfl ?_
 have hb1' := hb1
 replace hb1' := of_decide_eq_false hb1'
 refine TL.gf 12 ?_
 refine TL.gf 12 ?_
 refine TL.pk false (pB false) ?_
 refine TL.nil ?_
 refine T.cf ?_
 refine T.exit ?_
 refine T.seq ?_
 refine T.region ?_
 refine TL.mv (pS b) ?_
 refine TL.mv (pI (newH b i)) ?_
 refine TL.c (Step.build (zs := [.slice none 0 0, .int .i64 0, .int .i64 0]) (places := [(0, 1), (1, 1), (2, 1)]) (pss := [(0, [cS b]), (2, [cI (newH b i)])]) (ps' := [cS b, cI 0, cI (newH b i)]) rfl rfl (lt_ok rfl) (by kernel_rfl) (.cons ⟨rfl, rfl⟩ (.cons ⟨rfl, rfl⟩ .nil)) rfl rfl rfl) ?_
 refine TL.c (Step.bx [cS b, cI 0, cI (newH b i)]) ?_
 refine TL.as (.one (.ptr 31 0)) ?_
 refine TL.nil ?_
 refine T.ret ?_
 exact ⟨31, rfl, by (rw [show cur0 b = ⟨0, newH b i⟩ from by unfold cur0; rw [show min b.length 4000 = i from by omega]]; rfl)⟩
theorem ok_spec_l01Byte (b : List Int) (s : SRS) (h0_ : U8s b) (h1_ : b.length ≤ 1048576) (h2_ : 0 ≤ s.f0 ∧ s.f0 ≤ (b.length : Int)) : BX Try.prog 103 [.bx] 89 [.rd (.ints .u8 b), .rd (.int .i64 s.f0), .rd (.int .i64 s.f1)] [.rd (.ints .u8 b), .rd (.int .i64 (curB b s).1.f0), .rd (.int .i64 (curB b s).1.f1)] [(false, [.rd (.int .i64 (curB b s).2)])] := by
 refine BX.intro Try.func103 rfl 58 rfl (le_ok rfl) (le_ok rfl) fun w Z IX pin hp => ?_
 have hx_ := band_255 (bxor (bshr (curH s.f1) 33) (bshr (curH s.f1) 45))
 have hu_ := getD_u8 h0_ s.f0.toNat
 refine T.seq ?_
 refine T.region ?_
 refine TL.as (pI 0) ?_
 refine TL.nil ?_
 refine T.seq ?_
 refine T.region ?_
 refine TL.mv (.one (.ptr 800 0)) ?_
 refine TL.mv (.one (.ptr 800 0)) ?_
 refine TL.c (Step.nilCheck rfl rfl (lt_ok rfl) rfl) ?_
 refine TL.c (Step.fd 2 1 true) ?_
 refine TL.c (Step.lb (.d (.int .i64 s.f1))) ?_
 refine TL.c (Step.bin (r := .int .i64 (IntKind.i64.wrap (s.f1 * 6364136223846793005))) rfl rfl (lt_ok rfl) rfl rfl (Bin.mul (a := s.f1) (b := 6364136223846793005) (rfl))) ?_
 refine TL.c (Step.bin (r := .int .i64 (curH s.f1)) rfl rfl (lt_ok rfl) rfl rfl (Bin.add (a := (IntKind.i64.wrap (s.f1 * 6364136223846793005))) (b := 1442695040888963407) (rfl))) ?_
 refine TL.c (Step.nilCheck rfl rfl (lt_ok rfl) rfl) ?_
 refine TL.c (Step.fd 2 1 true) ?_
 refine TL.c (Step.sb 1 [cS b, cI s.f0, cI (curH s.f1)]) ?_
 refine TL.nil ?_
 refine T.seq ?_
 refine T.drawX [{ dst := some 13, pv := (.one (.ptr 800 0)) }, { dst := some 14, pv := (.one (.ptr 800 0)) }, { dst := some 15, pv := (.one (.ptr 800 2)) }, { dst := some 16, pv := (pI (curH s.f1)) }, { dst := some 17, pv := (pI (bshr (curH s.f1) 33)) }, { dst := some 18, pv := (.one (.ptr 800 0)) }, { dst := some 19, pv := (.one (.ptr 800 0)) }, { dst := some 20, pv := (.one (.ptr 800 2)) }, { dst := some 21, pv := (pI (curH s.f1)) }, { dst := some 22, pv := (pI (bshr (curH s.f1) 45)) }, { dst := some 23, pv := (pI (bxor (bshr (curH s.f1) 33) (bshr (curH s.f1) 45))) }, { dst := some 24, pv := (pI (band (bxor (bshr (curH s.f1) 33) (bshr (curH s.f1) 45)) 255)) }, { dst := some 3, pv := (pI (band (bxor (bshr (curH s.f1) 33) (bshr (curH s.f1) 45)) 255)) }] (by kernel_rfl) (by kernel_rfl) ?_ ?_
 ·
  refine .cons (fun E hA_ => by have g0 : E.get 0 = (.one (.ptr 800 0)) := (hA_.get 0 (by kernel_rfl)).trans (by kernel_rfl); exact OpStep.plain rfl (Step.move (p := (.one (.ptr 800 0))) (t := 13) rfl rfl (by exact lt_ok rfl) (show Env.ev E (.tmp 0) = _ from g0.trans rfl))) ?_
  refine .cons (fun E hA_ => by have g13 : E.get 13 = (.one (.ptr 800 0)) := (hA_.get 13 (by kernel_rfl)).trans (by kernel_rfl); exact OpStep.plain rfl (Step.nilCheck (t := 14) rfl rfl (by exact lt_ok rfl) (show Env.ev E (.tmp 13) = _ from g13.trans rfl))) ?_
  refine .cons (fun E hA_ => by have g14 : E.get 14 = (.one (.ptr 800 0)) := (hA_.get 14 (by kernel_rfl)).trans (by kernel_rfl); exact OpStep.plain rfl (Step.fa (off := 2) (n := 1) (one := true) 0 15 (show Env.ev E (.tmp 14) = _ from g14.trans rfl))) ?_
  refine .cons (fun E hA_ => by have g15 : E.get 15 = (.one (.ptr 800 2)) := (hA_.get 15 (by kernel_rfl)).trans (by kernel_rfl); have b800 : E.box 800 = some (89, [cS b, cI s.f0, cI (curH s.f1)]) := (hA_.box 800 (by kernel_rfl)).trans (by kernel_rfl); exact OpStep.plain rfl (Step.load_box (c := cI (curH s.f1)) (t := 16) rfl rfl (by exact lt_ok rfl) (by kernel_rfl) (show Env.ev E (.tmp 15) = _ from g15.trans rfl) b800 rfl)) ?_
  refine .cons (fun E hA_ => by have g16 : E.get 16 = (pI (curH s.f1)) := (hA_.get 16 (by kernel_rfl)).trans (by kernel_rfl); exact OpStep.plain rfl (Step.bd (r := .int .i64 (bshr (curH s.f1) 33)) 17 (show Env.ev E (.tmp 16) = _ from g16.trans rfl) rfl (Bin.shr (k := .i64) (k' := .u64) (a := (curH s.f1)) (b := 33) (by first | omega | (unfold curH at *; omega) | (simp; omega)) (rfl)))) ?_
  refine .cons (fun E hA_ => by have g0 : E.get 0 = (.one (.ptr 800 0)) := (hA_.get 0 (by kernel_rfl)).trans (by kernel_rfl); exact OpStep.plain rfl (Step.move (p := (.one (.ptr 800 0))) (t := 18) rfl rfl (by exact lt_ok rfl) (show Env.ev E (.tmp 0) = _ from g0.trans rfl))) ?_
  refine .cons (fun E hA_ => by have g18 : E.get 18 = (.one (.ptr 800 0)) := (hA_.get 18 (by kernel_rfl)).trans (by kernel_rfl); exact OpStep.plain rfl (Step.nilCheck (t := 19) rfl rfl (by exact lt_ok rfl) (show Env.ev E (.tmp 18) = _ from g18.trans rfl))) ?_
  refine .cons (fun E hA_ => by have g19 : E.get 19 = (.one (.ptr 800 0)) := (hA_.get 19 (by kernel_rfl)).trans (by kernel_rfl); exact OpStep.plain rfl (Step.fa (off := 2) (n := 1) (one := true) 0 20 (show Env.ev E (.tmp 19) = _ from g19.trans rfl))) ?_
  refine .cons (fun E hA_ => by have g20 : E.get 20 = (.one (.ptr 800 2)) := (hA_.get 20 (by kernel_rfl)).trans (by kernel_rfl); have b800 : E.box 800 = some (89, [cS b, cI s.f0, cI (curH s.f1)]) := (hA_.box 800 (by kernel_rfl)).trans (by kernel_rfl); exact OpStep.plain rfl (Step.load_box (c := cI (curH s.f1)) (t := 21) rfl rfl (by exact lt_ok rfl) (by kernel_rfl) (show Env.ev E (.tmp 20) = _ from g20.trans rfl) b800 rfl)) ?_
  refine .cons (fun E hA_ => by have g21 : E.get 21 = (pI (curH s.f1)) := (hA_.get 21 (by kernel_rfl)).trans (by kernel_rfl); exact OpStep.plain rfl (Step.bd (r := .int .i64 (bshr (curH s.f1) 45)) 22 (show Env.ev E (.tmp 21) = _ from g21.trans rfl) rfl (Bin.shr (k := .i64) (k' := .u64) (a := (curH s.f1)) (b := 45) (by first | omega | (unfold curH at *; omega) | (simp; omega)) (rfl)))) ?_
  refine .cons (fun E hA_ => by have g17 : E.get 17 = (pI (bshr (curH s.f1) 33)) := (hA_.get 17 (by kernel_rfl)).trans (by kernel_rfl); have g22 : E.get 22 = (pI (bshr (curH s.f1) 45)) := (hA_.get 22 (by kernel_rfl)).trans (by kernel_rfl); exact OpStep.plain rfl (Step.bd (r := .int .i64 (bxor (bshr (curH s.f1) 33) (bshr (curH s.f1) 45))) 23 (show Env.ev E (.tmp 17) = _ from g17.trans rfl) (show Env.ev E (.tmp 22) = _ from g22.trans rfl) (Bin.xor (k := .i64) (a := (bshr (curH s.f1) 33)) (b := (bshr (curH s.f1) 45)) (rfl)))) ?_
  refine .cons (fun E hA_ => by have g23 : E.get 23 = (pI (bxor (bshr (curH s.f1) 33) (bshr (curH s.f1) 45))) := (hA_.get 23 (by kernel_rfl)).trans (by kernel_rfl); exact OpStep.plain rfl (Step.bd (r := .int .i64 (band (bxor (bshr (curH s.f1) 33) (bshr (curH s.f1) 45)) 255)) 24 (show Env.ev E (.tmp 23) = _ from g23.trans rfl) rfl (Bin.and (k := .i64) (a := (bxor (bshr (curH s.f1) 33) (bshr (curH s.f1) 45))) (b := 255) (rfl)))) ?_
  refine .cons (fun E hA_ => by have g24 : E.get 24 = (pI (band (bxor (bshr (curH s.f1) 33) (bshr (curH s.f1) 45)) 255)) := (hA_.get 24 (by kernel_rfl)).trans (by kernel_rfl); exact OpStep.plain rfl (Step.assign (p := (pI (band (bxor (bshr (curH s.f1) 33) (bshr (curH s.f1) 45)) 255))) (t := 3) rfl rfl (by exact lt_ok rfl) (show Env.ev E (.tmp 24) = _ from g24.trans rfl))) ?_
  exact .nil _ _
 refine TL.wk [(0, (.one (.ptr 800 0))), (2, (pI 0)), (3, (pI (band (bxor (bshr (curH s.f1) 33) (bshr (curH s.f1) 45)) 255)))] [] [(800, (89, [cS b, cI s.f0, cI (curH s.f1)]))] ?_
 refine TL.nil ?_
 refine T.seq ?_
 refine T.seq ?_
 refine T.drawX [{ dst := some 25, pv := (.one (.ptr 800 0)) }, { dst := some 26, pv := (.one (.ptr 800 0)) }, { dst := some 27, pv := (.one (.ptr 800 1)) }, { dst := some 28, pv := (pI s.f0) }, { dst := some 29, pv := (.one (.ptr 800 0)) }, { dst := some 30, pv := (.one (.ptr 800 0)) }, { dst := some 31, pv := (.one (.ptr 800 0)) }, { dst := some 32, pv := (pS b) }, { dst := some 33, pv := (pI (b.length : Int)) }, { dst := some 34, pv := (pB (decide (s.f0 < (b.length : Int)))) }] (by kernel_rfl) (by kernel_rfl) ?_ ?_
 ·
  refine .cons (fun E hA_ => by have g0 : E.get 0 = (.one (.ptr 800 0)) := (hA_.get 0 (by kernel_rfl)).trans (by kernel_rfl); exact OpStep.plain rfl (Step.move (p := (.one (.ptr 800 0))) (t := 25) rfl rfl (by exact lt_ok rfl) (show Env.ev E (.tmp 0) = _ from g0.trans rfl))) ?_
  refine .cons (fun E hA_ => by have g25 : E.get 25 = (.one (.ptr 800 0)) := (hA_.get 25 (by kernel_rfl)).trans (by kernel_rfl); exact OpStep.plain rfl (Step.nilCheck (t := 26) rfl rfl (by exact lt_ok rfl) (show Env.ev E (.tmp 25) = _ from g25.trans rfl))) ?_
  refine .cons (fun E hA_ => by have g26 : E.get 26 = (.one (.ptr 800 0)) := (hA_.get 26 (by kernel_rfl)).trans (by kernel_rfl); exact OpStep.plain rfl (Step.fa (off := 1) (n := 1) (one := true) 0 27 (show Env.ev E (.tmp 26) = _ from g26.trans rfl))) ?_
  refine .cons (fun E hA_ => by have g27 : E.get 27 = (.one (.ptr 800 1)) := (hA_.get 27 (by kernel_rfl)).trans (by kernel_rfl); have b800 : E.box 800 = some (89, [cS b, cI s.f0, cI (curH s.f1)]) := (hA_.box 800 (by kernel_rfl)).trans (by kernel_rfl); exact OpStep.plain rfl (Step.load_box (c := cI s.f0) (t := 28) rfl rfl (by exact lt_ok rfl) (by kernel_rfl) (show Env.ev E (.tmp 27) = _ from g27.trans rfl) b800 rfl)) ?_
  refine .cons (fun E hA_ => by have g0 : E.get 0 = (.one (.ptr 800 0)) := (hA_.get 0 (by kernel_rfl)).trans (by kernel_rfl); exact OpStep.plain rfl (Step.move (p := (.one (.ptr 800 0))) (t := 29) rfl rfl (by exact lt_ok rfl) (show Env.ev E (.tmp 0) = _ from g0.trans rfl))) ?_
  refine .cons (fun E hA_ => by have g29 : E.get 29 = (.one (.ptr 800 0)) := (hA_.get 29 (by kernel_rfl)).trans (by kernel_rfl); exact OpStep.plain rfl (Step.nilCheck (t := 30) rfl rfl (by exact lt_ok rfl) (show Env.ev E (.tmp 29) = _ from g29.trans rfl))) ?_
  refine .cons (fun E hA_ => by have g30 : E.get 30 = (.one (.ptr 800 0)) := (hA_.get 30 (by kernel_rfl)).trans (by kernel_rfl); exact OpStep.plain rfl (Step.fa (off := 0) (n := 1) (one := true) 0 31 (show Env.ev E (.tmp 30) = _ from g30.trans rfl))) ?_
  refine .cons (fun E hA_ => by have g31 : E.get 31 = (.one (.ptr 800 0)) := (hA_.get 31 (by kernel_rfl)).trans (by kernel_rfl); have b800 : E.box 800 = some (89, [cS b, cI s.f0, cI (curH s.f1)]) := (hA_.box 800 (by kernel_rfl)).trans (by kernel_rfl); exact OpStep.plain rfl (Step.load_box (c := cS b) (t := 32) rfl rfl (by exact lt_ok rfl) (by kernel_rfl) (show Env.ev E (.tmp 31) = _ from g31.trans rfl) b800 rfl)) ?_
  refine .cons (fun E hA_ => by have g32 : E.get 32 = (pS b) := (hA_.get 32 (by kernel_rfl)).trans (by kernel_rfl); exact OpStep.plain rfl (Step.len (e := 5) (z := 1) (d := (.ints .u8 b)) (t := 33) rfl rfl (by exact lt_ok rfl) (by kernel_rfl) (show Env.ev E (.tmp 32) = _ from g32.trans rfl) rfl)) ?_
  refine .cons (fun E hA_ => by have g28 : E.get 28 = (pI s.f0) := (hA_.get 28 (by kernel_rfl)).trans (by kernel_rfl); have g33 : E.get 33 = (pI (b.length : Int)) := (hA_.get 33 (by kernel_rfl)).trans (by kernel_rfl); exact OpStep.plain rfl (Step.bd 34 (show Env.ev E (.tmp 28) = _ from g28.trans rfl) (show Env.ev E (.tmp 33) = _ from g33.trans rfl) (Bin.lss (k := .i64) (a := s.f0) (b := (b.length : Int))))) ?_
  exact .nil _ _
 refine TL.wk [(0, (.one (.ptr 800 0))), (2, (pI 0)), (3, (pI (band (bxor (bshr (curH s.f1) 33) (bshr (curH s.f1) 45)) 255))), (34, (pB (decide (s.f0 < (b.length : Int)))))] [] [(800, (89, [cS b, cI s.f0, cI (curH s.f1)]))] ?_
 refine TL.nil ?_
 refine T.ci rfl (fun h1 => ?_) (fun h1 => ?_)
 ·
  refine T.seq ?_
  refine T.drawX [{ dst := some 35, pv := (pI (band (bxor (bshr (curH s.f1) 33) (bshr (curH s.f1) 45)) 255)) }, { dst := some 36, pv := (.one (.ptr 800 0)) }, { dst := some 37, pv := (.one (.ptr 800 0)) }, { dst := some 38, pv := (.one (.ptr 800 0)) }, { dst := some 39, pv := (pS b) }, { dst := some 40, pv := (.one (.ptr 800 0)) }, { dst := some 41, pv := (.one (.ptr 800 0)) }, { dst := some 42, pv := (.one (.ptr 800 1)) }, { dst := some 43, pv := (pI s.f0) }, { dst := some 44, pv := (.one (.eptr (.ints .u8 b) (s.f0).toNat 0)) }, { dst := some 45, pv := (.one (.d (.int .u8 (b.getD (s.f0).toNat 0)))) }, { dst := some 46, pv := (pI (b.getD (s.f0).toNat 0)) }, { dst := some 47, pv := (pI ((band (bxor (bshr (curH s.f1) 33) (bshr (curH s.f1) 45)) 255) + (b.getD (s.f0).toNat 0))) }, { dst := some 48, pv := (pI (band ((band (bxor (bshr (curH s.f1) 33) (bshr (curH s.f1) 45)) 255) + (b.getD (s.f0).toNat 0)) 255)) }, { dst := some 3, pv := (pI (band ((band (bxor (bshr (curH s.f1) 33) (bshr (curH s.f1) 45)) 255) + (b.getD (s.f0).toNat 0)) 255)) }] (by kernel_rfl) (by kernel_rfl) ?_ ?_
  ·
   refine .cons (fun E hA_ => by have g3 : E.get 3 = (pI (band (bxor (bshr (curH s.f1) 33) (bshr (curH s.f1) 45)) 255)) := (hA_.get 3 (by kernel_rfl)).trans (by kernel_rfl); exact OpStep.plain rfl (Step.move (p := (pI (band (bxor (bshr (curH s.f1) 33) (bshr (curH s.f1) 45)) 255))) (t := 35) rfl rfl (by exact lt_ok rfl) (show Env.ev E (.tmp 3) = _ from g3.trans rfl))) ?_
   refine .cons (fun E hA_ => by have g0 : E.get 0 = (.one (.ptr 800 0)) := (hA_.get 0 (by kernel_rfl)).trans (by kernel_rfl); exact OpStep.plain rfl (Step.move (p := (.one (.ptr 800 0))) (t := 36) rfl rfl (by exact lt_ok rfl) (show Env.ev E (.tmp 0) = _ from g0.trans rfl))) ?_
   refine .cons (fun E hA_ => by have g36 : E.get 36 = (.one (.ptr 800 0)) := (hA_.get 36 (by kernel_rfl)).trans (by kernel_rfl); exact OpStep.plain rfl (Step.nilCheck (t := 37) rfl rfl (by exact lt_ok rfl) (show Env.ev E (.tmp 36) = _ from g36.trans rfl))) ?_
   refine .cons (fun E hA_ => by have g37 : E.get 37 = (.one (.ptr 800 0)) := (hA_.get 37 (by kernel_rfl)).trans (by kernel_rfl); exact OpStep.plain rfl (Step.fa (off := 0) (n := 1) (one := true) 0 38 (show Env.ev E (.tmp 37) = _ from g37.trans rfl))) ?_
   refine .cons (fun E hA_ => by have g38 : E.get 38 = (.one (.ptr 800 0)) := (hA_.get 38 (by kernel_rfl)).trans (by kernel_rfl); have b800 : E.box 800 = some (89, [cS b, cI s.f0, cI (curH s.f1)]) := (hA_.box 800 (by kernel_rfl)).trans (by kernel_rfl); exact OpStep.plain rfl (Step.load_box (c := cS b) (t := 39) rfl rfl (by exact lt_ok rfl) (by kernel_rfl) (show Env.ev E (.tmp 38) = _ from g38.trans rfl) b800 rfl)) ?_
   refine .cons (fun E hA_ => by have g0 : E.get 0 = (.one (.ptr 800 0)) := (hA_.get 0 (by kernel_rfl)).trans (by kernel_rfl); exact OpStep.plain rfl (Step.move (p := (.one (.ptr 800 0))) (t := 40) rfl rfl (by exact lt_ok rfl) (show Env.ev E (.tmp 0) = _ from g0.trans rfl))) ?_
   refine .cons (fun E hA_ => by have g40 : E.get 40 = (.one (.ptr 800 0)) := (hA_.get 40 (by kernel_rfl)).trans (by kernel_rfl); exact OpStep.plain rfl (Step.nilCheck (t := 41) rfl rfl (by exact lt_ok rfl) (show Env.ev E (.tmp 40) = _ from g40.trans rfl))) ?_
   refine .cons (fun E hA_ => by have g41 : E.get 41 = (.one (.ptr 800 0)) := (hA_.get 41 (by kernel_rfl)).trans (by kernel_rfl); exact OpStep.plain rfl (Step.fa (off := 1) (n := 1) (one := true) 0 42 (show Env.ev E (.tmp 41) = _ from g41.trans rfl))) ?_
   refine .cons (fun E hA_ => by have g42 : E.get 42 = (.one (.ptr 800 1)) := (hA_.get 42 (by kernel_rfl)).trans (by kernel_rfl); have b800 : E.box 800 = some (89, [cS b, cI s.f0, cI (curH s.f1)]) := (hA_.box 800 (by kernel_rfl)).trans (by kernel_rfl); exact OpStep.plain rfl (Step.load_box (c := cI s.f0) (t := 43) rfl rfl (by exact lt_ok rfl) (by kernel_rfl) (show Env.ev E (.tmp 42) = _ from g42.trans rfl) b800 rfl)) ?_
   refine .cons (fun E hA_ => by have g39 : E.get 39 = (pS b) := (hA_.get 39 (by kernel_rfl)).trans (by kernel_rfl); have g43 : E.get 43 = (pI s.f0) := (hA_.get 43 (by kernel_rfl)).trans (by kernel_rfl); exact OpStep.plain rfl (Step.index (e := 5) (z := 1) (i := s.f0) (t := 44) rfl rfl (by exact lt_ok rfl) (by kernel_rfl) (show Env.ev E (.tmp 39) = _ from g39.trans rfl) rfl rfl (lt_ok rfl) (show Env.ev E (.tmp 43) = _ from g43.trans rfl) (by first | omega | (unfold curH at *; omega) | (simp; omega)) (by simp only [D.size]; first | omega | (unfold curH at *; omega) | (simp; omega)))) ?_
   refine .cons (fun E hA_ => by have g44 : E.get 44 = (.one (.eptr (.ints .u8 b) (s.f0).toNat 0)) := (hA_.get 44 (by kernel_rfl)).trans (by kernel_rfl); exact OpStep.plain rfl (Step.load (e := (.int .u8 (b.getD (s.f0).toNat 0))) (t := 45) rfl rfl (by exact lt_ok rfl) (by kernel_rfl) (show Env.ev E (.tmp 44) = _ from g44.trans rfl) rfl)) ?_
   refine .cons (fun E hA_ => by have g45 : E.get 45 = (.one (.d (.int .u8 (b.getD (s.f0).toNat 0)))) := (hA_.get 45 (by kernel_rfl)).trans (by kernel_rfl); exact OpStep.plain rfl (Step.conv (c := (b.getD (s.f0).toNat 0)) (t := 46) rfl rfl (by exact lt_ok rfl) (by kernel_rfl) (by kernel_rfl) (show Env.ev E (.tmp 45) = _ from g45.trans rfl) (wrap_ok (by first | omega | (unfold curH at *; omega) | (simp; omega)) (by first | omega | (unfold curH at *; omega) | (simp; omega))))) ?_
   refine .cons (fun E hA_ => by have g35 : E.get 35 = (pI (band (bxor (bshr (curH s.f1) 33) (bshr (curH s.f1) 45)) 255)) := (hA_.get 35 (by kernel_rfl)).trans (by kernel_rfl); have g46 : E.get 46 = (pI (b.getD (s.f0).toNat 0)) := (hA_.get 46 (by kernel_rfl)).trans (by kernel_rfl); exact OpStep.plain rfl (Step.bd (r := .int .i64 ((band (bxor (bshr (curH s.f1) 33) (bshr (curH s.f1) 45)) 255) + (b.getD (s.f0).toNat 0))) 47 (show Env.ev E (.tmp 35) = _ from g35.trans rfl) (show Env.ev E (.tmp 46) = _ from g46.trans rfl) (Bin.add (a := (band (bxor (bshr (curH s.f1) 33) (bshr (curH s.f1) 45)) 255)) (b := (b.getD (s.f0).toNat 0)) (by first | exact wrap_ok (by first | omega | (unfold curH at *; omega) | (simp; omega)) (by first | omega | (unfold curH at *; omega) | (simp; omega)) | rfl)))) ?_
   refine .cons (fun E hA_ => by have g47 : E.get 47 = (pI ((band (bxor (bshr (curH s.f1) 33) (bshr (curH s.f1) 45)) 255) + (b.getD (s.f0).toNat 0))) := (hA_.get 47 (by kernel_rfl)).trans (by kernel_rfl); exact OpStep.plain rfl (Step.bd (r := .int .i64 (band ((band (bxor (bshr (curH s.f1) 33) (bshr (curH s.f1) 45)) 255) + (b.getD (s.f0).toNat 0)) 255)) 48 (show Env.ev E (.tmp 47) = _ from g47.trans rfl) rfl (Bin.and (k := .i64) (a := ((band (bxor (bshr (curH s.f1) 33) (bshr (curH s.f1) 45)) 255) + (b.getD (s.f0).toNat 0))) (b := 255) (rfl)))) ?_
   refine .cons (fun E hA_ => by have g48 : E.get 48 = (pI (band ((band (bxor (bshr (curH s.f1) 33) (bshr (curH s.f1) 45)) 255) + (b.getD (s.f0).toNat 0)) 255)) := (hA_.get 48 (by kernel_rfl)).trans (by kernel_rfl); exact OpStep.plain rfl (Step.assign (p := (pI (band ((band (bxor (bshr (curH s.f1) 33) (bshr (curH s.f1) 45)) 255) + (b.getD (s.f0).toNat 0)) 255))) (t := 3) rfl rfl (by exact lt_ok rfl) (show Env.ev E (.tmp 48) = _ from g48.trans rfl))) ?_
   exact .nil _ _
  refine TL.wk [(0, (.one (.ptr 800 0))), (2, (pI 0)), (3, (pI (band ((band (bxor (bshr (curH s.f1) 33) (bshr (curH s.f1) 45)) 255) + (b.getD (s.f0).toNat 0)) 255)))] [] [(800, (89, [cS b, cI s.f0, cI (curH s.f1)]))] ?_
  refine TL.nil ?_
  refine T.region ?_
  refine TL.mv (.one (.ptr 800 0)) ?_
  refine TL.mv (.one (.ptr 800 0)) ?_
  refine TL.c (Step.nilCheck rfl rfl (lt_ok rfl) rfl) ?_
  refine TL.c (Step.fd 1 1 true) ?_
  refine TL.c (Step.lb (.d (.int .i64 s.f0))) ?_
  refine TL.c (Step.bin (r := .int .i64 (s.f0 + 1)) rfl rfl (lt_ok rfl) rfl rfl (Bin.add (a := s.f0) (b := 1) (by first | exact wrap_ok (by first | omega | (unfold curH at *; omega) | (simp; omega)) (by first | omega | (unfold curH at *; omega) | (simp; omega)) | rfl))) ?_
  refine TL.c (Step.nilCheck rfl rfl (lt_ok rfl) rfl) ?_
  refine TL.c (Step.fd 1 1 true) ?_
  refine TL.c (Step.sb 1 [cS b, cI (s.f0 + 1), cI (curH s.f1)]) ?_
  refine TL.nil ?_
  refine T.seq ?_
  refine T.region ?_
  refine TL.mv (pI (band ((band (bxor (bshr (curH s.f1) 33) (bshr (curH s.f1) 45)) 255) + (b.getD (s.f0).toNat 0)) 255)) ?_
  refine TL.as (pI (band ((band (bxor (bshr (curH s.f1) 33) (bshr (curH s.f1) 45)) 255) + (b.getD (s.f0).toNat 0)) 255)) ?_
  refine TL.nil ?_
  refine T.ret ?_
  refine ⟨[cS b, cI (s.f0 + 1), cI (curH s.f1)], [(false, [cI (band ((band (bxor (bshr (curH s.f1) 33) (bshr (curH s.f1) 45)) 255) + (b.getD (s.f0).toNat 0)) 255)])], rfl, rfl, (.cons rfl .nil), rfl, [], (RetC.r rfl (RetC.r ?_ (RetC.r ?_ (RetC.r ?_ .nil))))⟩ <;> (first | rfl | (congr 1; unfold curB; first | (rw [if_pos (by omega)]; first | done | rfl) | (rw [if_neg (by omega)]; first | done | rfl)))
 refine T.skip ?_
 refine T.seq ?_
 refine T.region ?_
 refine TL.mv (pI (band (bxor (bshr (curH s.f1) 33) (bshr (curH s.f1) 45)) 255)) ?_
 refine TL.as (pI (band (bxor (bshr (curH s.f1) 33) (bshr (curH s.f1) 45)) 255)) ?_
 refine TL.nil ?_
 refine T.ret ?_
 refine ⟨[cS b, cI s.f0, cI (curH s.f1)], [(false, [cI (band (bxor (bshr (curH s.f1) 33) (bshr (curH s.f1) 45)) 255)])], rfl, rfl, (.cons rfl .nil), rfl, [], (RetC.r rfl (RetC.r ?_ (RetC.r ?_ (RetC.r ?_ .nil))))⟩ <;> (first | rfl | (congr 1; unfold curB; first | (rw [if_pos (by omega)]; first | done | rfl) | (rw [if_neg (by omega)]; first | done | rfl)))
theorem ok_spec_l01Below (b : List Int) (s : SRS) (n : Int) (h0_ : U8s b) (h1_ : b.length ≤ 1048576) (h2_ : 0 ≤ s.f0 ∧ s.f0 ≤ (b.length : Int)) (h3_ : 1 ≤ n ∧ n ≤ 256) : BX Try.prog 84 [.bx, .rd (.one (.int .i64 n))] 89 [.rd (.ints .u8 b), .rd (.int .i64 s.f0), .rd (.int .i64 s.f1)] [.rd (.ints .u8 b), .rd (.int .i64 (curN b s n).1.f0), .rd (.int .i64 (curN b s n).1.f1)] [(false, [.rd (.int .i64 (curN b s n).2)])] := by
 refine BX.intro Try.func84 rfl 37 rfl (le_ok rfl) (le_ok rfl) fun w Z IX pin hp => ?_
 refine T.seq ?_
 refine T.region ?_
 refine TL.as (pI 0) ?_
 refine TL.nil ?_
 refine T.seq ?_
 refine T.seq ?_
 refine T.region ?_
 refine TL.mv (pI n) ?_
 refine TL.b _ (Bin.leq (k := .i64) (a := n) (b := 0)) ?_
 refine TL.known 10 (c := false) (decide_eq_false (by omega)) rfl ?_
 refine TL.nil ?_
 refine T.cf ?_
 refine T.skip ?_
 refine T.seq ?_
 refine T.seq ?_
 refine T.region ?_
 refine TL.mv (pI n) ?_
 refine TL.b _ (Bin.leq (k := .i64) (a := n) (b := 256)) ?_
 refine TL.known 12 (c := true) (decide_eq_true (by omega)) rfl ?_
 refine TL.nil ?_
 refine T.ct ?_
 refine T.seq ?_
 refine T.region ?_
 refine TL.mv (.one (.ptr 800 0)) ?_
 have nn1 := curB_bd b s
 refine TL.c (Step.callX2 (b := 800) (xs := [.tmp 13]) (ps := [(.one (.ptr 800 0))]) (bps := [cS b, cI s.f0, cI s.f1]) (ss := []) (g := .func 103) (ok_spec_l01Byte b s (by assumption) (by first | omega | assumption | (simp only [List.length_append] at *; omega)) (by first | assumption | omega | exact ⟨Int.le_refl _, by show (0 : Int) ≤ (b.length : Int); omega⟩)) rfl rfl (lt_ok rfl) rfl (by kernel_rfl) rfl (.cons (.bx) .nil) rfl (.rd (.rd (.rd .nil))) rfl rfl (fun x hx => by have := hp x hx; omega) rfl) ?_
 refine TL.mv (pI n) ?_
 refine TL.c (Step.bin (r := .int .i64 ((curB b s).2 % n)) rfl rfl (lt_ok rfl) rfl rfl (Bin.rem (k := .i64) (a := (curB b s).2) (b := n) (by omega) (Int.tmod_eq_emod_of_nonneg (by omega)))) ?_
 refine TL.as (pI ((curB b s).2 % n)) ?_
 refine TL.nil ?_
 refine T.ret ?_
 refine ⟨[cS b, cI (curB b s).1.f0, cI (curB b s).1.f1], [(false, [cI ((curB b s).2 % n)])], rfl, rfl, (.cons rfl .nil), rfl, [], (RetC.r rfl (RetC.r ?_ (RetC.r ?_ (RetC.r ?_ .nil))))⟩ <;> (rfl)
theorem ok_spec_l01Bytes (b : List Int) (s : SRS) (most : Int) (h0_ : U8s b) (h1_ : b.length ≤ 1048576) (h2_ : 0 ≤ s.f0 ∧ s.f0 ≤ (b.length : Int)) (h3_ : 0 ≤ most ∧ most ≤ 255) : BX Try.prog 83 [.bx, .rd (.one (.int .i64 most))] 89 [.rd (.ints .u8 b), .rd (.int .i64 s.f0), .rd (.int .i64 s.f1)] [.rd (.ints .u8 b), .rd (.int .i64 (curBs b s most).1.f0), .rd (.int .i64 (curBs b s most).1.f1)] [(false, [.own 5 (.ints .u8 (curBs b s most).2)])] := by
 refine BX.intro Try.func83 rfl 23 rfl (le_ok rfl) (le_ok rfl) fun w Z IX pin hp => ?_
 refine T.seq ?_
 refine T.region ?_
 refine TL.as (.one (.nil)) ?_
 refine TL.nil ?_
 refine T.seq ?_
 refine T.region ?_
 refine TL.c (Step.lit (e := 5) (z := 1) (by_ := 1) (xs := []) (pss := []) (es := []) (ss := []) (d := (.ints .u8 [])) rfl rfl (lt_ok rfl) (by kernel_rfl) rfl rfl .nil (by simp) (le_ok rfl) (le_ok rfl) rfl .nil rfl (by simp) (fun x hx => by have := hp x hx; omega) rfl trivial rfl rfl) ?_
 refine TL.as (.one (.row 7 [])) ?_
 refine TL.nil ?_
 refine T.seq ?_
 refine T.seq ?_
 refine T.region ?_
 refine TL.mv (.one (.ptr 800 0)) ?_
 refine TL.mv (pI most) ?_
 refine TL.c (Step.bin (r := .int .i64 (most + 1)) rfl rfl (lt_ok rfl) rfl rfl (Bin.add (a := most) (b := 1) (by first | exact wrap_ok (by first | omega | (simp; omega)) (by first | omega | (simp; omega)) | rfl))) ?_
 have nn1 := @curN_bd b s (most + 1) (by first | assumption | omega) (by omega)
 refine TL.c (Step.callX2 (b := 800) (xs := [.tmp 8, .tmp 10]) (ps := [(.one (.ptr 800 0)), (pI (most + 1))]) (bps := [cS b, cI s.f0, cI s.f1]) (ss := []) (g := .func 84) (ok_spec_l01Below b s (most + 1) (by assumption) (by first | omega | assumption | (simp only [List.length_append] at *; omega)) (by first | assumption | omega | exact ⟨Int.le_refl _, by show (0 : Int) ≤ (b.length : Int); omega⟩) (by first | assumption | omega | (have := curLL_bd (b := b) (s := s) (by assumption); omega))) rfl rfl (lt_ok rfl) rfl (by kernel_rfl) rfl (.cons (.bx) (.cons (.rd (.one (.d _))) .nil)) rfl (.rd (.rd (.rd .nil))) rfl rfl (fun x hx => by have := hp x hx; omega) rfl) ?_
 refine TL.as (pI (curN b s (most + 1)).2) ?_
 refine TL.nil ?_
 refine T.block ?_
 refine T.loop (ι := Nat × SRS × (List Int)) (fun xx_ => { tm := [(0, (.one (.ptr 800 0))), (4, (.one (.nil))), (5, (.one (.row 7 []))), (6, (pI ((xx_.1) : Int)))], rows := [(7, (5, (.ints .u8 (xx_.2.2))))], boxes := [(800, (89, [cS b, cI (xx_.2.1).f0, cI (xx_.2.1).f1]))] }) (fun xx_ => (0 ≤ (xx_.2.1).f0 ∧ (xx_.2.1).f0 ≤ (b.length : Int)) ∧ (xx_.2.2).length + (xx_.1) ≤ 256 ∧ curGo b (xx_.1) (xx_.2.1) (xx_.2.2) = curGo b (curN b s (most + 1)).2.toNat (curN b s (most + 1)).1 []) (fun xx_ => (xx_.1)) ((curN b s (most + 1)).2.toNat, (curN b s (most + 1)).1, []) ?_ ?_ ?_
 · refine Env.le_mk ⟨rfl, rfl, rfl, ?_, trivial⟩ ⟨?_, trivial⟩ ⟨?_, trivial⟩ <;> (first | rfl | (refine congrArg (fun n => PV.one (.d (.int .i64 n))) ?_; first | rfl | omega | (simp; done)))
 · (dsimp only; refine ⟨by omega, by simp only [List.length_nil]; omega, rfl⟩)
 intro xx_ hx
 obtain ⟨d, q, o⟩ := xx_
 try dsimp only at hx ⊢
 obtain ⟨hx1, hx2, hx4⟩ := hx
 have hbd_ := curB_bd b q
 have hb4_ := curBs_bd (b := b) (s := q) (most := 4) hx1 (by decide)
 refine T.seq ?_
 refine T.seq ?_
 refine T.region ?_
 refine TL.mv (pI (d : Int)) ?_
 refine TL.b _ (Bin.gtr (k := .i64) (a := (d : Int)) (b := 0)) ?_
 refine TL.nil ?_
 refine T.ci rfl (fun h2 => ?_) (fun h2 => ?_)
 ·
  refine T.skip ?_
  refine T.seq ?_
  refine T.block ?_
  refine T.region ?_
  refine TL.mv (.one (.row 7 [])) ?_
  refine TL.mv (.one (.ptr 800 0)) ?_
  have nn3 := curB_bd b q
  refine TL.c (Step.callX2 (b := 800) (xs := [.tmp 17]) (ps := [(.one (.ptr 800 0))]) (bps := [cS b, cI q.f0, cI q.f1]) (ss := []) (g := .func 103) (ok_spec_l01Byte b q (by assumption) (by first | omega | assumption | (simp only [List.length_append] at *; omega)) (by first | assumption | omega | exact ⟨Int.le_refl _, by show (0 : Int) ≤ (b.length : Int); omega⟩)) rfl rfl (lt_ok rfl) rfl (by kernel_rfl) rfl (.cons (.bx) .nil) rfl (.rd (.rd (.rd .nil))) rfl rfl (fun x hx => by have := hp x hx; omega) rfl) ?_
  refine TL.c (Step.conv (c := ((curB b q).2 % 256)) rfl rfl (lt_ok rfl) (by kernel_rfl) (by kernel_rfl) rfl (wrap_byte _)) ?_
  refine TL.c (Step.lit (e := 5) (z := 1) (by_ := 1) (xs := [.tmp 19]) (pss := [[.d (.int .u8 ((curB b q).2 % 256))]]) (es := [(.int .u8 ((curB b q).2 % 256))]) (ss := []) (d := (.ints .u8 [(curB b q).2 % 256])) rfl rfl (lt_ok rfl) (by kernel_rfl) rfl rfl (.cons rfl .nil) (by simp) (le_ok rfl) (le_ok rfl) rfl (.val rfl .nil) rfl (by simp) (fun x hx => by have := hp x hx; omega) rfl trivial rfl rfl) ?_
  refine TL.c (Step.append (e := 5) (z := 1) (by_ := 1) (r := 7) (d := (.ints .u8 o)) (dy := (.ints .u8 [(curB b q).2 % 256])) (d' := (.ints .u8 (o ++ [(curB b q).2 % 256]))) (ss := []) rfl rfl (lt_ok rfl) (by kernel_rfl) rfl rfl rfl (lt_ok rfl) rfl (.copy rfl rfl rfl (by simp [D.flat, D.val])) (by simp) rfl (by simp only [D.size, List.length_map]; first | omega | (simp only [List.length_append, List.length_cons, List.length_nil]; omega) | (simp; omega) | (simp only [List.length_append] at *; omega)) (by simp only [D.size, List.length_map]; first | omega | (simp only [List.length_append, List.length_cons, List.length_nil]; omega) | (simp; omega) | (simp only [List.length_append] at *; omega)) (fun x hx => by have := hp x hx; omega)) ?_
  refine TL.as (.one (.row 7 [])) ?_
  refine TL.nil ?_
  refine T.region ?_
  refine TL.mv (pI (d : Int)) ?_
  refine TL.c (Step.bin (r := .int .i64 ((d : Int) - 1)) rfl rfl (lt_ok rfl) rfl rfl (Bin.sub (a := (d : Int)) (b := 1) (by first | exact wrap_ok (by first | omega | (simp; omega)) (by first | omega | (simp; omega)) | rfl))) ?_
  refine TL.as (pI ((d : Int) - 1)) ?_
  refine TL.nil ?_
  refine ⟨(d - 1, (curB b q).1, (o ++ [(curB b q).2 % 256])), by (try dsimp only); (refine ⟨by first | exact hbd_.2 hx1 | exact hb4_.1, by simp only [List.length_append, List.length_cons, List.length_nil]; omega, ?_⟩; exact (curGo_next (by omega)).symm.trans hx4), by (dsimp only; omega), Env.le_mk ⟨rfl, rfl, rfl, ?_, trivial⟩ ⟨?_, trivial⟩ ⟨?_, trivial⟩⟩ <;> (first | rfl | (refine congrArg (fun n => PV.one (.d (.int .i64 n))) ?_; first | rfl | omega | (simp; done)))
 refine T.exit ?_
 refine T.seq ?_
 refine T.region ?_
 refine TL.mv (.one (.row 7 [])) ?_
 refine TL.as (.one (.row 7 [])) ?_
 refine TL.nil ?_
 refine T.ret ?_
 refine ⟨[cS b, cI q.f0, cI q.f1], [(false, [.row 7 []])], rfl, rfl, (.cons rfl .nil), rfl, [7], (RetC.r rfl (RetC.r ?_ (RetC.r ?_ (RetC.o ?_ .nil))))⟩ <;> (first | rfl | (congr 1; unfold curBs; rw [← hx4, curGo_end (by omega)]; first | done | rfl))
theorem ok_spec_l06List (b : List Int) (s : SRS) (most : Int) (h0_ : U8s b) (h1_ : b.length ≤ 1048576) (h2_ : 0 ≤ s.f0 ∧ s.f0 ≤ (b.length : Int)) (h3_ : 0 ≤ most ∧ most ≤ 255) : BX Try.prog 82 [.bx, .rd (.one (.int .i64 most))] 89 [.rd (.ints .u8 b), .rd (.int .i64 s.f0), .rd (.int .i64 s.f1)] [.rd (.ints .u8 b), .rd (.int .i64 (curL b s most).1.f0), .rd (.int .i64 (curL b s most).1.f1)] [(false, [.own 22 (.bss (curL b s most).2)])] := by
 refine BX.intro Try.func82 rfl 22 rfl (le_ok rfl) (le_ok rfl) fun w Z IX pin hp => ?_
 refine T.seq ?_
 refine T.region ?_
 refine TL.as (.one (.nil)) ?_
 refine TL.nil ?_
 refine T.seq ?_
 refine T.region ?_
 refine TL.c (Step.lit (e := 22) (z := 1) (by_ := 24) (xs := []) (pss := []) (es := []) (ss := []) (d := (.bss [])) rfl rfl (lt_ok rfl) (by kernel_rfl) rfl rfl .nil (by simp) (le_ok rfl) (le_ok rfl) rfl .nil rfl (by simp) (fun x hx => by have := hp x hx; omega) rfl trivial rfl rfl) ?_
 refine TL.as (.one (.row 7 [])) ?_
 refine TL.nil ?_
 refine T.seq ?_
 refine T.seq ?_
 refine T.region ?_
 refine TL.mv (.one (.ptr 800 0)) ?_
 refine TL.mv (pI most) ?_
 refine TL.c (Step.bin (r := .int .i64 (most + 1)) rfl rfl (lt_ok rfl) rfl rfl (Bin.add (a := most) (b := 1) (by first | exact wrap_ok (by first | omega | (simp; omega)) (by first | omega | (simp; omega)) | rfl))) ?_
 have nn1 := @curN_bd b s (most + 1) (by first | assumption | omega) (by omega)
 refine TL.c (Step.callX2 (b := 800) (xs := [.tmp 8, .tmp 10]) (ps := [(.one (.ptr 800 0)), (pI (most + 1))]) (bps := [cS b, cI s.f0, cI s.f1]) (ss := []) (g := .func 84) (ok_spec_l01Below b s (most + 1) (by assumption) (by first | omega | assumption | (simp only [List.length_append] at *; omega)) (by first | assumption | omega | exact ⟨Int.le_refl _, by show (0 : Int) ≤ (b.length : Int); omega⟩) (by first | assumption | omega | (have := curLL_bd (b := b) (s := s) (by assumption); omega))) rfl rfl (lt_ok rfl) rfl (by kernel_rfl) rfl (.cons (.bx) (.cons (.rd (.one (.d _))) .nil)) rfl (.rd (.rd (.rd .nil))) rfl rfl (fun x hx => by have := hp x hx; omega) rfl) ?_
 refine TL.as (pI (curN b s (most + 1)).2) ?_
 refine TL.nil ?_
 refine T.block ?_
 refine T.loop (ι := Nat × SRS × (List (List Int))) (fun xx_ => { tm := [(0, (.one (.ptr 800 0))), (4, (.one (.nil))), (5, (.one (.row 7 []))), (6, (pI ((xx_.1) : Int)))], rows := [(7, (22, (.bss (xx_.2.2))))], boxes := [(800, (89, [cS b, cI (xx_.2.1).f0, cI (xx_.2.1).f1]))] }) (fun xx_ => (0 ≤ (xx_.2.1).f0 ∧ (xx_.2.1).f0 ≤ (b.length : Int)) ∧ (xx_.2.2).length + (xx_.1) ≤ 256 ∧ curLGo b (xx_.1) (xx_.2.1) (xx_.2.2) = curLGo b (curN b s (most + 1)).2.toNat (curN b s (most + 1)).1 []) (fun xx_ => (xx_.1)) ((curN b s (most + 1)).2.toNat, (curN b s (most + 1)).1, []) ?_ ?_ ?_
 · refine Env.le_mk ⟨rfl, rfl, rfl, ?_, trivial⟩ ⟨?_, trivial⟩ ⟨?_, trivial⟩ <;> (first | rfl | (refine congrArg (fun n => PV.one (.d (.int .i64 n))) ?_; first | rfl | omega | (simp; done)))
 · (dsimp only; refine ⟨by omega, by simp only [List.length_nil]; omega, rfl⟩)
 intro xx_ hx
 obtain ⟨d, q, o⟩ := xx_
 try dsimp only at hx ⊢
 obtain ⟨hx1, hx2, hx4⟩ := hx
 have hbd_ := curB_bd b q
 have hb4_ := curBs_bd (b := b) (s := q) (most := 4) hx1 (by decide)
 refine T.seq ?_
 refine T.seq ?_
 refine T.region ?_
 refine TL.mv (pI (d : Int)) ?_
 refine TL.b _ (Bin.gtr (k := .i64) (a := (d : Int)) (b := 0)) ?_
 refine TL.nil ?_
 refine T.ci rfl (fun h2 => ?_) (fun h2 => ?_)
 ·
  refine T.skip ?_
  refine T.seq ?_
  refine T.block ?_
  refine T.region ?_
  refine TL.mv (.one (.row 7 [])) ?_
  refine TL.mv (.one (.ptr 800 0)) ?_
  have nn3 := @curBs_bd b q 4 (by first | assumption | omega) (by omega)
  refine TL.c (Step.callX2 (b := 800) (xs := [.tmp 17, .const (.int .i64 4)]) (ps := [(.one (.ptr 800 0)), (pI 4)]) (bps := [cS b, cI q.f0, cI q.f1]) (ss := []) (g := .func 83) (ok_spec_l01Bytes b q 4 (by assumption) (by first | omega | assumption | (simp only [List.length_append] at *; omega)) (by first | assumption | omega | exact ⟨Int.le_refl _, by show (0 : Int) ≤ (b.length : Int); omega⟩) (by omega)) rfl rfl (lt_ok rfl) rfl (by kernel_rfl) rfl (.cons (.bx) (.cons (.rd (.one (.d _))) .nil)) rfl (.rd (.rd (.rd .nil))) rfl rfl (fun x hx => by have := hp x hx; omega) rfl) ?_
  refine TL.c (Step.lit (e := 22) (z := 1) (by_ := 24) (xs := [.tmp 18]) (pss := [[.row 4018 []]]) (es := [(.ints .u8 (curBs b q 4).2)]) (ss := [4018]) (d := (.bss [(curBs b q 4).2])) rfl rfl (lt_ok rfl) (by kernel_rfl) rfl rfl (.cons rfl .nil) (by simp) (le_ok rfl) (le_ok rfl) rfl (.row rfl (by simp) .nil) rfl (by simp) (fun x hx => by have := hp x hx; omega) rfl trivial rfl rfl) ?_
  refine TL.c (Step.append (e := 22) (z := 1) (by_ := 24) (r := 7) (d := (.bss o)) (dy := (.bss [(curBs b q 4).2])) (d' := (.bss (o ++ [(curBs b q 4).2]))) (ss := [19]) rfl rfl (lt_ok rfl) (by kernel_rfl) rfl rfl rfl (lt_ok rfl) rfl (.move rfl) (by simp) rfl (by simp only [D.size, List.length_map]; first | omega | (simp only [List.length_append, List.length_cons, List.length_nil]; omega) | (simp; omega) | (simp only [List.length_append] at *; omega)) (by simp only [D.size, List.length_map]; first | omega | (simp only [List.length_append, List.length_cons, List.length_nil]; omega) | (simp; omega) | (simp only [List.length_append] at *; omega)) (fun x hx => by have := hp x hx; omega)) ?_
  refine TL.as (.one (.row 7 [])) ?_
  refine TL.nil ?_
  refine T.region ?_
  refine TL.mv (pI (d : Int)) ?_
  refine TL.c (Step.bin (r := .int .i64 ((d : Int) - 1)) rfl rfl (lt_ok rfl) rfl rfl (Bin.sub (a := (d : Int)) (b := 1) (by first | exact wrap_ok (by first | omega | (simp; omega)) (by first | omega | (simp; omega)) | rfl))) ?_
  refine TL.as (pI ((d : Int) - 1)) ?_
  refine TL.nil ?_
  refine ⟨(d - 1, (curBs b q 4).1, (o ++ [(curBs b q 4).2])), by (try dsimp only); (refine ⟨by first | exact hbd_.2 hx1 | exact hb4_.1, by simp only [List.length_append, List.length_cons, List.length_nil]; omega, ?_⟩; exact (curLGo_next (by omega)).symm.trans hx4), by (dsimp only; omega), Env.le_mk ⟨rfl, rfl, rfl, ?_, trivial⟩ ⟨?_, trivial⟩ ⟨?_, trivial⟩⟩ <;> (first | rfl | (refine congrArg (fun n => PV.one (.d (.int .i64 n))) ?_; first | rfl | omega | (simp; done)))
 refine T.exit ?_
 refine T.seq ?_
 refine T.region ?_
 refine TL.mv (.one (.row 7 [])) ?_
 refine TL.as (.one (.row 7 [])) ?_
 refine TL.nil ?_
 refine T.ret ?_
 refine ⟨[cS b, cI q.f0, cI q.f1], [(false, [.row 7 []])], rfl, rfl, (.cons rfl .nil), rfl, [7], (RetC.r rfl (RetC.r ?_ (RetC.r ?_ (RetC.o ?_ .nil))))⟩ <;> (first | rfl | (congr 1; unfold curL; rw [← hx4, curLGo_end (by omega)]; first | done | rfl))
theorem ok_spec_l08List (b : List Int) (s : SRS) (h0_ : U8s b) (h1_ : b.length ≤ 1048576) (h2_ : 0 ≤ s.f0 ∧ s.f0 ≤ (b.length : Int)) : BX Try.prog 47 [.bx] 89 [.rd (.ints .u8 b), .rd (.int .i64 s.f0), .rd (.int .i64 s.f1)] [.rd (.ints .u8 b), .rd (.int .i64 (curN b (curBs b (curL b s 8).1 3).1 ((curLL b s).length : Int)).1.f0), .rd (.int .i64 (curN b (curBs b (curL b s 8).1 3).1 ((curLL b s).length : Int)).1.f1)] [(false, [.own 22 (.bss (curLL b s))]), (false, [.rd (.int .i64 (curN b (curBs b (curL b s 8).1 3).1 ((curLL b s).length : Int)).2)])] := by
 refine BX.intro Try.func47 rfl 16 rfl (le_ok rfl) (le_ok rfl) fun w Z IX pin hp => ?_
 have hll_ := curLL_bd (b := b) (s := s) h2_
 have hlq_ : (((curL b s 8).2 ++ [(curBs b (curL b s 8).1 3).2]).length : Int) = ((curLL b s).length : Int) := rfl
 refine T.seq ?_
 refine T.region ?_
 refine TL.as (.one (.nil)) ?_
 refine TL.as (pI 0) ?_
 refine TL.nil ?_
 refine T.seq ?_
 refine T.region ?_
 refine TL.mv (.one (.ptr 800 0)) ?_
 have nn1 := @curL_bd b s 8 (by first | assumption | omega) (by omega)
 refine TL.c (Step.callX2 (b := 800) (xs := [.tmp 5, .const (.int .i64 8)]) (ps := [(.one (.ptr 800 0)), (pI 8)]) (bps := [cS b, cI s.f0, cI s.f1]) (ss := []) (g := .func 82) (ok_spec_l06List b s 8 (by assumption) (by first | omega | assumption | (simp only [List.length_append] at *; omega)) (by first | assumption | omega | exact ⟨Int.le_refl _, by show (0 : Int) ≤ (b.length : Int); omega⟩) (by omega)) rfl rfl (lt_ok rfl) rfl (by kernel_rfl) rfl (.cons (.bx) (.cons (.rd (.one (.d _))) .nil)) rfl (.rd (.rd (.rd .nil))) rfl rfl (fun x hx => by have := hp x hx; omega) rfl) ?_
 refine TL.mv (.one (.ptr 800 0)) ?_
 have nn2 := @curBs_bd b (curL b s 8).1 3 (by first | assumption | omega) (by omega)
 refine TL.c (Step.callX2 (b := 800) (xs := [.tmp 7, .const (.int .i64 3)]) (ps := [(.one (.ptr 800 0)), (pI 3)]) (bps := [cS b, cI (curL b s 8).1.f0, cI (curL b s 8).1.f1]) (ss := []) (g := .func 83) (ok_spec_l01Bytes b (curL b s 8).1 3 (by assumption) (by first | omega | assumption | (simp only [List.length_append] at *; omega)) (by first | assumption | omega | exact ⟨Int.le_refl _, by show (0 : Int) ≤ (b.length : Int); omega⟩) (by omega)) rfl rfl (lt_ok rfl) rfl (by kernel_rfl) rfl (.cons (.bx) (.cons (.rd (.one (.d _))) .nil)) rfl (.rd (.rd (.rd .nil))) rfl rfl (fun x hx => by have := hp x hx; omega) rfl) ?_
 refine TL.c (Step.lit (e := 22) (z := 1) (by_ := 24) (xs := [.tmp 8]) (pss := [[.row 4008 []]]) (es := [(.ints .u8 (curBs b (curL b s 8).1 3).2)]) (ss := [4008]) (d := (.bss [(curBs b (curL b s 8).1 3).2])) rfl rfl (lt_ok rfl) (by kernel_rfl) rfl rfl (.cons rfl .nil) (by simp) (le_ok rfl) (le_ok rfl) rfl (.row rfl (by simp) .nil) rfl (by simp) (fun x hx => by have := hp x hx; omega) rfl trivial rfl rfl) ?_
 refine TL.c (Step.append (e := 22) (z := 1) (by_ := 24) (r := 4006) (d := (.bss (curL b s 8).2)) (dy := (.bss [(curBs b (curL b s 8).1 3).2])) (d' := (.bss ((curL b s 8).2 ++ [(curBs b (curL b s 8).1 3).2]))) (ss := [9]) rfl rfl (lt_ok rfl) (by kernel_rfl) rfl rfl rfl (lt_ok rfl) rfl (.move rfl) (by simp) rfl (by simp only [D.size, List.length_map]; first | omega | (simp only [List.length_append, List.length_cons, List.length_nil]; omega) | (simp; omega) | (simp only [List.length_append] at *; omega)) (by simp only [D.size, List.length_map]; first | omega | (simp only [List.length_append, List.length_cons, List.length_nil]; omega) | (simp; omega) | (simp only [List.length_append] at *; omega)) (fun x hx => by have := hp x hx; omega)) ?_
 refine TL.as (.one (.row 4006 [])) ?_
 refine TL.nil ?_
 refine T.seq ?_
 refine T.region ?_
 refine TL.mv (.one (.row 4006 [])) ?_
 refine TL.mv (.one (.ptr 800 0)) ?_
 refine TL.mv (.one (.row 4006 [])) ?_
 refine TL.c (Step.len (e := 22) (z := 1) (d := (.bss ((curL b s 8).2 ++ [(curBs b (curL b s 8).1 3).2]))) rfl rfl (lt_ok rfl) (by kernel_rfl) rfl rfl) ?_
 have nn3 := @curN_bd b (curBs b (curL b s 8).1 3).1 (((curL b s 8).2 ++ [(curBs b (curL b s 8).1 3).2]).length : Int) (by first | assumption | omega) (by omega)
 refine TL.c (Step.callX2 (b := 800) (xs := [.tmp 12, .tmp 14]) (ps := [(.one (.ptr 800 0)), (pI (((curL b s 8).2 ++ [(curBs b (curL b s 8).1 3).2]).length : Int))]) (bps := [cS b, cI (curBs b (curL b s 8).1 3).1.f0, cI (curBs b (curL b s 8).1 3).1.f1]) (ss := []) (g := .func 84) (ok_spec_l01Below b (curBs b (curL b s 8).1 3).1 (((curL b s 8).2 ++ [(curBs b (curL b s 8).1 3).2]).length : Int) (by assumption) (by first | omega | assumption | (simp only [List.length_append] at *; omega)) (by first | assumption | omega | exact ⟨Int.le_refl _, by show (0 : Int) ≤ (b.length : Int); omega⟩) (by first | assumption | omega | (have := curLL_bd (b := b) (s := s) (by assumption); omega))) rfl rfl (lt_ok rfl) rfl (by kernel_rfl) rfl (.cons (.bx) (.cons (.rd (.one (.d _))) .nil)) rfl (.rd (.rd (.rd .nil))) rfl rfl (fun x hx => by have := hp x hx; omega) rfl) ?_
 refine TL.as (.one (.row 4006 [])) ?_
 refine TL.as (pI (curN b (curBs b (curL b s 8).1 3).1 (((curL b s 8).2 ++ [(curBs b (curL b s 8).1 3).2]).length : Int)).2) ?_
 refine TL.nil ?_
 refine T.ret ?_
 refine ⟨[cS b, cI (curN b (curBs b (curL b s 8).1 3).1 (((curL b s 8).2 ++ [(curBs b (curL b s 8).1 3).2]).length : Int)).1.f0, cI (curN b (curBs b (curL b s 8).1 3).1 (((curL b s 8).2 ++ [(curBs b (curL b s 8).1 3).2]).length : Int)).1.f1], [(false, [.row 4006 []]), (false, [cI (curN b (curBs b (curL b s 8).1 3).1 (((curL b s 8).2 ++ [(curBs b (curL b s 8).1 3).2]).length : Int)).2])], rfl, rfl, (.cons rfl (.cons rfl .nil)), rfl, [4006], (RetC.r rfl (RetC.r ?_ (RetC.r ?_ (RetC.o ?_ (RetC.r ?_ .nil)))))⟩ <;> (rfl)
theorem ok_spec_MakeList (b : List Int) (h0_ : U8s b) (h1_ : b.length ≤ 1048576) : RO Try.prog 12 [.one (.ints .u8 b)] [(false, [.own 22 (.bss (makeList b))])] := by
 refine RO.intro Try.func12 rfl 14 rfl (le_ok rfl) fun w Z => ?_
 refine T.bnd 0 0 rfl rfl fun hb_0_0 => ?_
 simp only [D.size, List.length_map] at hb_0_0
 refine T.seq ?_
 refine T.region ?_
 refine TL.as (.one (.nil)) ?_
 refine TL.nil ?_
 refine T.seq ?_
 refine T.region ?_
 refine TL.mv (pS b) ?_
 refine TL.c (Step.callN (f := 46) (xs := [.tmp 6]) (ps := [(pS b)]) (T := 89) (ds := [(.ints .u8 b), (.int .i64 (cur0 b).f0), (.int .i64 (cur0 b).f1)]) (g := .func 46) rfl rfl (lt_ok rfl) rfl (by kernel_rfl) rfl (.cons (.one (.d _)) .nil) (ok_spec_l01New b (by assumption) (by first | omega | assumption | (simp only [List.length_append] at *; omega))) rfl) ?_
 refine TL.as (.one (.ptr 7 0)) ?_
 refine TL.nil ?_
 refine T.seq ?_
 refine T.region ?_
 refine TL.mv (.one (.ptr 7 0)) ?_
 have nn1 := @curLL_bd b (cur0 b) (by first | assumption | omega | exact ⟨Int.le_refl _, by show (0 : Int) ≤ (b.length : Int); omega⟩)
 refine TL.c (Step.callX2 (b := 7) (xs := [.tmp 9]) (ps := [(.one (.ptr 7 0))]) (bps := [cS b, cI (cur0 b).f0, cI (cur0 b).f1]) (ss := []) (g := .func 47) (ok_spec_l08List b (cur0 b) (by assumption) (by first | omega | assumption | (simp only [List.length_append] at *; omega)) (by first | assumption | omega | exact ⟨Int.le_refl _, by show (0 : Int) ≤ (b.length : Int); omega⟩)) rfl rfl (lt_ok rfl) rfl (by kernel_rfl) rfl (.cons (.bx) .nil) rfl (.rd (.rd (.rd .nil))) rfl rfl (by simp) rfl) ?_
 refine TL.mv (.tup [(false, [.row 4010 []]), (false, [cI (curN b (curBs b (curL b (cur0 b) 8).1 3).1 ((curLL b (cur0 b)).length : Int)).2])]) ?_
 refine TL.c (Step.extract (p := (.one (.row 4010 []))) rfl rfl (lt_ok rfl) rfl rfl) ?_
 refine TL.c (Step.extract (p := (pI (curN b (curBs b (curL b (cur0 b) 8).1 3).1 ((curLL b (cur0 b)).length : Int)).2)) rfl rfl (lt_ok rfl) rfl rfl) ?_
 refine TL.as (.one (.row 4010 [])) ?_
 refine TL.as (pI (curN b (curBs b (curL b (cur0 b) 8).1 3).1 ((curLL b (cur0 b)).length : Int)).2) ?_
 refine TL.nil ?_
 refine T.seq ?_
 refine T.region ?_
 refine TL.mv (.one (.row 4010 [])) ?_
 refine TL.as (.one (.row 4010 [])) ?_
 refine TL.nil ?_
 refine T.ret ?_
 refine ⟨[(false, [.row 4010 []])], (.cons rfl .nil), rfl, [4010], (RetC.o ?_ .nil)⟩ <;> (rfl)
theorem ok_impl_ShaInit  : RO Try.prog 85 [] [(false, [.own 3 (.ints .i64 shaInit)])] := by
 refine RO.intro Try.func85 rfl 2 rfl (le_ok rfl) fun w Z => ?_
 refine T.seq ?_
 refine T.region ?_
 refine TL.as (.one (.nil)) ?_
 refine TL.nil ?_
 refine T.seq ?_
 refine T.region ?_
 refine TL.c (Step.lit (e := 3) (z := 1) (by_ := 8) (xs := [.const (.int .i64 1779033703), .const (.int .i64 3144134277), .const (.int .i64 1013904242), .const (.int .i64 2773480762), .const (.int .i64 1359893119), .const (.int .i64 2600822924), .const (.int .i64 528734635), .const (.int .i64 1541459225)]) (pss := [[cI 1779033703], [cI 3144134277], [cI 1013904242], [cI 2773480762], [cI 1359893119], [cI 2600822924], [cI 528734635], [cI 1541459225]]) (es := [(.int .i64 1779033703), (.int .i64 3144134277), (.int .i64 1013904242), (.int .i64 2773480762), (.int .i64 1359893119), (.int .i64 2600822924), (.int .i64 528734635), (.int .i64 1541459225)]) (ss := []) (d := (.ints .i64 [1779033703, 3144134277, 1013904242, 2773480762, 1359893119, 2600822924, 528734635, 1541459225])) rfl rfl (lt_ok rfl) (by kernel_rfl) rfl rfl (.cons rfl (.cons rfl (.cons rfl (.cons rfl (.cons rfl (.cons rfl (.cons rfl (.cons rfl .nil)))))))) (by simp) (le_ok rfl) (le_ok rfl) rfl (.val rfl (.val rfl (.val rfl (.val rfl (.val rfl (.val rfl (.val rfl (.val rfl .nil)))))))) rfl (by simp) (by simp) rfl trivial rfl rfl) ?_
 refine TL.as (.one (.row 1 [])) ?_
 refine TL.nil ?_
 refine T.ret ?_
 refine ⟨[(false, [.row 1 []])], (.cons rfl .nil), rfl, [1], (RetC.o ?_ .nil)⟩ <;> (rfl)
theorem ok_impl_copyBytes (a : List Int) (h0_ : a.length ≤ 17592186044416) : RO Try.prog 88 [.one (.ints .u8 a)] [(false, [.own 5 (.ints .u8 a)])] := by
 refine RO.intro Try.func88 rfl 6 rfl (le_ok rfl) fun w Z => ?_
 refine T.bnd 0 0 rfl rfl fun hb_0_0 => ?_
 simp only [D.size, List.length_map] at hb_0_0
 refine T.seq ?_
 refine T.region ?_
 refine TL.as (.one (.nil)) ?_
 refine TL.nil ?_
 refine T.seq ?_
 refine T.region ?_
 refine TL.c (Step.lit (e := 5) (z := 1) (by_ := 1) (xs := []) (pss := []) (es := []) (ss := []) (d := (.ints .u8 [])) rfl rfl (lt_ok rfl) (by kernel_rfl) rfl rfl .nil (by simp) (le_ok rfl) (le_ok rfl) rfl .nil rfl (by simp) (by simp) rfl trivial rfl rfl) ?_
 refine TL.mv (pS a) ?_
 refine TL.c (Step.append (e := 5) (z := 1) (by_ := 1) (r := 3) (d := (.ints .u8 [])) (dy := (.ints .u8 a)) (d' := (.ints .u8 ([] ++ a))) (ss := []) rfl rfl (lt_ok rfl) (by kernel_rfl) rfl rfl rfl (lt_ok rfl) rfl (.froz rfl (by simp [D.flat, D.val])) (by simp) rfl (by simp only [D.size, List.length_map]; first | omega | (simp only [List.length_append, List.length_cons, List.length_nil]; omega) | (simp; omega) | (simp only [List.length_append] at *; omega)) (by simp only [D.size, List.length_map]; first | omega | (simp only [List.length_append, List.length_cons, List.length_nil]; omega) | (simp; omega) | (simp only [List.length_append] at *; omega)) (by simp)) ?_
 refine TL.as (.one (.row 3 [])) ?_
 refine TL.nil ?_
 refine T.ret ?_
 refine ⟨[(false, [.row 3 []])], (.cons rfl .nil), rfl, [3], (RetC.o ?_ .nil)⟩ <;> (rfl)
theorem ok_impl_ShaPad (b : List Int) (h0_ : b.length ≤ 17592186040000) : RO Try.prog 86 [.one (.ints .u8 b)] [(false, [.own 5 (.ints .u8 (shaPad b))])] := by
 refine RO.intro Try.func86 rfl 31 rfl (le_ok rfl) fun w Z => ?_
 refine T.bnd 0 0 rfl rfl fun hb_0_0 => ?_
 simp only [D.size, List.length_map] at hb_0_0
 refine T.seq ?_
 refine T.region ?_
 refine TL.as (.one (.nil)) ?_
 refine TL.nil ?_
 refine T.seq ?_
 refine T.region ?_
 refine TL.mv (pS b) ?_
 refine TL.c (Step.cl (xs := [.tmp 5]) (ps := [(pS b)]) (g := .func 88) false (.cons (.one (.d _)) .nil) (ok_impl_copyBytes b (by first | omega | assumption | (simp only [List.length_take, List.length_drop]; omega)))) ?_
 refine TL.c (Step.lit (e := 5) (z := 1) (by_ := 1) (xs := [.const (.int .u8 128)]) (pss := [[.d (.int .u8 128)]]) (es := [(.int .u8 128)]) (ss := []) (d := (.ints .u8 [128])) rfl rfl (lt_ok rfl) (by kernel_rfl) rfl rfl (.cons rfl .nil) (by simp) (le_ok rfl) (le_ok rfl) rfl (.val rfl .nil) rfl (by simp) (by simp) rfl trivial rfl rfl) ?_
 refine TL.c (Step.append (e := 5) (z := 1) (by_ := 1) (r := 1006) (d := (.ints .u8 b)) (dy := (.ints .u8 [128])) (d' := (.ints .u8 (b ++ [128]))) (ss := []) rfl rfl (lt_ok rfl) (by kernel_rfl) rfl rfl rfl (lt_ok rfl) rfl (.copy rfl rfl rfl (by simp [D.flat, D.val])) (by simp) rfl (by simp only [D.size, List.length_map]; first | omega | (simp only [List.length_append, List.length_cons, List.length_nil]; omega) | (simp; omega) | (simp only [List.length_append] at *; omega)) (by simp only [D.size, List.length_map]; first | omega | (simp only [List.length_append, List.length_cons, List.length_nil]; omega) | (simp; omega) | (simp only [List.length_append] at *; omega)) (by simp)) ?_
 refine TL.as (.one (.row 1006 [])) ?_
 refine TL.nil ?_
 refine T.seq ?_
 refine T.block ?_
 refine T.loop (ι := Nat) (fun xx_ => { tm := [(0, (pS b)), (2, (.one (.nil))), (3, (.one (.row 1006 [])))], rows := [(1006, (5, (.ints .u8 (b ++ [128] ++ List.replicate xx_ 0)))), (7, (5, (.ints .u8 [128])))], boxes := [] }) (fun xx_ => xx_ ≤ padK b.length) (fun xx_ => padK b.length - xx_) 0 ?_ ?_ ?_
 · refine Env.le_mk ⟨rfl, rfl, rfl, trivial⟩ ⟨?_, rfl, trivial⟩ trivial <;> (first | rfl | (refine congrArg (fun x => some (_, D.ints .u8 x)) ?_; first | (simp; done) | (rw [List.replicate_succ', List.append_assoc, List.append_assoc]; first | done | rfl) | (simp only [List.append_assoc, List.replicate_succ', padB]; done) | (rw [show i = padK b.length from by unfold padK; omega]; simp [padB]; done)) | (refine congrArg (fun n => PV.one (.d (.int .i64 n))) ?_; first | rfl | omega | (simp; done)))
 · exact Nat.zero_le _
 intro i hx
 try dsimp only at hx ⊢
 have hl_ : (b ++ [128] ++ List.replicate i 0).length = b.length + 1 + i := by simp; omega
 have hk_ : padK b.length ≤ 63 := by unfold padK; omega
 refine T.seq ?_
 refine T.seq ?_
 refine T.region ?_
 refine TL.mv (.one (.row 1006 [])) ?_
 refine TL.c (Step.len (e := 5) (z := 1) (d := (.ints .u8 (b ++ [128] ++ List.replicate i 0))) rfl rfl (lt_ok rfl) (by kernel_rfl) rfl rfl) ?_
 refine TL.c (Step.bin (r := .int .i64 (((b ++ [128] ++ List.replicate i 0).length : Int) % 64)) rfl rfl (lt_ok rfl) rfl rfl (Bin.rem (k := .i64) (a := ((b ++ [128] ++ List.replicate i 0).length : Int)) (b := 64) (by decide) (Int.tmod_eq_emod_of_nonneg (by first | omega | (simp; omega))))) ?_
 refine TL.b _ (Bin.neq (k := .i64) (a := (((b ++ [128] ++ List.replicate i 0).length : Int) % 64)) (b := 56)) ?_
 refine TL.nil ?_
 refine T.ci rfl (fun h1 => ?_) (fun h1 => ?_)
 ·
  refine T.skip ?_
  refine T.block ?_
  refine T.region ?_
  refine TL.mv (.one (.row 1006 [])) ?_
  refine TL.c (Step.lit (e := 5) (z := 1) (by_ := 1) (xs := [.const (.int .u8 0)]) (pss := [[.d (.int .u8 0)]]) (es := [(.int .u8 0)]) (ss := []) (d := (.ints .u8 [0])) rfl rfl (lt_ok rfl) (by kernel_rfl) rfl rfl (.cons rfl .nil) (by simp) (le_ok rfl) (le_ok rfl) rfl (.val rfl .nil) rfl (by simp) (by simp) rfl trivial rfl rfl) ?_
  refine TL.c (Step.append (e := 5) (z := 1) (by_ := 1) (r := 1006) (d := (.ints .u8 (b ++ [128] ++ List.replicate i 0))) (dy := (.ints .u8 [0])) (d' := (.ints .u8 ((b ++ [128] ++ List.replicate i 0) ++ [0]))) (ss := []) rfl rfl (lt_ok rfl) (by kernel_rfl) rfl rfl rfl (lt_ok rfl) rfl (.copy rfl rfl rfl (by simp [D.flat, D.val])) (by simp) rfl (by simp only [D.size, List.length_map]; first | omega | (simp only [List.length_append, List.length_cons, List.length_nil]; omega) | (simp; omega) | (simp only [List.length_append] at *; omega)) (by simp only [D.size, List.length_map]; first | omega | (simp only [List.length_append, List.length_cons, List.length_nil]; omega) | (simp; omega) | (simp only [List.length_append] at *; omega)) (by simp)) ?_
  refine TL.as (.one (.row 1006 [])) ?_
  refine TL.nil ?_
  refine ⟨i + 1, by (unfold padK at *; omega), by (unfold padK at *; omega), Env.le_mk ⟨rfl, rfl, rfl, trivial⟩ ⟨?_, rfl, trivial⟩ trivial⟩ <;> (first | rfl | (refine congrArg (fun x => some (_, D.ints .u8 x)) ?_; first | (simp; done) | (rw [List.replicate_succ', List.append_assoc, List.append_assoc]; first | done | rfl) | (simp only [List.append_assoc, List.replicate_succ', padB]; done) | (rw [show i = padK b.length from by unfold padK; omega]; simp [padB]; done)) | (refine congrArg (fun n => PV.one (.d (.int .i64 n))) ?_; first | rfl | omega | (simp; done)))
 refine T.exit ?_
 refine T.seq ?_
 refine T.seq ?_
 refine T.region ?_
 refine TL.as (pI 7) ?_
 refine TL.nil ?_
 refine T.block ?_
 refine T.loop (ι := Nat) (fun xx_ => { tm := [(0, (pS b)), (2, (.one (.nil))), (3, (.one (.row 1006 []))), (4, (pI (7 - (xx_ : Int))))], rows := [(1006, (5, (.ints .u8 (b ++ [128] ++ List.replicate (padK b.length) 0 ++ padB b.length xx_)))), (7, (5, (.ints .u8 [128])))], boxes := [] }) (fun xx_ => xx_ ≤ 8) (fun xx_ => 8 - xx_) 0 ?_ ?_ ?_
 · refine Env.le_mk ⟨rfl, rfl, rfl, ?_, trivial⟩ ⟨?_, rfl, trivial⟩ trivial <;> (first | rfl | (refine congrArg (fun x => some (_, D.ints .u8 x)) ?_; first | (simp; done) | (rw [List.replicate_succ', List.append_assoc, List.append_assoc]; first | done | rfl) | (simp only [List.append_assoc, List.replicate_succ', padB]; done) | (rw [show i = padK b.length from by unfold padK at *; omega]; simp [padB]; done)) | (refine congrArg (fun n => PV.one (.d (.int .i64 n))) ?_; first | rfl | omega | (simp; done)))
 · exact Nat.zero_le _
 intro i hx
 try dsimp only at hx ⊢
 have hl_ : (b ++ [128] ++ List.replicate (padK b.length) 0 ++ padB b.length i).length = b.length + 1 + padK b.length + i := by simp [padB_len]; omega
 have hl3_ := padB_len b.length i
 have hk_ : padK b.length ≤ 63 := by unfold padK; omega
 refine T.seq ?_
 refine T.seq ?_
 refine T.region ?_
 refine TL.mv (pI (7 - (i : Int))) ?_
 refine TL.b _ (Bin.geq (k := .i64) (a := (7 - (i : Int))) (b := 0)) ?_
 refine TL.nil ?_
 refine T.ci rfl (fun h2 => ?_) (fun h2 => ?_)
 ·
  refine T.skip ?_
  refine T.seq ?_
  refine T.block ?_
  refine T.region ?_
  refine TL.mv (.one (.row 1006 [])) ?_
  refine TL.mv (pS b) ?_
  refine TL.c (Step.len (e := 5) (z := 1) (d := (.ints .u8 b)) rfl rfl (lt_ok rfl) (by kernel_rfl) rfl rfl) ?_
  refine TL.c (Step.bin (r := .int .i64 (8 * (b.length : Int))) rfl rfl (lt_ok rfl) rfl rfl (Bin.mul (a := 8) (b := (b.length : Int)) (by first | exact wrap_ok (by first | omega | (simp; omega)) (by first | omega | (simp; omega)) | rfl))) ?_
  refine TL.mv (pI (7 - (i : Int))) ?_
  refine TL.c (Step.bin (r := .int .i64 (8 * (7 - (i : Int)))) rfl rfl (lt_ok rfl) rfl rfl (Bin.mul (a := 8) (b := (7 - (i : Int))) (by first | exact wrap_ok (by first | omega | (simp; omega)) (by first | omega | (simp; omega)) | rfl))) ?_
  refine TL.c (Step.bin (r := .int .i64 (bshr (8 * (b.length : Int)) (8 * (7 - (i : Int))))) rfl rfl (lt_ok rfl) rfl rfl (Bin.shr (k := .i64) (k' := .i64) (a := (8 * (b.length : Int))) (b := (8 * (7 - (i : Int)))) (by first | omega | (simp; omega)) (rfl))) ?_
  refine TL.c (Step.conv (c := ((bshr (8 * (b.length : Int)) (8 * (7 - (i : Int)))) % 256)) rfl rfl (lt_ok rfl) (by kernel_rfl) (by kernel_rfl) rfl (wrap_byte _)) ?_
  refine TL.c (Step.lit (e := 5) (z := 1) (by_ := 1) (xs := [.tmp 27]) (pss := [[.d (.int .u8 ((bshr (8 * (b.length : Int)) (8 * (7 - (i : Int)))) % 256))]]) (es := [(.int .u8 ((bshr (8 * (b.length : Int)) (8 * (7 - (i : Int)))) % 256))]) (ss := []) (d := (.ints .u8 [(bshr (8 * (b.length : Int)) (8 * (7 - (i : Int)))) % 256])) rfl rfl (lt_ok rfl) (by kernel_rfl) rfl rfl (.cons rfl .nil) (by simp) (le_ok rfl) (le_ok rfl) rfl (.val rfl .nil) rfl (by simp) (by simp) rfl trivial rfl rfl) ?_
  refine TL.c (Step.append (e := 5) (z := 1) (by_ := 1) (r := 1006) (d := (.ints .u8 (b ++ [128] ++ List.replicate (padK b.length) 0 ++ padB b.length i))) (dy := (.ints .u8 [(bshr (8 * (b.length : Int)) (8 * (7 - (i : Int)))) % 256])) (d' := (.ints .u8 ((b ++ [128] ++ List.replicate (padK b.length) 0 ++ padB b.length i) ++ [(bshr (8 * (b.length : Int)) (8 * (7 - (i : Int)))) % 256]))) (ss := []) rfl rfl (lt_ok rfl) (by kernel_rfl) rfl rfl rfl (lt_ok rfl) rfl (.copy rfl rfl rfl (by simp [D.flat, D.val])) (by simp) rfl (by simp only [D.size, List.length_map]; first | omega | (simp only [List.length_append, List.length_cons, List.length_nil]; omega) | (simp; omega) | (simp only [List.length_append] at *; omega)) (by simp only [D.size, List.length_map]; first | omega | (simp only [List.length_append, List.length_cons, List.length_nil]; omega) | (simp; omega) | (simp only [List.length_append] at *; omega)) (by simp)) ?_
  refine TL.as (.one (.row 1006 [])) ?_
  refine TL.nil ?_
  refine T.region ?_
  refine TL.mv (pI (7 - (i : Int))) ?_
  refine TL.c (Step.bin (r := .int .i64 ((7 - (i : Int)) - 1)) rfl rfl (lt_ok rfl) rfl rfl (Bin.sub (a := (7 - (i : Int))) (b := 1) (by first | exact wrap_ok (by first | omega | (simp; omega)) (by first | omega | (simp; omega)) | rfl))) ?_
  refine TL.as (pI ((7 - (i : Int)) - 1)) ?_
  refine TL.nil ?_
  refine ⟨i + 1, by omega, by omega, Env.le_mk ⟨rfl, rfl, rfl, ?_, trivial⟩ ⟨?_, rfl, trivial⟩ trivial⟩ <;> (first | rfl | (refine congrArg (fun x => some (_, D.ints .u8 x)) ?_; first | (simp; done) | (rw [List.replicate_succ', List.append_assoc, List.append_assoc]; first | done | rfl) | (simp only [List.append_assoc, List.replicate_succ', padB]; done) | (rw [show i = padK b.length from by unfold padK at *; omega]; simp [padB]; done)) | (refine congrArg (fun n => PV.one (.d (.int .i64 n))) ?_; first | rfl | omega | (simp; done)))
 refine T.exit ?_
 refine T.seq ?_
 refine T.region ?_
 refine TL.mv (.one (.row 1006 [])) ?_
 refine TL.as (.one (.row 1006 [])) ?_
 refine TL.nil ?_
 refine T.ret ?_
 refine ⟨[(false, [.row 1006 []])], (.cons rfl .nil), rfl, [1006], (RetC.o ?_ .nil)⟩ <;> ((congr 1; unfold shaPad; rw [show i = 8 from by omega]))
theorem ok_impl_within (n : Int) (low : Int) (high : Int) : RO Try.prog 52 [.one (.int .i64 n), .one (.int .i64 low), .one (.int .i64 high)] [(false, [.rd (.bool (decide (low ≤ n ∧ n ≤ high)))])] := by
 refine RO.intro Try.func52 rfl 15 rfl (le_ok rfl) fun w Z => ?_
 refine T.seq ?_
 refine T.region ?_
 refine TL.as (pB false) ?_
 refine TL.nil ?_
 refine T.seq ?_
 refine T.region ?_
 refine TL.mv (pI low) ?_
 refine TL.mv (pI n) ?_
 refine TL.b _ (Bin.leq (k := .i64) (a := low) (b := n)) ?_
 refine TL.mv (pB (decide (low ≤ n))) ?_
 rcases Bool.eq_false_or_eq_true (decide (low ≤ n)) with hb1 | hb1
 ·
  refine TL.known 10 hb1 rfl ?_
  refine TL.gm 10 (pI n) ?_
  refine TL.gm 10 (pI high) ?_
  refine TL.gy 10 (Step.bin rfl rfl (lt_ok rfl) rfl rfl (Bin.leq (k := .i64) (a := n) (b := high))) ?_
  refine TL.pk true (pB (decide (n ≤ high))) ?_
  refine TL.as (pB (decide (n ≤ high))) ?_
  refine TL.nil ?_
  refine T.ret ?_
  refine ⟨[(false, [.d (.bool (decide (n ≤ high)))])], (.cons rfl .nil), rfl, [], (RetC.r ?_ .nil)⟩ <;> (first | (congr 1; simp_all; done) | (congr 1; simp_all; omega))
 refine TL.known 10 hb1 rfl ?_
 refine TL.gf 10 ?_
 refine TL.gf 10 ?_
 refine TL.gf 10 ?_
 refine TL.pk false (pB false) ?_
 refine TL.as (pB false) ?_
 refine TL.nil ?_
 refine T.ret ?_
 refine ⟨[(false, [.d (.bool false)])], (.cons rfl .nil), rfl, [], (RetC.r ?_ .nil)⟩ <;> (first | (congr 1; simp_all; done) | (congr 1; simp_all; omega))
theorem ok_impl_isWord (x : Int) : RO Try.prog 104 [.one (.int .i64 x)] [(false, [.rd (.bool (decide (0 ≤ x ∧ x ≤ 4294967295)))])] := by
 refine RO.intro Try.func104 rfl 5 rfl (le_ok rfl) fun w Z => ?_
 refine T.seq ?_
 refine T.region ?_
 refine TL.as (pB false) ?_
 refine TL.nil ?_
 refine T.seq ?_
 refine T.region ?_
 refine TL.mv (pI x) ?_
 refine TL.c (Step.cl (xs := [.tmp 3, .const (.int .i64 0), .const (.int .i64 4294967295)]) (ps := [(pI x), (pI 0), (pI 4294967295)]) (g := .func 52) false (.cons (.one (.d _)) (.cons (.one (.d _)) (.cons (.one (.d _)) .nil))) (ok_impl_within x 0 4294967295)) ?_
 refine TL.as (pB (decide (0 ≤ x ∧ x ≤ 4294967295))) ?_
 refine TL.nil ?_
 refine T.ret ?_
 exact ⟨[(false, [.d (.bool (decide (0 ≤ x ∧ x ≤ 4294967295)))])], (.cons rfl .nil), rfl, [], (RetC.rd' rfl .nil)⟩
theorem ok_impl_rounds  : RO Try.prog 105 [] [(false, [.own 3 (.ints .i64 shaK)])] := by
 refine RO.intro Try.func105 rfl 2 rfl (le_ok rfl) fun w Z => ?_
 refine T.seq ?_
 refine T.region ?_
 refine TL.as (.one (.nil)) ?_
 refine TL.nil ?_
 refine T.seq ?_
 refine T.region ?_
 refine TL.c (Step.lit (e := 3) (z := 1) (by_ := 8) (xs := [.const (.int .i64 1116352408), .const (.int .i64 1899447441), .const (.int .i64 3049323471), .const (.int .i64 3921009573), .const (.int .i64 961987163), .const (.int .i64 1508970993), .const (.int .i64 2453635748), .const (.int .i64 2870763221), .const (.int .i64 3624381080), .const (.int .i64 310598401), .const (.int .i64 607225278), .const (.int .i64 1426881987), .const (.int .i64 1925078388), .const (.int .i64 2162078206), .const (.int .i64 2614888103), .const (.int .i64 3248222580), .const (.int .i64 3835390401), .const (.int .i64 4022224774), .const (.int .i64 264347078), .const (.int .i64 604807628), .const (.int .i64 770255983), .const (.int .i64 1249150122), .const (.int .i64 1555081692), .const (.int .i64 1996064986), .const (.int .i64 2554220882), .const (.int .i64 2821834349), .const (.int .i64 2952996808), .const (.int .i64 3210313671), .const (.int .i64 3336571891), .const (.int .i64 3584528711), .const (.int .i64 113926993), .const (.int .i64 338241895), .const (.int .i64 666307205), .const (.int .i64 773529912), .const (.int .i64 1294757372), .const (.int .i64 1396182291), .const (.int .i64 1695183700), .const (.int .i64 1986661051), .const (.int .i64 2177026350), .const (.int .i64 2456956037), .const (.int .i64 2730485921), .const (.int .i64 2820302411), .const (.int .i64 3259730800), .const (.int .i64 3345764771), .const (.int .i64 3516065817), .const (.int .i64 3600352804), .const (.int .i64 4094571909), .const (.int .i64 275423344), .const (.int .i64 430227734), .const (.int .i64 506948616), .const (.int .i64 659060556), .const (.int .i64 883997877), .const (.int .i64 958139571), .const (.int .i64 1322822218), .const (.int .i64 1537002063), .const (.int .i64 1747873779), .const (.int .i64 1955562222), .const (.int .i64 2024104815), .const (.int .i64 2227730452), .const (.int .i64 2361852424), .const (.int .i64 2428436474), .const (.int .i64 2756734187), .const (.int .i64 3204031479), .const (.int .i64 3329325298)]) (pss := [[cI 1116352408], [cI 1899447441], [cI 3049323471], [cI 3921009573], [cI 961987163], [cI 1508970993], [cI 2453635748], [cI 2870763221], [cI 3624381080], [cI 310598401], [cI 607225278], [cI 1426881987], [cI 1925078388], [cI 2162078206], [cI 2614888103], [cI 3248222580], [cI 3835390401], [cI 4022224774], [cI 264347078], [cI 604807628], [cI 770255983], [cI 1249150122], [cI 1555081692], [cI 1996064986], [cI 2554220882], [cI 2821834349], [cI 2952996808], [cI 3210313671], [cI 3336571891], [cI 3584528711], [cI 113926993], [cI 338241895], [cI 666307205], [cI 773529912], [cI 1294757372], [cI 1396182291], [cI 1695183700], [cI 1986661051], [cI 2177026350], [cI 2456956037], [cI 2730485921], [cI 2820302411], [cI 3259730800], [cI 3345764771], [cI 3516065817], [cI 3600352804], [cI 4094571909], [cI 275423344], [cI 430227734], [cI 506948616], [cI 659060556], [cI 883997877], [cI 958139571], [cI 1322822218], [cI 1537002063], [cI 1747873779], [cI 1955562222], [cI 2024104815], [cI 2227730452], [cI 2361852424], [cI 2428436474], [cI 2756734187], [cI 3204031479], [cI 3329325298]]) (es := [(.int .i64 1116352408), (.int .i64 1899447441), (.int .i64 3049323471), (.int .i64 3921009573), (.int .i64 961987163), (.int .i64 1508970993), (.int .i64 2453635748), (.int .i64 2870763221), (.int .i64 3624381080), (.int .i64 310598401), (.int .i64 607225278), (.int .i64 1426881987), (.int .i64 1925078388), (.int .i64 2162078206), (.int .i64 2614888103), (.int .i64 3248222580), (.int .i64 3835390401), (.int .i64 4022224774), (.int .i64 264347078), (.int .i64 604807628), (.int .i64 770255983), (.int .i64 1249150122), (.int .i64 1555081692), (.int .i64 1996064986), (.int .i64 2554220882), (.int .i64 2821834349), (.int .i64 2952996808), (.int .i64 3210313671), (.int .i64 3336571891), (.int .i64 3584528711), (.int .i64 113926993), (.int .i64 338241895), (.int .i64 666307205), (.int .i64 773529912), (.int .i64 1294757372), (.int .i64 1396182291), (.int .i64 1695183700), (.int .i64 1986661051), (.int .i64 2177026350), (.int .i64 2456956037), (.int .i64 2730485921), (.int .i64 2820302411), (.int .i64 3259730800), (.int .i64 3345764771), (.int .i64 3516065817), (.int .i64 3600352804), (.int .i64 4094571909), (.int .i64 275423344), (.int .i64 430227734), (.int .i64 506948616), (.int .i64 659060556), (.int .i64 883997877), (.int .i64 958139571), (.int .i64 1322822218), (.int .i64 1537002063), (.int .i64 1747873779), (.int .i64 1955562222), (.int .i64 2024104815), (.int .i64 2227730452), (.int .i64 2361852424), (.int .i64 2428436474), (.int .i64 2756734187), (.int .i64 3204031479), (.int .i64 3329325298)]) (ss := []) (d := (.ints .i64 [1116352408, 1899447441, 3049323471, 3921009573, 961987163, 1508970993, 2453635748, 2870763221, 3624381080, 310598401, 607225278, 1426881987, 1925078388, 2162078206, 2614888103, 3248222580, 3835390401, 4022224774, 264347078, 604807628, 770255983, 1249150122, 1555081692, 1996064986, 2554220882, 2821834349, 2952996808, 3210313671, 3336571891, 3584528711, 113926993, 338241895, 666307205, 773529912, 1294757372, 1396182291, 1695183700, 1986661051, 2177026350, 2456956037, 2730485921, 2820302411, 3259730800, 3345764771, 3516065817, 3600352804, 4094571909, 275423344, 430227734, 506948616, 659060556, 883997877, 958139571, 1322822218, 1537002063, 1747873779, 1955562222, 2024104815, 2227730452, 2361852424, 2428436474, 2756734187, 3204031479, 3329325298])) rfl rfl (lt_ok rfl) (by kernel_rfl) rfl rfl (.cons rfl (.cons rfl (.cons rfl (.cons rfl (.cons rfl (.cons rfl (.cons rfl (.cons rfl (.cons rfl (.cons rfl (.cons rfl (.cons rfl (.cons rfl (.cons rfl (.cons rfl (.cons rfl (.cons rfl (.cons rfl (.cons rfl (.cons rfl (.cons rfl (.cons rfl (.cons rfl (.cons rfl (.cons rfl (.cons rfl (.cons rfl (.cons rfl (.cons rfl (.cons rfl (.cons rfl (.cons rfl (.cons rfl (.cons rfl (.cons rfl (.cons rfl (.cons rfl (.cons rfl (.cons rfl (.cons rfl (.cons rfl (.cons rfl (.cons rfl (.cons rfl (.cons rfl (.cons rfl (.cons rfl (.cons rfl (.cons rfl (.cons rfl (.cons rfl (.cons rfl (.cons rfl (.cons rfl (.cons rfl (.cons rfl (.cons rfl (.cons rfl (.cons rfl (.cons rfl (.cons rfl (.cons rfl (.cons rfl (.cons rfl .nil)))))))))))))))))))))))))))))))))))))))))))))))))))))))))))))))) (by simp) (le_ok rfl) (le_ok rfl) rfl (.val rfl (.val rfl (.val rfl (.val rfl (.val rfl (.val rfl (.val rfl (.val rfl (.val rfl (.val rfl (.val rfl (.val rfl (.val rfl (.val rfl (.val rfl (.val rfl (.val rfl (.val rfl (.val rfl (.val rfl (.val rfl (.val rfl (.val rfl (.val rfl (.val rfl (.val rfl (.val rfl (.val rfl (.val rfl (.val rfl (.val rfl (.val rfl (.val rfl (.val rfl (.val rfl (.val rfl (.val rfl (.val rfl (.val rfl (.val rfl (.val rfl (.val rfl (.val rfl (.val rfl (.val rfl (.val rfl (.val rfl (.val rfl (.val rfl (.val rfl (.val rfl (.val rfl (.val rfl (.val rfl (.val rfl (.val rfl (.val rfl (.val rfl (.val rfl (.val rfl (.val rfl (.val rfl (.val rfl (.val rfl .nil)))))))))))))))))))))))))))))))))))))))))))))))))))))))))))))))) rfl (by simp) (by simp) rfl trivial rfl rfl) ?_
 refine TL.as (.one (.row 1 [])) ?_
 refine TL.nil ?_
 refine T.ret ?_
 refine ⟨[(false, [.row 1 []])], (.cons rfl .nil), rfl, [1], (RetC.o ?_ .nil)⟩ <;> (rfl)
theorem ok_impl_TurnRight (x : Int) (n : Int) (h0_ : 0 ≤ x ∧ x ≤ 4294967295) (h1_ : 0 ≤ n ∧ n ≤ 31) : RO Try.prog 106 [.one (.int .i64 x), .one (.int .i64 n)] [(false, [.rd (.int .i64 (turnW x n))])] := by
 refine RO.intro Try.func106 rfl 22 rfl (le_ok rfl) fun w Z => ?_
 refine T.seq ?_
 refine T.region ?_
 refine TL.as (pI 0) ?_
 refine TL.nil ?_
 refine T.seq ?_
 refine T.seq ?_
 refine T.region ?_
 refine TL.mv (pI x) ?_
 refine TL.c (Step.cl (xs := [.tmp 5]) (ps := [(pI x)]) (g := .func 104) false (.cons (.one (.d _)) .nil) (ok_impl_isWord x)) ?_
 refine TL.c (Step.not (b := (decide (0 ≤ x ∧ x ≤ 4294967295))) rfl rfl (lt_ok rfl) rfl) ?_
 refine TL.mv (pB (!(decide (0 ≤ x ∧ x ≤ 4294967295)))) ?_
 rcases Bool.eq_false_or_eq_true (!(decide (0 ≤ x ∧ x ≤ 4294967295))) with hb1 | hb1
 ·
  refine TL.known 8 hb1 rfl ?_
  have hb1' := hb1
  replace hb1' : (decide (0 ≤ x ∧ x ≤ 4294967295)) = false := by simpa only [Bool.not_eq_true', Bool.not_eq_false'] using hb1'
  replace hb1' := of_decide_eq_false hb1'
  refine TL.gf 8 ?_
  refine TL.gf 8 ?_
  refine TL.gf 8 ?_
  refine TL.pk true (pB true) ?_
  refine TL.nil ?_
  refine T.ct ?_
  refine T.seq ?_
  refine T.region ?_
  refine TL.as (pI 0) ?_
  refine TL.nil ?_
  refine T.ret ?_
  refine ⟨[(false, [cI 0])], (.cons rfl .nil), rfl, [], (RetC.r ?_ .nil)⟩ <;> (first | rfl | (exfalso; omega))
 refine TL.known 8 hb1 rfl ?_
 have hb1' := hb1
 replace hb1' : (decide (0 ≤ x ∧ x ≤ 4294967295)) = true := by simpa only [Bool.not_eq_true', Bool.not_eq_false'] using hb1'
 replace hb1' := of_decide_eq_true hb1'
 refine TL.gm 8 (pI n) ?_
 refine TL.gy 8 (Step.cl (xs := [.tmp 9, .const (.int .i64 0), .const (.int .i64 31)]) (ps := [(pI n), (pI 0), (pI 31)]) (g := .func 52) false (.cons (.one (.d _)) (.cons (.one (.d _)) (.cons (.one (.d _)) .nil))) (ok_impl_within n 0 31)) ?_
 refine TL.gy 8 (Step.not (b := (decide (0 ≤ n ∧ n ≤ 31))) rfl rfl (lt_ok rfl) rfl) ?_
 refine TL.pk false (pB (!(decide (0 ≤ n ∧ n ≤ 31)))) ?_
 refine TL.nil ?_
 refine T.cni rfl (fun h2 => ?_) (fun h2 => ?_)
 ·
  refine T.seq ?_
  refine T.region ?_
  refine TL.as (pI 0) ?_
  refine TL.nil ?_
  refine T.ret ?_
  refine ⟨[(false, [cI 0])], (.cons rfl .nil), rfl, [], (RetC.r ?_ .nil)⟩ <;> (first | rfl | (exfalso; omega))
 refine T.skip ?_
 refine T.seq ?_
 refine T.draw [⟨13, (pI x), []⟩, ⟨14, (pI n), []⟩, ⟨15, (pI (bshr x n)), []⟩, ⟨16, (pI x), []⟩, ⟨17, (pI n), []⟩, ⟨18, (pI (32 - n)), []⟩, ⟨19, (pI (bshl x (32 - n))), []⟩, ⟨20, (pI (bor (bshr x n) (bshl x (32 - n)))), []⟩, ⟨21, (pI (band (bor (bshr x n) (bshl x (32 - n))) 4294967295)), []⟩, ⟨4, (pI (band (bor (bshr x n) (bshl x (32 - n))) 4294967295)), []⟩] (by kernel_rfl) (by kernel_rfl) ?_ ?_
 ·
  refine .cons (fun E A => A.mv 0 13) ?_
  refine .cons (fun E A => A.mv 1 14) ?_
  refine .cons (fun E A => OpStep.plain rfl (Step.bd (r := .int .i64 (bshr x n)) 15 (A.g 13 rfl) (A.g 14 rfl) (Bin.shr (k := .i64) (k' := .i64) (a := x) (b := n) (by first | omega | (simp; omega)) (rfl)))) ?_
  refine .cons (fun E A => A.mv 0 16) ?_
  refine .cons (fun E A => A.mv 1 17) ?_
  refine .cons (fun E A => OpStep.plain rfl (Step.bd (r := .int .i64 (32 - n)) 18 rfl (A.g 17 rfl) (Bin.sub (a := 32) (b := n) (by first | exact wrap_ok (by first | omega | (simp; omega)) (by first | omega | (simp; omega)) | rfl)))) ?_
  refine .cons (fun E A => OpStep.plain rfl (Step.bd (r := .int .i64 (bshl x (32 - n))) 19 (A.g 16 rfl) (A.g 18 rfl) (Bin.shl (k := .i64) (k' := .i64) (a := x) (b := (32 - n)) (by first | omega | (simp; omega)) (rfl)))) ?_
  refine .cons (fun E A => OpStep.plain rfl (Step.bd (r := .int .i64 (bor (bshr x n) (bshl x (32 - n)))) 20 (A.g 15 rfl) (A.g 19 rfl) (Bin.or (k := .i64) (a := (bshr x n)) (b := (bshl x (32 - n))) (rfl)))) ?_
  refine .cons (fun E A => OpStep.plain rfl (Step.bd (r := .int .i64 (band (bor (bshr x n) (bshl x (32 - n))) 4294967295)) 21 (A.g 20 rfl) rfl (Bin.and (k := .i64) (a := (bor (bshr x n) (bshl x (32 - n)))) (b := 4294967295) (rfl)))) ?_
  refine .cons (fun E A => A.as 21 4) ?_
  exact .nil _ _
 refine TL.nil ?_
 refine T.ret ?_
 refine ⟨[(false, [cI (band (bor (bshr x n) (bshl x (32 - n))) 4294967295)])], (.cons rfl .nil), rfl, [], (RetC.r ?_ .nil)⟩ <;> (first | rfl | (exfalso; omega))
theorem ok_impl_ShaBlock (h : List Int) (b : List Int) (h0_ : U8s b) : RO Try.prog 87 [.one (.ints .i64 h), .one (.ints .u8 b)] [(false, [.own 3 (.ints .i64 (shaBlock h b))])] := by
 refine RO.intro Try.func87 rfl 235 rfl (le_ok rfl) fun w Z => ?_
 refine T.bnd 0 0 rfl rfl fun hb_0_0 => ?_
 simp only [D.size, List.length_map] at hb_0_0
 refine T.bnd 1 0 rfl rfl fun hb_1_0 => ?_
 simp only [D.size, List.length_map] at hb_1_0
 refine T.seq ?_
 refine T.region ?_
 refine TL.as (.one (.nil)) ?_
 refine TL.nil ?_
 refine T.seq ?_
 refine T.seq ?_
 refine T.region ?_
 refine TL.mv (.one (.d (.ints .i64 h))) ?_
 refine TL.c (Step.len (e := 3) (z := 1) (d := (.ints .i64 h)) rfl rfl (lt_ok rfl) (by kernel_rfl) rfl rfl) ?_
 refine TL.b _ (Bin.neq (k := .i64) (a := (h.length : Int)) (b := 8)) ?_
 refine TL.mv (pB (decide ((h.length : Int) ≠ 8))) ?_
 rcases Bool.eq_false_or_eq_true (decide ((h.length : Int) ≠ 8)) with hb1 | hb1
 ·
  refine TL.known 28 hb1 rfl ?_
  have hb1' := hb1
  replace hb1' := of_decide_eq_true hb1'
  refine TL.gf 28 ?_
  refine TL.gf 28 ?_
  refine TL.gf 28 ?_
  refine TL.pk true (pB true) ?_
  refine TL.nil ?_
  refine T.ct ?_
  refine T.seq ?_
  refine T.region ?_
  refine TL.as (.one (.nil)) ?_
  refine TL.nil ?_
  refine T.ret ?_
  refine ⟨[(false, [.nil])], (.cons rfl .nil), rfl, [], (RetC.nn ?_ .nil)⟩ <;> (first | (rw [shaBlock_yes (h := h) (b := b) ⟨by omega, by omega, hwo_⟩, show i = 8 from by omega]; done) | (simp only [D.size]; first | (rw [shaBlock_no (fun h_ => by have := h_.1; have := h_.2.1; omega)]; rfl) | (rw [shaBlock_no (fun h_ => by have := h_.2.2; rw [words_no (i := i) (by omega) (by omega)] at this; cases this)]; rfl)))
 refine TL.known 28 hb1 rfl ?_
 have hb1' := hb1
 replace hb1' := of_decide_eq_false hb1'
 refine TL.gm 28 (pS b) ?_
 refine TL.gy 28 (Step.len (e := 5) (z := 1) (d := (.ints .u8 b)) rfl rfl (lt_ok rfl) (by kernel_rfl) rfl rfl) ?_
 refine TL.gy 28 (Step.bin rfl rfl (lt_ok rfl) rfl rfl (Bin.neq (k := .i64) (a := (b.length : Int)) (b := 64))) ?_
 refine TL.pk false (pB (decide ((b.length : Int) ≠ 64))) ?_
 refine TL.nil ?_
 refine T.ci rfl (fun h2 => ?_) (fun h2 => ?_)
 ·
  refine T.seq ?_
  refine T.region ?_
  refine TL.as (.one (.nil)) ?_
  refine TL.nil ?_
  refine T.ret ?_
  refine ⟨[(false, [.nil])], (.cons rfl .nil), rfl, [], (RetC.nn ?_ .nil)⟩ <;> (first | (rw [shaBlock_yes (h := h) (b := b) ⟨by omega, by omega, hwo_⟩, show i = 8 from by omega]; done) | (simp only [D.size]; first | (rw [shaBlock_no (fun h_ => by have := h_.1; have := h_.2.1; omega)]; rfl) | (rw [shaBlock_no (fun h_ => by have := h_.2.2; rw [words_no (i := i) (by omega) (by omega)] at this; cases this)]; rfl)))
 refine T.skip ?_
 refine T.seq ?_
 refine T.seq ?_
 refine T.region ?_
 refine TL.mv (.one (.d (.ints .i64 h))) ?_
 refine TL.c (Step.len (e := 3) (z := 1) (d := (.ints .i64 h)) rfl rfl (lt_ok rfl) (by kernel_rfl) rfl rfl) ?_
 refine TL.mv (pI 0) ?_
 refine TL.nil ?_
 refine T.block ?_
 refine T.loop (ι := Nat) (fun xx_ => { tm := [(0, (.one (.d (.ints .i64 h)))), (1, (pS b)), (33, (.one (.d (.ints .i64 h)))), (34, (pI (h.length : Int))), (35, (pI (xx_ : Int)))], rows := [], boxes := [] }) (fun xx_ => xx_ ≤ h.length ∧ wordsOk (h.take xx_) = true) (fun xx_ => h.length - xx_) 0 ?_ ?_ ?_
 · refine Env.le_mk ⟨rfl, rfl, rfl, rfl, ?_, trivial⟩ trivial trivial <;> (first | rfl | (simp; done) | (congr 3; omega))
 · (refine ⟨Nat.zero_le _, by rw [List.take_zero]; rfl⟩)
 intro i hx
 try dsimp only at hx ⊢
 obtain ⟨hx1, hx2⟩ := hx
 refine T.seq ?_
 refine T.region ?_
 refine TL.b _ (Bin.lss (k := .i64) (a := (i : Int)) (b := (h.length : Int))) ?_
 refine TL.nil ?_
 refine T.seq ?_
 refine T.ci rfl (fun h3 => ?_) (fun h3 => ?_)
 ·
  refine T.skip ?_
  refine T.seq ?_
  refine T.block ?_
  refine T.seq ?_
  refine T.region ?_
  refine TL.c (Step.index (e := 3) (z := 1) (i := (i : Int)) rfl rfl (lt_ok rfl) (by kernel_rfl) rfl rfl rfl (lt_ok rfl) rfl (by first | omega | (simp; omega) | (simp [w16_len, wN_len]; omega)) (by simp only [D.size]; first | omega | (simp; omega) | (simp [w16_len, wN_len]; omega))) ?_
  refine TL.c (Step.load (e := (.int .i64 (h.getD i 0))) rfl rfl (lt_ok rfl) (by kernel_rfl) rfl rfl) ?_
  refine TL.as (pI (h.getD i 0)) ?_
  refine TL.nil ?_
  refine T.seq ?_
  refine T.region ?_
  refine TL.mv (pI (h.getD i 0)) ?_
  refine TL.c (Step.cl (xs := [.tmp 39]) (ps := [(pI (h.getD i 0))]) (g := .func 104) false (.cons (.one (.d _)) .nil) (ok_impl_isWord (h.getD i 0))) ?_
  refine TL.c (Step.not (b := (decide (0 ≤ (h.getD i 0) ∧ (h.getD i 0) ≤ 4294967295))) rfl rfl (lt_ok rfl) rfl) ?_
  refine TL.nil ?_
  refine T.cni rfl (fun h4 => ?_) (fun h4 => ?_)
  ·
   refine T.seq ?_
   refine T.region ?_
   refine TL.as (.one (.nil)) ?_
   refine TL.nil ?_
   refine T.ret ?_
   refine ⟨[(false, [.nil])], (.cons rfl .nil), rfl, [], (RetC.nn ?_ .nil)⟩ <;> (first | (rw [shaBlock_yes (h := h) (b := b) ⟨by omega, by omega, hwo_⟩, show i = 8 from by omega]; done) | (simp only [D.size]; first | (rw [shaBlock_no (fun h_ => by have := h_.1; have := h_.2.1; omega)]; rfl) | (rw [shaBlock_no (fun h_ => by have := h_.2.2; rw [words_no (i := i) (by omega) (by omega)] at this; cases this)]; rfl)))
  refine T.skip ?_
  refine T.region ?_
  refine TL.c (Step.bin (r := .int .i64 ((i : Int) + 1)) rfl rfl (lt_ok rfl) rfl rfl (Bin.add (a := (i : Int)) (b := 1) (by first | exact wrap_ok (by first | omega | (simp; omega) | (simp [w16_len, wN_len]; omega)) (by first | omega | (simp; omega) | (simp [w16_len, wN_len]; omega)) | rfl))) ?_
  refine TL.mv (pI ((i : Int) + 1)) ?_
  refine TL.nil ?_
  refine ⟨i + 1, by (refine ⟨by omega, words_step (by omega) hx2 (by omega)⟩), by first | omega | (dsimp only; omega), Env.le_mk ⟨rfl, rfl, rfl, rfl, ?_, trivial⟩ trivial trivial⟩ <;> (first | rfl | (simp; done) | (congr 3; omega))
 refine T.exit ?_
 refine T.seq ?_
 refine T.region ?_
 refine TL.c (Step.buildArr (zs := List.replicate 64 (.int .i64 0)) (size := 1) (pss := []) (ps' := (List.replicate 64 (.d (.int .i64 0)))) rfl rfl (lt_ok rfl) (by kernel_rfl) .nil rfl (by kernel_rfl) (by kernel_rfl)) ?_
 refine TL.c (Step.cl (xs := []) (ps := []) (g := .func 105) false .nil (ok_impl_rounds )) ?_
 refine TL.c (Step.buildArr (zs := List.replicate 8 (.int .i64 0)) (size := 1) (pss := []) (ps' := [cI 0, cI 0, cI 0, cI 0, cI 0, cI 0, cI 0, cI 0]) rfl rfl (lt_ok rfl) (by kernel_rfl) .nil rfl (by kernel_rfl) (by kernel_rfl)) ?_
 refine TL.c (Step.allocArr (zs := List.replicate 64 (.int .i64 0)) (zd := List.replicate 64 (.int .i64 0)) (d := (.ints .i64 (List.replicate 64 0))) rfl rfl (lt_ok rfl) (by kernel_rfl) (zeroB_ok _ _ (by kernel_rfl)) (by kernel_rfl) rfl trivial (by decide) (by decide) (by decide) rfl (by simp)) ?_
 refine TL.c (Step.allocArr (zs := List.replicate 8 (.int .i64 0)) (zd := List.replicate 8 (.int .i64 0)) (d := (.ints .i64 (List.replicate 8 0))) rfl rfl (lt_ok rfl) (by kernel_rfl) (zeroB_ok _ _ (by kernel_rfl)) (by kernel_rfl) rfl trivial (by decide) (by decide) (by decide) rfl (by simp)) ?_
 refine TL.c (Step.store_row (n := 64) (p := (.agg (List.replicate 64 (.d (.int .i64 0))))) (ps := (List.replicate 64 (.d (.int .i64 0)))) (es := (List.replicate 64 ((.int .i64 0)))) (ss := []) (d1 := (.ints .i64 (List.replicate 64 (0)))) (d' := (.ints .i64 (List.replicate 64 (0)))) rfl rfl (by kernel_rfl) rfl rfl rfl rfl rfl rfl (.val rfl (.val rfl (.val rfl (.val rfl (.val rfl (.val rfl (.val rfl (.val rfl (.val rfl (.val rfl (.val rfl (.val rfl (.val rfl (.val rfl (.val rfl (.val rfl (.val rfl (.val rfl (.val rfl (.val rfl (.val rfl (.val rfl (.val rfl (.val rfl (.val rfl (.val rfl (.val rfl (.val rfl (.val rfl (.val rfl (.val rfl (.val rfl (.val rfl (.val rfl (.val rfl (.val rfl (.val rfl (.val rfl (.val rfl (.val rfl (.val rfl (.val rfl (.val rfl (.val rfl (.val rfl (.val rfl (.val rfl (.val rfl (.val rfl (.val rfl (.val rfl (.val rfl (.val rfl (.val rfl (.val rfl (.val rfl (.val rfl (.val rfl (.val rfl (.val rfl (.val rfl (.val rfl (.val rfl (.val rfl .nil)))))))))))))))))))))))))))))))))))))))))))))))))))))))))))))))) (by simp) (by have h_ := Putd.all (k := .i64) (xs := List.replicate 64 0) (ys := (List.replicate 64 (0))) (by first | exact hl_ | rfl); exact h_) rfl) ?_
 refine TL.as (.one (.row 1044 [])) ?_
 refine TL.c (Step.store_row (n := 8) (p := (.agg [cI 0, cI 0, cI 0, cI 0, cI 0, cI 0, cI 0, cI 0])) (ps := [cI 0, cI 0, cI 0, cI 0, cI 0, cI 0, cI 0, cI 0]) (es := [(.int .i64 0), (.int .i64 0), (.int .i64 0), (.int .i64 0), (.int .i64 0), (.int .i64 0), (.int .i64 0), (.int .i64 0)]) (ss := []) (d1 := (.ints .i64 [0, 0, 0, 0, 0, 0, 0, 0])) (d' := (.ints .i64 [0, 0, 0, 0, 0, 0, 0, 0])) rfl rfl (by kernel_rfl) rfl rfl rfl rfl rfl rfl (.val rfl (.val rfl (.val rfl (.val rfl (.val rfl (.val rfl (.val rfl (.val rfl .nil)))))))) (by simp) (by have h_ := Putd.all (k := .i64) (xs := List.replicate 8 0) (ys := [0, 0, 0, 0, 0, 0, 0, 0]) (by first | exact hvl_ | exact hvl_.symm | rfl | (simp; done)); exact h_) rfl) ?_
 refine TL.nil ?_
 refine T.wk [(0, (.one (.d (.ints .i64 h)))), (1, (pS b)), (7, (.one (.rptr 7 [] 0 0))), (9, (.one (.rptr 9 [] 0 0))), (8, (.one (.row 1044 [])))] [(1044, (3, (.ints .i64 shaK))), (7, (107, (.ints .i64 (List.replicate 64 (0))))), (9, (108, (.ints .i64 [0, 0, 0, 0, 0, 0, 0, 0])))] [] ?_
 refine T.seq ?_
 refine T.seq ?_
 refine T.region ?_
 refine TL.mv (pI 0) ?_
 refine TL.nil ?_
 refine T.block ?_
 refine T.loop (ι := Nat) (fun xx_ => { tm := [(0, (.one (.d (.ints .i64 h)))), (1, (pS b)), (7, (.one (.rptr 7 [] 0 0))), (9, (.one (.rptr 9 [] 0 0))), (8, (.one (.row 1044 []))), (46, (pI (xx_ : Int)))], rows := [(1044, (3, (.ints .i64 shaK))), (7, (107, (.ints .i64 (aI b xx_)))), (9, (108, (.ints .i64 [0, 0, 0, 0, 0, 0, 0, 0])))], boxes := [] }) (fun xx_ => xx_ ≤ 16) (fun xx_ => 16 - xx_) 0 ?_ ?_ ?_
 · refine Env.le_mk ⟨rfl, rfl, rfl, rfl, rfl, ?_, trivial⟩ ⟨rfl, ?_, rfl, trivial⟩ trivial <;> (first | exact congrArg (fun x => some (_, D.ints .i64 x)) (aI_zero b) | exact congrArg (fun x => some (_, D.ints .i64 x)) (aI_set b (by omega)) | rfl | (refine congrArg (fun x => some (_, D.ints .i64 x)) ?_; first | rfl | fail) | (refine congrArg (fun n => PV.one (.d (.int .i64 n))) ?_; first | rfl | omega | (simp; done)))
 · exact Nat.zero_le _
 intro i hx
 try dsimp only at hx ⊢
 have hwo_ : wordsOk h = true := by rw [List.take_of_length_le (by omega)] at hx2; exact hx2
 have hl_ := aI_len b hx
 have hu0_ := getD_u8 h0_ (4 * (i : Int)).toNat
 have hu1_ := getD_u8 h0_ (4 * (i : Int) + 1).toNat
 have hu2_ := getD_u8 h0_ (4 * (i : Int) + 2).toNat
 have hu3_ := getD_u8 h0_ (4 * (i : Int) + 3).toNat
 refine T.seq ?_
 refine T.region ?_
 refine TL.b _ (Bin.lss (k := .i64) (a := (i : Int)) (b := 16)) ?_
 refine TL.nil ?_
 refine T.seq ?_
 refine T.ci rfl (fun h5 => ?_) (fun h5 => ?_)
 ·
  refine T.skip ?_
  refine T.seq ?_
  refine T.block ?_
  refine T.seq ?_
  refine T.region ?_
  refine TL.mv (pI (i : Int)) ?_
  refine TL.as (pI (i : Int)) ?_
  refine TL.nil ?_
  obtain ⟨y6, hy6_⟩ : ∃ y_, y_ = bshl (b.getD (4 * (i : Int)).toNat 0) 24 := ⟨_, rfl⟩
  obtain ⟨y7, hy7_⟩ : ∃ y_, y_ = bshl (b.getD ((4 * (i : Int)) + 1).toNat 0) 16 := ⟨_, rfl⟩
  obtain ⟨y8, hy8_⟩ : ∃ y_, y_ = bshl (b.getD ((4 * (i : Int)) + 2).toNat 0) 8 := ⟨_, rfl⟩
  obtain ⟨y9, hy9_⟩ : ∃ y_, y_ = bor (bor (bor y6 y7) y8) (b.getD ((4 * (i : Int)) + 3).toNat 0) := ⟨_, rfl⟩
  refine T.draw [⟨49, (pI (i : Int)), []⟩, ⟨50, (pS b), []⟩, ⟨51, (pI (i : Int)), []⟩, ⟨52, (pI (4 * (i : Int))), []⟩, ⟨53, (.one (.eptr (.ints .u8 b) (4 * (i : Int)).toNat 0)), []⟩, ⟨54, (.one (.d (.int .u8 (b.getD (4 * (i : Int)).toNat 0)))), []⟩, ⟨55, (pI (b.getD (4 * (i : Int)).toNat 0)), []⟩, ⟨56, (pI y6), []⟩, ⟨57, (pS b), []⟩, ⟨58, (pI (i : Int)), []⟩, ⟨59, (pI (4 * (i : Int))), []⟩, ⟨60, (pI ((4 * (i : Int)) + 1)), []⟩, ⟨61, (.one (.eptr (.ints .u8 b) ((4 * (i : Int)) + 1).toNat 0)), []⟩, ⟨62, (.one (.d (.int .u8 (b.getD ((4 * (i : Int)) + 1).toNat 0)))), []⟩, ⟨63, (pI (b.getD ((4 * (i : Int)) + 1).toNat 0)), []⟩, ⟨64, (pI y7), []⟩, ⟨65, (pI (bor y6 y7)), []⟩, ⟨66, (pS b), []⟩, ⟨67, (pI (i : Int)), []⟩, ⟨68, (pI (4 * (i : Int))), []⟩, ⟨69, (pI ((4 * (i : Int)) + 2)), []⟩, ⟨70, (.one (.eptr (.ints .u8 b) ((4 * (i : Int)) + 2).toNat 0)), []⟩, ⟨71, (.one (.d (.int .u8 (b.getD ((4 * (i : Int)) + 2).toNat 0)))), []⟩, ⟨72, (pI (b.getD ((4 * (i : Int)) + 2).toNat 0)), []⟩, ⟨73, (pI y8), []⟩, ⟨74, (pI (bor (bor y6 y7) y8)), []⟩, ⟨75, (pS b), []⟩, ⟨76, (pI (i : Int)), []⟩, ⟨77, (pI (4 * (i : Int))), []⟩, ⟨78, (pI ((4 * (i : Int)) + 3)), []⟩, ⟨79, (.one (.eptr (.ints .u8 b) ((4 * (i : Int)) + 3).toNat 0)), []⟩, ⟨80, (.one (.d (.int .u8 (b.getD ((4 * (i : Int)) + 3).toNat 0)))), []⟩, ⟨81, (pI (b.getD ((4 * (i : Int)) + 3).toNat 0)), []⟩, ⟨82, (pI y9), []⟩, ⟨83, (.one (.rptr 7 [] i 0)), []⟩] (by kernel_rfl) (by kernel_rfl) ?_ ?_
  ·
   refine .cons (fun E A => A.mv 10 49) ?_
   refine .cons (fun E A => A.mv 1 50) ?_
   refine .cons (fun E A => A.mv 10 51) ?_
   refine .cons (fun E A => OpStep.plain rfl (Step.bd (r := .int .i64 (4 * (i : Int))) 52 rfl (A.g 51 rfl) (Bin.mul (a := 4) (b := (i : Int)) (by first | exact wrap_ok (by first | omega | (simp; omega) | (simp [w16_len, wN_len]; omega)) (by first | omega | (simp; omega) | (simp [w16_len, wN_len]; omega)) | rfl)))) ?_
   refine .cons (fun E A => OpStep.plain rfl (Step.index (e := 5) (z := 1) (i := (4 * (i : Int))) (t := 53) rfl rfl (by exact lt_ok rfl) (by kernel_rfl) (A.g 50 rfl) rfl rfl (lt_ok rfl) (A.g 52 rfl) (by first | omega | (simp; omega) | (simp [w16_len, wN_len]; omega)) (by simp only [D.size]; first | omega | (simp; omega) | (simp [w16_len, wN_len]; omega)))) ?_
   refine .cons (fun E A => OpStep.plain rfl (Step.load (e := (.int .u8 (b.getD (4 * (i : Int)).toNat 0))) (t := 54) rfl rfl (by exact lt_ok rfl) (by kernel_rfl) (A.g 53 rfl) rfl)) ?_
   refine .cons (fun E A => OpStep.plain rfl (Step.conv (c := (b.getD (4 * (i : Int)).toNat 0)) (t := 55) rfl rfl (by exact lt_ok rfl) (by kernel_rfl) (by kernel_rfl) (A.g 54 rfl) (wrap_ok (by first | omega | (simp; omega) | (simp [w16_len, wN_len]; omega)) (by first | omega | (simp; omega) | (simp [w16_len, wN_len]; omega))))) ?_
   refine .cons (fun E A => OpStep.plain rfl (Step.bd (r := .int .i64 y6) 56 (A.g 55 rfl) rfl (Bin.shl (k := .i64) (k' := .u64) (a := (b.getD (4 * (i : Int)).toNat 0)) (b := 24) (by first | omega | (simp; omega) | (simp [w16_len, wN_len]; omega)) (hy6_.symm)))) ?_
   refine .cons (fun E A => A.mv 1 57) ?_
   refine .cons (fun E A => A.mv 10 58) ?_
   refine .cons (fun E A => OpStep.plain rfl (Step.bd (r := .int .i64 (4 * (i : Int))) 59 rfl (A.g 58 rfl) (Bin.mul (a := 4) (b := (i : Int)) (by first | exact wrap_ok (by first | omega | (simp; omega) | (simp [w16_len, wN_len]; omega)) (by first | omega | (simp; omega) | (simp [w16_len, wN_len]; omega)) | rfl)))) ?_
   refine .cons (fun E A => OpStep.plain rfl (Step.bd (r := .int .i64 ((4 * (i : Int)) + 1)) 60 (A.g 59 rfl) rfl (Bin.add (a := (4 * (i : Int))) (b := 1) (by first | exact wrap_ok (by first | omega | (simp; omega) | (simp [w16_len, wN_len]; omega)) (by first | omega | (simp; omega) | (simp [w16_len, wN_len]; omega)) | rfl)))) ?_
   refine .cons (fun E A => OpStep.plain rfl (Step.index (e := 5) (z := 1) (i := ((4 * (i : Int)) + 1)) (t := 61) rfl rfl (by exact lt_ok rfl) (by kernel_rfl) (A.g 57 rfl) rfl rfl (lt_ok rfl) (A.g 60 rfl) (by first | omega | (simp; omega) | (simp [w16_len, wN_len]; omega)) (by simp only [D.size]; first | omega | (simp; omega) | (simp [w16_len, wN_len]; omega)))) ?_
   refine .cons (fun E A => OpStep.plain rfl (Step.load (e := (.int .u8 (b.getD ((4 * (i : Int)) + 1).toNat 0))) (t := 62) rfl rfl (by exact lt_ok rfl) (by kernel_rfl) (A.g 61 rfl) rfl)) ?_
   refine .cons (fun E A => OpStep.plain rfl (Step.conv (c := (b.getD ((4 * (i : Int)) + 1).toNat 0)) (t := 63) rfl rfl (by exact lt_ok rfl) (by kernel_rfl) (by kernel_rfl) (A.g 62 rfl) (wrap_ok (by first | omega | (simp; omega) | (simp [w16_len, wN_len]; omega)) (by first | omega | (simp; omega) | (simp [w16_len, wN_len]; omega))))) ?_
   refine .cons (fun E A => OpStep.plain rfl (Step.bd (r := .int .i64 y7) 64 (A.g 63 rfl) rfl (Bin.shl (k := .i64) (k' := .u64) (a := (b.getD ((4 * (i : Int)) + 1).toNat 0)) (b := 16) (by first | omega | (simp; omega) | (simp [w16_len, wN_len]; omega)) (hy7_.symm)))) ?_
   refine .cons (fun E A => OpStep.plain rfl (Step.bd (r := .int .i64 (bor y6 y7)) 65 (A.g 56 rfl) (A.g 64 rfl) (Bin.or (k := .i64) (a := y6) (b := y7) (rfl)))) ?_
   refine .cons (fun E A => A.mv 1 66) ?_
   refine .cons (fun E A => A.mv 10 67) ?_
   refine .cons (fun E A => OpStep.plain rfl (Step.bd (r := .int .i64 (4 * (i : Int))) 68 rfl (A.g 67 rfl) (Bin.mul (a := 4) (b := (i : Int)) (by first | exact wrap_ok (by first | omega | (simp; omega) | (simp [w16_len, wN_len]; omega)) (by first | omega | (simp; omega) | (simp [w16_len, wN_len]; omega)) | rfl)))) ?_
   refine .cons (fun E A => OpStep.plain rfl (Step.bd (r := .int .i64 ((4 * (i : Int)) + 2)) 69 (A.g 68 rfl) rfl (Bin.add (a := (4 * (i : Int))) (b := 2) (by first | exact wrap_ok (by first | omega | (simp; omega) | (simp [w16_len, wN_len]; omega)) (by first | omega | (simp; omega) | (simp [w16_len, wN_len]; omega)) | rfl)))) ?_
   refine .cons (fun E A => OpStep.plain rfl (Step.index (e := 5) (z := 1) (i := ((4 * (i : Int)) + 2)) (t := 70) rfl rfl (by exact lt_ok rfl) (by kernel_rfl) (A.g 66 rfl) rfl rfl (lt_ok rfl) (A.g 69 rfl) (by first | omega | (simp; omega) | (simp [w16_len, wN_len]; omega)) (by simp only [D.size]; first | omega | (simp; omega) | (simp [w16_len, wN_len]; omega)))) ?_
   refine .cons (fun E A => OpStep.plain rfl (Step.load (e := (.int .u8 (b.getD ((4 * (i : Int)) + 2).toNat 0))) (t := 71) rfl rfl (by exact lt_ok rfl) (by kernel_rfl) (A.g 70 rfl) rfl)) ?_
   refine .cons (fun E A => OpStep.plain rfl (Step.conv (c := (b.getD ((4 * (i : Int)) + 2).toNat 0)) (t := 72) rfl rfl (by exact lt_ok rfl) (by kernel_rfl) (by kernel_rfl) (A.g 71 rfl) (wrap_ok (by first | omega | (simp; omega) | (simp [w16_len, wN_len]; omega)) (by first | omega | (simp; omega) | (simp [w16_len, wN_len]; omega))))) ?_
   refine .cons (fun E A => OpStep.plain rfl (Step.bd (r := .int .i64 y8) 73 (A.g 72 rfl) rfl (Bin.shl (k := .i64) (k' := .u64) (a := (b.getD ((4 * (i : Int)) + 2).toNat 0)) (b := 8) (by first | omega | (simp; omega) | (simp [w16_len, wN_len]; omega)) (hy8_.symm)))) ?_
   refine .cons (fun E A => OpStep.plain rfl (Step.bd (r := .int .i64 (bor (bor y6 y7) y8)) 74 (A.g 65 rfl) (A.g 73 rfl) (Bin.or (k := .i64) (a := (bor y6 y7)) (b := y8) (rfl)))) ?_
   refine .cons (fun E A => A.mv 1 75) ?_
   refine .cons (fun E A => A.mv 10 76) ?_
   refine .cons (fun E A => OpStep.plain rfl (Step.bd (r := .int .i64 (4 * (i : Int))) 77 rfl (A.g 76 rfl) (Bin.mul (a := 4) (b := (i : Int)) (by first | exact wrap_ok (by first | omega | (simp; omega) | (simp [w16_len, wN_len]; omega)) (by first | omega | (simp; omega) | (simp [w16_len, wN_len]; omega)) | rfl)))) ?_
   refine .cons (fun E A => OpStep.plain rfl (Step.bd (r := .int .i64 ((4 * (i : Int)) + 3)) 78 (A.g 77 rfl) rfl (Bin.add (a := (4 * (i : Int))) (b := 3) (by first | exact wrap_ok (by first | omega | (simp; omega) | (simp [w16_len, wN_len]; omega)) (by first | omega | (simp; omega) | (simp [w16_len, wN_len]; omega)) | rfl)))) ?_
   refine .cons (fun E A => OpStep.plain rfl (Step.index (e := 5) (z := 1) (i := ((4 * (i : Int)) + 3)) (t := 79) rfl rfl (by exact lt_ok rfl) (by kernel_rfl) (A.g 75 rfl) rfl rfl (lt_ok rfl) (A.g 78 rfl) (by first | omega | (simp; omega) | (simp [w16_len, wN_len]; omega)) (by simp only [D.size]; first | omega | (simp; omega) | (simp [w16_len, wN_len]; omega)))) ?_
   refine .cons (fun E A => OpStep.plain rfl (Step.load (e := (.int .u8 (b.getD ((4 * (i : Int)) + 3).toNat 0))) (t := 80) rfl rfl (by exact lt_ok rfl) (by kernel_rfl) (A.g 79 rfl) rfl)) ?_
   refine .cons (fun E A => OpStep.plain rfl (Step.conv (c := (b.getD ((4 * (i : Int)) + 3).toNat 0)) (t := 81) rfl rfl (by exact lt_ok rfl) (by kernel_rfl) (by kernel_rfl) (A.g 80 rfl) (wrap_ok (by first | omega | (simp; omega) | (simp [w16_len, wN_len]; omega)) (by first | omega | (simp; omega) | (simp [w16_len, wN_len]; omega))))) ?_
   refine .cons (fun E A => OpStep.plain rfl (Step.bd (r := .int .i64 y9) 82 (A.g 74 rfl) (A.g 81 rfl) (Bin.or (k := .i64) (a := (bor (bor y6 y7) y8)) (b := (b.getD ((4 * (i : Int)) + 3).toNat 0)) (hy9_.symm)))) ?_
   refine .cons (fun E A => OpStep.plain rfl (Step.index_arr (d := (.ints .i64 (aI b i))) (e := 3) (n := 64) (z := 1) (i := (i : Int)) (t := 83) rfl rfl (by exact lt_ok rfl) (by kernel_rfl) (A.g 7 rfl) (by exact (A.row 7 (by kernel_rfl)).trans rfl) (by first | exact hl_ | rfl) rfl (lt_ok rfl) (A.g 49 rfl) (by first | omega | (simp; omega) | (simp [w16_len, wN_len]; omega)) (by first | omega | (simp; omega) | (simp [w16_len, wN_len]; omega)))) ?_
   exact .nil _ _
  refine TL.c (Step.store_row (n := 1) (p := (pI y9)) (ps := [cI y9]) (es := [(.int .i64 y9)]) (ss := []) (d1 := (.ints .i64 ((aI b i).set i y9))) (d' := (.ints .i64 ((aI b i).set i y9))) rfl rfl (by kernel_rfl) rfl rfl rfl rfl rfl rfl (.val rfl .nil) (by simp) (Putd.one rfl trivial rfl (by simp only [D.at_, D.size, List.length_set, upTo_length]; first | omega | (simp; omega) | (simp [w16_len, wN_len]; omega)) (lt_ok rfl)) rfl) ?_
  refine TL.nil ?_
  refine T.region ?_
  refine TL.c (Step.bin (r := .int .i64 ((i : Int) + 1)) rfl rfl (lt_ok rfl) rfl rfl (Bin.add (a := (i : Int)) (b := 1) (by first | exact wrap_ok (by first | omega | (simp; omega) | (simp [w16_len, wN_len]; omega)) (by first | omega | (simp; omega) | (simp [w16_len, wN_len]; omega)) | rfl))) ?_
  refine TL.mv (pI ((i : Int) + 1)) ?_
  refine TL.nil ?_
  subst hy9_ hy8_ hy7_ hy6_
  refine ⟨i + 1, by omega, by first | omega | (dsimp only; omega), Env.le_mk ⟨rfl, rfl, rfl, rfl, rfl, ?_, trivial⟩ ⟨rfl, ?_, rfl, trivial⟩ trivial⟩ <;> (first | exact congrArg (fun x => some (_, D.ints .i64 x)) (aI_zero b) | exact congrArg (fun x => some (_, D.ints .i64 x)) (aI_set b (by omega)) | rfl | (refine congrArg (fun x => some (_, D.ints .i64 x)) ?_; first | rfl | fail) | (refine congrArg (fun n => PV.one (.d (.int .i64 n))) ?_; first | rfl | omega | (simp; done)))
 refine T.exit ?_
 refine T.seq ?_
 refine T.seq ?_
 refine T.region ?_
 refine TL.as (pI 16) ?_
 refine TL.nil ?_
 refine T.block ?_
 refine T.loop (ι := Nat) (fun xx_ => { tm := [(0, (.one (.d (.ints .i64 h)))), (7, (.one (.rptr 7 [] 0 0))), (9, (.one (.rptr 9 [] 0 0))), (8, (.one (.row 1044 []))), (11, (pI (16 + (xx_ : Int))))], rows := [(1044, (3, (.ints .i64 shaK))), (7, (107, (.ints .i64 (wI b xx_)))), (9, (108, (.ints .i64 [0, 0, 0, 0, 0, 0, 0, 0])))], boxes := [] }) (fun xx_ => xx_ ≤ 48) (fun xx_ => 48 - xx_) 0 ?_ ?_ ?_
 · refine Env.le_mk ⟨rfl, rfl, rfl, rfl, ?_, trivial⟩ ⟨rfl, ?_, rfl, trivial⟩ trivial <;> (first | exact congrArg (fun x => some (_, D.ints .i64 x)) ((congrArg (aI b) (show i = 16 by omega)).trans (wI_zero b)) | exact congrArg (fun x => some (_, D.ints .i64 x)) (wI_set b (by omega)) | rfl | (refine congrArg (fun x => some (_, D.ints .i64 x)) ?_; first | rfl | fail) | (refine congrArg (fun n => PV.one (.d (.int .i64 n))) ?_; first | rfl | omega | (simp; done)))
 · exact Nat.zero_le _
 intro i hx
 try dsimp only at hx ⊢
 have hl_ := wI_len b hx
 have hW_ := wI_W h0_ i
 refine T.seq ?_
 refine T.seq ?_
 refine T.region ?_
 refine TL.mv (pI (16 + (i : Int))) ?_
 refine TL.b _ (Bin.lss (k := .i64) (a := (16 + (i : Int))) (b := 64)) ?_
 refine TL.nil ?_
 refine T.ci rfl (fun h10 => ?_) (fun h10 => ?_)
 ·
  refine T.skip ?_
  refine T.seq ?_
  refine T.block ?_
  refine T.seq ?_
  refine T.draw [⟨89, (pI (16 + (i : Int))), []⟩, ⟨90, (pI ((16 + (i : Int)) - 15)), []⟩, ⟨91, (.one (.rptr 7 [] ((16 + (i : Int)) - 15).toNat 0)), []⟩, ⟨92, (pI ((wI b i).getD ((16 + (i : Int)) - 15).toNat 0)), []⟩, ⟨93, (pI (16 + (i : Int))), []⟩, ⟨94, (pI ((16 + (i : Int)) - 2)), []⟩, ⟨95, (.one (.rptr 7 [] ((16 + (i : Int)) - 2).toNat 0)), []⟩, ⟨96, (pI ((wI b i).getD ((16 + (i : Int)) - 2).toNat 0)), []⟩, ⟨12, (pI ((wI b i).getD ((16 + (i : Int)) - 15).toNat 0)), []⟩, ⟨13, (pI ((wI b i).getD ((16 + (i : Int)) - 2).toNat 0)), []⟩] (by kernel_rfl) (by kernel_rfl) ?_ ?_
  ·
   refine .cons (fun E A => A.mv 11 89) ?_
   refine .cons (fun E A => OpStep.plain rfl (Step.bd (r := .int .i64 ((16 + (i : Int)) - 15)) 90 (A.g 89 rfl) rfl (Bin.sub (a := (16 + (i : Int))) (b := 15) (by first | exact wrap_ok (by first | omega | (simp; omega) | (simp [w16_len, wN_len]; omega)) (by first | omega | (simp; omega) | (simp [w16_len, wN_len]; omega)) | rfl)))) ?_
   refine .cons (fun E A => OpStep.plain rfl (Step.index_arr (d := (.ints .i64 (wI b i))) (e := 3) (n := 64) (z := 1) (i := ((16 + (i : Int)) - 15)) (t := 91) rfl rfl (by exact lt_ok rfl) (by kernel_rfl) (A.g 7 rfl) (by exact (A.row 7 (by kernel_rfl)).trans rfl) (by first | exact hl_ | rfl) rfl (lt_ok rfl) (A.g 90 rfl) (by first | omega | (simp; omega) | (simp [w16_len, wN_len]; omega)) (by first | omega | (simp; omega) | (simp [w16_len, wN_len]; omega)))) ?_
   refine .cons (fun E A => OpStep.plain rfl (Step.load_row (c := cI ((wI b i).getD ((16 + (i : Int)) - 15).toNat 0)) (t := 92) rfl rfl (by exact lt_ok rfl) (by kernel_rfl) (A.g 91 rfl) (by exact (A.row 7 (by kernel_rfl)).trans rfl) rfl)) ?_
   refine .cons (fun E A => A.mv 11 93) ?_
   refine .cons (fun E A => OpStep.plain rfl (Step.bd (r := .int .i64 ((16 + (i : Int)) - 2)) 94 (A.g 93 rfl) rfl (Bin.sub (a := (16 + (i : Int))) (b := 2) (by first | exact wrap_ok (by first | omega | (simp; omega) | (simp [w16_len, wN_len]; omega)) (by first | omega | (simp; omega) | (simp [w16_len, wN_len]; omega)) | rfl)))) ?_
   refine .cons (fun E A => OpStep.plain rfl (Step.index_arr (d := (.ints .i64 (wI b i))) (e := 3) (n := 64) (z := 1) (i := ((16 + (i : Int)) - 2)) (t := 95) rfl rfl (by exact lt_ok rfl) (by kernel_rfl) (A.g 7 rfl) (by exact (A.row 7 (by kernel_rfl)).trans rfl) (by first | exact hl_ | rfl) rfl (lt_ok rfl) (A.g 94 rfl) (by first | omega | (simp; omega) | (simp [w16_len, wN_len]; omega)) (by first | omega | (simp; omega) | (simp [w16_len, wN_len]; omega)))) ?_
   refine .cons (fun E A => OpStep.plain rfl (Step.load_row (c := cI ((wI b i).getD ((16 + (i : Int)) - 2).toNat 0)) (t := 96) rfl rfl (by exact lt_ok rfl) (by kernel_rfl) (A.g 95 rfl) (by exact (A.row 7 (by kernel_rfl)).trans rfl) rfl)) ?_
   refine .cons (fun E A => A.as 92 12) ?_
   refine .cons (fun E A => A.as 96 13) ?_
   exact .nil _ _
  refine TL.nil ?_
  refine T.seq ?_
  refine T.region ?_
  refine TL.mv (pI ((wI b i).getD ((16 + (i : Int)) - 15).toNat 0)) ?_
  refine TL.c (Step.cl (xs := [.tmp 97, .const (.int .i64 7)]) (ps := [(pI ((wI b i).getD ((16 + (i : Int)) - 15).toNat 0)), (pI 7)]) (g := .func 106) false (.cons (.one (.d _)) (.cons (.one (.d _)) .nil)) (ok_impl_TurnRight ((wI b i).getD ((16 + (i : Int)) - 15).toNat 0) 7 (by first | assumption | exact hW_ _ | exact hV_ _ | omega) (by first | omega | decide))) ?_
  refine TL.mv (pI ((wI b i).getD ((16 + (i : Int)) - 15).toNat 0)) ?_
  refine TL.c (Step.cl (xs := [.tmp 99, .const (.int .i64 18)]) (ps := [(pI ((wI b i).getD ((16 + (i : Int)) - 15).toNat 0)), (pI 18)]) (g := .func 106) false (.cons (.one (.d _)) (.cons (.one (.d _)) .nil)) (ok_impl_TurnRight ((wI b i).getD ((16 + (i : Int)) - 15).toNat 0) 18 (by first | assumption | exact hW_ _ | exact hV_ _ | omega) (by first | omega | decide))) ?_
  obtain ⟨y11, hy11_⟩ : ∃ y_, y_ = bxor (turnW ((wI b i).getD ((16 + (i : Int)) - 15).toNat 0) 7) (turnW ((wI b i).getD ((16 + (i : Int)) - 15).toNat 0) 18) := ⟨_, rfl⟩
  refine TL.c (Step.bin (r := .int .i64 y11) rfl rfl (lt_ok rfl) rfl rfl (Bin.xor (k := .i64) (a := (turnW ((wI b i).getD ((16 + (i : Int)) - 15).toNat 0) 7)) (b := (turnW ((wI b i).getD ((16 + (i : Int)) - 15).toNat 0) 18)) (hy11_.symm))) ?_
  refine TL.mv (pI ((wI b i).getD ((16 + (i : Int)) - 15).toNat 0)) ?_
  obtain ⟨y12, hy12_⟩ : ∃ y_, y_ = bshr ((wI b i).getD ((16 + (i : Int)) - 15).toNat 0) 3 := ⟨_, rfl⟩
  refine TL.c (Step.bin (r := .int .i64 y12) rfl rfl (lt_ok rfl) rfl rfl (Bin.shr (k := .i64) (k' := .u64) (a := ((wI b i).getD ((16 + (i : Int)) - 15).toNat 0)) (b := 3) (by first | omega | (simp; omega) | (simp [w16_len, wN_len]; omega)) (hy12_.symm))) ?_
  refine TL.c (Step.bin (r := .int .i64 (bxor y11 y12)) rfl rfl (lt_ok rfl) rfl rfl (Bin.xor (k := .i64) (a := y11) (b := y12) (rfl))) ?_
  refine TL.as (pI (bxor y11 y12)) ?_
  refine TL.nil ?_
  refine T.seq ?_
  refine T.region ?_
  refine TL.mv (pI ((wI b i).getD ((16 + (i : Int)) - 2).toNat 0)) ?_
  refine TL.c (Step.cl (xs := [.tmp 105, .const (.int .i64 17)]) (ps := [(pI ((wI b i).getD ((16 + (i : Int)) - 2).toNat 0)), (pI 17)]) (g := .func 106) false (.cons (.one (.d _)) (.cons (.one (.d _)) .nil)) (ok_impl_TurnRight ((wI b i).getD ((16 + (i : Int)) - 2).toNat 0) 17 (by first | assumption | exact hW_ _ | exact hV_ _ | omega) (by first | omega | decide))) ?_
  refine TL.mv (pI ((wI b i).getD ((16 + (i : Int)) - 2).toNat 0)) ?_
  refine TL.c (Step.cl (xs := [.tmp 107, .const (.int .i64 19)]) (ps := [(pI ((wI b i).getD ((16 + (i : Int)) - 2).toNat 0)), (pI 19)]) (g := .func 106) false (.cons (.one (.d _)) (.cons (.one (.d _)) .nil)) (ok_impl_TurnRight ((wI b i).getD ((16 + (i : Int)) - 2).toNat 0) 19 (by first | assumption | exact hW_ _ | exact hV_ _ | omega) (by first | omega | decide))) ?_
  obtain ⟨y13, hy13_⟩ : ∃ y_, y_ = bxor (turnW ((wI b i).getD ((16 + (i : Int)) - 2).toNat 0) 17) (turnW ((wI b i).getD ((16 + (i : Int)) - 2).toNat 0) 19) := ⟨_, rfl⟩
  refine TL.c (Step.bin (r := .int .i64 y13) rfl rfl (lt_ok rfl) rfl rfl (Bin.xor (k := .i64) (a := (turnW ((wI b i).getD ((16 + (i : Int)) - 2).toNat 0) 17)) (b := (turnW ((wI b i).getD ((16 + (i : Int)) - 2).toNat 0) 19)) (hy13_.symm))) ?_
  refine TL.mv (pI ((wI b i).getD ((16 + (i : Int)) - 2).toNat 0)) ?_
  obtain ⟨y14, hy14_⟩ : ∃ y_, y_ = bshr ((wI b i).getD ((16 + (i : Int)) - 2).toNat 0) 10 := ⟨_, rfl⟩
  refine TL.c (Step.bin (r := .int .i64 y14) rfl rfl (lt_ok rfl) rfl rfl (Bin.shr (k := .i64) (k' := .u64) (a := ((wI b i).getD ((16 + (i : Int)) - 2).toNat 0)) (b := 10) (by first | omega | (simp; omega) | (simp [w16_len, wN_len]; omega)) (hy14_.symm))) ?_
  refine TL.c (Step.bin (r := .int .i64 (bxor y13 y14)) rfl rfl (lt_ok rfl) rfl rfl (Bin.xor (k := .i64) (a := y13) (b := y14) (rfl))) ?_
  refine TL.as (pI (bxor y13 y14)) ?_
  refine TL.nil ?_
  obtain ⟨y15, hy15_⟩ : ∃ y_, y_ = wadd ((wI b i).getD ((16 + (i : Int)) - 16).toNat 0) (bxor y11 y12) := ⟨_, rfl⟩
  obtain ⟨y16, hy16_⟩ : ∃ y_, y_ = wadd y15 ((wI b i).getD ((16 + (i : Int)) - 7).toNat 0) := ⟨_, rfl⟩
  obtain ⟨y17, hy17_⟩ : ∃ y_, y_ = band (wadd y16 (bxor y13 y14)) 4294967295 := ⟨_, rfl⟩
  refine T.draw [⟨113, (pI (16 + (i : Int))), []⟩, ⟨114, (pI (16 + (i : Int))), []⟩, ⟨115, (pI ((16 + (i : Int)) - 16)), []⟩, ⟨116, (.one (.rptr 7 [] ((16 + (i : Int)) - 16).toNat 0)), []⟩, ⟨117, (pI ((wI b i).getD ((16 + (i : Int)) - 16).toNat 0)), []⟩, ⟨118, (pI (bxor y11 y12)), []⟩, ⟨119, (pI y15), []⟩, ⟨120, (pI (16 + (i : Int))), []⟩, ⟨121, (pI ((16 + (i : Int)) - 7)), []⟩, ⟨122, (.one (.rptr 7 [] ((16 + (i : Int)) - 7).toNat 0)), []⟩, ⟨123, (pI ((wI b i).getD ((16 + (i : Int)) - 7).toNat 0)), []⟩, ⟨124, (pI y16), []⟩, ⟨125, (pI (bxor y13 y14)), []⟩, ⟨126, (pI (wadd y16 (bxor y13 y14))), []⟩, ⟨127, (pI y17), []⟩, ⟨128, (.one (.rptr 7 [] (16 + (i : Int)).toNat 0)), []⟩] (by kernel_rfl) (by kernel_rfl) ?_ ?_
  ·
   refine .cons (fun E A => A.mv 11 113) ?_
   refine .cons (fun E A => A.mv 11 114) ?_
   refine .cons (fun E A => OpStep.plain rfl (Step.bd (r := .int .i64 ((16 + (i : Int)) - 16)) 115 (A.g 114 rfl) rfl (Bin.sub (a := (16 + (i : Int))) (b := 16) (by first | exact wrap_ok (by first | omega | (simp; omega) | (simp [w16_len, wN_len]; omega)) (by first | omega | (simp; omega) | (simp [w16_len, wN_len]; omega)) | rfl)))) ?_
   refine .cons (fun E A => OpStep.plain rfl (Step.index_arr (d := (.ints .i64 (wI b i))) (e := 3) (n := 64) (z := 1) (i := ((16 + (i : Int)) - 16)) (t := 116) rfl rfl (by exact lt_ok rfl) (by kernel_rfl) (A.g 7 rfl) (by exact (A.row 7 (by kernel_rfl)).trans rfl) (by first | exact hl_ | rfl) rfl (lt_ok rfl) (A.g 115 rfl) (by first | omega | (simp; omega) | (simp [w16_len, wN_len]; omega)) (by first | omega | (simp; omega) | (simp [w16_len, wN_len]; omega)))) ?_
   refine .cons (fun E A => OpStep.plain rfl (Step.load_row (c := cI ((wI b i).getD ((16 + (i : Int)) - 16).toNat 0)) (t := 117) rfl rfl (by exact lt_ok rfl) (by kernel_rfl) (A.g 116 rfl) (by exact (A.row 7 (by kernel_rfl)).trans rfl) rfl)) ?_
   refine .cons (fun E A => A.mv 14 118) ?_
   refine .cons (fun E A => OpStep.plain rfl (Step.bd (r := .int .i64 y15) 119 (A.g 117 rfl) (A.g 118 rfl) (Bin.add (k := .i64) (a := ((wI b i).getD ((16 + (i : Int)) - 16).toNat 0)) (b := (bxor y11 y12)) (hy15_.symm)))) ?_
   refine .cons (fun E A => A.mv 11 120) ?_
   refine .cons (fun E A => OpStep.plain rfl (Step.bd (r := .int .i64 ((16 + (i : Int)) - 7)) 121 (A.g 120 rfl) rfl (Bin.sub (a := (16 + (i : Int))) (b := 7) (by first | exact wrap_ok (by first | omega | (simp; omega) | (simp [w16_len, wN_len]; omega)) (by first | omega | (simp; omega) | (simp [w16_len, wN_len]; omega)) | rfl)))) ?_
   refine .cons (fun E A => OpStep.plain rfl (Step.index_arr (d := (.ints .i64 (wI b i))) (e := 3) (n := 64) (z := 1) (i := ((16 + (i : Int)) - 7)) (t := 122) rfl rfl (by exact lt_ok rfl) (by kernel_rfl) (A.g 7 rfl) (by exact (A.row 7 (by kernel_rfl)).trans rfl) (by first | exact hl_ | rfl) rfl (lt_ok rfl) (A.g 121 rfl) (by first | omega | (simp; omega) | (simp [w16_len, wN_len]; omega)) (by first | omega | (simp; omega) | (simp [w16_len, wN_len]; omega)))) ?_
   refine .cons (fun E A => OpStep.plain rfl (Step.load_row (c := cI ((wI b i).getD ((16 + (i : Int)) - 7).toNat 0)) (t := 123) rfl rfl (by exact lt_ok rfl) (by kernel_rfl) (A.g 122 rfl) (by exact (A.row 7 (by kernel_rfl)).trans rfl) rfl)) ?_
   refine .cons (fun E A => OpStep.plain rfl (Step.bd (r := .int .i64 y16) 124 (A.g 119 rfl) (A.g 123 rfl) (Bin.add (k := .i64) (a := y15) (b := ((wI b i).getD ((16 + (i : Int)) - 7).toNat 0)) (hy16_.symm)))) ?_
   refine .cons (fun E A => A.mv 15 125) ?_
   refine .cons (fun E A => OpStep.plain rfl (Step.bd (r := .int .i64 (wadd y16 (bxor y13 y14))) 126 (A.g 124 rfl) (A.g 125 rfl) (Bin.add (k := .i64) (a := y16) (b := (bxor y13 y14)) (rfl)))) ?_
   refine .cons (fun E A => OpStep.plain rfl (Step.bd (r := .int .i64 y17) 127 (A.g 126 rfl) rfl (Bin.and (k := .i64) (a := (wadd y16 (bxor y13 y14))) (b := 4294967295) (hy17_.symm)))) ?_
   refine .cons (fun E A => OpStep.plain rfl (Step.index_arr (d := (.ints .i64 (wI b i))) (e := 3) (n := 64) (z := 1) (i := (16 + (i : Int))) (t := 128) rfl rfl (by exact lt_ok rfl) (by kernel_rfl) (A.g 7 rfl) (by exact (A.row 7 (by kernel_rfl)).trans rfl) (by first | exact hl_ | rfl) rfl (lt_ok rfl) (A.g 113 rfl) (by first | omega | (simp; omega) | (simp [w16_len, wN_len]; omega)) (by first | omega | (simp; omega) | (simp [w16_len, wN_len]; omega)))) ?_
   exact .nil _ _
  refine TL.c (Step.store_row (n := 1) (p := (pI y17)) (ps := [cI y17]) (es := [(.int .i64 y17)]) (ss := []) (d1 := (.ints .i64 ((wI b i).set (16 + (i : Int)).toNat y17))) (d' := (.ints .i64 ((wI b i).set (16 + (i : Int)).toNat y17))) rfl rfl (by kernel_rfl) rfl rfl rfl rfl rfl rfl (.val rfl .nil) (by simp) (Putd.one rfl trivial rfl (by simp only [D.at_, D.size, List.length_set, upTo_length]; first | omega | (simp; omega) | (simp [w16_len, wN_len]; omega)) (lt_ok rfl)) rfl) ?_
  refine TL.nil ?_
  refine T.region ?_
  refine TL.mv (pI (16 + (i : Int))) ?_
  refine TL.c (Step.bin (r := .int .i64 ((16 + (i : Int)) + 1)) rfl rfl (lt_ok rfl) rfl rfl (Bin.add (a := (16 + (i : Int))) (b := 1) (by first | exact wrap_ok (by first | omega | (simp; omega) | (simp [w16_len, wN_len]; omega)) (by first | omega | (simp; omega) | (simp [w16_len, wN_len]; omega)) | rfl))) ?_
  refine TL.as (pI ((16 + (i : Int)) + 1)) ?_
  refine TL.nil ?_
  subst hy17_ hy16_ hy15_ hy14_ hy13_ hy12_ hy11_
  refine ⟨i + 1, by omega, by first | omega | (dsimp only; omega), Env.le_mk ⟨rfl, rfl, rfl, rfl, ?_, trivial⟩ ⟨rfl, ?_, rfl, trivial⟩ trivial⟩ <;> (first | exact congrArg (fun x => some (_, D.ints .i64 x)) ((congrArg (aI b) (show i = 16 by omega)).trans (wI_zero b)) | exact congrArg (fun x => some (_, D.ints .i64 x)) (wI_set b (by omega)) | rfl | (refine congrArg (fun x => some (_, D.ints .i64 x)) ?_; first | rfl | fail) | (refine congrArg (fun n => PV.one (.d (.int .i64 n))) ?_; first | rfl | omega | (simp; done)))
 refine T.exit ?_
 refine T.seq ?_
 refine T.region ?_
 refine TL.copyArr (e := 3) (n := 8) (t1 := 129) (t2 := 130) (t3 := 131) (r := 9) (xs := [0, 0, 0, 0, 0, 0, 0, 0]) (ys := h) rfl rfl rfl rfl rfl (lt_ok rfl) rfl rfl (lt_ok rfl) rfl rfl (lt_ok rfl) (by kernel_rfl) (by kernel_rfl) (by decide) rfl rfl (by first | exact hvl_ | exact hvl_.symm | rfl | (simp; done)) rfl (by first | omega | (simp; omega) | (simp [w16_len, wN_len]; omega)) (by decide) ?_
 refine TL.nil ?_
 refine T.seq ?_
 refine T.seq ?_
 refine T.region ?_
 refine TL.mv (pI 0) ?_
 refine TL.nil ?_
 refine T.block ?_
 refine T.loop (ι := Nat) (fun xx_ => { tm := [(0, (.one (.d (.ints .i64 h)))), (7, (.one (.rptr 7 [] 0 0))), (9, (.one (.rptr 9 [] 0 0))), (8, (.one (.row 1044 []))), (132, (pI (xx_ : Int)))], rows := [(1044, (3, (.ints .i64 shaK))), (7, (107, (.ints .i64 (wI b 48)))), (9, (108, (.ints .i64 (vN h (wN b 48) xx_))))], boxes := [] }) (fun xx_ => xx_ ≤ 64) (fun xx_ => 64 - xx_) 0 ?_ ?_ ?_
 · refine Env.le_mk ⟨rfl, rfl, rfl, rfl, ?_, trivial⟩ ⟨rfl, ?_, ?_, trivial⟩ trivial <;> (first | exact congrArg (fun x => some (_, D.ints .i64 (wI b x))) (show i = 48 by omega) | exact congrArg (fun x => some (_, D.ints .i64 x)) ((stepI_eq (hV_ 4)).trans (congrArg (stepV _ _) (hwq_ _))) | rfl | (refine congrArg (fun x => some (_, D.ints .i64 x)) ?_; first | rfl | fail) | (refine congrArg (fun n => PV.one (.d (.int .i64 n))) ?_; first | rfl | omega | (simp; done)))
 · exact Nat.zero_le _
 intro i hx
 try dsimp only at hx ⊢
 have hl_ := wI_len b (i := 48) (by omega)
 have hvl_ := vN_len (h := h) (w := wN b 48) (by omega) i
 have hkl_ : shaK.length = 64 := rfl
 have hV_ := vN_W (h := h) (w := wN b 48) hwo_ i
 have hwq_ : ∀ q, (wI b 48).getD q 0 = (wN b 48).getD q 0 := fun q => by rw [wI_all]
 refine T.seq ?_
 refine T.region ?_
 refine TL.b _ (Bin.lss (k := .i64) (a := (i : Int)) (b := 64)) ?_
 refine TL.nil ?_
 refine T.seq ?_
 refine T.ci rfl (fun h18 => ?_) (fun h18 => ?_)
 ·
  refine T.skip ?_
  refine T.seq ?_
  refine T.block ?_
  refine T.seq ?_
  refine T.region ?_
  refine TL.mv (pI (i : Int)) ?_
  refine TL.as (pI (i : Int)) ?_
  refine TL.nil ?_
  refine T.seq ?_
  refine T.draw [⟨135, (.one (.rptr 9 [] 4 0)), []⟩, ⟨136, (pI ((vN h (wN b 48) i).getD 4 0)), []⟩, ⟨137, (.one (.rptr 9 [] 0 0)), []⟩, ⟨138, (pI ((vN h (wN b 48) i).getD 0 0)), []⟩, ⟨17, (pI ((vN h (wN b 48) i).getD 4 0)), []⟩, ⟨18, (pI ((vN h (wN b 48) i).getD 0 0)), []⟩] (by kernel_rfl) (by kernel_rfl) ?_ ?_
  ·
   refine .cons (fun E A => OpStep.plain rfl (Step.index_arr (d := (.ints .i64 (vN h (wN b 48) i))) (e := 3) (n := 8) (z := 1) (i := 4) (t := 135) rfl rfl (by exact lt_ok rfl) (by kernel_rfl) (A.g 9 rfl) (by exact (A.row 9 (by kernel_rfl)).trans rfl) (by first | exact hvl_ | exact hvl_.symm | rfl | (simp; done)) rfl (lt_ok rfl) rfl (by first | omega | (simp; omega) | (simp [w16_len, wN_len]; omega)) (by first | omega | (simp; omega) | (simp [w16_len, wN_len]; omega)))) ?_
   refine .cons (fun E A => OpStep.plain rfl (Step.load_row (c := cI ((vN h (wN b 48) i).getD 4 0)) (t := 136) rfl rfl (by exact lt_ok rfl) (by kernel_rfl) (A.g 135 rfl) (by exact (A.row 9 (by kernel_rfl)).trans rfl) rfl)) ?_
   refine .cons (fun E A => OpStep.plain rfl (Step.index_arr (d := (.ints .i64 (vN h (wN b 48) i))) (e := 3) (n := 8) (z := 1) (i := 0) (t := 137) rfl rfl (by exact lt_ok rfl) (by kernel_rfl) (A.g 9 rfl) (by exact (A.row 9 (by kernel_rfl)).trans rfl) (by first | exact hvl_ | exact hvl_.symm | rfl | (simp; done)) rfl (lt_ok rfl) rfl (by first | omega | (simp; omega) | (simp [w16_len, wN_len]; omega)) (by first | omega | (simp; omega) | (simp [w16_len, wN_len]; omega)))) ?_
   refine .cons (fun E A => OpStep.plain rfl (Step.load_row (c := cI ((vN h (wN b 48) i).getD 0 0)) (t := 138) rfl rfl (by exact lt_ok rfl) (by kernel_rfl) (A.g 137 rfl) (by exact (A.row 9 (by kernel_rfl)).trans rfl) rfl)) ?_
   refine .cons (fun E A => A.as 136 17) ?_
   refine .cons (fun E A => A.as 138 18) ?_
   exact .nil _ _
  refine TL.nil ?_
  refine T.seq ?_
  refine T.region ?_
  refine TL.mv (pI ((vN h (wN b 48) i).getD 4 0)) ?_
  refine TL.c (Step.index_arr (d := (.ints .i64 (vN h (wN b 48) i))) (e := 3) (n := 8) (z := 1) (i := 5) rfl rfl (lt_ok rfl) (by kernel_rfl) rfl rfl (by first | exact hvl_ | exact hvl_.symm | rfl | (simp; done)) rfl (lt_ok rfl) rfl (by first | omega | (simp; omega) | (simp [w16_len, wN_len]; omega)) (by first | omega | (simp; omega) | (simp [w16_len, wN_len]; omega))) ?_
  refine TL.c (Step.load_row (c := cI ((vN h (wN b 48) i).getD 5 0)) rfl rfl (lt_ok rfl) (by kernel_rfl) rfl rfl rfl) ?_
  obtain ⟨y19, hy19_⟩ : ∃ y_, y_ = band ((vN h (wN b 48) i).getD 4 0) ((vN h (wN b 48) i).getD 5 0) := ⟨_, rfl⟩
  refine TL.c (Step.bin (r := .int .i64 y19) rfl rfl (lt_ok rfl) rfl rfl (Bin.and (k := .i64) (a := ((vN h (wN b 48) i).getD 4 0)) (b := ((vN h (wN b 48) i).getD 5 0)) (hy19_.symm))) ?_
  refine TL.mv (pI ((vN h (wN b 48) i).getD 4 0)) ?_
  obtain ⟨y20, hy20_⟩ : ∃ y_, y_ = bxor ((vN h (wN b 48) i).getD 4 0) 4294967295 := ⟨_, rfl⟩
  refine TL.c (Step.bin (r := .int .i64 y20) rfl rfl (lt_ok rfl) rfl rfl (Bin.xor (k := .i64) (a := ((vN h (wN b 48) i).getD 4 0)) (b := 4294967295) (hy20_.symm))) ?_
  refine TL.c (Step.index_arr (d := (.ints .i64 (vN h (wN b 48) i))) (e := 3) (n := 8) (z := 1) (i := 6) rfl rfl (lt_ok rfl) (by kernel_rfl) rfl rfl (by first | exact hvl_ | exact hvl_.symm | rfl | (simp; done)) rfl (lt_ok rfl) rfl (by first | omega | (simp; omega) | (simp [w16_len, wN_len]; omega)) (by first | omega | (simp; omega) | (simp [w16_len, wN_len]; omega))) ?_
  refine TL.c (Step.load_row (c := cI ((vN h (wN b 48) i).getD 6 0)) rfl rfl (lt_ok rfl) (by kernel_rfl) rfl rfl rfl) ?_
  obtain ⟨y21, hy21_⟩ : ∃ y_, y_ = band y20 ((vN h (wN b 48) i).getD 6 0) := ⟨_, rfl⟩
  refine TL.c (Step.bin (r := .int .i64 y21) rfl rfl (lt_ok rfl) rfl rfl (Bin.and (k := .i64) (a := y20) (b := ((vN h (wN b 48) i).getD 6 0)) (hy21_.symm))) ?_
  refine TL.c (Step.bin (r := .int .i64 (bor y19 y21)) rfl rfl (lt_ok rfl) rfl rfl (Bin.or (k := .i64) (a := y19) (b := y21) (rfl))) ?_
  refine TL.as (pI (bor y19 y21)) ?_
  refine TL.nil ?_
  refine T.seq ?_
  refine T.region ?_
  refine TL.mv (pI ((vN h (wN b 48) i).getD 0 0)) ?_
  refine TL.c (Step.index_arr (d := (.ints .i64 (vN h (wN b 48) i))) (e := 3) (n := 8) (z := 1) (i := 1) rfl rfl (lt_ok rfl) (by kernel_rfl) rfl rfl (by first | exact hvl_ | exact hvl_.symm | rfl | (simp; done)) rfl (lt_ok rfl) rfl (by first | omega | (simp; omega) | (simp [w16_len, wN_len]; omega)) (by first | omega | (simp; omega) | (simp [w16_len, wN_len]; omega))) ?_
  refine TL.c (Step.load_row (c := cI ((vN h (wN b 48) i).getD 1 0)) rfl rfl (lt_ok rfl) (by kernel_rfl) rfl rfl rfl) ?_
  obtain ⟨y22, hy22_⟩ : ∃ y_, y_ = band ((vN h (wN b 48) i).getD 0 0) ((vN h (wN b 48) i).getD 1 0) := ⟨_, rfl⟩
  refine TL.c (Step.bin (r := .int .i64 y22) rfl rfl (lt_ok rfl) rfl rfl (Bin.and (k := .i64) (a := ((vN h (wN b 48) i).getD 0 0)) (b := ((vN h (wN b 48) i).getD 1 0)) (hy22_.symm))) ?_
  refine TL.mv (pI ((vN h (wN b 48) i).getD 0 0)) ?_
  refine TL.c (Step.index_arr (d := (.ints .i64 (vN h (wN b 48) i))) (e := 3) (n := 8) (z := 1) (i := 2) rfl rfl (lt_ok rfl) (by kernel_rfl) rfl rfl (by first | exact hvl_ | exact hvl_.symm | rfl | (simp; done)) rfl (lt_ok rfl) rfl (by first | omega | (simp; omega) | (simp [w16_len, wN_len]; omega)) (by first | omega | (simp; omega) | (simp [w16_len, wN_len]; omega))) ?_
  refine TL.c (Step.load_row (c := cI ((vN h (wN b 48) i).getD 2 0)) rfl rfl (lt_ok rfl) (by kernel_rfl) rfl rfl rfl) ?_
  obtain ⟨y23, hy23_⟩ : ∃ y_, y_ = band ((vN h (wN b 48) i).getD 0 0) ((vN h (wN b 48) i).getD 2 0) := ⟨_, rfl⟩
  refine TL.c (Step.bin (r := .int .i64 y23) rfl rfl (lt_ok rfl) rfl rfl (Bin.and (k := .i64) (a := ((vN h (wN b 48) i).getD 0 0)) (b := ((vN h (wN b 48) i).getD 2 0)) (hy23_.symm))) ?_
  refine TL.c (Step.bin (r := .int .i64 (bor y22 y23)) rfl rfl (lt_ok rfl) rfl rfl (Bin.or (k := .i64) (a := y22) (b := y23) (rfl))) ?_
  refine TL.c (Step.index_arr (d := (.ints .i64 (vN h (wN b 48) i))) (e := 3) (n := 8) (z := 1) (i := 1) rfl rfl (lt_ok rfl) (by kernel_rfl) rfl rfl (by first | exact hvl_ | exact hvl_.symm | rfl | (simp; done)) rfl (lt_ok rfl) rfl (by first | omega | (simp; omega) | (simp [w16_len, wN_len]; omega)) (by first | omega | (simp; omega) | (simp [w16_len, wN_len]; omega))) ?_
  refine TL.c (Step.load_row (c := cI ((vN h (wN b 48) i).getD 1 0)) rfl rfl (lt_ok rfl) (by kernel_rfl) rfl rfl rfl) ?_
  refine TL.c (Step.index_arr (d := (.ints .i64 (vN h (wN b 48) i))) (e := 3) (n := 8) (z := 1) (i := 2) rfl rfl (lt_ok rfl) (by kernel_rfl) rfl rfl (by first | exact hvl_ | exact hvl_.symm | rfl | (simp; done)) rfl (lt_ok rfl) rfl (by first | omega | (simp; omega) | (simp [w16_len, wN_len]; omega)) (by first | omega | (simp; omega) | (simp [w16_len, wN_len]; omega))) ?_
  refine TL.c (Step.load_row (c := cI ((vN h (wN b 48) i).getD 2 0)) rfl rfl (lt_ok rfl) (by kernel_rfl) rfl rfl rfl) ?_
  obtain ⟨y24, hy24_⟩ : ∃ y_, y_ = band ((vN h (wN b 48) i).getD 1 0) ((vN h (wN b 48) i).getD 2 0) := ⟨_, rfl⟩
  refine TL.c (Step.bin (r := .int .i64 y24) rfl rfl (lt_ok rfl) rfl rfl (Bin.and (k := .i64) (a := ((vN h (wN b 48) i).getD 1 0)) (b := ((vN h (wN b 48) i).getD 2 0)) (hy24_.symm))) ?_
  refine TL.c (Step.bin (r := .int .i64 (bor (bor y22 y23) y24)) rfl rfl (lt_ok rfl) rfl rfl (Bin.or (k := .i64) (a := (bor y22 y23)) (b := y24) (rfl))) ?_
  refine TL.as (pI (bor (bor y22 y23) y24)) ?_
  refine TL.nil ?_
  refine T.seq ?_
  obtain ⟨y25, hy25_⟩ : ∃ y_, y_ = bxor (turnW ((vN h (wN b 48) i).getD 4 0) 6) (turnW ((vN h (wN b 48) i).getD 4 0) 11) := ⟨_, rfl⟩
  obtain ⟨y26, hy26_⟩ : ∃ y_, y_ = bxor y25 (turnW ((vN h (wN b 48) i).getD 4 0) 25) := ⟨_, rfl⟩
  obtain ⟨y27, hy27_⟩ : ∃ y_, y_ = wadd ((vN h (wN b 48) i).getD 7 0) y26 := ⟨_, rfl⟩
  obtain ⟨y28, hy28_⟩ : ∃ y_, y_ = wadd (wadd y27 (bor y19 y21)) (shaK.getD i 0) := ⟨_, rfl⟩
  obtain ⟨y29, hy29_⟩ : ∃ y_, y_ = wadd y28 ((wI b 48).getD i 0) := ⟨_, rfl⟩
  refine T.draw [⟨164, (.one (.rptr 9 [] 7 0)), []⟩, ⟨165, (pI ((vN h (wN b 48) i).getD 7 0)), []⟩, ⟨166, (pI ((vN h (wN b 48) i).getD 4 0)), []⟩, ⟨167, (pI (turnW ((vN h (wN b 48) i).getD 4 0) 6)), []⟩, ⟨168, (pI ((vN h (wN b 48) i).getD 4 0)), []⟩, ⟨169, (pI (turnW ((vN h (wN b 48) i).getD 4 0) 11)), []⟩, ⟨170, (pI y25), []⟩, ⟨171, (pI ((vN h (wN b 48) i).getD 4 0)), []⟩, ⟨172, (pI (turnW ((vN h (wN b 48) i).getD 4 0) 25)), []⟩, ⟨173, (pI y26), []⟩, ⟨174, (pI y27), []⟩, ⟨175, (pI (bor y19 y21)), []⟩, ⟨176, (pI (wadd y27 (bor y19 y21))), []⟩, ⟨177, (.one (.row 1044 [])), []⟩, ⟨178, (pI (i : Int)), []⟩, ⟨179, (.one (.rptr 1044 [] i 0)), []⟩, ⟨180, (pI (shaK.getD i 0)), []⟩, ⟨181, (pI y28), []⟩, ⟨182, (pI (i : Int)), []⟩, ⟨183, (.one (.rptr 7 [] i 0)), []⟩, ⟨184, (pI ((wI b 48).getD i 0)), []⟩, ⟨185, (pI y29), []⟩, ⟨21, (pI y29), []⟩] (by kernel_rfl) (by kernel_rfl) ?_ ?_
  ·
   refine .cons (fun E A => OpStep.plain rfl (Step.index_arr (d := (.ints .i64 (vN h (wN b 48) i))) (e := 3) (n := 8) (z := 1) (i := 7) (t := 164) rfl rfl (by exact lt_ok rfl) (by kernel_rfl) (A.g 9 rfl) (by exact (A.row 9 (by kernel_rfl)).trans rfl) (by first | exact hvl_ | exact hvl_.symm | rfl | (simp; done)) rfl (lt_ok rfl) rfl (by first | omega | (simp; omega) | (simp [w16_len, wN_len]; omega)) (by first | omega | (simp; omega) | (simp [w16_len, wN_len]; omega)))) ?_
   refine .cons (fun E A => OpStep.plain rfl (Step.load_row (c := cI ((vN h (wN b 48) i).getD 7 0)) (t := 165) rfl rfl (by exact lt_ok rfl) (by kernel_rfl) (A.g 164 rfl) (by exact (A.row 9 (by kernel_rfl)).trans rfl) rfl)) ?_
   refine .cons (fun E A => A.mv 17 166) ?_
   refine .cons (fun E A => OpStep.plain rfl (Step.cd (xs := [.tmp 166, .const (.int .i64 6)]) (ps := [(pI ((vN h (wN b 48) i).getD 4 0)), (pI 6)]) (g := .func 106) false 167 (evs_cons (A.g 166 rfl) (evs_cons rfl (rfl))) (.cons (.one (.d _)) (.cons (.one (.d _)) .nil)) (ok_impl_TurnRight ((vN h (wN b 48) i).getD 4 0) 6 (by first | assumption | exact hW_ _ | exact hV_ _ | omega) (by first | omega | decide)) (At.freshRows A rfl))) ?_
   refine .cons (fun E A => A.mv 17 168) ?_
   refine .cons (fun E A => OpStep.plain rfl (Step.cd (xs := [.tmp 168, .const (.int .i64 11)]) (ps := [(pI ((vN h (wN b 48) i).getD 4 0)), (pI 11)]) (g := .func 106) false 169 (evs_cons (A.g 168 rfl) (evs_cons rfl (rfl))) (.cons (.one (.d _)) (.cons (.one (.d _)) .nil)) (ok_impl_TurnRight ((vN h (wN b 48) i).getD 4 0) 11 (by first | assumption | exact hW_ _ | exact hV_ _ | omega) (by first | omega | decide)) (At.freshRows A rfl))) ?_
   refine .cons (fun E A => OpStep.plain rfl (Step.bd (r := .int .i64 y25) 170 (A.g 167 rfl) (A.g 169 rfl) (Bin.xor (k := .i64) (a := (turnW ((vN h (wN b 48) i).getD 4 0) 6)) (b := (turnW ((vN h (wN b 48) i).getD 4 0) 11)) (hy25_.symm)))) ?_
   refine .cons (fun E A => A.mv 17 171) ?_
   refine .cons (fun E A => OpStep.plain rfl (Step.cd (xs := [.tmp 171, .const (.int .i64 25)]) (ps := [(pI ((vN h (wN b 48) i).getD 4 0)), (pI 25)]) (g := .func 106) false 172 (evs_cons (A.g 171 rfl) (evs_cons rfl (rfl))) (.cons (.one (.d _)) (.cons (.one (.d _)) .nil)) (ok_impl_TurnRight ((vN h (wN b 48) i).getD 4 0) 25 (by first | assumption | exact hW_ _ | exact hV_ _ | omega) (by first | omega | decide)) (At.freshRows A rfl))) ?_
   refine .cons (fun E A => OpStep.plain rfl (Step.bd (r := .int .i64 y26) 173 (A.g 170 rfl) (A.g 172 rfl) (Bin.xor (k := .i64) (a := y25) (b := (turnW ((vN h (wN b 48) i).getD 4 0) 25)) (hy26_.symm)))) ?_
   refine .cons (fun E A => OpStep.plain rfl (Step.bd (r := .int .i64 y27) 174 (A.g 165 rfl) (A.g 173 rfl) (Bin.add (k := .i64) (a := ((vN h (wN b 48) i).getD 7 0)) (b := y26) (hy27_.symm)))) ?_
   refine .cons (fun E A => A.mv 19 175) ?_
   refine .cons (fun E A => OpStep.plain rfl (Step.bd (r := .int .i64 (wadd y27 (bor y19 y21))) 176 (A.g 174 rfl) (A.g 175 rfl) (Bin.add (k := .i64) (a := y27) (b := (bor y19 y21)) (rfl)))) ?_
   refine .cons (fun E A => A.mv 8 177) ?_
   refine .cons (fun E A => A.mv 16 178) ?_
   refine .cons (fun E A => OpStep.plain rfl (Step.index_row (e := 3) (z := 1) (i := (i : Int)) (t := 179) rfl rfl (by exact lt_ok rfl) (by kernel_rfl) (A.g 177 rfl) (by exact (A.row 1044 (by kernel_rfl)).trans rfl) rfl rfl (lt_ok rfl) (A.g 178 rfl) (by first | omega | (simp; omega) | (simp [w16_len, wN_len]; omega)) (by simp only [D.at_, D.cell, D.size]; first | omega | (simp; omega) | (simp [w16_len, wN_len]; omega)))) ?_
   refine .cons (fun E A => OpStep.plain rfl (Step.load_row (c := cI (shaK.getD i 0)) (t := 180) rfl rfl (by exact lt_ok rfl) (by kernel_rfl) (A.g 179 rfl) (by exact (A.row 1044 (by kernel_rfl)).trans rfl) rfl)) ?_
   refine .cons (fun E A => OpStep.plain rfl (Step.bd (r := .int .i64 y28) 181 (A.g 176 rfl) (A.g 180 rfl) (Bin.add (k := .i64) (a := (wadd y27 (bor y19 y21))) (b := (shaK.getD i 0)) (hy28_.symm)))) ?_
   refine .cons (fun E A => A.mv 16 182) ?_
   refine .cons (fun E A => OpStep.plain rfl (Step.index_arr (d := (.ints .i64 (wI b 48))) (e := 3) (n := 64) (z := 1) (i := (i : Int)) (t := 183) rfl rfl (by exact lt_ok rfl) (by kernel_rfl) (A.g 7 rfl) (by exact (A.row 7 (by kernel_rfl)).trans rfl) (by first | exact hl_ | rfl) rfl (lt_ok rfl) (A.g 182 rfl) (by first | omega | (simp; omega) | (simp [w16_len, wN_len]; omega)) (by first | omega | (simp; omega) | (simp [w16_len, wN_len]; omega)))) ?_
   refine .cons (fun E A => OpStep.plain rfl (Step.load_row (c := cI ((wI b 48).getD i 0)) (t := 184) rfl rfl (by exact lt_ok rfl) (by kernel_rfl) (A.g 183 rfl) (by exact (A.row 7 (by kernel_rfl)).trans rfl) rfl)) ?_
   refine .cons (fun E A => OpStep.plain rfl (Step.bd (r := .int .i64 y29) 185 (A.g 181 rfl) (A.g 184 rfl) (Bin.add (k := .i64) (a := y28) (b := ((wI b 48).getD i 0)) (hy29_.symm)))) ?_
   refine .cons (fun E A => A.as 185 21) ?_
   exact .nil _ _
  refine TL.nil ?_
  refine T.seq ?_
  refine T.region ?_
  refine TL.mv (pI ((vN h (wN b 48) i).getD 0 0)) ?_
  refine TL.c (Step.cl (xs := [.tmp 186, .const (.int .i64 2)]) (ps := [(pI ((vN h (wN b 48) i).getD 0 0)), (pI 2)]) (g := .func 106) false (.cons (.one (.d _)) (.cons (.one (.d _)) .nil)) (ok_impl_TurnRight ((vN h (wN b 48) i).getD 0 0) 2 (by first | assumption | exact hW_ _ | exact hV_ _ | omega) (by first | omega | decide))) ?_
  refine TL.mv (pI ((vN h (wN b 48) i).getD 0 0)) ?_
  refine TL.c (Step.cl (xs := [.tmp 188, .const (.int .i64 13)]) (ps := [(pI ((vN h (wN b 48) i).getD 0 0)), (pI 13)]) (g := .func 106) false (.cons (.one (.d _)) (.cons (.one (.d _)) .nil)) (ok_impl_TurnRight ((vN h (wN b 48) i).getD 0 0) 13 (by first | assumption | exact hW_ _ | exact hV_ _ | omega) (by first | omega | decide))) ?_
  obtain ⟨y30, hy30_⟩ : ∃ y_, y_ = bxor (turnW ((vN h (wN b 48) i).getD 0 0) 2) (turnW ((vN h (wN b 48) i).getD 0 0) 13) := ⟨_, rfl⟩
  refine TL.c (Step.bin (r := .int .i64 y30) rfl rfl (lt_ok rfl) rfl rfl (Bin.xor (k := .i64) (a := (turnW ((vN h (wN b 48) i).getD 0 0) 2)) (b := (turnW ((vN h (wN b 48) i).getD 0 0) 13)) (hy30_.symm))) ?_
  refine TL.mv (pI ((vN h (wN b 48) i).getD 0 0)) ?_
  refine TL.c (Step.cl (xs := [.tmp 191, .const (.int .i64 22)]) (ps := [(pI ((vN h (wN b 48) i).getD 0 0)), (pI 22)]) (g := .func 106) false (.cons (.one (.d _)) (.cons (.one (.d _)) .nil)) (ok_impl_TurnRight ((vN h (wN b 48) i).getD 0 0) 22 (by first | assumption | exact hW_ _ | exact hV_ _ | omega) (by first | omega | decide))) ?_
  obtain ⟨y31, hy31_⟩ : ∃ y_, y_ = bxor y30 (turnW ((vN h (wN b 48) i).getD 0 0) 22) := ⟨_, rfl⟩
  refine TL.c (Step.bin (r := .int .i64 y31) rfl rfl (lt_ok rfl) rfl rfl (Bin.xor (k := .i64) (a := y30) (b := (turnW ((vN h (wN b 48) i).getD 0 0) 22)) (hy31_.symm))) ?_
  refine TL.mv (pI (bor (bor y22 y23) y24)) ?_
  obtain ⟨y32, hy32_⟩ : ∃ y_, y_ = wadd y31 (bor (bor y22 y23) y24) := ⟨_, rfl⟩
  refine TL.c (Step.bin (r := .int .i64 y32) rfl rfl (lt_ok rfl) rfl rfl (Bin.add (k := .i64) (a := y31) (b := (bor (bor y22 y23) y24)) (hy32_.symm))) ?_
  refine TL.as (pI y32) ?_
  refine TL.nil ?_
  refine T.wk [(0, (.one (.d (.ints .i64 h)))), (7, (.one (.rptr 7 [] 0 0))), (9, (.one (.rptr 9 [] 0 0))), (8, (.one (.row 1044 []))), (132, (pI (i : Int))), (17, (pI ((vN h (wN b 48) i).getD 4 0))), (18, (pI ((vN h (wN b 48) i).getD 0 0))), (21, (pI y29)), (22, (pI y32))] [(1044, (3, (.ints .i64 shaK))), (7, (107, (.ints .i64 (wI b 48)))), (9, (108, (.ints .i64 (vN h (wN b 48) i))))] [] ?_
  refine T.region ?_
  refine TL.mv (pI y29) ?_
  refine TL.mv (pI y32) ?_
  refine TL.c (Step.bin (r := .int .i64 (wadd y29 y32)) rfl rfl (lt_ok rfl) rfl rfl (Bin.add (k := .i64) (a := y29) (b := y32) (rfl))) ?_
  obtain ⟨y33, hy33_⟩ : ∃ y_, y_ = band (wadd y29 y32) 4294967295 := ⟨_, rfl⟩
  refine TL.c (Step.bin (r := .int .i64 y33) rfl rfl (lt_ok rfl) rfl rfl (Bin.and (k := .i64) (a := (wadd y29 y32)) (b := 4294967295) (hy33_.symm))) ?_
  refine TL.mv (pI ((vN h (wN b 48) i).getD 0 0)) ?_
  refine TL.c (Step.index_arr (d := (.ints .i64 (vN h (wN b 48) i))) (e := 3) (n := 8) (z := 1) (i := 1) rfl rfl (lt_ok rfl) (by kernel_rfl) rfl rfl (by first | exact hvl_ | exact hvl_.symm | rfl | (simp; done)) rfl (lt_ok rfl) rfl (by first | omega | (simp; omega) | (simp [w16_len, wN_len]; omega)) (by first | omega | (simp; omega) | (simp [w16_len, wN_len]; omega))) ?_
  refine TL.c (Step.load_row (c := cI ((vN h (wN b 48) i).getD 1 0)) rfl rfl (lt_ok rfl) (by kernel_rfl) rfl rfl rfl) ?_
  refine TL.c (Step.index_arr (d := (.ints .i64 (vN h (wN b 48) i))) (e := 3) (n := 8) (z := 1) (i := 2) rfl rfl (lt_ok rfl) (by kernel_rfl) rfl rfl (by first | exact hvl_ | exact hvl_.symm | rfl | (simp; done)) rfl (lt_ok rfl) rfl (by first | omega | (simp; omega) | (simp [w16_len, wN_len]; omega)) (by first | omega | (simp; omega) | (simp [w16_len, wN_len]; omega))) ?_
  refine TL.c (Step.load_row (c := cI ((vN h (wN b 48) i).getD 2 0)) rfl rfl (lt_ok rfl) (by kernel_rfl) rfl rfl rfl) ?_
  refine TL.c (Step.index_arr (d := (.ints .i64 (vN h (wN b 48) i))) (e := 3) (n := 8) (z := 1) (i := 3) rfl rfl (lt_ok rfl) (by kernel_rfl) rfl rfl (by first | exact hvl_ | exact hvl_.symm | rfl | (simp; done)) rfl (lt_ok rfl) rfl (by first | omega | (simp; omega) | (simp [w16_len, wN_len]; omega)) (by first | omega | (simp; omega) | (simp [w16_len, wN_len]; omega))) ?_
  refine TL.c (Step.load_row (c := cI ((vN h (wN b 48) i).getD 3 0)) rfl rfl (lt_ok rfl) (by kernel_rfl) rfl rfl rfl) ?_
  refine TL.mv (pI y29) ?_
  obtain ⟨y34, hy34_⟩ : ∃ y_, y_ = wadd ((vN h (wN b 48) i).getD 3 0) y29 := ⟨_, rfl⟩
  refine TL.c (Step.bin (r := .int .i64 y34) rfl rfl (lt_ok rfl) rfl rfl (Bin.add (k := .i64) (a := ((vN h (wN b 48) i).getD 3 0)) (b := y29) (hy34_.symm))) ?_
  refine TL.c (Step.bin (r := .int .i64 (band y34 4294967295)) rfl rfl (lt_ok rfl) rfl rfl (Bin.and (k := .i64) (a := y34) (b := 4294967295) (rfl))) ?_
  refine TL.mv (pI ((vN h (wN b 48) i).getD 4 0)) ?_
  refine TL.c (Step.index_arr (d := (.ints .i64 (vN h (wN b 48) i))) (e := 3) (n := 8) (z := 1) (i := 5) rfl rfl (lt_ok rfl) (by kernel_rfl) rfl rfl (by first | exact hvl_ | exact hvl_.symm | rfl | (simp; done)) rfl (lt_ok rfl) rfl (by first | omega | (simp; omega) | (simp [w16_len, wN_len]; omega)) (by first | omega | (simp; omega) | (simp [w16_len, wN_len]; omega))) ?_
  refine TL.c (Step.load_row (c := cI ((vN h (wN b 48) i).getD 5 0)) rfl rfl (lt_ok rfl) (by kernel_rfl) rfl rfl rfl) ?_
  refine TL.c (Step.index_arr (d := (.ints .i64 (vN h (wN b 48) i))) (e := 3) (n := 8) (z := 1) (i := 6) rfl rfl (lt_ok rfl) (by kernel_rfl) rfl rfl (by first | exact hvl_ | exact hvl_.symm | rfl | (simp; done)) rfl (lt_ok rfl) rfl (by first | omega | (simp; omega) | (simp [w16_len, wN_len]; omega)) (by first | omega | (simp; omega) | (simp [w16_len, wN_len]; omega))) ?_
  refine TL.c (Step.load_row (c := cI ((vN h (wN b 48) i).getD 6 0)) rfl rfl (lt_ok rfl) (by kernel_rfl) rfl rfl rfl) ?_
  refine TL.c (Step.buildArr (zs := List.replicate 8 (.int .i64 0)) (size := 1) (pss := [(0, [cI y33]), (1, [cI ((vN h (wN b 48) i).getD 0 0)]), (2, [cI ((vN h (wN b 48) i).getD 1 0)]), (3, [cI ((vN h (wN b 48) i).getD 2 0)]), (4, [cI (band y34 4294967295)]), (5, [cI ((vN h (wN b 48) i).getD 4 0)]), (6, [cI ((vN h (wN b 48) i).getD 5 0)]), (7, [cI ((vN h (wN b 48) i).getD 6 0)])]) (ps' := [cI y33, cI ((vN h (wN b 48) i).getD 0 0), cI ((vN h (wN b 48) i).getD 1 0), cI ((vN h (wN b 48) i).getD 2 0), cI (band y34 4294967295), cI ((vN h (wN b 48) i).getD 4 0), cI ((vN h (wN b 48) i).getD 5 0), cI ((vN h (wN b 48) i).getD 6 0)]) rfl rfl (lt_ok rfl) (by kernel_rfl) (.cons ⟨rfl, rfl⟩ (.cons ⟨rfl, rfl⟩ (.cons ⟨rfl, rfl⟩ (.cons ⟨rfl, rfl⟩ (.cons ⟨rfl, rfl⟩ (.cons ⟨rfl, rfl⟩ (.cons ⟨rfl, rfl⟩ (.cons ⟨rfl, rfl⟩ .nil)))))))) rfl (by kernel_rfl) (by kernel_rfl)) ?_
  refine TL.c (Step.store_row (n := 8) (p := (.agg [cI y33, cI ((vN h (wN b 48) i).getD 0 0), cI ((vN h (wN b 48) i).getD 1 0), cI ((vN h (wN b 48) i).getD 2 0), cI (band y34 4294967295), cI ((vN h (wN b 48) i).getD 4 0), cI ((vN h (wN b 48) i).getD 5 0), cI ((vN h (wN b 48) i).getD 6 0)])) (ps := [cI y33, cI ((vN h (wN b 48) i).getD 0 0), cI ((vN h (wN b 48) i).getD 1 0), cI ((vN h (wN b 48) i).getD 2 0), cI (band y34 4294967295), cI ((vN h (wN b 48) i).getD 4 0), cI ((vN h (wN b 48) i).getD 5 0), cI ((vN h (wN b 48) i).getD 6 0)]) (es := [(.int .i64 y33), (.int .i64 ((vN h (wN b 48) i).getD 0 0)), (.int .i64 ((vN h (wN b 48) i).getD 1 0)), (.int .i64 ((vN h (wN b 48) i).getD 2 0)), (.int .i64 (band y34 4294967295)), (.int .i64 ((vN h (wN b 48) i).getD 4 0)), (.int .i64 ((vN h (wN b 48) i).getD 5 0)), (.int .i64 ((vN h (wN b 48) i).getD 6 0))]) (ss := []) (d1 := (.ints .i64 [y33, (vN h (wN b 48) i).getD 0 0, (vN h (wN b 48) i).getD 1 0, (vN h (wN b 48) i).getD 2 0, band y34 4294967295, (vN h (wN b 48) i).getD 4 0, (vN h (wN b 48) i).getD 5 0, (vN h (wN b 48) i).getD 6 0])) (d' := (.ints .i64 [y33, (vN h (wN b 48) i).getD 0 0, (vN h (wN b 48) i).getD 1 0, (vN h (wN b 48) i).getD 2 0, band y34 4294967295, (vN h (wN b 48) i).getD 4 0, (vN h (wN b 48) i).getD 5 0, (vN h (wN b 48) i).getD 6 0])) rfl rfl (by kernel_rfl) rfl rfl rfl rfl rfl rfl (.val rfl (.val rfl (.val rfl (.val rfl (.val rfl (.val rfl (.val rfl (.val rfl .nil)))))))) (by simp) (by have h_ := Putd.all (k := .i64) (xs := vN h (wN b 48) i) (ys := [y33, (vN h (wN b 48) i).getD 0 0, (vN h (wN b 48) i).getD 1 0, (vN h (wN b 48) i).getD 2 0, band y34 4294967295, (vN h (wN b 48) i).getD 4 0, (vN h (wN b 48) i).getD 5 0, (vN h (wN b 48) i).getD 6 0]) (by first | exact hvl_ | exact hvl_.symm | rfl | (simp; done)); exact h_) rfl) ?_
  refine TL.nil ?_
  refine T.region ?_
  refine TL.c (Step.bin (r := .int .i64 ((i : Int) + 1)) rfl rfl (lt_ok rfl) rfl rfl (Bin.add (a := (i : Int)) (b := 1) (by first | exact wrap_ok (by first | omega | (simp; omega) | (simp [w16_len, wN_len]; omega)) (by first | omega | (simp; omega) | (simp [w16_len, wN_len]; omega)) | rfl))) ?_
  refine TL.mv (pI ((i : Int) + 1)) ?_
  refine TL.nil ?_
  subst hy34_ hy33_ hy32_ hy31_ hy30_ hy29_ hy28_ hy27_ hy26_ hy25_ hy24_ hy23_ hy22_ hy21_ hy20_ hy19_
  refine ⟨i + 1, by omega, by first | omega | (dsimp only; omega), Env.le_mk ⟨rfl, rfl, rfl, rfl, ?_, trivial⟩ ⟨rfl, rfl, ?_, trivial⟩ trivial⟩ <;> (first | exact congrArg (fun x => some (_, D.ints .i64 (wI b x))) (show i = 48 by omega) | exact congrArg (fun x => some (_, D.ints .i64 x)) ((stepI_eq (hV_ 4)).trans (congrArg (stepV _ _) (hwq_ _))) | rfl | (refine congrArg (fun x => some (_, D.ints .i64 x)) ?_; first | rfl | fail) | (refine congrArg (fun n => PV.one (.d (.int .i64 n))) ?_; first | rfl | omega | (simp; done)))
 refine T.exit ?_
 refine T.seq ?_
 refine T.region ?_
 refine TL.c (Step.lit (e := 3) (z := 1) (by_ := 8) (xs := []) (pss := []) (es := []) (ss := []) (d := (.ints .i64 [])) rfl rfl (lt_ok rfl) (by kernel_rfl) rfl rfl .nil (by simp) (le_ok rfl) (le_ok rfl) rfl .nil rfl (by simp) (by simp) rfl trivial rfl rfl) ?_
 refine TL.as (.one (.row 217 [])) ?_
 refine TL.nil ?_
 refine T.seq ?_
 refine T.seq ?_
 refine T.region ?_
 refine TL.mv (pI 0) ?_
 refine TL.nil ?_
 refine T.block ?_
 refine T.loop (ι := Nat) (fun xx_ => { tm := [(0, (.one (.d (.ints .i64 h)))), (9, (.one (.rptr 9 [] 0 0))), (218, (pI (xx_ : Int))), (23, (.one (.row 217 [])))], rows := [(1044, (3, (.ints .i64 shaK))), (9, (108, (.ints .i64 (vN h (wN b 48) 64)))), (217, (3, (.ints .i64 (outs h (vN h (wN b 48) 64) xx_))))], boxes := [] }) (fun xx_ => xx_ ≤ 8) (fun xx_ => 8 - xx_) 0 ?_ ?_ ?_
 · refine Env.le_mk ⟨rfl, rfl, ?_, rfl, trivial⟩ ⟨rfl, ?_, ?_, trivial⟩ trivial <;> (first | (exact congrArg (fun x => some (_, D.ints .i64 (vN h (wN b 48) x))) (show i = 64 by omega)) | (exact congrArg (fun x => PV.one (.d (.ints .i64 (vN h (wN b 48) x)))) (show i = 64 by omega)) | rfl | (refine congrArg (fun x => some (_, D.ints .i64 x)) ?_; first | rfl | (rw [show i = 64 from by omega]; first | done | rfl)) | (refine congrArg (fun n => PV.one (.d (.int .i64 n))) ?_; first | rfl | omega | (simp; done)))
 · exact Nat.zero_le _
 intro i hx
 try dsimp only at hx ⊢
 have hvl_ := vN_len (h := h) (w := wN b 48) (by omega) 64
 have hol_ := outs_len h (vN h (wN b 48) 64) i
 refine T.seq ?_
 refine T.region ?_
 refine TL.b _ (Bin.lss (k := .i64) (a := (i : Int)) (b := 8)) ?_
 refine TL.nil ?_
 refine T.seq ?_
 refine T.ci rfl (fun h35 => ?_) (fun h35 => ?_)
 ·
  refine T.skip ?_
  refine T.seq ?_
  refine T.block ?_
  refine T.seq ?_
  refine T.region ?_
  refine TL.mv (pI (i : Int)) ?_
  refine TL.as (pI (i : Int)) ?_
  refine TL.nil ?_
  obtain ⟨y36, hy36_⟩ : ∃ y_, y_ = wadd (h.getD i 0) ((vN h (wN b 48) 64).getD i 0) := ⟨_, rfl⟩
  refine T.draw [⟨221, (.one (.row 217 [])), []⟩, ⟨222, (.one (.d (.ints .i64 h))), []⟩, ⟨223, (pI (i : Int)), []⟩, ⟨224, (.one (.eptr (.ints .i64 h) i 0)), []⟩, ⟨225, (pI (h.getD i 0)), []⟩, ⟨226, (pI (i : Int)), []⟩, ⟨227, (.one (.rptr 9 [] i 0)), []⟩, ⟨228, (pI ((vN h (wN b 48) 64).getD i 0)), []⟩, ⟨229, (pI y36), []⟩, ⟨230, (pI (band y36 4294967295)), []⟩, ⟨231, (.one (.d (.ints .i64 [band y36 4294967295]))), []⟩] (by kernel_rfl) (by kernel_rfl) ?_ ?_
  ·
   refine .cons (fun E A => A.mv 23 221) ?_
   refine .cons (fun E A => A.mv 0 222) ?_
   refine .cons (fun E A => A.mv 24 223) ?_
   refine .cons (fun E A => OpStep.plain rfl (Step.index (e := 3) (z := 1) (i := (i : Int)) (t := 224) rfl rfl (by exact lt_ok rfl) (by kernel_rfl) (A.g 222 rfl) rfl rfl (lt_ok rfl) (A.g 223 rfl) (by first | omega | (simp; omega) | (simp [w16_len, wN_len]; omega)) (by simp only [D.size]; first | omega | (simp; omega) | (simp [w16_len, wN_len]; omega)))) ?_
   refine .cons (fun E A => OpStep.plain rfl (Step.load (e := (.int .i64 (h.getD i 0))) (t := 225) rfl rfl (by exact lt_ok rfl) (by kernel_rfl) (A.g 224 rfl) rfl)) ?_
   refine .cons (fun E A => A.mv 24 226) ?_
   refine .cons (fun E A => OpStep.plain rfl (Step.index_arr (d := (.ints .i64 (vN h (wN b 48) 64))) (e := 3) (n := 8) (z := 1) (i := (i : Int)) (t := 227) rfl rfl (by exact lt_ok rfl) (by kernel_rfl) (A.g 9 rfl) (by exact (A.row 9 (by kernel_rfl)).trans rfl) (by first | exact hvl_ | exact hvl_.symm | rfl | (simp; done)) rfl (lt_ok rfl) (A.g 226 rfl) (by first | omega | (simp; omega) | (simp [w16_len, wN_len]; omega)) (by first | omega | (simp; omega) | (simp [w16_len, wN_len]; omega)))) ?_
   refine .cons (fun E A => OpStep.plain rfl (Step.load_row (c := cI ((vN h (wN b 48) 64).getD i 0)) (t := 228) rfl rfl (by exact lt_ok rfl) (by kernel_rfl) (A.g 227 rfl) (by exact (A.row 9 (by kernel_rfl)).trans rfl) rfl)) ?_
   refine .cons (fun E A => OpStep.plain rfl (Step.bd (r := .int .i64 y36) 229 (A.g 225 rfl) (A.g 228 rfl) (Bin.add (k := .i64) (a := (h.getD i 0)) (b := ((vN h (wN b 48) 64).getD i 0)) (hy36_.symm)))) ?_
   refine .cons (fun E A => OpStep.plain rfl (Step.bd (r := .int .i64 (band y36 4294967295)) 230 (A.g 229 rfl) rfl (Bin.and (k := .i64) (a := y36) (b := 4294967295) (rfl)))) ?_
   refine .cons (fun E A => OpStep.plain rfl (Step.lit_d (e := 3) (z := 1) (by_ := 8) (xs := [.tmp 230]) (pss := [[cI (band y36 4294967295)]]) (ds := [(.int .i64 (band y36 4294967295))]) (d := (.ints .i64 [band y36 4294967295])) (t := 231) rfl rfl (by exact lt_ok rfl) (by kernel_rfl) rfl rfl (.cons (by exact (congrArg PV.flat (A.g 230 rfl)).trans rfl) .nil) (by simp) (le_ok rfl) (le_ok rfl) rfl rfl trivial rfl rfl)) ?_
   exact .nil _ _
  refine TL.c (Step.append (e := 3) (z := 1) (by_ := 8) (r := 217) (d := (.ints .i64 (outs h (vN h (wN b 48) 64) i))) (dy := (.ints .i64 [band y36 4294967295])) (d' := (.ints .i64 ((outs h (vN h (wN b 48) 64) i) ++ [band y36 4294967295]))) (ss := []) rfl rfl (lt_ok rfl) (by kernel_rfl) rfl rfl rfl (lt_ok rfl) rfl (.froz rfl (by simp [D.flat, D.val])) (by simp) rfl (by simp only [D.size, List.length_map]; first | omega | (simp only [List.length_append, List.length_cons, List.length_nil]; omega) | (simp; omega) | (simp only [List.length_append] at *; omega)) (by simp only [D.size, List.length_map]; first | omega | (simp only [List.length_append, List.length_cons, List.length_nil]; omega) | (simp; omega) | (simp only [List.length_append] at *; omega)) (by simp)) ?_
  refine TL.as (.one (.row 217 [])) ?_
  refine TL.nil ?_
  refine T.region ?_
  refine TL.c (Step.bin (r := .int .i64 ((i : Int) + 1)) rfl rfl (lt_ok rfl) rfl rfl (Bin.add (a := (i : Int)) (b := 1) (by first | exact wrap_ok (by first | omega | (simp; omega) | (simp [w16_len, wN_len]; omega)) (by first | omega | (simp; omega) | (simp [w16_len, wN_len]; omega)) | rfl))) ?_
  refine TL.mv (pI ((i : Int) + 1)) ?_
  refine TL.nil ?_
  subst hy36_
  refine ⟨i + 1, by omega, by first | omega | (dsimp only; omega), Env.le_mk ⟨rfl, rfl, ?_, rfl, trivial⟩ ⟨rfl, rfl, ?_, trivial⟩ trivial⟩ <;> (first | (exact congrArg (fun x => some (_, D.ints .i64 (vN h (wN b 48) x))) (show i = 64 by omega)) | (exact congrArg (fun x => PV.one (.d (.ints .i64 (vN h (wN b 48) x)))) (show i = 64 by omega)) | rfl | (refine congrArg (fun x => some (_, D.ints .i64 x)) ?_; first | rfl | (rw [show i = 64 from by omega]; first | done | rfl)) | (refine congrArg (fun n => PV.one (.d (.int .i64 n))) ?_; first | rfl | omega | (simp; done)))
 refine T.exit ?_
 refine T.seq ?_
 refine T.region ?_
 refine TL.mv (.one (.row 217 [])) ?_
 refine TL.as (.one (.row 217 [])) ?_
 refine TL.nil ?_
 refine T.ret ?_
 refine ⟨[(false, [.row 217 []])], (.cons rfl .nil), rfl, [217], (RetC.o ?_ .nil)⟩ <;> (first | (rw [shaBlock_yes (h := h) (b := b) ⟨by omega, by omega, hwo_⟩, show i = 8 from by omega]; done) | (simp only [D.size]; first | (rw [shaBlock_no (fun h_ => by have := h_.1; have := h_.2.1; omega)]; rfl) | (rw [shaBlock_no (fun h_ => by have := h_.2.2; rw [words_no (i := i) (by omega) (by omega)] at this; cases this)]; rfl)))
theorem ok_impl_Sha (b : List Int) (h0_ : U8s b) (h1_ : b.length ≤ 17592186040000) : RO Try.prog 48 [.one (.ints .u8 b)] [(false, [.own 5 (.ints .u8 (sha b))])] := by
 refine RO.intro Try.func48 rfl 48 rfl (le_ok rfl) fun w Z => ?_
 refine T.bnd 0 0 rfl rfl fun hb_0_0 => ?_
 simp only [D.size, List.length_map] at hb_0_0
 refine T.seq ?_
 refine T.region ?_
 refine TL.as (.one (.nil)) ?_
 refine TL.nil ?_
 refine T.seq ?_
 refine T.region ?_
 refine TL.c (Step.cl (xs := []) (ps := []) (g := .func 85) false .nil (ok_impl_ShaInit )) ?_
 refine TL.mv (pS b) ?_
 have nn1 := shaPad_mod b
 refine TL.c (Step.cl (xs := [.tmp 10]) (ps := [(pS b)]) (g := .func 86) false (.cons (.one (.d _)) .nil) (ok_impl_ShaPad b (by first | omega | assumption | (simp only [List.length_append] at *; omega)))) ?_
 refine TL.as (.one (.row 1009 [])) ?_
 refine TL.freeze (r := 1011) rfl (fun _ h => h) ?_
 refine TL.as (pS (shaPad b)) ?_
 refine TL.ren 1009 600003 rfl (by simp) ?_
 refine TL.nil ?_
 refine T.seq ?_
 refine T.seq ?_
 refine T.region ?_
 refine TL.as (pI 0) ?_
 refine TL.nil ?_
 refine T.block ?_
 refine T.loop (ι := Nat) (fun xx_ => { tm := [(2, (.one (.nil))), (4, (pS (shaPad b))), (5, (pI (64 * (xx_ : Int)))), (3, (.one (.row 600003 [])))], rows := [(600003, (3, (.ints .i64 (hN (shaPad b) xx_))))], boxes := [] }) (fun xx_ => 64 * xx_ ≤ (shaPad b).length) (fun xx_ => (shaPad b).length - 64 * xx_) 0 ?_ ?_ ?_
 · refine Env.le_mk ⟨rfl, rfl, ?_, rfl, trivial⟩ ⟨?_, trivial⟩ trivial <;> (first | rfl | (refine congrArg (fun n => PV.one (.d (.int .i64 n))) ?_; first | rfl | omega | (simp; done)))
 · exact Nat.zero_le _
 intro i hx
 try dsimp only at hx ⊢
 have hu_ := u8_sub (shaPad_u8 h0_)
 refine T.seq ?_
 refine T.seq ?_
 refine T.region ?_
 refine TL.mv (pI (64 * (i : Int))) ?_
 refine TL.mv (pS (shaPad b)) ?_
 refine TL.c (Step.len (e := 5) (z := 1) (d := (.ints .u8 (shaPad b))) rfl rfl (lt_ok rfl) (by kernel_rfl) rfl rfl) ?_
 refine TL.b _ (Bin.lss (k := .i64) (a := (64 * (i : Int))) (b := ((shaPad b).length : Int))) ?_
 refine TL.nil ?_
 refine T.ci rfl (fun h2 => ?_) (fun h2 => ?_)
 ·
  refine T.skip ?_
  refine T.seq ?_
  refine T.block ?_
  refine T.region ?_
  refine TL.mv (.one (.row 600003 [])) ?_
  refine TL.mv (pS (shaPad b)) ?_
  refine TL.mv (pI (64 * (i : Int))) ?_
  refine TL.mv (pI (64 * (i : Int))) ?_
  refine TL.c (Step.bin (r := .int .i64 ((64 * (i : Int)) + 64)) rfl rfl (lt_ok rfl) rfl rfl (Bin.add (a := (64 * (i : Int))) (b := 64) (by first | exact wrap_ok (by first | omega | (simp; omega)) (by first | omega | (simp; omega)) | rfl))) ?_
  refine TL.c (Step.slice (e := 5) (z := 1) (l := (64 * (i : Int)).toNat) (h := ((64 * (i : Int)) + 64).toNat) rfl rfl (lt_ok rfl) (by kernel_rfl) rfl rfl rfl ((.some (i := (64 * (i : Int))) rfl (by first | omega | (simp; omega)))) ((.some (i := ((64 * (i : Int)) + 64)) rfl (by first | omega | (simp; omega)))) (by first | omega | (simp; omega)) (by simp only [D.size]; first | omega | (simp; omega)) rfl) ?_
  have nn3 := shaBlock_len (hN (shaPad b) i) (((shaPad b).drop (64 * (i : Int)).toNat).take (((64 * (i : Int)) + 64).toNat - (64 * (i : Int)).toNat))
  refine TL.c (Step.cl (xs := [.tmp 18, .tmp 23]) (ps := [(.one (.row 600003 [])), (pS (((shaPad b).drop (64 * (i : Int)).toNat).take (((64 * (i : Int)) + 64).toNat - (64 * (i : Int)).toNat)))]) (g := .func 87) false (.cons (.one (.row rfl rfl rfl rfl)) (.cons (.one (.d _)) .nil)) (ok_impl_ShaBlock (hN (shaPad b) i) (((shaPad b).drop (64 * (i : Int)).toNat).take (((64 * (i : Int)) + 64).toNat - (64 * (i : Int)).toNat)) (by first | assumption | exact hu_ _ _))) ?_
  refine TL.as (.one (.row 1024 [])) ?_
  refine TL.weaken (Env.drops_le [600003] _) ?_
  refine TL.ren 1024 600003 rfl (by simp) ?_
  refine TL.nil ?_
  refine T.region ?_
  refine TL.mv (pI (64 * (i : Int))) ?_
  refine TL.c (Step.bin (r := .int .i64 ((64 * (i : Int)) + 64)) rfl rfl (lt_ok rfl) rfl rfl (Bin.add (a := (64 * (i : Int))) (b := 64) (by first | exact wrap_ok (by first | omega | (simp; omega)) (by first | omega | (simp; omega)) | rfl))) ?_
  refine TL.as (pI ((64 * (i : Int)) + 64)) ?_
  refine TL.nil ?_
  refine ⟨i + 1, by omega, by first | omega | (dsimp only; omega), Env.le_mk ⟨rfl, rfl, ?_, rfl, trivial⟩ ⟨?_, trivial⟩ trivial⟩ <;> (first | rfl | (refine congrArg (fun n => PV.one (.d (.int .i64 n))) ?_; first | rfl | omega | (simp; done)))
 refine T.exit ?_
 refine T.seq ?_
 refine T.region ?_
 refine TL.c (Step.lit (e := 5) (z := 1) (by_ := 1) (xs := []) (pss := []) (es := []) (ss := []) (d := (.ints .u8 [])) rfl rfl (lt_ok rfl) (by kernel_rfl) rfl rfl .nil (by simp) (le_ok rfl) (le_ok rfl) rfl .nil rfl (by simp) (by simp) rfl trivial rfl rfl) ?_
 refine TL.as (.one (.row 25 [])) ?_
 refine TL.nil ?_
 refine T.seq ?_
 refine T.seq ?_
 refine T.region ?_
 refine TL.mv (.one (.row 600003 [])) ?_
 refine TL.c (Step.len (e := 3) (z := 1) (d := (.ints .i64 (hN (shaPad b) i))) rfl rfl (lt_ok rfl) (by kernel_rfl) rfl rfl) ?_
 refine TL.mv (pI 0) ?_
 refine TL.nil ?_
 refine T.block ?_
 refine T.loop (ι := Nat) (fun xx_ => { tm := [(2, (.one (.nil))), (26, (.one (.row 600003 []))), (27, (pI ((shaH b).length : Int))), (28, (pI (xx_ : Int))), (6, (.one (.row 25 [])))], rows := [(600003, (3, (.ints .i64 (shaH b)))), (25, (5, (.ints .u8 (outB (shaH b) xx_))))], boxes := [] }) (fun xx_ => xx_ ≤ (shaH b).length) (fun xx_ => (shaH b).length - xx_) 0 ?_ ?_ ?_
 · refine Env.le_mk ⟨rfl, rfl, ?_, ?_, rfl, trivial⟩ ⟨?_, ?_, trivial⟩ trivial <;> (first | rfl | (refine congrArg (fun x => some (_, D.ints .i64 x)) ?_; unfold shaH; rw [show i = (shaPad b).length / 64 from by omega]) | (refine congrArg (fun n => PV.one (.d (.int .i64 n))) ?_; first | rfl | omega | (unfold shaH; rw [show i = (shaPad b).length / 64 from by omega]; first | done | rfl) | (simp; done)))
 · exact Nat.zero_le _
 intro i hx
 try dsimp only at hx ⊢
 have hl_ := outB_len (shaH b) i
 have hh_ : (shaH b).length ≤ 8 := hN_len _ _
 refine T.seq ?_
 refine T.region ?_
 refine TL.b _ (Bin.lss (k := .i64) (a := (i : Int)) (b := ((shaH b).length : Int))) ?_
 refine TL.nil ?_
 refine T.seq ?_
 refine T.ci rfl (fun h4 => ?_) (fun h4 => ?_)
 ·
  refine T.skip ?_
  refine T.seq ?_
  refine T.block ?_
  refine T.seq ?_
  refine T.region ?_
  refine TL.c (Step.index_row (e := 3) (z := 1) (i := (i : Int)) rfl rfl (lt_ok rfl) (by kernel_rfl) rfl rfl rfl rfl (lt_ok rfl) rfl (by first | omega | (simp; omega)) (by simp only [D.at_, D.cell, D.size]; first | omega | (simp; omega))) ?_
  refine TL.c (Step.load_row (c := cI ((shaH b).getD i 0)) rfl rfl (lt_ok rfl) (by kernel_rfl) rfl rfl rfl) ?_
  refine TL.as (pI ((shaH b).getD i 0)) ?_
  refine TL.nil ?_
  refine T.region ?_
  refine TL.mv (.one (.row 25 [])) ?_
  refine TL.mv (pI ((shaH b).getD i 0)) ?_
  refine TL.c (Step.bin (r := .int .i64 (bshr ((shaH b).getD i 0) 24)) rfl rfl (lt_ok rfl) rfl rfl (Bin.shr (k := .i64) (k' := .u64) (a := ((shaH b).getD i 0)) (b := 24) (by first | omega | (simp; omega)) (rfl))) ?_
  refine TL.c (Step.conv (c := ((bshr ((shaH b).getD i 0) 24) % 256)) rfl rfl (lt_ok rfl) (by kernel_rfl) (by kernel_rfl) rfl (wrap_byte _)) ?_
  refine TL.mv (pI ((shaH b).getD i 0)) ?_
  refine TL.c (Step.bin (r := .int .i64 (bshr ((shaH b).getD i 0) 16)) rfl rfl (lt_ok rfl) rfl rfl (Bin.shr (k := .i64) (k' := .u64) (a := ((shaH b).getD i 0)) (b := 16) (by first | omega | (simp; omega)) (rfl))) ?_
  refine TL.c (Step.conv (c := ((bshr ((shaH b).getD i 0) 16) % 256)) rfl rfl (lt_ok rfl) (by kernel_rfl) (by kernel_rfl) rfl (wrap_byte _)) ?_
  refine TL.mv (pI ((shaH b).getD i 0)) ?_
  refine TL.c (Step.bin (r := .int .i64 (bshr ((shaH b).getD i 0) 8)) rfl rfl (lt_ok rfl) rfl rfl (Bin.shr (k := .i64) (k' := .u64) (a := ((shaH b).getD i 0)) (b := 8) (by first | omega | (simp; omega)) (rfl))) ?_
  refine TL.c (Step.conv (c := ((bshr ((shaH b).getD i 0) 8) % 256)) rfl rfl (lt_ok rfl) (by kernel_rfl) (by kernel_rfl) rfl (wrap_byte _)) ?_
  refine TL.mv (pI ((shaH b).getD i 0)) ?_
  refine TL.c (Step.conv (c := (((shaH b).getD i 0) % 256)) rfl rfl (lt_ok rfl) (by kernel_rfl) (by kernel_rfl) rfl (wrap_byte _)) ?_
  refine TL.c (Step.lit (e := 5) (z := 1) (by_ := 1) (xs := [.tmp 35, .tmp 38, .tmp 41, .tmp 43]) (pss := [[.d (.int .u8 ((bshr ((shaH b).getD i 0) 24) % 256))], [.d (.int .u8 ((bshr ((shaH b).getD i 0) 16) % 256))], [.d (.int .u8 ((bshr ((shaH b).getD i 0) 8) % 256))], [.d (.int .u8 (((shaH b).getD i 0) % 256))]]) (es := [(.int .u8 ((bshr ((shaH b).getD i 0) 24) % 256)), (.int .u8 ((bshr ((shaH b).getD i 0) 16) % 256)), (.int .u8 ((bshr ((shaH b).getD i 0) 8) % 256)), (.int .u8 (((shaH b).getD i 0) % 256))]) (ss := []) (d := (.ints .u8 [(bshr ((shaH b).getD i 0) 24) % 256, (bshr ((shaH b).getD i 0) 16) % 256, (bshr ((shaH b).getD i 0) 8) % 256, ((shaH b).getD i 0) % 256])) rfl rfl (lt_ok rfl) (by kernel_rfl) rfl rfl (.cons rfl (.cons rfl (.cons rfl (.cons rfl .nil)))) (by simp) (le_ok rfl) (le_ok rfl) rfl (.val rfl (.val rfl (.val rfl (.val rfl .nil)))) rfl (by simp) (by simp) rfl trivial rfl rfl) ?_
  refine TL.c (Step.append (e := 5) (z := 1) (by_ := 1) (r := 25) (d := (.ints .u8 (outB (shaH b) i))) (dy := (.ints .u8 [(bshr ((shaH b).getD i 0) 24) % 256, (bshr ((shaH b).getD i 0) 16) % 256, (bshr ((shaH b).getD i 0) 8) % 256, ((shaH b).getD i 0) % 256])) (d' := (.ints .u8 ((outB (shaH b) i) ++ [(bshr ((shaH b).getD i 0) 24) % 256, (bshr ((shaH b).getD i 0) 16) % 256, (bshr ((shaH b).getD i 0) 8) % 256, ((shaH b).getD i 0) % 256]))) (ss := []) rfl rfl (lt_ok rfl) (by kernel_rfl) rfl rfl rfl (lt_ok rfl) rfl (.copy rfl rfl rfl (by simp [D.flat, D.val])) (by simp) rfl (by simp only [D.size, List.length_map]; first | omega | (simp only [List.length_append, List.length_cons, List.length_nil]; omega) | (simp; omega) | (simp only [List.length_append] at *; omega)) (by simp only [D.size, List.length_map]; first | omega | (simp only [List.length_append, List.length_cons, List.length_nil]; omega) | (simp; omega) | (simp only [List.length_append] at *; omega)) (by simp)) ?_
  refine TL.as (.one (.row 25 [])) ?_
  refine TL.nil ?_
  refine T.region ?_
  refine TL.c (Step.bin (r := .int .i64 ((i : Int) + 1)) rfl rfl (lt_ok rfl) rfl rfl (Bin.add (a := (i : Int)) (b := 1) (by first | exact wrap_ok (by first | omega | (simp; omega)) (by first | omega | (simp; omega)) | rfl))) ?_
  refine TL.mv (pI ((i : Int) + 1)) ?_
  refine TL.nil ?_
  refine ⟨i + 1, by omega, by first | omega | (dsimp only; omega), Env.le_mk ⟨rfl, rfl, rfl, ?_, rfl, trivial⟩ ⟨rfl, ?_, trivial⟩ trivial⟩ <;> (first | rfl | (refine congrArg (fun x => some (_, D.ints .i64 x)) ?_; unfold shaH; rw [show i = (shaPad b).length / 64 from by omega]) | (refine congrArg (fun n => PV.one (.d (.int .i64 n))) ?_; first | rfl | omega | (unfold shaH; rw [show i = (shaPad b).length / 64 from by omega]; first | done | rfl) | (simp; done)))
 refine T.exit ?_
 refine T.seq ?_
 refine T.region ?_
 refine TL.mv (.one (.row 25 [])) ?_
 refine TL.as (.one (.row 25 [])) ?_
 refine TL.nil ?_
 refine T.ret ?_
 refine ⟨[(false, [.row 25 []])], (.cons rfl .nil), rfl, [25], (RetC.o ?_ .nil)⟩ <;> ((congr 1; unfold sha; rw [show i = (shaH b).length from by omega]))
theorem ok_impl_LeafHash (x : List Int) (h0_ : U8s x) (h1_ : x.length ≤ 17592186030000) : RO Try.prog 49 [.one (.ints .u8 x)] [(false, [.own 5 (.ints .u8 (leafHash x))])] := by
 refine RO.intro Try.func49 rfl 7 rfl (le_ok rfl) fun w Z => ?_
 refine T.bnd 0 0 rfl rfl fun hb_0_0 => ?_
 simp only [D.size, List.length_map] at hb_0_0
 refine T.seq ?_
 refine T.region ?_
 refine TL.as (.one (.nil)) ?_
 refine TL.nil ?_
 refine T.seq ?_
 refine T.region ?_
 refine TL.c (Step.lit (e := 5) (z := 1) (by_ := 1) (xs := [.const (.int .u8 0)]) (pss := [[.d (.int .u8 0)]]) (es := [(.int .u8 0)]) (ss := []) (d := (.ints .u8 [0])) rfl rfl (lt_ok rfl) (by kernel_rfl) rfl rfl (.cons rfl .nil) (by simp) (le_ok rfl) (le_ok rfl) rfl (.val rfl .nil) rfl (by simp) (by simp) rfl trivial rfl rfl) ?_
 refine TL.mv (pS x) ?_
 refine TL.c (Step.append (e := 5) (z := 1) (by_ := 1) (r := 3) (d := (.ints .u8 [0])) (dy := (.ints .u8 x)) (d' := (.ints .u8 ([0] ++ x))) (ss := []) rfl rfl (lt_ok rfl) (by kernel_rfl) rfl rfl rfl (lt_ok rfl) rfl (.froz rfl (by simp [D.flat, D.val])) (by simp) rfl (by simp only [D.size, List.length_map]; first | omega | (simp only [List.length_append, List.length_cons, List.length_nil]; omega) | (simp; omega) | (simp only [List.length_append] at *; omega)) (by simp only [D.size, List.length_map]; first | omega | (simp only [List.length_append, List.length_cons, List.length_nil]; omega) | (simp; omega) | (simp only [List.length_append] at *; omega)) (by simp)) ?_
 have nn1 := sha_len ([0] ++ x)
 have nn2 := sha_u8 ([0] ++ x)
 refine TL.c (Step.cl (xs := [.tmp 5]) (ps := [(.one (.row 3 []))]) (g := .func 48) false (.cons (.one (.row rfl rfl rfl rfl)) .nil) (ok_impl_Sha ([0] ++ x) (by first | assumption | exact sha_u8 _ | exact treeRoot_u8 _ | exact nodeHash_u8 _ _ | exact leafHash_u8 _ | exact u8_cons (by decide) (by assumption) | exact mem_getD (p := U8s) (by assumption) (by omega) | exact u8_app (u8_cons (by decide) (by assumption)) (by assumption) | exact fun x hx => by cases hx | exact putHead_u8 u8_72 (by assumption)) (by first | omega | assumption | (simp only [List.length_append] at *; omega) | (simp; done) | (simp; omega)))) ?_
 refine TL.as (.one (.row 1006 [])) ?_
 refine TL.nil ?_
 refine T.ret ?_
 refine ⟨[(false, [.row 1006 []])], (.cons rfl .nil), rfl, [1006], (RetC.o ?_ .nil)⟩ <;> (rfl)
theorem ok_impl_SplitAt (n : Int) (h0_ : n ≤ 9223372036854775807) : RO Try.prog 50 [.one (.int .i64 n)] [(false, [.rd (.int .i64 (splitAtT n))])] := by
 refine RO.intro Try.func50 rfl 14 rfl (le_ok rfl) fun w Z => ?_
 refine T.seq ?_
 refine T.region ?_
 refine TL.as (pI 0) ?_
 refine TL.nil ?_
 refine T.seq ?_
 refine T.seq ?_
 refine T.region ?_
 refine TL.mv (pI n) ?_
 refine TL.b _ (Bin.lss (k := .i64) (a := n) (b := 2)) ?_
 refine TL.nil ?_
 refine T.ci rfl (fun h1 => ?_) (fun h1 => ?_)
 ·
  refine T.seq ?_
  refine T.region ?_
  refine TL.as (pI 0) ?_
  refine TL.nil ?_
  refine T.ret ?_
  refine ⟨[(false, [cI 0])], (.cons rfl .nil), rfl, [], (RetC.r ?_ .nil)⟩ <;> ((congr 1; unfold splitAtT; first | (rw [if_pos (by omega)]; done) | (rw [if_neg (by omega)]; rw [if_neg (by omega)] at hx4; exact hx4) | (rw [if_neg (by omega)]; omega)))
 refine T.skip ?_
 refine T.seq ?_
 refine T.region ?_
 refine TL.as (pI 1) ?_
 refine TL.nil ?_
 refine T.seq ?_
 refine T.block ?_
 refine T.loop (ι := Nat × Int) (fun xx_ => { tm := [(0, (pI n)), (2, (pI 0)), (3, (pI (xx_.2)))], rows := [], boxes := [] }) (fun xx_ => 1 ≤ (xx_.2) ∧ (xx_.2) < n ∧ n ≤ (xx_.2) + (xx_.1) ∧ splitGo (xx_.1) n (xx_.2) = splitAt n) (fun xx_ => (xx_.1)) (n.toNat, 1) ?_ ?_ ?_
 · refine Env.le_mk ⟨rfl, rfl, ?_, trivial⟩ trivial trivial <;> (first | rfl | (refine congrArg (fun n => PV.one (.d (.int .i64 n))) ?_; rfl))
 · (dsimp only; refine ⟨by omega, by omega, by omega, rfl⟩)
 intro xx_ hx
 obtain ⟨d, x⟩ := xx_
 try dsimp only at hx ⊢
 obtain ⟨hx1, hx2, hx3, hx4⟩ := hx
 obtain ⟨d', rfl⟩ : ∃ d', d = d' + 1 := ⟨d - 1, by omega⟩
 unfold splitGo at hx4
 refine T.seq ?_
 refine T.seq ?_
 refine T.region ?_
 refine TL.mv (pI x) ?_
 refine TL.mv (pI n) ?_
 refine TL.mv (pI x) ?_
 refine TL.c (Step.bin (r := .int .i64 (n - x)) rfl rfl (lt_ok rfl) rfl rfl (Bin.sub (a := n) (b := x) (by first | exact wrap_ok (by first | omega | (simp; omega)) (by first | omega | (simp; omega)) | rfl))) ?_
 refine TL.b _ (Bin.lss (k := .i64) (a := x) (b := (n - x))) ?_
 refine TL.nil ?_
 refine T.ci rfl (fun h2 => ?_) (fun h2 => ?_)
 ·
  refine T.skip ?_
  refine T.block ?_
  refine T.region ?_
  refine TL.mv (pI x) ?_
  refine TL.c (Step.bin (r := .int .i64 (x * 2)) rfl rfl (lt_ok rfl) rfl rfl (Bin.mul (a := x) (b := 2) (by first | exact wrap_ok (by first | omega | (simp; omega)) (by first | omega | (simp; omega)) | rfl))) ?_
  refine TL.as (pI (x * 2)) ?_
  refine TL.nil ?_
  refine ⟨(d', x * 2), by (try dsimp only); (rw [if_pos (by omega)] at hx4; refine ⟨by omega, by omega, by omega, ?_⟩; first | exact hx4 | (rw [Int.mul_comm]; exact hx4)), by (dsimp only; omega), Env.le_mk ⟨rfl, rfl, ?_, trivial⟩ trivial trivial⟩ <;> (first | rfl | (refine congrArg (fun n => PV.one (.d (.int .i64 n))) ?_; rfl))
 refine T.exit ?_
 refine T.seq ?_
 refine T.region ?_
 refine TL.mv (pI x) ?_
 refine TL.as (pI x) ?_
 refine TL.nil ?_
 refine T.ret ?_
 refine ⟨[(false, [cI x])], (.cons rfl .nil), rfl, [], (RetC.r ?_ .nil)⟩ <;> ((congr 1; unfold splitAtT; first | (rw [if_pos (by omega)]; done) | (rw [if_neg (by omega)]; rw [if_neg (by omega)] at hx4; exact hx4) | (rw [if_neg (by omega)]; omega)))
theorem ok_impl_NodeHash (a : List Int) (b : List Int) (h0_ : U8s a) (h1_ : U8s b) (h2_ : a.length ≤ 1048576) (h3_ : b.length ≤ 1048576) : RO Try.prog 51 [.one (.ints .u8 a), .one (.ints .u8 b)] [(false, [.own 5 (.ints .u8 (nodeHash a b))])] := by
 refine RO.intro Try.func51 rfl 11 rfl (le_ok rfl) fun w Z => ?_
 refine T.bnd 0 0 rfl rfl fun hb_0_0 => ?_
 simp only [D.size, List.length_map] at hb_0_0
 refine T.bnd 1 0 rfl rfl fun hb_1_0 => ?_
 simp only [D.size, List.length_map] at hb_1_0
 refine T.seq ?_
 refine T.region ?_
 refine TL.as (.one (.nil)) ?_
 refine TL.nil ?_
 refine T.seq ?_
 refine T.region ?_
 refine TL.c (Step.lit (e := 5) (z := 1) (by_ := 1) (xs := [.const (.int .u8 1)]) (pss := [[.d (.int .u8 1)]]) (es := [(.int .u8 1)]) (ss := []) (d := (.ints .u8 [1])) rfl rfl (lt_ok rfl) (by kernel_rfl) rfl rfl (.cons rfl .nil) (by simp) (le_ok rfl) (le_ok rfl) rfl (.val rfl .nil) rfl (by simp) (by simp) rfl trivial rfl rfl) ?_
 refine TL.mv (pS a) ?_
 refine TL.c (Step.append (e := 5) (z := 1) (by_ := 1) (r := 5) (d := (.ints .u8 [1])) (dy := (.ints .u8 a)) (d' := (.ints .u8 ([1] ++ a))) (ss := []) rfl rfl (lt_ok rfl) (by kernel_rfl) rfl rfl rfl (lt_ok rfl) rfl (.froz rfl (by simp [D.flat, D.val])) (by simp) rfl (by simp only [D.size, List.length_map]; first | omega | (simp only [List.length_append, List.length_cons, List.length_nil]; omega) | (simp; omega) | (simp only [List.length_append] at *; omega)) (by simp only [D.size, List.length_map]; first | omega | (simp only [List.length_append, List.length_cons, List.length_nil]; omega) | (simp; omega) | (simp only [List.length_append] at *; omega)) (by simp)) ?_
 refine TL.mv (pS b) ?_
 refine TL.c (Step.append (e := 5) (z := 1) (by_ := 1) (r := 5) (d := (.ints .u8 ([1] ++ a))) (dy := (.ints .u8 b)) (d' := (.ints .u8 (([1] ++ a) ++ b))) (ss := []) rfl rfl (lt_ok rfl) (by kernel_rfl) rfl rfl rfl (lt_ok rfl) rfl (.froz rfl (by simp [D.flat, D.val])) (by simp) rfl (by simp only [D.size, List.length_map]; first | omega | (simp only [List.length_append, List.length_cons, List.length_nil]; omega) | (simp; omega) | (simp only [List.length_append] at *; omega)) (by simp only [D.size, List.length_map]; first | omega | (simp only [List.length_append, List.length_cons, List.length_nil]; omega) | (simp; omega) | (simp only [List.length_append] at *; omega)) (by simp)) ?_
 have nn1 := sha_len (([1] ++ a) ++ b)
 have nn2 := sha_u8 (([1] ++ a) ++ b)
 refine TL.c (Step.cl (xs := [.tmp 9]) (ps := [(.one (.row 5 []))]) (g := .func 48) false (.cons (.one (.row rfl rfl rfl rfl)) .nil) (ok_impl_Sha (([1] ++ a) ++ b) (by first | assumption | exact sha_u8 _ | exact treeRoot_u8 _ | exact nodeHash_u8 _ _ | exact leafHash_u8 _ | exact u8_cons (by decide) (by assumption) | exact mem_getD (p := U8s) (by assumption) (by omega) | exact u8_app (u8_cons (by decide) (by assumption)) (by assumption) | exact fun x hx => by cases hx | exact putHead_u8 u8_72 (by assumption)) (by first | omega | assumption | (simp only [List.length_append] at *; omega) | (simp; done) | (simp; omega)))) ?_
 refine TL.as (.one (.row 1010 [])) ?_
 refine TL.nil ?_
 refine T.ret ?_
 refine ⟨[(false, [.row 1010 []])], (.cons rfl .nil), rfl, [1010], (RetC.o ?_ .nil)⟩ <;> (rfl)
theorem ok_impl_TreeRoot_r (d_ : Nat) : ∀ (l : List (List Int)) (hd_ : l.length = d_) (h0_ : ∀ y ∈ l, U8s y) (h1_ : ∀ y ∈ l, y.length ≤ 1048576), RO Try.prog 13 [.one (.bss l)] [(false, [.own 5 (.ints .u8 (treeRoot l))])] := by
 refine Nat.strongRecOn d_ ?_
 intro d_ ih l hd_ h0_ h1_
 subst hd_
 refine RO.intro Try.func13 rfl 27 rfl (le_ok rfl) fun w Z => ?_
 refine T.bnd 0 0 rfl rfl fun hb_0_0 => ?_
 simp only [D.size, List.length_map] at hb_0_0
 have hsb_ := splitAtT_bd (l.length : Int)
 have hsl_ := splitAtT_le (l.length : Int)
 have hpt_ := part_len l
 have hy_ := mem_len h1_ 0
 refine T.seq ?_
 refine T.region ?_
 refine TL.as (.one (.nil)) ?_
 refine TL.nil ?_
 refine T.seq ?_
 refine T.seq ?_
 refine T.region ?_
 refine TL.mv (.one (.d (.bss l))) ?_
 refine TL.c (Step.len (e := 22) (z := 1) (d := (.bss l)) rfl rfl (lt_ok rfl) (by kernel_rfl) rfl rfl) ?_
 refine TL.nil ?_
 refine T.block ?_
 refine T.seq ?_
 refine T.region ?_
 refine TL.b _ (Bin.eql (k := .i64) (a := (l.length : Int)) (b := 0)) ?_
 refine TL.as (pB (decide ((l.length : Int) = 0))) ?_
 refine TL.nil ?_
 refine T.ci rfl (fun h1 => ?_) (fun h1 => ?_)
 ·
  refine T.seq ?_
  refine T.region ?_
  have nn2 := sha_len []
  have nn3 := sha_u8 []
  refine TL.c (Step.cl (xs := [.const (.slice none 0 0)]) (ps := [(.one (.nil))]) (g := .func 48) false (.cons (.one (.nil rfl rfl (by first | exact trivial | exact D.wf_nil _))) .nil) (ok_impl_Sha [] (by first | assumption | exact sha_u8 _ | exact treeRoot_u8 _ | exact nodeHash_u8 _ _ | exact leafHash_u8 _ | exact u8_cons (by decide) (by assumption) | exact mem_getD (p := U8s) (by assumption) (by omega) | exact u8_app (u8_cons (by decide) (by assumption)) (by assumption) | exact fun x hx => by cases hx | exact putHead_u8 u8_72 (by assumption)) (by first | omega | assumption | (simp only [List.length_append] at *; omega) | (simp; done) | (simp; omega)))) ?_
  refine TL.as (.one (.row 1008 [])) ?_
  refine TL.nil ?_
  refine T.ret ?_
  refine ⟨[(false, [.row 1008 []])], (.cons rfl .nil), rfl, [1008], (RetC.o ?_ .nil)⟩ <;> ((congr 1; first | (rw [treeRoot_nil (l := l) (by omega)]; done) | (rw [treeRoot_one (l := l) (by omega)]; done) | (rw [treeRoot_two (l := l) (by omega) (by omega)]; done)))
 refine T.seq ?_
 refine T.region ?_
 refine TL.b _ (Bin.eql (k := .i64) (a := (l.length : Int)) (b := 1)) ?_
 refine TL.as (pB (decide ((l.length : Int) = 1))) ?_
 refine TL.nil ?_
 refine T.ci rfl (fun h4 => ?_) (fun h4 => ?_)
 ·
  refine T.seq ?_
  refine T.region ?_
  refine TL.mv (.one (.d (.bss l))) ?_
  refine TL.c (Step.index (e := 22) (z := 1) (i := 0) rfl rfl (lt_ok rfl) (by kernel_rfl) rfl rfl rfl (lt_ok rfl) rfl (by first | omega | (simp; omega)) (by simp only [D.size]; first | omega | (simp; omega))) ?_
  refine TL.c (Step.load (e := (.ints .u8 (l.getD 0 []))) rfl rfl (lt_ok rfl) (by kernel_rfl) rfl rfl) ?_
  have nn5 := leafHash_len (l.getD 0 [])
  have nn6 := leafHash_u8 (l.getD 0 [])
  refine TL.c (Step.cl (xs := [.tmp 13]) (ps := [(pS (l.getD 0 []))]) (g := .func 49) false (.cons (.one (.d _)) .nil) (ok_impl_LeafHash (l.getD 0 []) (by first | assumption | exact sha_u8 _ | exact treeRoot_u8 _ | exact nodeHash_u8 _ _ | exact leafHash_u8 _ | exact u8_cons (by decide) (by assumption) | exact mem_getD (p := U8s) (by assumption) (by omega) | exact u8_app (u8_cons (by decide) (by assumption)) (by assumption) | exact fun x hx => by cases hx) (by first | omega | assumption | (simp only [List.length_append] at *; omega)))) ?_
  refine TL.as (.one (.row 1014 [])) ?_
  refine TL.nil ?_
  refine T.ret ?_
  refine ⟨[(false, [.row 1014 []])], (.cons rfl .nil), rfl, [1014], (RetC.o ?_ .nil)⟩ <;> ((congr 1; first | (rw [treeRoot_nil (l := l) (by omega)]; done) | (rw [treeRoot_one (l := l) (by omega)]; done) | (rw [treeRoot_two (l := l) (by omega) (by omega)]; done)))
 refine T.skip ?_
 refine T.seq ?_
 refine T.region ?_
 refine TL.mv (.one (.d (.bss l))) ?_
 refine TL.c (Step.len (e := 22) (z := 1) (d := (.bss l)) rfl rfl (lt_ok rfl) (by kernel_rfl) rfl rfl) ?_
 have nn7 := splitAtT_bd (l.length : Int)
 refine TL.c (Step.cl (xs := [.tmp 16]) (ps := [(pI (l.length : Int))]) (g := .func 50) false (.cons (.one (.d _)) .nil) (ok_impl_SplitAt (l.length : Int) (by first | omega | assumption | (simp only [List.length_append] at *; omega)))) ?_
 refine TL.as (pI (splitAtT (l.length : Int))) ?_
 refine TL.nil ?_
 refine T.seq ?_
 have nn8 := treeRoot_len ((l.drop 0).take ((splitAtT (l.length : Int)).toNat - 0))
 have nn9 := treeRoot_u8 ((l.drop 0).take ((splitAtT (l.length : Int)).toNat - 0))
 have nn10 := treeRoot_len ((l.drop (splitAtT (l.length : Int)).toNat).take (l.length - (splitAtT (l.length : Int)).toNat))
 have nn11 := treeRoot_u8 ((l.drop (splitAtT (l.length : Int)).toNat).take (l.length - (splitAtT (l.length : Int)).toNat))
 have nn12 := nodeHash_len (treeRoot ((l.drop 0).take ((splitAtT (l.length : Int)).toNat - 0))) (treeRoot ((l.drop (splitAtT (l.length : Int)).toNat).take (l.length - (splitAtT (l.length : Int)).toNat)))
 have nn13 := nodeHash_u8 (treeRoot ((l.drop 0).take ((splitAtT (l.length : Int)).toNat - 0))) (treeRoot ((l.drop (splitAtT (l.length : Int)).toNat).take (l.length - (splitAtT (l.length : Int)).toNat)))
 refine T.draw [⟨18, (.one (.d (.bss l))), []⟩, ⟨19, (pI (splitAtT (l.length : Int))), []⟩, ⟨20, (.one (.d (.bss ((l.drop 0).take ((splitAtT (l.length : Int)).toNat - 0))))), []⟩, ⟨21, (.one (.row 1021 [])), [(1021, (5, (.ints .u8 (treeRoot ((l.drop 0).take ((splitAtT (l.length : Int)).toNat - 0))))))]⟩, ⟨22, (.one (.d (.bss l))), []⟩, ⟨23, (pI (splitAtT (l.length : Int))), []⟩, ⟨24, (.one (.d (.bss ((l.drop (splitAtT (l.length : Int)).toNat).take (l.length - (splitAtT (l.length : Int)).toNat))))), []⟩, ⟨25, (.one (.row 1025 [])), [(1025, (5, (.ints .u8 (treeRoot ((l.drop (splitAtT (l.length : Int)).toNat).take (l.length - (splitAtT (l.length : Int)).toNat))))))]⟩, ⟨26, (.one (.row 1026 [])), [(1026, (5, (.ints .u8 (nodeHash (treeRoot ((l.drop 0).take ((splitAtT (l.length : Int)).toNat - 0))) (treeRoot ((l.drop (splitAtT (l.length : Int)).toNat).take (l.length - (splitAtT (l.length : Int)).toNat)))))))]⟩, ⟨2, (.one (.row 1026 [])), []⟩] (by kernel_rfl) (by kernel_rfl) ?_ ?_
 ·
  refine .cons (fun E A => A.mv 0 18) ?_
  refine .cons (fun E A => A.mv 3 19) ?_
  refine .cons (fun E A => OpStep.plain rfl (Step.slice (e := 22) (z := 1) (l := 0) (h := (splitAtT (l.length : Int)).toNat) (t := 20) rfl rfl (by exact lt_ok rfl) (by kernel_rfl) (A.g 18 rfl) rfl rfl (.none _) ((.some (i := (splitAtT (l.length : Int))) (A.g 19 rfl) (by first | omega | (simp; omega)))) (by first | omega | (simp; omega)) (by simp only [D.size]; first | omega | (simp; omega)) rfl)) ?_
  refine .cons (fun E A => OpStep.plain rfl (Step.call (f := 13) (xs := [.tmp 20]) (ps := [(.one (.d (.bss ((l.drop 0).take ((splitAtT (l.length : Int)).toNat - 0)))))]) false (g := .func 13) (t := 21) rfl rfl (by exact lt_ok rfl) rfl (by kernel_rfl) (evs_cons (A.g 20 rfl) (rfl)) (.cons (.one (.d _)) .nil) (ih ((l.drop 0).take ((splitAtT (l.length : Int)).toNat - 0)).length (by omega) ((l.drop 0).take ((splitAtT (l.length : Int)).toNat - 0)) rfl (by first | assumption | exact mem_sub (by assumption) _ _ | exact s0.2 | exact o1) (by first | assumption | exact mem_sub (by assumption) _ _ | exact s0.2 | exact s1.2)) (.inr rfl) (At.freshRows A rfl) (by simp) rfl)) ?_
  refine .cons (fun E A => A.mv 0 22) ?_
  refine .cons (fun E A => A.mv 3 23) ?_
  refine .cons (fun E A => OpStep.plain rfl (Step.slice (e := 22) (z := 1) (l := (splitAtT (l.length : Int)).toNat) (h := l.length) (t := 24) rfl rfl (by exact lt_ok rfl) (by kernel_rfl) (A.g 22 rfl) rfl rfl ((.some (i := (splitAtT (l.length : Int))) (A.g 23 rfl) (by first | omega | (simp; omega)))) (.none _) (by first | omega | (simp; omega)) (by simp only [D.size]; first | omega | (simp; omega)) rfl)) ?_
  refine .cons (fun E A => OpStep.plain rfl (Step.call (f := 13) (xs := [.tmp 24]) (ps := [(.one (.d (.bss ((l.drop (splitAtT (l.length : Int)).toNat).take (l.length - (splitAtT (l.length : Int)).toNat)))))]) false (g := .func 13) (t := 25) rfl rfl (by exact lt_ok rfl) rfl (by kernel_rfl) (evs_cons (A.g 24 rfl) (rfl)) (.cons (.one (.d _)) .nil) (ih ((l.drop (splitAtT (l.length : Int)).toNat).take (l.length - (splitAtT (l.length : Int)).toNat)).length (by omega) ((l.drop (splitAtT (l.length : Int)).toNat).take (l.length - (splitAtT (l.length : Int)).toNat)) rfl (by first | assumption | exact mem_sub (by assumption) _ _ | exact s0.2 | exact o1) (by first | assumption | exact mem_sub (by assumption) _ _ | exact s0.2 | exact s1.2)) (.inr rfl) (At.freshRows A rfl) (by simp) rfl)) ?_
  refine .cons (fun E A => OpStep.plain rfl (Step.cd (xs := [.tmp 21, .tmp 25]) (ps := [(.one (.row 1021 [])), (.one (.row 1025 []))]) (g := .func 51) false 26 (evs_cons (A.g 21 rfl) (evs_cons (A.g 25 rfl) (rfl))) (.cons (.one (.row rfl (by exact (A.row 1021 (by kernel_rfl)).trans rfl) rfl rfl)) (.cons (.one (.row rfl (by exact (A.row 1025 (by kernel_rfl)).trans rfl) rfl rfl)) .nil)) (ok_impl_NodeHash (treeRoot ((l.drop 0).take ((splitAtT (l.length : Int)).toNat - 0))) (treeRoot ((l.drop (splitAtT (l.length : Int)).toNat).take (l.length - (splitAtT (l.length : Int)).toNat))) (by first | assumption | exact sha_u8 _ | exact treeRoot_u8 _ | exact nodeHash_u8 _ _ | exact leafHash_u8 _ | exact u8_cons (by decide) (by assumption) | exact mem_getD (p := U8s) (by assumption) (by omega) | exact u8_app (u8_cons (by decide) (by assumption)) (by assumption) | exact fun x hx => by cases hx) (by first | assumption | exact sha_u8 _ | exact treeRoot_u8 _ | exact nodeHash_u8 _ _ | exact leafHash_u8 _ | exact u8_cons (by decide) (by assumption) | exact mem_getD (p := U8s) (by assumption) (by omega) | exact u8_app (u8_cons (by decide) (by assumption)) (by assumption) | exact fun x hx => by cases hx) (by first | omega | assumption | (simp only [List.length_append] at *; omega)) (by first | omega | assumption | (simp only [List.length_append] at *; omega))) (At.freshRows A rfl))) ?_
  refine .cons (fun E A => A.as 26 2) ?_
  exact .nil _ _
 refine TL.nil ?_
 refine T.ret ?_
 refine ⟨[(false, [.row 1026 []])], (.cons rfl .nil), rfl, [1026], (RetC.o ?_ .nil)⟩ <;> ((congr 1; first | (rw [treeRoot_nil (l := l) (by omega)]; done) | (rw [treeRoot_one (l := l) (by omega)]; done) | (rw [treeRoot_two (l := l) (by omega) (by omega)]; done)))
theorem ok_impl_TreeRoot (l : List (List Int)) (h0_ : ∀ y ∈ l, U8s y) (h1_ : ∀ y ∈ l, y.length ≤ 1048576) : RO Try.prog 13 [.one (.bss l)] [(false, [.own 5 (.ints .u8 (treeRoot l))])] := ok_impl_TreeRoot_r _ l rfl h0_ h1_
theorem ok_impl_consOf_r (d_ : Nat) : ∀ (l : List (List Int)) (m : Int) (known : Bool) (hd_ : l.length = d_) (h0_ : ∀ y ∈ l, U8s y) (h1_ : ∀ y ∈ l, y.length ≤ 1048576) (h2_ : 1 ≤ m ∧ m ≤ (l.length : Int)) (h3_ : l.length ≤ 1048576), RO Try.prog 53 [.one (.bss l), .one (.int .i64 m), .one (.bool known)] [(false, [.own 22 (.bss (consOf l m known))])] := by
 refine Nat.strongRecOn d_ ?_
 intro d_ ih l m known hd_ h0_ h1_ h2_ h3_
 subst hd_
 refine RO.intro Try.func53 rfl 48 rfl (le_ok rfl) fun w Z => ?_
 refine T.bnd 0 0 rfl rfl fun hb_0_0 => ?_
 simp only [D.size, List.length_map] at hb_0_0
 have hsb_ := splitAtT_bd (l.length : Int)
 have hsl_ := splitAtT_le (l.length : Int)
 have hpt_ := part_len l
 refine T.seq ?_
 refine T.region ?_
 refine TL.as (.one (.nil)) ?_
 refine TL.nil ?_
 refine T.seq ?_
 refine T.seq ?_
 refine T.region ?_
 refine TL.mv (pI m) ?_
 refine TL.mv (.one (.d (.bss l))) ?_
 refine TL.c (Step.len (e := 22) (z := 1) (d := (.bss l)) rfl rfl (lt_ok rfl) (by kernel_rfl) rfl rfl) ?_
 refine TL.b _ (Bin.eql (k := .i64) (a := m) (b := (l.length : Int))) ?_
 refine TL.nil ?_
 refine T.ci rfl (fun h1 => ?_) (fun h1 => ?_)
 ·
  refine T.seq ?_
  refine T.seq ?_
  refine T.region ?_
  refine TL.mv (pB known) ?_
  refine TL.nil ?_
  refine T.cond (b := known) rfl (fun h2 => ?_) (fun h2 => ?_)
  ·
   refine T.seq ?_
   refine T.region ?_
   refine TL.c (Step.lit (e := 22) (z := 1) (by_ := 24) (xs := []) (pss := []) (es := []) (ss := []) (d := (.bss [])) rfl rfl (lt_ok rfl) (by kernel_rfl) rfl rfl .nil (by simp) (le_ok rfl) (le_ok rfl) rfl .nil rfl (by simp) (by simp) rfl trivial rfl rfl) ?_
   refine TL.as (.one (.row 13 [])) ?_
   refine TL.nil ?_
   refine T.ret ?_
   refine ⟨[(false, [.row 13 []])], (.cons rfl .nil), rfl, [13], (RetC.o ?_ .nil)⟩ <;> (first | (congr 1; first | (rw [consOf_known (l := l) (m := m) (by omega) (by assumption)]; done) | (rw [consOf_new (l := l) (m := m) (by omega) (by assumption)]; done) | (rw [consOf_left (l := l) (m := m) (by omega) (by omega) (by omega)]; done) | (rw [consOf_right (l := l) (m := m) (by omega) (by omega) (by omega)]; done)) | (simp only [D.size]; rw [consOf_known (l := l) (m := m) (by omega) (by assumption)]; rfl))
  refine T.skip ?_
  refine T.seq ?_
  refine T.region ?_
  refine TL.mv (.one (.d (.bss l))) ?_
  have nn3 := treeRoot_len l
  have nn4 := treeRoot_u8 l
  refine TL.c (Step.cl (xs := [.tmp 14]) (ps := [(.one (.d (.bss l)))]) (g := .func 13) false (.cons (.one (.d _)) .nil) (ok_impl_TreeRoot l (by first | assumption | exact mem_sub (by assumption) _ _ | exact s0.2 | exact o1) (by first | assumption | exact mem_sub (by assumption) _ _ | exact s0.2 | exact s1.2))) ?_
  refine TL.c (Step.lit (e := 22) (z := 1) (by_ := 24) (xs := [.tmp 15]) (pss := [[.row 1015 []]]) (es := [(.ints .u8 (treeRoot l))]) (ss := [1015]) (d := (.bss [treeRoot l])) rfl rfl (lt_ok rfl) (by kernel_rfl) rfl rfl (.cons rfl .nil) (by simp) (le_ok rfl) (le_ok rfl) rfl (.row rfl (by simp) .nil) rfl (by simp) (by simp) rfl trivial rfl rfl) ?_
  refine TL.as (.one (.row 16 [])) ?_
  refine TL.nil ?_
  refine T.ret ?_
  refine ⟨[(false, [.row 16 []])], (.cons rfl .nil), rfl, [16], (RetC.o ?_ .nil)⟩ <;> (first | (congr 1; first | (rw [consOf_known (l := l) (m := m) (by omega) (by assumption)]; done) | (rw [consOf_new (l := l) (m := m) (by omega) (by assumption)]; done) | (rw [consOf_left (l := l) (m := m) (by omega) (by omega) (by omega)]; done) | (rw [consOf_right (l := l) (m := m) (by omega) (by omega) (by omega)]; done)) | (simp only [D.size]; rw [consOf_known (l := l) (m := m) (by omega) (by assumption)]; rfl))
 refine T.skip ?_
 refine T.seq ?_
 refine T.region ?_
 refine TL.mv (.one (.d (.bss l))) ?_
 refine TL.c (Step.len (e := 22) (z := 1) (d := (.bss l)) rfl rfl (lt_ok rfl) (by kernel_rfl) rfl rfl) ?_
 have nn5 := splitAtT_bd (l.length : Int)
 refine TL.c (Step.cl (xs := [.tmp 18]) (ps := [(pI (l.length : Int))]) (g := .func 50) false (.cons (.one (.d _)) .nil) (ok_impl_SplitAt (l.length : Int) (by first | omega | assumption | (simp only [List.length_append] at *; omega)))) ?_
 refine TL.as (pI (splitAtT (l.length : Int))) ?_
 refine TL.nil ?_
 refine T.seq ?_
 refine T.seq ?_
 refine T.region ?_
 refine TL.mv (pI m) ?_
 refine TL.mv (pI (splitAtT (l.length : Int))) ?_
 refine TL.b _ (Bin.leq (k := .i64) (a := m) (b := (splitAtT (l.length : Int)))) ?_
 refine TL.nil ?_
 refine T.ci rfl (fun h6 => ?_) (fun h6 => ?_)
 ·
  refine T.seq ?_
  have nn7 := consOf_len ((l.drop 0).take ((splitAtT (l.length : Int)).toNat - 0)) m known
  have nn8 := treeRoot_len ((l.drop (splitAtT (l.length : Int)).toNat).take (l.length - (splitAtT (l.length : Int)).toNat))
  have nn9 := treeRoot_u8 ((l.drop (splitAtT (l.length : Int)).toNat).take (l.length - (splitAtT (l.length : Int)).toNat))
  refine T.draw [⟨23, (.one (.d (.bss l))), []⟩, ⟨24, (pI (splitAtT (l.length : Int))), []⟩, ⟨25, (.one (.d (.bss ((l.drop 0).take ((splitAtT (l.length : Int)).toNat - 0))))), []⟩, ⟨26, (pI m), []⟩, ⟨27, (pB known), []⟩, ⟨28, (.one (.row 1028 [])), [(1028, (22, (.bss (consOf ((l.drop 0).take ((splitAtT (l.length : Int)).toNat - 0)) m known))))]⟩, ⟨29, (.one (.d (.bss l))), []⟩, ⟨30, (pI (splitAtT (l.length : Int))), []⟩, ⟨31, (.one (.d (.bss ((l.drop (splitAtT (l.length : Int)).toNat).take (l.length - (splitAtT (l.length : Int)).toNat))))), []⟩, ⟨32, (.one (.row 1032 [])), [(1032, (5, (.ints .u8 (treeRoot ((l.drop (splitAtT (l.length : Int)).toNat).take (l.length - (splitAtT (l.length : Int)).toNat))))))]⟩] (by kernel_rfl) (by kernel_rfl) ?_ ?_
  ·
   refine .cons (fun E A => A.mv 0 23) ?_
   refine .cons (fun E A => A.mv 7 24) ?_
   refine .cons (fun E A => OpStep.plain rfl (Step.slice (e := 22) (z := 1) (l := 0) (h := (splitAtT (l.length : Int)).toNat) (t := 25) rfl rfl (by exact lt_ok rfl) (by kernel_rfl) (A.g 23 rfl) rfl rfl (.none _) ((.some (i := (splitAtT (l.length : Int))) (A.g 24 rfl) (by first | omega | (simp; omega)))) (by first | omega | (simp; omega)) (by simp only [D.size]; first | omega | (simp; omega)) rfl)) ?_
   refine .cons (fun E A => A.mv 1 26) ?_
   refine .cons (fun E A => A.mv 2 27) ?_
   refine .cons (fun E A => OpStep.plain rfl (Step.call (f := 53) (xs := [.tmp 25, .tmp 26, .tmp 27]) (ps := [(.one (.d (.bss ((l.drop 0).take ((splitAtT (l.length : Int)).toNat - 0))))), (pI m), (pB known)]) false (g := .func 53) (t := 28) rfl rfl (by exact lt_ok rfl) rfl (by kernel_rfl) (evs_cons (A.g 25 rfl) (evs_cons (A.g 26 rfl) (evs_cons (A.g 27 rfl) (rfl)))) (.cons (.one (.d _)) (.cons (.one (.d _)) (.cons (.one (.d _)) .nil))) (ih ((l.drop 0).take ((splitAtT (l.length : Int)).toNat - 0)).length (by omega) ((l.drop 0).take ((splitAtT (l.length : Int)).toNat - 0)) m known rfl (by first | assumption | exact mem_sub (by assumption) _ _ | exact s0.2) (by first | assumption | exact mem_sub (by assumption) _ _ | exact s0.2) (by first | assumption | omega) (by first | omega | assumption)) (.inr rfl) (At.freshRows A rfl) (by simp) rfl)) ?_
   refine .cons (fun E A => A.mv 0 29) ?_
   refine .cons (fun E A => A.mv 7 30) ?_
   refine .cons (fun E A => OpStep.plain rfl (Step.slice (e := 22) (z := 1) (l := (splitAtT (l.length : Int)).toNat) (h := l.length) (t := 31) rfl rfl (by exact lt_ok rfl) (by kernel_rfl) (A.g 29 rfl) rfl rfl ((.some (i := (splitAtT (l.length : Int))) (A.g 30 rfl) (by first | omega | (simp; omega)))) (.none _) (by first | omega | (simp; omega)) (by simp only [D.size]; first | omega | (simp; omega)) rfl)) ?_
   refine .cons (fun E A => OpStep.plain rfl (Step.cd (xs := [.tmp 31]) (ps := [(.one (.d (.bss ((l.drop (splitAtT (l.length : Int)).toNat).take (l.length - (splitAtT (l.length : Int)).toNat)))))]) (g := .func 13) false 32 (evs_cons (A.g 31 rfl) (rfl)) (.cons (.one (.d _)) .nil) (ok_impl_TreeRoot ((l.drop (splitAtT (l.length : Int)).toNat).take (l.length - (splitAtT (l.length : Int)).toNat)) (by first | assumption | exact mem_sub (by assumption) _ _ | exact s0.2 | exact o1) (by first | assumption | exact mem_sub (by assumption) _ _ | exact s0.2 | exact s1.2)) (At.freshRows A rfl))) ?_
   exact .nil _ _
  refine TL.c (Step.lit (e := 22) (z := 1) (by_ := 24) (xs := [.tmp 32]) (pss := [[.row 1032 []]]) (es := [(.ints .u8 (treeRoot ((l.drop (splitAtT (l.length : Int)).toNat).take (l.length - (splitAtT (l.length : Int)).toNat))))]) (ss := [1032]) (d := (.bss [treeRoot ((l.drop (splitAtT (l.length : Int)).toNat).take (l.length - (splitAtT (l.length : Int)).toNat))])) rfl rfl (lt_ok rfl) (by kernel_rfl) rfl rfl (.cons rfl .nil) (by simp) (le_ok rfl) (le_ok rfl) rfl (.row rfl (by simp) .nil) rfl (by simp) (by simp) rfl trivial rfl rfl) ?_
  refine TL.c (Step.append (e := 22) (z := 1) (by_ := 24) (r := 1028) (d := (.bss (consOf ((l.drop 0).take ((splitAtT (l.length : Int)).toNat - 0)) m known))) (dy := (.bss [treeRoot ((l.drop (splitAtT (l.length : Int)).toNat).take (l.length - (splitAtT (l.length : Int)).toNat))])) (d' := (.bss ((consOf ((l.drop 0).take ((splitAtT (l.length : Int)).toNat - 0)) m known) ++ [treeRoot ((l.drop (splitAtT (l.length : Int)).toNat).take (l.length - (splitAtT (l.length : Int)).toNat))]))) (ss := [33]) rfl rfl (lt_ok rfl) (by kernel_rfl) rfl rfl rfl (lt_ok rfl) rfl (.move rfl) (by simp) rfl (by simp only [D.size, List.length_map]; first | omega | (simp only [List.length_append, List.length_cons, List.length_nil]; omega) | (simp; omega) | (simp only [List.length_append] at *; omega)) (by simp only [D.size, List.length_map]; first | omega | (simp only [List.length_append, List.length_cons, List.length_nil]; omega) | (simp; omega) | (simp only [List.length_append] at *; omega)) (by simp)) ?_
  refine TL.as (.one (.row 1028 [])) ?_
  refine TL.nil ?_
  refine T.ret ?_
  refine ⟨[(false, [.row 1028 []])], (.cons rfl .nil), rfl, [1028], (RetC.o ?_ .nil)⟩ <;> (first | (congr 1; first | (rw [consOf_known (l := l) (m := m) (by omega) (by assumption)]; done) | (rw [consOf_new (l := l) (m := m) (by omega) (by assumption)]; done) | (rw [consOf_left (l := l) (m := m) (by omega) (by omega) (by omega)]; done) | (rw [consOf_right (l := l) (m := m) (by omega) (by omega) (by omega)]; done)) | (simp only [D.size]; rw [consOf_known (l := l) (m := m) (by omega) (by assumption)]; rfl))
 refine T.skip ?_
 refine T.seq ?_
 have nn10 := consOf_len ((l.drop (splitAtT (l.length : Int)).toNat).take (l.length - (splitAtT (l.length : Int)).toNat)) (m - (splitAtT (l.length : Int))) false
 have nn11 := treeRoot_len ((l.drop 0).take ((splitAtT (l.length : Int)).toNat - 0))
 have nn12 := treeRoot_u8 ((l.drop 0).take ((splitAtT (l.length : Int)).toNat - 0))
 refine T.draw [⟨35, (.one (.d (.bss l))), []⟩, ⟨36, (pI (splitAtT (l.length : Int))), []⟩, ⟨37, (.one (.d (.bss ((l.drop (splitAtT (l.length : Int)).toNat).take (l.length - (splitAtT (l.length : Int)).toNat))))), []⟩, ⟨38, (pI m), []⟩, ⟨39, (pI (splitAtT (l.length : Int))), []⟩, ⟨40, (pI (m - (splitAtT (l.length : Int)))), []⟩, ⟨41, (.one (.row 1041 [])), [(1041, (22, (.bss (consOf ((l.drop (splitAtT (l.length : Int)).toNat).take (l.length - (splitAtT (l.length : Int)).toNat)) (m - (splitAtT (l.length : Int))) false))))]⟩, ⟨42, (.one (.d (.bss l))), []⟩, ⟨43, (pI (splitAtT (l.length : Int))), []⟩, ⟨44, (.one (.d (.bss ((l.drop 0).take ((splitAtT (l.length : Int)).toNat - 0))))), []⟩, ⟨45, (.one (.row 1045 [])), [(1045, (5, (.ints .u8 (treeRoot ((l.drop 0).take ((splitAtT (l.length : Int)).toNat - 0))))))]⟩] (by kernel_rfl) (by kernel_rfl) ?_ ?_
 ·
  refine .cons (fun E A => A.mv 0 35) ?_
  refine .cons (fun E A => A.mv 7 36) ?_
  refine .cons (fun E A => OpStep.plain rfl (Step.slice (e := 22) (z := 1) (l := (splitAtT (l.length : Int)).toNat) (h := l.length) (t := 37) rfl rfl (by exact lt_ok rfl) (by kernel_rfl) (A.g 35 rfl) rfl rfl ((.some (i := (splitAtT (l.length : Int))) (A.g 36 rfl) (by first | omega | (simp; omega)))) (.none _) (by first | omega | (simp; omega)) (by simp only [D.size]; first | omega | (simp; omega)) rfl)) ?_
  refine .cons (fun E A => A.mv 1 38) ?_
  refine .cons (fun E A => A.mv 7 39) ?_
  refine .cons (fun E A => OpStep.plain rfl (Step.bd (r := .int .i64 (m - (splitAtT (l.length : Int)))) 40 (A.g 38 rfl) (A.g 39 rfl) (Bin.sub (a := m) (b := (splitAtT (l.length : Int))) (by first | exact wrap_ok (by first | omega | (simp; omega)) (by first | omega | (simp; omega)) | rfl)))) ?_
  refine .cons (fun E A => OpStep.plain rfl (Step.call (f := 53) (xs := [.tmp 37, .tmp 40, .const (.bool false)]) (ps := [(.one (.d (.bss ((l.drop (splitAtT (l.length : Int)).toNat).take (l.length - (splitAtT (l.length : Int)).toNat))))), (pI (m - (splitAtT (l.length : Int)))), (pB false)]) false (g := .func 53) (t := 41) rfl rfl (by exact lt_ok rfl) rfl (by kernel_rfl) (evs_cons (A.g 37 rfl) (evs_cons (A.g 40 rfl) (evs_cons rfl (rfl)))) (.cons (.one (.d _)) (.cons (.one (.d _)) (.cons (.one (.d _)) .nil))) (ih ((l.drop (splitAtT (l.length : Int)).toNat).take (l.length - (splitAtT (l.length : Int)).toNat)).length (by omega) ((l.drop (splitAtT (l.length : Int)).toNat).take (l.length - (splitAtT (l.length : Int)).toNat)) (m - (splitAtT (l.length : Int))) false rfl (by first | assumption | exact mem_sub (by assumption) _ _ | exact s0.2) (by first | assumption | exact mem_sub (by assumption) _ _ | exact s0.2) (by first | assumption | omega) (by first | omega | assumption)) (.inr rfl) (At.freshRows A rfl) (by simp) rfl)) ?_
  refine .cons (fun E A => A.mv 0 42) ?_
  refine .cons (fun E A => A.mv 7 43) ?_
  refine .cons (fun E A => OpStep.plain rfl (Step.slice (e := 22) (z := 1) (l := 0) (h := (splitAtT (l.length : Int)).toNat) (t := 44) rfl rfl (by exact lt_ok rfl) (by kernel_rfl) (A.g 42 rfl) rfl rfl (.none _) ((.some (i := (splitAtT (l.length : Int))) (A.g 43 rfl) (by first | omega | (simp; omega)))) (by first | omega | (simp; omega)) (by simp only [D.size]; first | omega | (simp; omega)) rfl)) ?_
  refine .cons (fun E A => OpStep.plain rfl (Step.cd (xs := [.tmp 44]) (ps := [(.one (.d (.bss ((l.drop 0).take ((splitAtT (l.length : Int)).toNat - 0)))))]) (g := .func 13) false 45 (evs_cons (A.g 44 rfl) (rfl)) (.cons (.one (.d _)) .nil) (ok_impl_TreeRoot ((l.drop 0).take ((splitAtT (l.length : Int)).toNat - 0)) (by first | assumption | exact mem_sub (by assumption) _ _ | exact s0.2 | exact o1) (by first | assumption | exact mem_sub (by assumption) _ _ | exact s0.2 | exact s1.2)) (At.freshRows A rfl))) ?_
  exact .nil _ _
 refine TL.c (Step.lit (e := 22) (z := 1) (by_ := 24) (xs := [.tmp 45]) (pss := [[.row 1045 []]]) (es := [(.ints .u8 (treeRoot ((l.drop 0).take ((splitAtT (l.length : Int)).toNat - 0))))]) (ss := [1045]) (d := (.bss [treeRoot ((l.drop 0).take ((splitAtT (l.length : Int)).toNat - 0))])) rfl rfl (lt_ok rfl) (by kernel_rfl) rfl rfl (.cons rfl .nil) (by simp) (le_ok rfl) (le_ok rfl) rfl (.row rfl (by simp) .nil) rfl (by simp) (by simp) rfl trivial rfl rfl) ?_
 refine TL.c (Step.append (e := 22) (z := 1) (by_ := 24) (r := 1041) (d := (.bss (consOf ((l.drop (splitAtT (l.length : Int)).toNat).take (l.length - (splitAtT (l.length : Int)).toNat)) (m - (splitAtT (l.length : Int))) false))) (dy := (.bss [treeRoot ((l.drop 0).take ((splitAtT (l.length : Int)).toNat - 0))])) (d' := (.bss ((consOf ((l.drop (splitAtT (l.length : Int)).toNat).take (l.length - (splitAtT (l.length : Int)).toNat)) (m - (splitAtT (l.length : Int))) false) ++ [treeRoot ((l.drop 0).take ((splitAtT (l.length : Int)).toNat - 0))]))) (ss := [46]) rfl rfl (lt_ok rfl) (by kernel_rfl) rfl rfl rfl (lt_ok rfl) rfl (.move rfl) (by simp) rfl (by simp only [D.size, List.length_map]; first | omega | (simp only [List.length_append, List.length_cons, List.length_nil]; omega) | (simp; omega) | (simp only [List.length_append] at *; omega)) (by simp only [D.size, List.length_map]; first | omega | (simp only [List.length_append, List.length_cons, List.length_nil]; omega) | (simp; omega) | (simp only [List.length_append] at *; omega)) (by simp)) ?_
 refine TL.as (.one (.row 1041 [])) ?_
 refine TL.nil ?_
 refine T.ret ?_
 refine ⟨[(false, [.row 1041 []])], (.cons rfl .nil), rfl, [1041], (RetC.o ?_ .nil)⟩ <;> (first | (congr 1; first | (rw [consOf_known (l := l) (m := m) (by omega) (by assumption)]; done) | (rw [consOf_new (l := l) (m := m) (by omega) (by assumption)]; done) | (rw [consOf_left (l := l) (m := m) (by omega) (by omega) (by omega)]; done) | (rw [consOf_right (l := l) (m := m) (by omega) (by omega) (by omega)]; done)) | (simp only [D.size]; rw [consOf_known (l := l) (m := m) (by omega) (by assumption)]; rfl))
theorem ok_impl_consOf (l : List (List Int)) (m : Int) (known : Bool) (h0_ : ∀ y ∈ l, U8s y) (h1_ : ∀ y ∈ l, y.length ≤ 1048576) (h2_ : 1 ≤ m ∧ m ≤ (l.length : Int)) (h3_ : l.length ≤ 1048576) : RO Try.prog 53 [.one (.bss l), .one (.int .i64 m), .one (.bool known)] [(false, [.own 22 (.bss (consOf l m known))])] := ok_impl_consOf_r _ l m known rfl h0_ h1_ h2_ h3_
theorem ok_impl_ConsOf (l : List (List Int)) (m : Int) (h0_ : ∀ y ∈ l, U8s y) (h1_ : ∀ y ∈ l, y.length ≤ 1048576) (h2_ : l.length ≤ 1048576) : RO Try.prog 14 [.one (.bss l), .one (.int .i64 m)] [(false, [.own 22 (.bss (consOfT l m))]), (false, [.rd (.bool (decide (1 ≤ m ∧ m ≤ (l.length : Int))))])] := by
 refine RO.intro Try.func14 rfl 14 rfl (le_ok rfl) fun w Z => ?_
 refine T.bnd 0 0 rfl rfl fun hb_0_0 => ?_
 simp only [D.size, List.length_map] at hb_0_0
 refine T.seq ?_
 refine T.region ?_
 refine TL.as (.one (.nil)) ?_
 refine TL.as (pB false) ?_
 refine TL.nil ?_
 refine T.seq ?_
 refine T.seq ?_
 refine T.region ?_
 refine TL.mv (pI m) ?_
 refine TL.mv (.one (.d (.bss l))) ?_
 refine TL.c (Step.len (e := 22) (z := 1) (d := (.bss l)) rfl rfl (lt_ok rfl) (by kernel_rfl) rfl rfl) ?_
 refine TL.c (Step.cl (xs := [.tmp 6, .const (.int .i64 1), .tmp 8]) (ps := [(pI m), (pI 1), (pI (l.length : Int))]) (g := .func 52) false (.cons (.one (.d _)) (.cons (.one (.d _)) (.cons (.one (.d _)) .nil))) (ok_impl_within m 1 (l.length : Int))) ?_
 refine TL.c (Step.not (b := (decide (1 ≤ m ∧ m ≤ (l.length : Int)))) rfl rfl (lt_ok rfl) rfl) ?_
 refine TL.nil ?_
 refine T.cni rfl (fun h1 => ?_) (fun h1 => ?_)
 ·
  refine T.seq ?_
  refine T.region ?_
  refine TL.as (.one (.nil)) ?_
  refine TL.as (pB false) ?_
  refine TL.nil ?_
  refine T.ret ?_
  refine ⟨[(false, [.nil]), (false, [.d (.bool false)])], (.cons rfl (.cons rfl .nil)), rfl, [], (RetC.nn ?_ (RetC.r ?_ .nil))⟩ <;> (first | (congr 1; first | (rw [consOfT_yes (l := l) (m := m) (by omega)]; done) | (rw [consOfT_no (l := l) (m := m) (by omega)]; done) | (symm; exact decide_eq_true (by omega)) | (symm; exact decide_eq_false (by omega))) | (simp only [D.size]; rw [consOfT_no (l := l) (m := m) (by omega)]; rfl))
 refine T.skip ?_
 refine T.seq ?_
 refine T.region ?_
 refine TL.mv (.one (.d (.bss l))) ?_
 refine TL.mv (pI m) ?_
 have nn2 := consOf_len l m true
 refine TL.c (Step.cl (xs := [.tmp 11, .tmp 12, .const (.bool true)]) (ps := [(.one (.d (.bss l))), (pI m), (pB true)]) (g := .func 53) false (.cons (.one (.d _)) (.cons (.one (.d _)) (.cons (.one (.d _)) .nil))) (ok_impl_consOf l m true (by first | assumption | exact mem_sub (by assumption) _ _ | exact s0.2) (by first | assumption | exact mem_sub (by assumption) _ _ | exact s0.2) (by first | assumption | omega) (by first | omega | assumption))) ?_
 refine TL.as (.one (.row 1013 [])) ?_
 refine TL.as (pB true) ?_
 refine TL.nil ?_
 refine T.ret ?_
 refine ⟨[(false, [.row 1013 []]), (false, [.d (.bool true)])], (.cons rfl (.cons rfl .nil)), rfl, [1013], (RetC.o ?_ (RetC.r ?_ .nil))⟩ <;> (first | (congr 1; first | (rw [consOfT_yes (l := l) (m := m) (by omega)]; done) | (rw [consOfT_no (l := l) (m := m) (by omega)]; done) | (symm; exact decide_eq_true (by omega)) | (symm; exact decide_eq_false (by omega))) | (simp only [D.size]; rw [consOfT_no (l := l) (m := m) (by omega)]; rfl))
theorem ok_impl_areSizes (m : Int) (n : Int) : RO Try.prog 54 [.one (.int .i64 m), .one (.int .i64 n)] [(false, [.rd (.bool (sizesOk m n))])] := by
 refine RO.intro Try.func54 rfl 12 rfl (le_ok rfl) fun w Z => ?_
 refine T.seq ?_
 refine T.region ?_
 refine TL.as (pB false) ?_
 refine TL.nil ?_
 refine T.seq ?_
 refine T.region ?_
 refine TL.mv (pI m) ?_
 refine TL.mv (pI n) ?_
 refine TL.c (Step.cl (xs := [.tmp 5, .const (.int .i64 1), .tmp 6]) (ps := [(pI m), (pI 1), (pI n)]) (g := .func 52) false (.cons (.one (.d _)) (.cons (.one (.d _)) (.cons (.one (.d _)) .nil))) (ok_impl_within m 1 n)) ?_
 refine TL.mv (pB (decide (1 ≤ m ∧ m ≤ n))) ?_
 rcases Bool.eq_false_or_eq_true (decide (1 ≤ m ∧ m ≤ n)) with hb1 | hb1
 ·
  refine TL.known 8 hb1 rfl ?_
  have hb1' := hb1
  replace hb1' := of_decide_eq_true hb1'
  refine TL.gm 8 (pI n) ?_
  refine TL.gy 8 (Step.bin rfl rfl (lt_ok rfl) rfl rfl (Bin.leq (k := .i64) (a := n) (b := 1048576))) ?_
  refine TL.pk true (pB (decide (n ≤ 1048576))) ?_
  refine TL.as (pB (decide (n ≤ 1048576))) ?_
  refine TL.nil ?_
  refine T.ret ?_
  refine ⟨[(false, [.d (.bool (decide (n ≤ 1048576)))])], (.cons rfl .nil), rfl, [], (RetC.r ?_ .nil)⟩ <;> ((congr 1; symm; unfold sizesOk; first | exact decide_eq_false (by omega) | exact decide_eq_true (by omega) | (apply decide_eq_decide.2; omega)))
 refine TL.known 8 hb1 rfl ?_
 have hb1' := hb1
 replace hb1' := of_decide_eq_false hb1'
 refine TL.gf 8 ?_
 refine TL.gf 8 ?_
 refine TL.pk false (pB false) ?_
 refine TL.as (pB false) ?_
 refine TL.nil ?_
 refine T.ret ?_
 refine ⟨[(false, [.d (.bool false)])], (.cons rfl .nil), rfl, [], (RetC.r ?_ .nil)⟩ <;> ((congr 1; symm; unfold sizesOk; first | exact decide_eq_false (by omega) | exact decide_eq_true (by omega) | (apply decide_eq_decide.2; omega)))
theorem ok_impl_consLen_r (d_ : Nat) : ∀ (m : Int) (n : Int) (known : Bool) (hd_ : n.toNat = d_) (h0_ : 1 ≤ m ∧ m ≤ n ∧ n ≤ 1048576), RO Try.prog 57 [.one (.int .i64 m), .one (.int .i64 n), .one (.bool known)] [(false, [.rd (.int .i64 (cLen m n known))])] := by
 refine Nat.strongRecOn d_ ?_
 intro d_ ih m n known hd_ h0_
 subst hd_
 refine RO.intro Try.func57 rfl 30 rfl (le_ok rfl) fun w Z => ?_
 have hsb_ := splitAtT_bd n
 refine T.seq ?_
 refine T.region ?_
 refine TL.as (pI 0) ?_
 refine TL.nil ?_
 refine T.seq ?_
 refine T.seq ?_
 refine T.region ?_
 refine TL.mv (pI m) ?_
 refine TL.mv (pI n) ?_
 refine TL.b _ (Bin.eql (k := .i64) (a := m) (b := n)) ?_
 refine TL.nil ?_
 refine T.ci rfl (fun h1 => ?_) (fun h1 => ?_)
 ·
  refine T.seq ?_
  refine T.seq ?_
  refine T.region ?_
  refine TL.mv (pB known) ?_
  refine TL.nil ?_
  refine T.cond (b := known) rfl (fun h2 => ?_) (fun h2 => ?_)
  ·
   refine T.seq ?_
   refine T.region ?_
   refine TL.as (pI 0) ?_
   refine TL.nil ?_
   refine T.ret ?_
   refine ⟨[(false, [cI 0])], (.cons rfl .nil), rfl, [], (RetC.r ?_ .nil)⟩ <;> ((congr 1; first | (rw [cLen_eq (m := m) (n := n) (by omega)]; done) | (rw [cLen_eq (m := m) (n := n) (by omega), show known = true from by assumption]; rfl) | (rw [cLen_eq (m := m) (n := n) (by omega), show known = false from by assumption]; rfl) | (rw [cLen_left (m := m) (n := n) (by omega) (by omega) (by omega)]; done) | (rw [cLen_right (m := m) (n := n) (by omega) (by omega) (by omega)]; done)))
  refine T.skip ?_
  refine T.seq ?_
  refine T.region ?_
  refine TL.as (pI 1) ?_
  refine TL.nil ?_
  refine T.ret ?_
  refine ⟨[(false, [cI 1])], (.cons rfl .nil), rfl, [], (RetC.r ?_ .nil)⟩ <;> ((congr 1; first | (rw [cLen_eq (m := m) (n := n) (by omega)]; done) | (rw [cLen_eq (m := m) (n := n) (by omega), show known = true from by assumption]; rfl) | (rw [cLen_eq (m := m) (n := n) (by omega), show known = false from by assumption]; rfl) | (rw [cLen_left (m := m) (n := n) (by omega) (by omega) (by omega)]; done) | (rw [cLen_right (m := m) (n := n) (by omega) (by omega) (by omega)]; done)))
 refine T.skip ?_
 refine T.seq ?_
 refine T.region ?_
 refine TL.mv (pI n) ?_
 have nn3 := splitAtT_bd n
 refine TL.c (Step.cl (xs := [.tmp 12]) (ps := [(pI n)]) (g := .func 50) false (.cons (.one (.d _)) .nil) (ok_impl_SplitAt n (by first | omega | assumption | (simp only [List.length_append] at *; omega)))) ?_
 refine TL.as (pI (splitAtT n)) ?_
 refine TL.nil ?_
 refine T.seq ?_
 refine T.seq ?_
 refine T.region ?_
 refine TL.mv (pI m) ?_
 refine TL.mv (pI (splitAtT n)) ?_
 refine TL.b _ (Bin.leq (k := .i64) (a := m) (b := (splitAtT n))) ?_
 refine TL.nil ?_
 refine T.ci rfl (fun h4 => ?_) (fun h4 => ?_)
 ·
  refine T.seq ?_
  refine T.region ?_
  refine TL.mv (pI m) ?_
  refine TL.mv (pI (splitAtT n)) ?_
  refine TL.mv (pB known) ?_
  have nn5 := cLen_bd ((splitAtT n)).toNat m (splitAtT n) known (by omega) (by first | omega | (have h_ := of_decide_eq_true (p := 1 ≤ m ∧ m ≤ (splitAtT n) ∧ (splitAtT n) ≤ 1048576) ‹sizesOk m (splitAtT n) = true›; omega))
  refine TL.c (Step.call (f := 57) (xs := [.tmp 17, .tmp 18, .tmp 19]) (ps := [(pI m), (pI (splitAtT n)), (pB known)]) false (g := .func 57) rfl rfl (lt_ok rfl) rfl (by kernel_rfl) rfl (.cons (.one (.d _)) (.cons (.one (.d _)) (.cons (.one (.d _)) .nil))) (ih (splitAtT n).toNat (by omega) m (splitAtT n) known rfl (by first | assumption | omega | exact of_decide_eq_true ‹sizesOk _ _ = true›)) (.inr rfl) rfl (by simp) rfl) ?_
  refine TL.c (Step.bin (r := .int .i64 (1 + (cLen m (splitAtT n) known))) rfl rfl (lt_ok rfl) rfl rfl (Bin.add (a := 1) (b := (cLen m (splitAtT n) known)) (by first | exact wrap_ok (by first | omega | (simp; omega)) (by first | omega | (simp; omega)) | rfl))) ?_
  refine TL.as (pI (1 + (cLen m (splitAtT n) known))) ?_
  refine TL.nil ?_
  refine T.ret ?_
  refine ⟨[(false, [cI (1 + (cLen m (splitAtT n) known))])], (.cons rfl .nil), rfl, [], (RetC.r ?_ .nil)⟩ <;> ((congr 1; first | (rw [cLen_eq (m := m) (n := n) (by omega)]; done) | (rw [cLen_eq (m := m) (n := n) (by omega), show known = true from by assumption]; rfl) | (rw [cLen_eq (m := m) (n := n) (by omega), show known = false from by assumption]; rfl) | (rw [cLen_left (m := m) (n := n) (by omega) (by omega) (by omega)]; done) | (rw [cLen_right (m := m) (n := n) (by omega) (by omega) (by omega)]; done)))
 refine T.skip ?_
 refine T.seq ?_
 refine T.region ?_
 refine TL.mv (pI m) ?_
 refine TL.mv (pI (splitAtT n)) ?_
 refine TL.c (Step.bin (r := .int .i64 (m - (splitAtT n))) rfl rfl (lt_ok rfl) rfl rfl (Bin.sub (a := m) (b := (splitAtT n)) (by first | exact wrap_ok (by first | omega | (simp; omega)) (by first | omega | (simp; omega)) | rfl))) ?_
 refine TL.mv (pI n) ?_
 refine TL.mv (pI (splitAtT n)) ?_
 refine TL.c (Step.bin (r := .int .i64 (n - (splitAtT n))) rfl rfl (lt_ok rfl) rfl rfl (Bin.sub (a := n) (b := (splitAtT n)) (by first | exact wrap_ok (by first | omega | (simp; omega)) (by first | omega | (simp; omega)) | rfl))) ?_
 have nn6 := cLen_bd ((n - (splitAtT n))).toNat (m - (splitAtT n)) (n - (splitAtT n)) false (by omega) (by first | omega | (have h_ := of_decide_eq_true (p := 1 ≤ (m - (splitAtT n)) ∧ (m - (splitAtT n)) ≤ (n - (splitAtT n)) ∧ (n - (splitAtT n)) ≤ 1048576) ‹sizesOk (m - (splitAtT n)) (n - (splitAtT n)) = true›; omega))
 refine TL.c (Step.call (f := 57) (xs := [.tmp 24, .tmp 27, .const (.bool false)]) (ps := [(pI (m - (splitAtT n))), (pI (n - (splitAtT n))), (pB false)]) false (g := .func 57) rfl rfl (lt_ok rfl) rfl (by kernel_rfl) rfl (.cons (.one (.d _)) (.cons (.one (.d _)) (.cons (.one (.d _)) .nil))) (ih (n - (splitAtT n)).toNat (by omega) (m - (splitAtT n)) (n - (splitAtT n)) false rfl (by first | assumption | omega | exact of_decide_eq_true ‹sizesOk _ _ = true›)) (.inr rfl) rfl (by simp) rfl) ?_
 refine TL.c (Step.bin (r := .int .i64 (1 + (cLen (m - (splitAtT n)) (n - (splitAtT n)) false))) rfl rfl (lt_ok rfl) rfl rfl (Bin.add (a := 1) (b := (cLen (m - (splitAtT n)) (n - (splitAtT n)) false)) (by first | exact wrap_ok (by first | omega | (simp; omega)) (by first | omega | (simp; omega)) | rfl))) ?_
 refine TL.as (pI (1 + (cLen (m - (splitAtT n)) (n - (splitAtT n)) false))) ?_
 refine TL.nil ?_
 refine T.ret ?_
 refine ⟨[(false, [cI (1 + (cLen (m - (splitAtT n)) (n - (splitAtT n)) false))])], (.cons rfl .nil), rfl, [], (RetC.r ?_ .nil)⟩ <;> ((congr 1; first | (rw [cLen_eq (m := m) (n := n) (by omega)]; done) | (rw [cLen_eq (m := m) (n := n) (by omega), show known = true from by assumption]; rfl) | (rw [cLen_eq (m := m) (n := n) (by omega), show known = false from by assumption]; rfl) | (rw [cLen_left (m := m) (n := n) (by omega) (by omega) (by omega)]; done) | (rw [cLen_right (m := m) (n := n) (by omega) (by omega) (by omega)]; done)))
theorem ok_impl_consLen (m : Int) (n : Int) (known : Bool) (h0_ : 1 ≤ m ∧ m ≤ n ∧ n ≤ 1048576) : RO Try.prog 57 [.one (.int .i64 m), .one (.int .i64 n), .one (.bool known)] [(false, [.rd (.int .i64 (cLen m n known))])] := ok_impl_consLen_r _ m n known rfl h0_
theorem ok_impl_ConsLen (m : Int) (n : Int) : RO Try.prog 16 [.one (.int .i64 m), .one (.int .i64 n)] [(false, [.rd (.int .i64 (consLenT m n))])] := by
 refine RO.intro Try.func16 rfl 12 rfl (le_ok rfl) fun w Z => ?_
 have hz_ : sizesOk m n = true → 1 ≤ m ∧ m ≤ n ∧ n ≤ 1048576 := of_decide_eq_true
 refine T.seq ?_
 refine T.region ?_
 refine TL.as (pI 0) ?_
 refine TL.nil ?_
 refine T.seq ?_
 refine T.seq ?_
 refine T.region ?_
 refine TL.mv (pI m) ?_
 refine TL.mv (pI n) ?_
 refine TL.c (Step.cl (xs := [.tmp 5, .tmp 6]) (ps := [(pI m), (pI n)]) (g := .func 54) false (.cons (.one (.d _)) (.cons (.one (.d _)) .nil)) (ok_impl_areSizes m n)) ?_
 refine TL.c (Step.not (b := (sizesOk m n)) rfl rfl (lt_ok rfl) rfl) ?_
 refine TL.nil ?_
 refine T.cn rfl (fun h1 => ?_) (fun h1 => ?_)
 ·
  refine T.seq ?_
  refine T.region ?_
  refine TL.as (pI 0) ?_
  refine TL.nil ?_
  refine T.ret ?_
  refine ⟨[(false, [cI 0])], (.cons rfl .nil), rfl, [], (RetC.r ?_ .nil)⟩ <;> ((congr 1; first | (rw [consLenT_yes (m := m) (n := n) (hz_ (by assumption))]; done) | (rw [consLenT_no (m := m) (n := n) (of_decide_eq_false ‹sizesOk m n = false›)]; done)))
 refine T.skip ?_
 refine T.seq ?_
 refine T.region ?_
 refine TL.mv (pI m) ?_
 refine TL.mv (pI n) ?_
 have nn2 := cLen_bd (n).toNat m n true (by omega) (by first | omega | (have h_ := of_decide_eq_true (p := 1 ≤ m ∧ m ≤ n ∧ n ≤ 1048576) ‹sizesOk m n = true›; omega))
 refine TL.c (Step.cl (xs := [.tmp 9, .tmp 10, .const (.bool true)]) (ps := [(pI m), (pI n), (pB true)]) (g := .func 57) false (.cons (.one (.d _)) (.cons (.one (.d _)) (.cons (.one (.d _)) .nil))) (ok_impl_consLen m n true (by first | assumption | omega | exact of_decide_eq_true ‹sizesOk _ _ = true›))) ?_
 refine TL.as (pI (cLen m n true)) ?_
 refine TL.nil ?_
 refine T.ret ?_
 refine ⟨[(false, [cI (cLen m n true)])], (.cons rfl .nil), rfl, [], (RetC.r ?_ .nil)⟩ <;> ((congr 1; first | (rw [consLenT_yes (m := m) (n := n) (hz_ (by assumption))]; done) | (rw [consLenT_no (m := m) (n := n) (of_decide_eq_false ‹sizesOk m n = false›)]; done)))
theorem ok_impl_areHashes (l : List (List Int)) : RO Try.prog 55 [.one (.bss l)] [(false, [.rd (.bool (hashes l))])] := by
 refine RO.intro Try.func55 rfl 15 rfl (le_ok rfl) fun w Z => ?_
 refine T.bnd 0 0 rfl rfl fun hb_0_0 => ?_
 simp only [D.size, List.length_map] at hb_0_0
 refine T.seq ?_
 refine T.region ?_
 refine TL.as (pB false) ?_
 refine TL.nil ?_
 refine T.seq ?_
 refine T.seq ?_
 refine T.region ?_
 refine TL.mv (.one (.d (.bss l))) ?_
 refine TL.c (Step.len (e := 22) (z := 1) (d := (.bss l)) rfl rfl (lt_ok rfl) (by kernel_rfl) rfl rfl) ?_
 refine TL.mv (pI 0) ?_
 refine TL.nil ?_
 refine T.block ?_
 refine T.loop (ι := Nat) (fun xx_ => { tm := [(5, (.one (.d (.bss l)))), (6, (pI (l.length : Int))), (7, (pI (xx_ : Int)))], rows := [], boxes := [] }) (fun xx_ => xx_ ≤ l.length ∧ hashes (l.take xx_) = true) (fun xx_ => l.length - xx_) 0 ?_ ?_ ?_
 · refine Env.le_mk ⟨rfl, rfl, ?_, trivial⟩ trivial trivial <;> (first | rfl | (simp; done) | (congr 3; omega))
 · (refine ⟨Nat.zero_le _, by rw [List.take_zero]; rfl⟩)
 intro i hx
 try dsimp only at hx ⊢
 obtain ⟨hx1, hx2⟩ := hx
 refine T.seq ?_
 refine T.region ?_
 refine TL.b _ (Bin.lss (k := .i64) (a := (i : Int)) (b := (l.length : Int))) ?_
 refine TL.nil ?_
 refine T.seq ?_
 refine T.ci rfl (fun h1 => ?_) (fun h1 => ?_)
 ·
  refine T.skip ?_
  refine T.seq ?_
  refine T.block ?_
  refine T.seq ?_
  refine T.region ?_
  refine TL.c (Step.index (e := 22) (z := 1) (i := (i : Int)) rfl rfl (lt_ok rfl) (by kernel_rfl) rfl rfl rfl (lt_ok rfl) rfl (by first | omega | (simp; omega)) (by simp only [D.size]; first | omega | (simp; omega))) ?_
  refine TL.c (Step.load (e := (.ints .u8 (l.getD i []))) rfl rfl (lt_ok rfl) (by kernel_rfl) rfl rfl) ?_
  refine TL.as (pS (l.getD i [])) ?_
  refine TL.nil ?_
  refine T.seq ?_
  refine T.region ?_
  refine TL.mv (pS (l.getD i [])) ?_
  refine TL.c (Step.len (e := 5) (z := 1) (d := (.ints .u8 (l.getD i []))) rfl rfl (lt_ok rfl) (by kernel_rfl) rfl rfl) ?_
  refine TL.b _ (Bin.neq (k := .i64) (a := ((l.getD i []).length : Int)) (b := 32)) ?_
  refine TL.nil ?_
  refine T.ci rfl (fun h2 => ?_) (fun h2 => ?_)
  ·
   refine T.seq ?_
   refine T.region ?_
   refine TL.as (pB false) ?_
   refine TL.nil ?_
   refine T.ret ?_
   refine ⟨[(false, [.d (.bool false)])], (.cons rfl .nil), rfl, [], (RetC.r ?_ .nil)⟩ <;> ((congr 1; symm; first | (exact hashes_no (i := i) (by omega) (by omega)) | (rw [List.take_of_length_le (by omega)] at hx2; exact hx2)))
  refine T.skip ?_
  refine T.region ?_
  refine TL.c (Step.bin (r := .int .i64 ((i : Int) + 1)) rfl rfl (lt_ok rfl) rfl rfl (Bin.add (a := (i : Int)) (b := 1) (by first | exact wrap_ok (by first | omega | (simp; omega)) (by first | omega | (simp; omega)) | rfl))) ?_
  refine TL.mv (pI ((i : Int) + 1)) ?_
  refine TL.nil ?_
  refine ⟨i + 1, by (refine ⟨by omega, hashes_step (by omega) hx2 (by omega)⟩), by first | omega | (dsimp only; omega), Env.le_mk ⟨rfl, rfl, ?_, trivial⟩ trivial trivial⟩ <;> (first | rfl | (simp; done) | (congr 3; omega))
 refine T.exit ?_
 refine T.seq ?_
 refine T.region ?_
 refine TL.as (pB true) ?_
 refine TL.nil ?_
 refine T.ret ?_
 refine ⟨[(false, [.d (.bool true)])], (.cons rfl .nil), rfl, [], (RetC.r ?_ .nil)⟩ <;> ((congr 1; symm; first | (exact hashes_no (i := i) (by omega) (by omega)) | (rw [List.take_of_length_le (by omega)] at hx2; exact hx2)))
end Go.Proofs.Ytmdojlglemnijaa.Rf
