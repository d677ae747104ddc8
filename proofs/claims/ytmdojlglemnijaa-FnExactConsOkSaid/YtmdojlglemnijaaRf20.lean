/- A logic of our own over the kit's 'wp': words for what a mark leaves in a row. Plain definitions and theorems. -/
import Derived.Test.YtmdojlglemnijaaRf19
namespace Go.Proofs.Ytmdojlglemnijaa.Rf
open Go.RowKit
set_option linter.unusedVariables false
set_option linter.unnecessarySimpa false
set_option linter.unusedSimpArgs false
/-- Each element anew, counting on. -/
def mkL {α : Type} (cnt : α → Int) (mk : α → Int → α) : List α → Int → List α
  | [], _ => []
  | x :: xs, k => mk x k :: mkL cnt mk xs (k + cnt x)
def cntL {α : Type} (cnt : α → Int) : List α → Int
  | [] => 0
  | x :: xs => cnt x + cntL cnt xs
/-- The first i of them. -/
def upTo {α : Type} (cnt : α → Int) (mk : α → Int → α) (xs : List α) (k : Int) (i : Nat) : List α := mkL cnt mk (xs.take i) k ++ xs.drop i
section
variable {α : Type} {cnt : α → Int} {mk : α → Int → α}
theorem mkL_length : ∀ (xs : List α) (k : Int), (mkL cnt mk xs k).length = xs.length
  | [], _ => rfl
  | x :: xs, k => by simp [mkL, mkL_length xs]
theorem upTo_zero (xs : List α) (k : Int) : upTo cnt mk xs k 0 = xs := by simp [upTo, mkL]
theorem upTo_all {xs : List α} {k : Int} {i : Nat} (h : xs.length ≤ i) : upTo cnt mk xs k i = mkL cnt mk xs k := by simp [upTo, List.take_of_length_le h, List.drop_of_length_le h]
theorem upTo_length (xs : List α) (k : Int) (i : Nat) : (upTo cnt mk xs k i).length = xs.length := by simp [upTo, mkL_length]; omega
theorem mkL_append : ∀ (xs ys : List α) (k : Int), mkL cnt mk (xs ++ ys) k = mkL cnt mk xs k ++ mkL cnt mk ys (k + cntL cnt xs)
  | [], ys, k => by simp [mkL, cntL]
  | x :: xs, ys, k => by simp [mkL, cntL, mkL_append xs ys, Int.add_assoc]
theorem cntL_append : ∀ (xs ys : List α), cntL cnt (xs ++ ys) = cntL cnt xs + cntL cnt ys
  | [], ys => by simp [cntL]
  | x :: xs, ys => by simp [cntL, cntL_append xs ys, Int.add_assoc]
theorem upTo_get {xs : List α} {k : Int} {i : Nat} {df : α} (hi : i < xs.length) : (upTo cnt mk xs k i).getD i df = xs.getD i df := by
  have hl : (mkL cnt mk (xs.take i) k).length = i := by rw [mkL_length]; simp; omega
  simp only [upTo, List.getD_eq_getElem?_getD]
  rw [List.getElem?_append_right (by omega), hl, Nat.sub_self, List.getElem?_drop, Nat.add_zero]
theorem take_succ' {xs : List α} {i : Nat} {df : α} (hi : i < xs.length) : xs.take (i + 1) = xs.take i ++ [xs.getD i df] := by
  rw [List.take_add_one, List.getD_eq_getElem?_getD, List.getElem?_eq_getElem hi]; rfl
theorem drop_cons' {xs : List α} {i : Nat} {df : α} (hi : i < xs.length) : xs.drop i = xs.getD i df :: xs.drop (i + 1) := by
  rw [List.getD_eq_getElem?_getD, List.getElem?_eq_getElem hi]; exact List.drop_eq_getElem_cons hi
theorem upTo_set {xs : List α} {k : Int} {i : Nat} {df : α} (hi : i < xs.length) {y : α} (hy : y = mk (xs.getD i df) (k + cntL cnt (xs.take i))) : (upTo cnt mk xs k i).set i y = upTo cnt mk xs k (i + 1) := by
  have hl : (mkL cnt mk (xs.take i) k).length = i := by rw [mkL_length]; simp; omega
  unfold upTo
  rw [take_succ' (df := df) hi, mkL_append, drop_cons' (df := df) hi, List.set_append_right _ _ (by omega), hl, Nat.sub_self, hy]
  simp [mkL]
theorem cntL_take_succ {xs : List α} {i : Nat} (df : α) (hi : i < xs.length) : cntL cnt (xs.take (i + 1)) = cntL cnt (xs.take i) + cnt (xs.getD i df) := by
  rw [take_succ' (df := df) hi, cntL_append]; simp [cntL]
theorem cntL_nonneg (h0 : ∀ x, 0 ≤ cnt x) : ∀ xs : List α, 0 ≤ cntL cnt xs
  | [] => Int.le_refl _
  | x :: xs => by have := cntL_nonneg h0 xs; have := h0 x; simp only [cntL]; omega
theorem cntL_take_le (h0 : ∀ x, 0 ≤ cnt x) (xs : List α) (i : Nat) : cntL cnt (xs.take i) ≤ cntL cnt xs := by
  have h := cntL_append (cnt := cnt) (xs.take i) (xs.drop i)
  rw [List.take_append_drop] at h
  have := cntL_nonneg h0 (xs.drop i)
  omega
theorem cntL_all {xs : List α} {i : Nat} (h : xs.length ≤ i) : cntL cnt (xs.take i) = cntL cnt xs := by rw [List.take_of_length_le h]
theorem mkL_getD : ∀ (xs : List α) (k : Int) (i : Nat) (df : α), i < xs.length → (mkL cnt mk xs k).getD i df = mk (xs.getD i df) (k + cntL cnt (xs.take i))
  | [], _, i, _, h => by simp at h
  | x :: xs, k, 0, df, h => by simp [mkL, cntL]
  | x :: xs, k, i + 1, df, h => by
    have := mkL_getD xs (k + cnt x) i df (by simpa using h)
    simp only [mkL, List.getD_cons_succ, List.take_succ_cons, cntL, this]
    congr 1; omega
theorem cntL_le {n : Int} : ∀ xs : List α, (∀ x ∈ xs, cnt x ≤ n) → cntL cnt xs ≤ xs.length * n
  | [], _ => by simp [cntL]
  | x :: xs, h => by
    have := cntL_le xs fun y hy => h y (by simp [hy])
    have := h x (by simp)
    simp only [cntL, List.length_cons, Int.natCast_succ, Int.add_mul]
    omega
end
abbrev mkB (xs : List Int) (k : Int) : List Int := mkL (fun _ => 1) (fun _ k => k % 256) xs k
abbrev mkI (xs : List Int) (k : Int) : List Int := mkL (fun _ => 1) (fun _ k => k) xs k
theorem cntL_one : ∀ xs : List Int, cntL (fun _ => 1) xs = xs.length
  | [] => rfl
  | x :: xs => by simp only [cntL, cntL_one xs, List.length_cons, Int.natCast_succ]; omega
theorem cntL_one_take (xs : List Int) (i : Nat) (h : i ≤ xs.length) : cntL (fun _ => 1) (xs.take i) = (i : Int) := by rw [cntL_one]; simp; omega
abbrev mkBs (xs : List (List Int)) (k : Int) : List (List Int) := mkL (fun x => (x.length : Int)) mkB xs k
abbrev cntBs (xs : List (List Int)) : Int := cntL (fun x : List Int => (x.length : Int)) xs
theorem cntBs_nonneg (xs : List (List Int)) : 0 ≤ cntL (fun x : List Int => (x.length : Int)) xs := cntL_nonneg (fun x => by omega) xs
theorem cntBs_le {xs : List (List Int)} (h : xs.length ≤ 1048576 ∧ ∀ y ∈ xs, y.length ≤ 1048576) : cntL (fun x : List Int => (x.length : Int)) xs ≤ 1099511627776 := by
  have h1 := cntL_le (cnt := fun x : List Int => (x.length : Int)) (n := 1048576) xs fun x hx => by have := h.2 x hx; omega
  have h2 := h.1
  have : (xs.length : Int) * 1048576 ≤ 1099511627776 := by omega
  exact Int.le_trans h1 this
theorem wrap_byte (n : Int) : IntKind.u8.wrap n = n % 256 := rfl
/-- A row's length is bounded. -/
theorem T.bndRow {P : Program} {C : Ctx} {c : Code} {E : Env} {Q : Exit → Env → Prop} (r : Nat) {Ty : TypeId} {d : D} (hr : E.row r = some (Ty, d)) (h : d.size ≤ 9223372036854775807 → T P C c E Q) : T P C c E Q := by
  intro a w R
  have ⟨M, R0⟩ := R
  have ho := (R0.rows r Ty d hr).1.2.1
  refine h ?_ a w R
  generalize M.fp r = bs at ho
  generalize M.hdl r = vv at ho
  cases ho with
  | val hv _ => cases d <;> simp [D.val] at hv <;> simp [D.size]
  | empty _ h2 _ _ => omega
  | sl _ _ h3 h4 _ _ _ _ => omega
theorem RowsAre.rd {E : Env} {Ts : Nat → TypeId} {j : Nat} {d : D} {cs : List MC} (h : RowsAre E Ts (j + 1) cs) : RowsAre E Ts j (.rd d :: cs) := h
theorem RowsAre.mk' {E : Env} {Ts : Nat → TypeId} {j : Nat} {d d' : D} {cs : List MC} (h1 : E.row (900 + j) = some (Ts j, d')) (h : RowsAre E Ts (j + 1) cs) : RowsAre E Ts j (.mk d d' :: cs) := ⟨h1, h⟩
theorem RowsAre.nil' {E : Env} {Ts : Nat → TypeId} {j : Nat} : RowsAre E Ts j [] := trivial
section
variable {α : Type} {cnt : α → Int} {mk : α → Int → α}
theorem upTo_self {xs : List α} {k : Int} (i : Nat) (df : α) : (upTo cnt mk xs k i).set i (xs.getD i df) = upTo cnt mk xs k i := by
  by_cases h : i < xs.length
  · rw [← upTo_get (cnt := cnt) (mk := mk) (k := k) (df := df) h]
    have hl := upTo_length (cnt := cnt) (mk := mk) xs k i
    rw [List.getD_eq_getElem?_getD, List.getElem?_eq_getElem (by omega)]
    exact List.set_getElem_self _
  · exact List.set_eq_of_length_le (by rw [upTo_length]; omega)
theorem upTo_first (xs : List α) (k : Int) (df : α) : xs = (upTo cnt mk xs k 0).set 0 (xs.getD 0 df) := by rw [upTo_self, upTo_zero]
theorem upTo_next {xs : List α} {k : Int} {i : Nat} {df : α} (hi : i < xs.length) {y : α} (hy : y = mk (xs.getD i df) (k + cntL cnt (xs.take i))) : (upTo cnt mk xs k i).set i y = (upTo cnt mk xs k (i + 1)).set (i + 1) (xs.getD (i + 1) df) := by
  rw [upTo_self]; exact upTo_set hi hy
theorem upTo_end {xs : List α} {k : Int} {i : Nat} {df : α} (hi : xs.length ≤ i) : (upTo cnt mk xs k i).set i (xs.getD i df) = mkL cnt mk xs k := by
  rw [upTo_self]; exact upTo_all hi
end
theorem cell_set_sl {α : Type} {enc : α → List D} {z : Nat} {U : List α} {i j : Nat} {y : α} {x : D} (hi : i < U.length) (h : (enc y).getD j (.bool false) = x) : (D.sl z ((U.set i y).map enc)).at_ [(i, j)] = x := by
  show (D.sl z ((U.set i y).map enc)).cell i j = x
  rw [cell_map y (by simpa using hi)]
  have e : (U.set i y).getD i y = y := by rw [List.getD_eq_getElem?_getD, List.getElem?_set_self (by simpa using hi)]; rfl
  rw [e]
  exact h
theorem cell_set_bss {U : List (List Int)} {i : Nat} {y : List Int} (hi : i < U.length) : (D.bss (U.set i y)).at_ [(i, 0)] = .ints .u8 y := by
  show (D.bss (U.set i y)).cell i 0 = _
  simp only [D.cell, List.getD_eq_getElem?_getD]
  rw [List.getElem?_set_self (by simpa using hi)]
  rfl
theorem Putd.fld2 {α : Type} {enc : α → List D} {z : Nat} (hl : ∀ y, (enc y).length = z) {U : List α} {i j : Nat} {y y' : α} {x : D} (hi : i < U.length) (hj : j < z) (h : enc y' = (enc y).set j x) : Putd (.sl z ((U.set i y).map enc)) i j [x] (.sl z ((U.set i y').map enc)) := by
  have := Putd.fld hl (xs := U.set i y) (i := i) (j := j) (df := y) (y := y') (x := x) (by simpa using hi) hj (by
    rw [List.getD_eq_getElem?_getD, List.getElem?_set_self (by simpa using hi)]; exact h)
  rwa [List.set_set] at this
theorem putAt_fld2 {α : Type} {enc : α → List D} {z : Nat} {U : List α} {i j : Nat} {y y' : α} {x : D} (hi : i < U.length) (h : enc y' = (enc y).set j x) : (D.sl z ((U.set i y).map enc)).putAt [(i, j)] x = some (.sl z ((U.set i y').map enc)) := by
  have := putAt_fld (enc := enc) (z := z) (xs := U.set i y) (i := i) (j := j) (df := y) (y := y') (x := x) (by simpa using hi) (by
    rw [List.getD_eq_getElem?_getD, List.getElem?_set_self (by simpa using hi)]; exact h)
  rwa [List.set_set] at this
theorem putAt_bss2 {U : List (List Int)} {i : Nat} {y y' : List Int} : (D.bss (U.set i y)).putAt [(i, 0)] (.ints .u8 y') = some (.bss (U.set i y')) := by
  rw [putAt_bss, List.set_set]
theorem ofRow_sl {r : Nat} {p : List (Nat × Nat)} {i j : Nat} {e e' : D} (h : e = e') (hs : e'.isSl = true) : PC.ofRow r p i j e = .row r (p ++ [(i, j)]) := by subst h; simp [PC.ofRow, hs]
theorem mkB_len (xs : List Int) (k : Int) : (mkB xs k).length = xs.length := mkL_length xs k
end Go.Proofs.Ytmdojlglemnijaa.Rf
