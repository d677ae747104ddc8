/- Words of bits, of trees and of paths; the index of a text; shifts. Plain definitions and theorems. -/
import Derived.Test.YtmdojlglemnijaaRf22
namespace Go.Proofs.Ytmdojlglemnijaa.Rf
open Go.RowKit
set_option linter.unusedVariables false
set_option linter.unnecessarySimpa false
set_option linter.unusedSimpArgs false
def rd (l : List Int) (i : Int) : Int := l.getD i.toNat 0
theorem rd_at {l : List Int} {i : Nat} {x : Int} (h : l[i]? = some x) : rd l (i : Int) = x := by simp [rd, List.getD_eq_getElem?_getD, h]
theorem lt_of_at {α : Type} {l : List α} {i : Nat} {x : α} (h : l[i]? = some x) : i < l.length := (List.getElem?_eq_some_iff.1 h).1
def inR (a lo hi : Int) : Bool := decide (lo ≤ a) && decide (a ≤ hi)
theorem inR_iff {a lo hi : Int} : inR a lo hi = true ↔ lo ≤ a ∧ a ≤ hi := by simp [inR]
theorem inR_dec (a lo hi : Int) : inR a lo hi = decide (lo ≤ a ∧ a ≤ hi) := by rw [Bool.eq_iff_iff]; simp [inR]
theorem getD_u8 {l : List Int} (h : U8s l) (i : Nat) : 0 ≤ l.getD i 0 ∧ l.getD i 0 ≤ 255 := by
  rw [List.getD_eq_getElem?_getD]
  cases hx : l[i]? with
  | none => simp
  | some x => simpa using h x (List.mem_of_getElem? hx)
/-- Doubling from x while twice x is below n; d: rounds enough. -/
def splitGo : Nat → Int → Int → Int
  | 0, _, x => x
  | d + 1, n, x => if x < n - x then splitGo d n (2 * x) else x
def splitAt (n : Int) : Int := splitGo n.toNat n 1
theorem splitGo_bd : ∀ (d : Nat) (n x : Int), 1 ≤ x → x < n → 1 ≤ splitGo d n x ∧ splitGo d n x < n
  | 0, n, x, h1, h2 => ⟨h1, h2⟩
  | d + 1, n, x, h1, h2 => by
    unfold splitGo
    by_cases c : x < n - x
    · rw [if_pos c]; exact splitGo_bd d n (2 * x) (by omega) (by omega)
    · rw [if_neg c]; exact ⟨h1, h2⟩
theorem splitAt_bd (n : Int) (hn : 2 ≤ n) : 1 ≤ splitAt n ∧ splitAt n < n := splitGo_bd n.toNat n 1 (by omega) (by omega)
/-- Is the bit set. -/
def bitHas (l : List Int) (i : Int) : Bool := decide (0 ≤ i) && (decide (i / 8 < l.length) && decide (rd l (i / 8) / 2 ^ (i % 8).toNat % 2 = 1))
/-- The set bits among d bits from i. -/
def bitsGo (l : List Int) : Nat → Nat → List Int
  | 0, _ => []
  | d + 1, i => if bitHas l i = true then (i : Int) :: bitsGo l d (i + 1) else bitsGo l d (i + 1)
def bitList (l : List Int) : List Int := bitsGo l (8 * l.length) 0
theorem bitsGo_len (l : List Int) : ∀ d i, (bitsGo l d i).length ≤ d
  | 0, _ => Nat.le_refl _
  | d + 1, i => by
    have := bitsGo_len l d (i + 1)
    unfold bitsGo; split
    · rw [List.length_cons]; omega
    · omega
theorem bitsGo_ge (l : List Int) : ∀ d i x, x ∈ bitsGo l d i → (i : Int) ≤ x ∧ x < ((i + d : Nat) : Int)
  | 0, _, x, h => by cases h
  | d + 1, i, x, h => by
    unfold bitsGo at h
    have ih := bitsGo_ge l d (i + 1) x
    split at h
    · rcases List.mem_cons.1 h with rfl | h
      · exact ⟨Int.le_refl _, by omega⟩
      · have := ih h; omega
    · have := ih h; omega
/-- Growing lists: the last bounds all. -/
theorem bitsGo_last (l : List Int) (n : Int) : ∀ d i, (bitsGo l d i).all (fun x => decide (x < n)) = match (bitsGo l d i).getLast? with | none => true | some x => decide (x < n)
  | 0, _ => rfl
  | d + 1, i => by
    have ih := bitsGo_last l n d (i + 1)
    have hg := bitsGo_ge l d (i + 1)
    unfold bitsGo
    split
    · rw [List.all_cons, ih, List.getLast?_cons]
      cases h : (bitsGo l d (i + 1)).getLast? with
      | none => simp
      | some y =>
        have hy := hg y (List.mem_of_getLast? h)
        simp only [Option.getD_some]
        by_cases c : y < n
        · rw [decide_eq_true c, decide_eq_true (by omega)]; rfl
        · rw [decide_eq_false c, Bool.and_false]
    · exact ih
theorem bitList_len (l : List Int) : (bitList l).length ≤ 8 * l.length := bitsGo_len l _ _
theorem bitList_bd {l : List Int} {x : Int} (h : x ∈ bitList l) : 0 ≤ x ∧ x < 8 * l.length := by have := bitsGo_ge l _ _ x h; omega
theorem all_last {xs : List Int} {n : Int} (h : xs.all (fun x => decide (x < n)) = match xs.getLast? with | none => true | some x => decide (x < n)) (hx : 0 < xs.length) : decide (rd xs ((xs.length : Int) - 1) < n) = xs.all (fun x => decide (x < n)) := by
  have e : xs.getLast? = some (rd xs ((xs.length : Int) - 1)) := by
    rw [List.getLast?_eq_getElem?, show ((xs.length : Int) - 1) = ((xs.length - 1 : Nat) : Int) by omega]
    have : xs.length - 1 < xs.length := by omega
    rw [List.getElem?_eq_getElem this, rd_at (List.getElem?_eq_getElem this)]
  rw [h, e]
/-- The bits of a byte, counted. -/
def ones (x : Int) : Int := (if x / 1 % 2 = 1 then 1 else 0) + (if x / 2 % 2 = 1 then 1 else 0) + (if x / 4 % 2 = 1 then 1 else 0) + (if x / 8 % 2 = 1 then 1 else 0) + (if x / 16 % 2 = 1 then 1 else 0) + (if x / 32 % 2 = 1 then 1 else 0) + (if x / 64 % 2 = 1 then 1 else 0) + (if x / 128 % 2 = 1 then 1 else 0)
theorem ones_bd (x : Int) : 0 ≤ ones x ∧ ones x ≤ 8 := by unfold ones; omega
theorem bitHas_at {l : List Int} {j : Nat} {x : Int} (h : l[j]? = some x) (t : Nat) (ht : t < 8) : bitHas l ((8 * j + t : Nat) : Int) = decide (x / 2 ^ t % 2 = 1) := by
  have hj := lt_of_at h
  have e1 : ((8 * j + t : Nat) : Int) / 8 = (j : Int) := by omega
  have e2 : (((8 * j + t : Nat) : Int) % 8).toNat = t := by omega
  unfold bitHas
  rw [e1, e2, rd_at h, decide_eq_true (show (0 : Int) ≤ ((8 * j + t : Nat) : Int) by omega), decide_eq_true (show (j : Int) < (l.length : Int) by omega), Bool.true_and, Bool.true_and]
theorem bitsGo_step (l : List Int) (d i : Nat) : ((bitsGo l (d + 1) i).length : Int) = (if bitHas l i = true then 1 else 0) + ((bitsGo l d (i + 1)).length : Int) := by
  show ((if bitHas l i = true then (i : Int) :: bitsGo l d (i + 1) else bitsGo l d (i + 1)).length : Int) = _
  split
  · rw [List.length_cons]; omega
  · omega
theorem bitsGo_eight {l : List Int} {j d : Nat} {x : Int} (h : l[j]? = some x) : ((bitsGo l (8 * (d + 1)) (8 * j)).length : Int) = ones x + ((bitsGo l (8 * d) (8 * (j + 1))).length : Int) := by
  rw [show 8 * (d + 1) = 8 * d + 1 + 1 + 1 + 1 + 1 + 1 + 1 + 1 by omega, show 8 * (j + 1) = 8 * j + 1 + 1 + 1 + 1 + 1 + 1 + 1 + 1 by omega]
  iterate 8 rw [bitsGo_step]
  have b := fun t ht => bitHas_at h t ht
  have b0 := b 0 (by decide); have b1 := b 1 (by decide); have b2 := b 2 (by decide); have b3 := b 3 (by decide); have b4 := b 4 (by decide); have b5 := b 5 (by decide); have b6 := b 6 (by decide); have b7 := b 7 (by decide)
  simp only [Nat.add_assoc, Nat.reduceAdd, Nat.add_zero] at b0 b1 b2 b3 b4 b5 b6 b7 ⊢
  rw [b0, b1, b2, b3, b4, b5, b6, b7]
  simp only [decide_eq_true_eq]
  unfold ones
  simp only [Int.reducePow]
  omega
def onesSum : List Int → Int
  | [] => 0
  | x :: xs => ones x + onesSum xs
theorem onesSum_len (l : List Int) : ∀ d j, j + d = l.length → onesSum (l.drop j) = ((bitsGo l (8 * d) (8 * j)).length : Int) := by
  intro d
  induction d with
  | zero => intro j hj; rw [List.drop_of_length_le (by omega)]; rfl
  | succ d ih =>
    intro j hj
    have hlt : j < l.length := by omega
    rw [List.drop_eq_getElem_cons hlt, bitsGo_eight (List.getElem?_eq_getElem hlt), ← ih (j + 1) (by omega)]
    rfl
theorem onesSum_all (l : List Int) : onesSum l = ((bitList l).length : Int) := by simpa [bitList] using onesSum_len l l.length 0 (by omega)
def bitsSize (n : Int) : Int := if n < 1 then 0 else (n - 1) / 8 + 1
theorem div_pow_bd {x : Int} (h0 : 0 ≤ x) (h1 : x ≤ 255) (t : Nat) : 0 ≤ x / 2 ^ t ∧ x / 2 ^ t ≤ 255 := by
  have hp : (0 : Int) < 2 ^ t := Int.pow_pos (by decide)
  refine ⟨Int.ediv_nonneg h0 (by omega), ?_⟩
  have := Int.ediv_le_self (2 ^ t) h0
  omega
/-! ### 5. Paths, heads, proofs -/
def pathLen : Nat → Int → Int → Int
  | 0, _, _ => 0
  | d + 1, i, n => if n < 2 then 0 else if i < splitAt n then 1 + pathLen d i (splitAt n) else 1 + pathLen d (i - splitAt n) (n - splitAt n)
theorem pathLen_bd : ∀ (d : Nat) (i n : Int), 0 ≤ pathLen d i n ∧ pathLen d i n ≤ d
  | 0, _, _ => ⟨Int.le_refl _, Int.le_refl _⟩
  | d + 1, i, n => by
    unfold pathLen
    have h1 := pathLen_bd d i (splitAt n)
    have h2 := pathLen_bd d (i - splitAt n) (n - splitAt n)
    split
    · omega
    · split <;> omega
theorem pathLen_le : ∀ (d : Nat) (i n : Int), 1 ≤ n → 0 ≤ i → i < n → pathLen d i n ≤ n - 1
  | 0, _, _, h1, h2, h3 => by unfold pathLen; omega
  | d + 1, i, n, h1, h2, h3 => by
    unfold pathLen
    by_cases c : n < 2
    · rw [if_pos c]; omega
    · rw [if_neg c]
      have hs := splitAt_bd n (by omega)
      by_cases c2 : i < splitAt n
      · rw [if_pos c2]; have := pathLen_le d i (splitAt n) hs.1 h2 c2; omega
      · rw [if_neg c2]; have := pathLen_le d (i - splitAt n) (n - splitAt n) (by omega) (by omega) (by omega); omega

theorem bitsGo_next (b : List Int) {n i : Nat} (h : i < n) : bitsGo b (n - i) i = (if bitHas b (i : Int) = true then [(i : Int)] else []) ++ bitsGo b (n - (i + 1)) (i + 1) := by
  obtain ⟨d, hd⟩ : ∃ d, n - i = d + 1 := ⟨n - i - 1, by omega⟩
  rw [hd, show n - (i + 1) = d from by omega, bitsGo]
  split <;> simp [*]
theorem bitsGo_end (b : List Int) {n i : Nat} (h : n ≤ i) : bitsGo b (n - i) i = [] := by rw [show n - i = 0 from by omega]; rfl
theorem onesSum_drop (b : List Int) {i : Nat} (h : i < b.length) : onesSum (b.drop i) = ones (b.getD i 0) + onesSum (b.drop (i + 1)) := by
  rw [drop_cons' (df := 0) h]; rfl
theorem shr_ok {a b : Int} {n : Nat} (h0 : 0 ≤ b) (h : b < n) : a.fdiv (2 ^ (min b.toNat n)) = a / 2 ^ b.toNat := by
  rw [Nat.min_eq_left (by omega)]
  exact Int.fdiv_eq_ediv_of_nonneg _ (Int.le_of_lt (Int.pow_pos (by decide)))
theorem and1_u8 {a : Int} (h0 : 0 ≤ a) (h1 : a ≤ 255) : IntKind.u8.wrap (BitVec.ofInt IntKind.u8.bits a &&& BitVec.ofInt IntKind.u8.bits 1).toNat = a % 2 := by
  have key : ∀ n : Fin 256, IntKind.u8.wrap (BitVec.ofInt IntKind.u8.bits ((n.val : Nat) : Int) &&& BitVec.ofInt IntKind.u8.bits 1).toNat = ((n.val : Nat) : Int) % 2 := by decide +kernel
  have := key ⟨a.toNat, by omega⟩
  rwa [show ((a.toNat : Nat) : Int) = a from by omega] at this
/-- A byte of a text. -/
theorem Step.index_str {P : Program} {C : Ctx} {o : Oper} {E : Env} {t : Nat} {T : TypeId} {x y : Operand} {s : ByteArray} {k : IntKind} {i c : Int} (ho : o.op = .index T x y) (hd : o.dst = some t) (ht : t < C.n) (hT : P.underlying T = some .string) (hx : E.ev x = .one (.d (.str s))) (hy : E.ev y = .one (.d (.int k i)))
    (h0 : 0 ≤ i) (hc : (s[i.toNat]?).map (fun b => ((b.toNat : Nat) : Int)) = some c) : Step P C o E (E.set t (.one (.d (.int .u8 c)))) :=
  .value hd ht fun M a w R => by
    refine ⟨.int .u8 c, ?_, ok_val M E w rfl⟩
    unfold execOp
    rw [ho]
    obtain ⟨b, hb, hbc⟩ := Option.map_eq_some_iff.1 hc
    have hrun : (Instr.index T (a.eval x) (a.eval y)).run P w = .ok (.int .u8 c) w := by
      rw [ev_val R hx rfl, ev_val R hy rfl]
      simp only [Instr.index, asIntOf, Sem.run_bind, Sem.run_pure, Result.andThen, run_underlying hT]
      rw [if_pos h0, hb]
      simp only [Sem.run_pure, ← hbc]
    simp only [Sem.run_bind, hrun, Result.andThen, Sem.run_pure]
theorem app_sl {α : Type} {enc : α → List D} {z : Nat} {xs ys : List α} : (D.sl z (xs.map enc)).app (.sl z (ys.map enc)) = some (.sl z ((xs ++ ys).map enc)) := by simp [D.app]
theorem mem_len {xs : List (List Int)} {q : Nat} (h : ∀ y ∈ xs, y.length ≤ q) (i : Nat) : (xs.getD i []).length ≤ q := by
  rw [List.getD_eq_getElem?_getD]
  cases hx : xs[i]? with
  | none => simp
  | some x => simpa using h x (List.mem_of_getElem? hx)
end Go.Proofs.Ytmdojlglemnijaa.Rf
