/- Plain mathematics of this session: loops that end, and what the program's functions come to, over numbers and lists alone. No condition beside what each states. -/
import Derived.Test.YthabpfhhfnibgaaOwn
namespace Go.Proofs.Ythabpfhhfnibgaa.Lib
open Go.RowKit Go.Proofs.YthabpfhhfnibgaaW.PrintWords Go.Proofs.YthabpfhhfnibgaaW.PrintLast Go.Proofs.Ythabpfhhfnibgaa.Own
set_option linter.unusedVariables false

/-! ### 1. Loops -/
/-- A loop that ends: each round from a good state answers, or goes on with a smaller good state and the same target. -/
theorem loop_ev {σ β : Type} (g : Nat → σ → Option β) (Inv : σ → Prop) (μ : σ → Nat) (T : σ → β)
    (h : ∀ s, Inv s → Ev (fun k => g (k + 1) s) (T s) ∨ ∃ s', Inv s' ∧ μ s' < μ s ∧ T s' = T s ∧ ∃ K, ∀ k, K ≤ k → g (k + 1) s = g k s') :
    ∀ s, Inv s → Ev (fun k => g k s) (T s) := by
  have main : ∀ n s, μ s < n → Inv s → Ev (fun k => g k s) (T s) := by
    intro n
    induction n with
    | zero => intro s hs; omega
    | succ n ih =>
      intro s hs hi
      rcases h s hi with ⟨K, hK⟩ | ⟨s', hi', hm, hT, K, hK⟩
      · refine ⟨K + 1, fun k hk => ?_⟩
        obtain ⟨m, rfl⟩ : ∃ m, k = m + 1 := ⟨k - 1, by omega⟩
        exact hK m (by omega)
      · obtain ⟨K', hK'⟩ := ih s' (by omega) hi'
        refine ⟨K + K' + 1, fun k hk => ?_⟩
        obtain ⟨m, rfl⟩ : ∃ m, k = m + 1 := ⟨k - 1, by omega⟩
        have := hK m (by omega)
        show g (m + 1) s = _
        rw [this, ← hT]
        exact hK' m (by omega)
  exact fun s hi => main (μ s + 1) s (by omega) hi

/-- A fold that may end early. -/
def foldE {α σ β : Type} (step : α → σ → σ ⊕ β) (fin : σ → β) : List α → σ → β
  | [], s => fin s
  | x :: xs, s => match step x s with
    | .inl s' => foldE step fin xs s'
    | .inr r => r

/-- A loop by an index over a list. -/
theorem for_ev {α σ β : Type} (l : List α) (g : Nat → Int → σ → Option β) (Inv : Nat → σ → Prop) (step : α → σ → σ ⊕ β) (fin : σ → β)
    (hstep : ∀ (i : Nat) (x : α) (s : σ), l[i]? = some x → Inv i s →
      (∃ s', step x s = .inl s' ∧ Inv (i + 1) s' ∧ ∃ K, ∀ k, K ≤ k → g (k + 1) (i : Int) s = g k ((i + 1 : Nat) : Int) s') ∨ (∃ r, step x s = .inr r ∧ Ev (fun k => g (k + 1) (i : Int) s) r))
    (hend : ∀ s, Inv l.length s → Ev (fun k => g (k + 1) (l.length : Int) s) (fin s)) :
    ∀ s, Inv 0 s → Ev (fun k => g k 0 s) (foldE step fin l s) := by
  have main : ∀ (d i : Nat) (s : σ), i + d = l.length → Inv i s → Ev (fun k => g k (i : Int) s) (foldE step fin (l.drop i) s) := by
    intro d
    induction d with
    | zero =>
      intro i s hd hi
      obtain rfl : i = l.length := by omega
      rw [List.drop_length]
      obtain ⟨K, hK⟩ := hend s hi
      refine ⟨K + 1, fun k hk => ?_⟩
      obtain ⟨m, rfl⟩ : ∃ m, k = m + 1 := ⟨k - 1, by omega⟩
      exact hK m (by omega)
    | succ d ih =>
      intro i s hd hi
      have hlt : i < l.length := by omega
      rw [List.drop_eq_getElem_cons hlt]
      rcases hstep i l[i] s (List.getElem?_eq_getElem hlt) hi with ⟨s', he, hi', K, hK⟩ | ⟨r, he, K, hK⟩
      · obtain ⟨K', hK'⟩ := ih (i + 1) s' (by omega) hi'
        refine ⟨K + K' + 1, fun k hk => ?_⟩
        obtain ⟨m, rfl⟩ : ∃ m, k = m + 1 := ⟨k - 1, by omega⟩
        show g (m + 1) _ s = _
        rw [hK m (by omega)]
        simp only [foldE, he]
        exact hK' m (by omega)
      · refine ⟨K + 1, fun k hk => ?_⟩
        obtain ⟨m, rfl⟩ : ∃ m, k = m + 1 := ⟨k - 1, by omega⟩
        simp only [foldE, he]
        exact hK m (by omega)
  intro s hi
  have := main l.length 0 s (by omega) hi
  simpa using this

/-! ### 2. Small words -/
theorem rd_at {l : List Int} {i : Nat} {x : Int} (h : l[i]? = some x) : rd l (i : Int) = x := by
  unfold rd
  rw [Int.toNat_natCast, List.getD_eq_getElem?_getD, h]
  rfl
theorem getD_at {α : Type} {l : List α} {i : Nat} {x d : α} (h : l[i]? = some x) : l.getD (i : Int).toNat d = x := by
  rw [Int.toNat_natCast, List.getD_eq_getElem?_getD, h]
  rfl
theorem lt_of_at {α : Type} {l : List α} {i : Nat} {x : α} (h : l[i]? = some x) : i < l.length := (List.getElem?_eq_some_iff.1 h).1
theorem wrap_succ {i : Nat} (h : i < 9223372036854775807) : wrap64 ((i : Int) + 1) = ((i + 1 : Nat) : Int) := by unfold wrap64; omega
theorem wrap_id {a : Int} (h0 : -9223372036854775808 ≤ a) (h1 : a ≤ 9223372036854775807) : wrap64 a = a := by unfold wrap64; omega
theorem and_if (b c : Bool) : (if b = true then (some c) else (some false)) = some (b && c) := by cases b <;> rfl
theorem or_if (b c : Bool) : (if b = true then (some true) else (some c)) = some (b || c) := by cases b <;> rfl
theorem dec_if {p : Prop} [Decidable p] (c : Bool) : (if p then (some c) else (some false)) = some (decide p && c) := by by_cases h : p <;> simp [h]
/-- From lo to hi. -/
def inR (a lo hi : Int) : Bool := decide (lo ≤ a) && decide (a ≤ hi)
theorem inR_iff {a lo hi : Int} : inR a lo hi = true ↔ lo ≤ a ∧ a ≤ hi := by simp [inR]
/-- A list of at most 2^20 elements. -/
def Lim {α : Type} (l : List α) : Prop := l.length ≤ 1048576
/-- A list of at most 2^20 elements, for each of which P holds. -/
def LL {α : Type} (P : α → Prop) (l : List α) : Prop := l.length ≤ 1048576 ∧ ∀ x ∈ l, P x
theorem LL_map {α β : Type} {P : α → Prop} {Q : β → Prop} {f : α → β} (h : ∀ x, P x → Q (f x)) {l : List α} (hl : LL P l) : LL Q (l.map f) :=
  ⟨by rw [List.length_map]; exact hl.1, fun x hx => by obtain ⟨y, hy, rfl⟩ := List.mem_map.1 hx; exact h y (hl.2 y hy)⟩
theorem mem_at {α : Type} {l : List α} {i : Nat} {x : α} (h : l[i]? = some x) : x ∈ l := List.mem_of_getElem? h

/-- Copying element by element. -/
theorem set_take {α : Type} {l m : List α} {i : Nat} {x : α} (hl : m.length = l.length) (hx : l[i]? = some x) (h : m.take i = l.take i) : (m.set i x).take (i + 1) = l.take (i + 1) := by
  have hi := lt_of_at hx
  apply List.ext_getElem?
  intro j
  rw [List.getElem?_take, List.getElem?_take]
  by_cases hj : j < i + 1
  · rw [if_pos hj, if_pos hj]
    by_cases hji : j = i
    · subst hji
      rw [List.getElem?_set_self (by omega), hx]
    · rw [List.getElem?_set_ne (fun e => hji e.symm)]
      have h2 := congrArg (fun z => z[j]?) h
      simp only [List.getElem?_take] at h2
      rwa [if_pos (by omega), if_pos (by omega)] at h2
  · rw [if_neg hj, if_neg hj]
theorem take_all {α : Type} {l m : List α} (hl : m.length = l.length) (h : m.take l.length = l.take l.length) : m = l := by
  rw [List.take_of_length_le (by omega), List.take_of_length_le (Nat.le_refl _)] at h
  exact h

/-- Lists of bytes, compared as the program compares them. -/
def sameB (a b : List Int) : Bool := (strOfNums a).toList == (strOfNums b).toList
theorem sameB_refl (a : List Int) : sameB a a = true := by simp [sameB]
theorem sameB_comm (a b : List Int) : sameB a b = sameB b a := by unfold sameB; rw [Bool.eq_iff_iff]; simp only [beq_iff_eq]; exact eq_comm
/-- Lists of them. -/
def allSame : List (List Int) → List (List Int) → Bool
  | [], _ => true
  | _ :: _, [] => true
  | x :: xs, y :: ys => sameB x y && allSame xs ys
/-- Two lists, element by element, as far as the first goes. -/
def allP {α : Type} (p : α → α → Bool) : List α → List α → Bool
  | [], _ => true
  | _ :: _, [] => true
  | x :: xs, y :: ys => p x y && allP p xs ys
theorem allP_cons {α : Type} (p : α → α → Bool) (x y : α) (xs ys : List α) : allP p (x :: xs) (y :: ys) = (p x y && allP p xs ys) := rfl
def sameL (a b : List (List Int)) : Bool := decide (a.length = b.length) && allSame a b
def voteSame (a0 a1 : Int) (l2 : List Int) (a3 : Int) (l4 : List Int) (b0 b1 : Int) (m2 : List Int) (b3 : Int) (m4 : List Int) : Bool :=
  decide (a0 = b0) && decide (a1 = b1) && decide (a3 = b3) && sameB l2 m2 && sameB l4 m4
def qcSame (a0 a1 : Int) (l2 l3 : List Int) (l4 : List (List Int)) (b0 b1 : Int) (m2 m3 : List Int) (m4 : List (List Int)) : Bool :=
  decide (a0 = b0) && decide (a1 = b1) && sameB l2 m2 && sameB l3 m3 && sameL l4 m4
def inclSame (a0 a1 a2 : Int) (l3 : List Int) (l4 : List (List Int)) (b0 b1 b2 : Int) (m3 : List Int) (m4 : List (List Int)) : Bool :=
  decide (a0 = b0) && decide (a1 = b1) && decide (a2 = b2) && sameB l3 m3 && sameL l4 m4
def limitsOk (a0 a1 a2 a3 a4 : Int) : Bool := inR a0 1 10 && (inR a1 0 40 && (inR a2 0 8 && (inR a3 1 4000 && inR a4 3 5)))
/-- A number. -/
def isNum (a : Int) : Bool := inR a 0 1152921504606846975
/-- A hash. -/
def isHash (l : List Int) : Bool := decide (l.length = 32)
def voteOk (a0 a1 a2 a3 a4 : Int) (b0 b1 : Int) (l2 : List Int) (b3 : Int) (l4 : List Int) : Bool :=
  limitsOk a0 a1 a2 a3 a4 && (isNum b0 && (isNum b1 && (isHash l2 && (isHash l4 && inR b3 0 (wrap64 (a0 - 1))))))
def tcHighGo (i : Nat) (m : Int) : List Int → Int
  | [] => m
  | x :: xs => if i = 0 then tcHighGo (i + 1) x xs else if x > m then tcHighGo (i + 1) x xs else tcHighGo (i + 1) m xs
theorem tcHighGo_cons (i : Nat) (m x : Int) (xs : List Int) : tcHighGo i m (x :: xs) = if i = 0 then tcHighGo (i + 1) x xs else if x > m then tcHighGo (i + 1) x xs else tcHighGo (i + 1) m xs := rfl
def tcHigh (l : List Int) : Int := tcHighGo 0 (-1) l
/-- Doubling from x while twice x is below n; d: rounds enough. -/
def splitGo : Nat → Int → Int → Int
  | 0, _, x => x
  | d + 1, n, x => if x < n - x then splitGo d n (2 * x) else x
def splitAt (n : Int) : Int := splitGo n.toNat n 1
theorem splitGo_bd : ∀ (d : Nat) (n x : Int), 1 ≤ x → x < n → 1 ≤ splitGo d n x ∧ splitGo d n x < n
  | 0, n, x, h1, h2 => ⟨h1, h2⟩
  | d + 1, n, x, h1, h2 => by
    unfold splitGo
    by_cases c : x < n - x
    · rw [if_pos c]; exact splitGo_bd d n (2 * x) (by omega) (by omega)
    · rw [if_neg c]; exact ⟨h1, h2⟩
theorem splitAt_bd (n : Int) (hn : 2 ≤ n) : 1 ≤ splitAt n ∧ splitAt n < n := splitGo_bd n.toNat n 1 (by omega) (by omega)
def areSizes (m n : Int) : Bool := inR m 1 n && decide (n ≤ 1048576)
theorem areSizes_iff {m n : Int} : areSizes m n = true ↔ 1 ≤ m ∧ m ≤ n ∧ n ≤ 1048576 := by simp [areSizes, inR, and_assoc]
def consLen : Nat → Int → Int → Bool → Int
  | 0, _, _, _ => 0
  | d + 1, m, n, b => if m = n then (if b = true then 0 else 1) else if m ≤ splitAt n then 1 + consLen d m (splitAt n) b else 1 + consLen d (m - splitAt n) (n - splitAt n) false
theorem consLen_bd : ∀ (d : Nat) (m n : Int) (b : Bool), 0 ≤ consLen d m n b ∧ consLen d m n b ≤ d
  | 0, _, _, _ => ⟨Int.le_refl _, Int.le_refl _⟩
  | d + 1, m, n, b => by
    unfold consLen
    have h1 := consLen_bd d m (splitAt n) b
    have h2 := consLen_bd d (m - splitAt n) (n - splitAt n) false
    split
    · cases b <;> simp <;> omega
    · split <;> omega
theorem consLen_le : ∀ (d : Nat) (m n : Int) (b : Bool), 1 ≤ m → m ≤ n → consLen d m n b ≤ n
  | 0, _, _, _, h1, h2 => by unfold consLen; omega
  | d + 1, m, n, b, h1, h2 => by
    unfold consLen
    by_cases c : m = n
    · rw [if_pos c]; split <;> omega
    · rw [if_neg c]
      have hs := splitAt_bd n (by omega)
      by_cases c2 : m ≤ splitAt n
      · rw [if_pos c2]; have := consLen_le d m (splitAt n) b h1 c2; omega
      · rw [if_neg c2]; have := consLen_le d (m - splitAt n) (n - splitAt n) false (by omega) (by omega); omega
def consLenTop (m n : Int) : Int := if areSizes m n = true then consLen n.toNat m n true else 0
end Go.Proofs.Ythabpfhhfnibgaa.Lib
