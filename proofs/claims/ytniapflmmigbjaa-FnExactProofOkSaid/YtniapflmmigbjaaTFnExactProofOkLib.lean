/- Plain mathematics of this session: loops that end, and what the program's functions come to, over numbers and lists alone. No condition beside what each states. -/
import Derived.Test.YtniapflmmigbjaaTFnExactProofOkOwn
namespace Go.Proofs.Ytniapflmmigbjaa.Lib
open Go.RowKit Go.Proofs.YtniapflmmigbjaaW.PrintWords Go.Proofs.YtniapflmmigbjaaW.PrintLast Go.Proofs.Ytniapflmmigbjaa.Own
set_option linter.unusedVariables false
set_option linter.unusedSimpArgs false

/-! ### 1. Loops -/
/-- A loop that ends: each round from a good state answers, or goes on with a smaller good state and the same target. -/
theorem loop_ev {σ β : Type} (g : Nat → σ → Option β) (Inv : σ → Prop) (μ : σ → Nat) (T : σ → β)
    (h : ∀ s, Inv s → Ev (fun k => g (k + 1) s) (T s) ∨ ∃ s', Inv s' ∧ μ s' < μ s ∧ T s' = T s ∧ ∃ K, ∀ k, K ≤ k → g (k + 1) s = g k s') :
    ∀ s, Inv s → Ev (fun k => g k s) (T s) := by
  have main : ∀ n s, μ s < n → Inv s → Ev (fun k => g k s) (T s) := by
    intro n
    induction n with
    | zero => intro s hs; omega
    | succ n ih =>
      intro s hs hi
      rcases h s hi with ⟨K, hK⟩ | ⟨s', hi', hm, hT, K, hK⟩
      · refine ⟨K + 1, fun k hk => ?_⟩
        obtain ⟨m, rfl⟩ : ∃ m, k = m + 1 := ⟨k - 1, by omega⟩
        exact hK m (by omega)
      · obtain ⟨K', hK'⟩ := ih s' (by omega) hi'
        refine ⟨K + K' + 1, fun k hk => ?_⟩
        obtain ⟨m, rfl⟩ : ∃ m, k = m + 1 := ⟨k - 1, by omega⟩
        have := hK m (by omega)
        show g (m + 1) s = _
        rw [this, ← hT]
        exact hK' m (by omega)
  exact fun s hi => main (μ s + 1) s (by omega) hi

/-- A fold that may end early. -/
def foldE {α σ β : Type} (step : α → σ → σ ⊕ β) (fin : σ → β) : List α → σ → β
  | [], s => fin s
  | x :: xs, s => match step x s with
    | .inl s' => foldE step fin xs s'
    | .inr r => r

/-- A loop by an index over a list. -/
theorem for_ev {α σ β : Type} (l : List α) (g : Nat → Int → σ → Option β) (Inv : Nat → σ → Prop) (step : α → σ → σ ⊕ β) (fin : σ → β)
    (hstep : ∀ (i : Nat) (x : α) (s : σ), l[i]? = some x → Inv i s →
      (∃ s', step x s = .inl s' ∧ Inv (i + 1) s' ∧ ∃ K, ∀ k, K ≤ k → g (k + 1) (i : Int) s = g k ((i + 1 : Nat) : Int) s') ∨ (∃ r, step x s = .inr r ∧ Ev (fun k => g (k + 1) (i : Int) s) r))
    (hend : ∀ s, Inv l.length s → Ev (fun k => g (k + 1) (l.length : Int) s) (fin s)) :
    ∀ s, Inv 0 s → Ev (fun k => g k 0 s) (foldE step fin l s) := by
  have main : ∀ (d i : Nat) (s : σ), i + d = l.length → Inv i s → Ev (fun k => g k (i : Int) s) (foldE step fin (l.drop i) s) := by
    intro d
    induction d with
    | zero =>
      intro i s hd hi
      obtain rfl : i = l.length := by omega
      rw [List.drop_length]
      obtain ⟨K, hK⟩ := hend s hi
      refine ⟨K + 1, fun k hk => ?_⟩
      obtain ⟨m, rfl⟩ : ∃ m, k = m + 1 := ⟨k - 1, by omega⟩
      exact hK m (by omega)
    | succ d ih =>
      intro i s hd hi
      have hlt : i < l.length := by omega
      rw [List.drop_eq_getElem_cons hlt]
      rcases hstep i l[i] s (List.getElem?_eq_getElem hlt) hi with ⟨s', he, hi', K, hK⟩ | ⟨r, he, K, hK⟩
      · obtain ⟨K', hK'⟩ := ih (i + 1) s' (by omega) hi'
        refine ⟨K + K' + 1, fun k hk => ?_⟩
        obtain ⟨m, rfl⟩ : ∃ m, k = m + 1 := ⟨k - 1, by omega⟩
        show g (m + 1) _ s = _
        rw [hK m (by omega)]
        simp only [foldE, he]
        exact hK' m (by omega)
      · refine ⟨K + 1, fun k hk => ?_⟩
        obtain ⟨m, rfl⟩ : ∃ m, k = m + 1 := ⟨k - 1, by omega⟩
        simp only [foldE, he]
        exact hK m (by omega)
  intro s hi
  have := main l.length 0 s (by omega) hi
  simpa using this

/-! ### 2. Small words -/
theorem rd_at {l : List Int} {i : Nat} {x : Int} (h : l[i]? = some x) : rd l (i : Int) = x := by
  unfold rd
  rw [Int.toNat_natCast, List.getD_eq_getElem?_getD, h]
  rfl
theorem getD_at {α : Type} {l : List α} {i : Nat} {x d : α} (h : l[i]? = some x) : l.getD (i : Int).toNat d = x := by
  rw [Int.toNat_natCast, List.getD_eq_getElem?_getD, h]
  rfl
theorem lt_of_at {α : Type} {l : List α} {i : Nat} {x : α} (h : l[i]? = some x) : i < l.length := (List.getElem?_eq_some_iff.1 h).1
theorem wrap_succ {i : Nat} (h : i < 9223372036854775807) : wrap64 ((i : Int) + 1) = ((i + 1 : Nat) : Int) := by unfold wrap64; omega
theorem wrap_id {a : Int} (h0 : -9223372036854775808 ≤ a) (h1 : a ≤ 9223372036854775807) : wrap64 a = a := by unfold wrap64; omega
theorem and_if (b c : Bool) : (if b = true then (some c) else (some false)) = some (b && c) := by cases b <;> rfl
theorem or_if (b c : Bool) : (if b = true then (some true) else (some c)) = some (b || c) := by cases b <;> rfl
theorem dec_if {p : Prop} [Decidable p] (c : Bool) : (if p then (some c) else (some false)) = some (decide p && c) := by by_cases h : p <;> simp [h]
/-- From lo to hi. -/
def inR (a lo hi : Int) : Bool := decide (lo ≤ a) && decide (a ≤ hi)
theorem inR_iff {a lo hi : Int} : inR a lo hi = true ↔ lo ≤ a ∧ a ≤ hi := by simp [inR]
/-- A list of at most 2^20 elements. -/
def Lim {α : Type} (l : List α) : Prop := l.length ≤ 1048576
/-- A list of at most 2^20 elements, for each of which P holds. -/
def LL {α : Type} (P : α → Prop) (l : List α) : Prop := l.length ≤ 1048576 ∧ ∀ x ∈ l, P x
theorem LL_map {α β : Type} {P : α → Prop} {Q : β → Prop} {f : α → β} (h : ∀ x, P x → Q (f x)) {l : List α} (hl : LL P l) : LL Q (l.map f) :=
  ⟨by rw [List.length_map]; exact hl.1, fun x hx => by obtain ⟨y, hy, rfl⟩ := List.mem_map.1 hx; exact h y (hl.2 y hy)⟩
theorem mem_at {α : Type} {l : List α} {i : Nat} {x : α} (h : l[i]? = some x) : x ∈ l := List.mem_of_getElem? h

/-- Copying element by element. -/
theorem set_take {α : Type} {l m : List α} {i : Nat} {x : α} (hl : m.length = l.length) (hx : l[i]? = some x) (h : m.take i = l.take i) : (m.set i x).take (i + 1) = l.take (i + 1) := by
  have hi := lt_of_at hx
  apply List.ext_getElem?
  intro j
  rw [List.getElem?_take, List.getElem?_take]
  by_cases hj : j < i + 1
  · rw [if_pos hj, if_pos hj]
    by_cases hji : j = i
    · subst hji
      rw [List.getElem?_set_self (by omega), hx]
    · rw [List.getElem?_set_ne (fun e => hji e.symm)]
      have h2 := congrArg (fun z => z[j]?) h
      simp only [List.getElem?_take] at h2
      rwa [if_pos (by omega), if_pos (by omega)] at h2
  · rw [if_neg hj, if_neg hj]
theorem take_all {α : Type} {l m : List α} (hl : m.length = l.length) (h : m.take l.length = l.take l.length) : m = l := by
  rw [List.take_of_length_le (by omega), List.take_of_length_le (Nat.le_refl _)] at h
  exact h

/-- Lists of bytes, compared as the program compares them. -/
def sameB (a b : List Int) : Bool := (strOfNums a).toList == (strOfNums b).toList
theorem sameB_refl (a : List Int) : sameB a a = true := by simp [sameB]
theorem sameB_comm (a b : List Int) : sameB a b = sameB b a := by unfold sameB; rw [Bool.eq_iff_iff]; simp only [beq_iff_eq]; exact eq_comm
/-- Lists of them. -/
def allSame : List (List Int) → List (List Int) → Bool
  | [], _ => true
  | _ :: _, [] => true
  | x :: xs, y :: ys => sameB x y && allSame xs ys
/-- Two lists, element by element, as far as the first goes. -/
def allP {α : Type} (p : α → α → Bool) : List α → List α → Bool
  | [], _ => true
  | _ :: _, [] => true
  | x :: xs, y :: ys => p x y && allP p xs ys
theorem allP_cons {α : Type} (p : α → α → Bool) (x y : α) (xs ys : List α) : allP p (x :: xs) (y :: ys) = (p x y && allP p xs ys) := rfl
def sameL (a b : List (List Int)) : Bool := decide (a.length = b.length) && allSame a b
def voteSame (a0 a1 : Int) (l2 : List Int) (a3 : Int) (l4 : List Int) (b0 b1 : Int) (m2 : List Int) (b3 : Int) (m4 : List Int) : Bool :=
  decide (a0 = b0) && decide (a1 = b1) && decide (a3 = b3) && sameB l2 m2 && sameB l4 m4
def qcSame (a0 a1 : Int) (l2 l3 : List Int) (l4 : List (List Int)) (b0 b1 : Int) (m2 m3 : List Int) (m4 : List (List Int)) : Bool :=
  decide (a0 = b0) && decide (a1 = b1) && sameB l2 m2 && sameB l3 m3 && sameL l4 m4
def inclSame (a0 a1 a2 : Int) (l3 : List Int) (l4 : List (List Int)) (b0 b1 b2 : Int) (m3 : List Int) (m4 : List (List Int)) : Bool :=
  decide (a0 = b0) && decide (a1 = b1) && decide (a2 = b2) && sameB l3 m3 && sameL l4 m4
def limitsOk (a0 a1 a2 a3 a4 : Int) : Bool := inR a0 1 10 && (inR a1 0 40 && (inR a2 0 8 && (inR a3 1 4000 && inR a4 3 5)))
/-- A number. -/
def isNum (a : Int) : Bool := inR a 0 1152921504606846975
/-- A hash. -/
def isHash (l : List Int) : Bool := decide (l.length = 32)
def voteOk (a0 a1 a2 a3 a4 : Int) (b0 b1 : Int) (l2 : List Int) (b3 : Int) (l4 : List Int) : Bool :=
  limitsOk a0 a1 a2 a3 a4 && (isNum b0 && (isNum b1 && (isHash l2 && (isHash l4 && inR b3 0 (wrap64 (a0 - 1))))))
def tcHighGo (i : Nat) (m : Int) : List Int → Int
  | [] => m
  | x :: xs => if i = 0 then tcHighGo (i + 1) x xs else if x > m then tcHighGo (i + 1) x xs else tcHighGo (i + 1) m xs
theorem tcHighGo_cons (i : Nat) (m x : Int) (xs : List Int) : tcHighGo i m (x :: xs) = if i = 0 then tcHighGo (i + 1) x xs else if x > m then tcHighGo (i + 1) x xs else tcHighGo (i + 1) m xs := rfl
def tcHigh (l : List Int) : Int := tcHighGo 0 (-1) l
/-- Doubling from x while twice x is below n; d: rounds enough. -/
def splitGo : Nat → Int → Int → Int
  | 0, _, x => x
  | d + 1, n, x => if x < n - x then splitGo d n (2 * x) else x
def splitAt (n : Int) : Int := splitGo n.toNat n 1
theorem splitGo_bd : ∀ (d : Nat) (n x : Int), 1 ≤ x → x < n → 1 ≤ splitGo d n x ∧ splitGo d n x < n
  | 0, n, x, h1, h2 => ⟨h1, h2⟩
  | d + 1, n, x, h1, h2 => by
    unfold splitGo
    by_cases c : x < n - x
    · rw [if_pos c]; exact splitGo_bd d n (2 * x) (by omega) (by omega)
    · rw [if_neg c]; exact ⟨h1, h2⟩
theorem splitAt_bd (n : Int) (hn : 2 ≤ n) : 1 ≤ splitAt n ∧ splitAt n < n := splitGo_bd n.toNat n 1 (by omega) (by omega)
def areSizes (m n : Int) : Bool := inR m 1 n && decide (n ≤ 1048576)
theorem areSizes_iff {m n : Int} : areSizes m n = true ↔ 1 ≤ m ∧ m ≤ n ∧ n ≤ 1048576 := by simp [areSizes, inR, and_assoc]
def consLen : Nat → Int → Int → Bool → Int
  | 0, _, _, _ => 0
  | d + 1, m, n, b => if m = n then (if b = true then 0 else 1) else if m ≤ splitAt n then 1 + consLen d m (splitAt n) b else 1 + consLen d (m - splitAt n) (n - splitAt n) false
theorem consLen_bd : ∀ (d : Nat) (m n : Int) (b : Bool), 0 ≤ consLen d m n b ∧ consLen d m n b ≤ d
  | 0, _, _, _ => ⟨Int.le_refl _, Int.le_refl _⟩
  | d + 1, m, n, b => by
    unfold consLen
    have h1 := consLen_bd d m (splitAt n) b
    have h2 := consLen_bd d (m - splitAt n) (n - splitAt n) false
    split
    · cases b <;> simp <;> omega
    · split <;> omega
theorem consLen_le : ∀ (d : Nat) (m n : Int) (b : Bool), 1 ≤ m → m ≤ n → consLen d m n b ≤ n
  | 0, _, _, _, h1, h2 => by unfold consLen; omega
  | d + 1, m, n, b, h1, h2 => by
    unfold consLen
    by_cases c : m = n
    · rw [if_pos c]; split <;> omega
    · rw [if_neg c]
      have hs := splitAt_bd n (by omega)
      by_cases c2 : m ≤ splitAt n
      · rw [if_pos c2]; have := consLen_le d m (splitAt n) b h1 c2; omega
      · rw [if_neg c2]; have := consLen_le d (m - splitAt n) (n - splitAt n) false (by omega) (by omega); omega
def consLenTop (m n : Int) : Int := if areSizes m n = true then consLen n.toNat m n true else 0
/-! ### 3. Bits, checksums, numbers of a width -/
theorem xor_i64 {a b : Int} (ha : 0 ≤ a) (ha2 : a < 4294967296) (hb : 0 ≤ b) (hb2 : b < 4294967296) : Go.bits .xor .i64 a b = ((a.toNat ^^^ b.toNat : Nat) : Int) ∧ a.toNat ^^^ b.toNat < 4294967296 := by
  obtain ⟨a, rfl⟩ := Int.eq_ofNat_of_zero_le ha
  obtain ⟨b, rfl⟩ := Int.eq_ofNat_of_zero_le hb
  have hp : 2 ^ IntKind.i64.bits = 18446744073709551616 := rfl
  have ha' : a % 2 ^ IntKind.i64.bits = a := Nat.mod_eq_of_lt (by omega)
  have hb' : b % 2 ^ IntKind.i64.bits = b := Nat.mod_eq_of_lt (by omega)
  have hx : a ^^^ b < 2 ^ 32 := Nat.xor_lt_two_pow (by omega) (by omega)
  simp only [Int.toNat_natCast]
  refine ⟨?_, by omega⟩
  simp only [Go.bits, BitVec.ofInt_natCast, BitVec.toNat_xor, BitVec.toNat_ofNat, ha', hb']
  rw [IntKind.wrap_i64]
  omega
theorem and_one {a : Int} (ha : 0 ≤ a) (ha2 : a < 4294967296) : Go.bits .and .i64 a 1 = a % 2 := by
  have := bits_mask .i64 32 (by decide) (fun n h0 h1 => by rw [IntKind.wrap_i64]; omega) 1 (by decide) a ha (by omega)
  simpa using this
/-- A step of the checksum. -/
def crcTurn (c : Int) : Int := if c % 2 = 1 then ((c / 2).toNat ^^^ 3988292384 : Nat) else c / 2
def U32 (c : Int) : Prop := 0 ≤ c ∧ c < 4294967296
theorem crcTurn_bd {c : Int} (h : U32 c) : U32 (crcTurn c) := by
  unfold crcTurn
  obtain ⟨h0, h1⟩ := h
  split
  · have := (xor_i64 (a := c / 2) (b := 3988292384) (by omega) (by omega) (by omega) (by omega)).2
    exact ⟨Int.natCast_nonneg _, by have h3 : (3988292384 : Int).toNat = 3988292384 := rfl; rw [h3] at this; omega⟩
  · exact ⟨by omega, by omega⟩
def crcTurns : Nat → Int → Int
  | 0, c => c
  | n + 1, c => crcTurns n (crcTurn c)
theorem crcTurns_bd : ∀ (n : Nat) {c : Int}, U32 c → U32 (crcTurns n c)
  | 0, _, h => h
  | n + 1, _, h => crcTurns_bd n (crcTurn_bd h)
def crcGo (c : Int) : List Int → Int
  | [] => c
  | x :: xs => crcGo (crcTurns 8 (Go.bits .xor .i64 c x)) xs
theorem xor_bd {a b : Int} (ha : U32 a) (hb : U32 b) : U32 (Go.bits .xor .i64 a b) := by
  obtain ⟨h1, h2⟩ := xor_i64 ha.1 ha.2 hb.1 hb.2
  rw [h1]
  exact ⟨Int.natCast_nonneg _, by omega⟩
theorem U8.u32 {x : Int} (h : U8 x) : U32 x := ⟨h.1, by have := h.2; omega⟩
theorem crcGo_bd : ∀ (l : List Int) {c : Int}, U32 c → (∀ x ∈ l, U8 x) → U32 (crcGo c l)
  | [], _, h, _ => h
  | x :: xs, _, h, hl => crcGo_bd xs (crcTurns_bd 8 (xor_bd h (U8.u32 (hl x (List.mem_cons_self ..))))) (fun y hy => hl y (List.mem_cons_of_mem _ hy))
def crc (l : List Int) : Int := Go.bits .xor .i64 (crcGo (Go.bits .xor .i64 0 4294967295) l) 4294967295
theorem crc_bd {l : List Int} (hl : ∀ x ∈ l, U8 x) : U32 (crc l) := xor_bd (crcGo_bd l (xor_bd ⟨by decide, by decide⟩ ⟨by decide, by decide⟩) hl) ⟨by decide, by decide⟩
/-- The number in bytes, the least significant first. -/
def leNum : List Int → Int
  | [] => 0
  | x :: xs => x + 256 * leNum xs
theorem leNum_bd : ∀ (l : List Int), (∀ x ∈ l, U8 x) → 0 ≤ leNum l ∧ leNum l < 256 ^ l.length
  | [], _ => ⟨Int.le_refl _, by decide⟩
  | x :: xs, h => by
    have h1 := leNum_bd xs (fun y hy => h y (List.mem_cons_of_mem _ hy))
    have h2 := h x (List.mem_cons_self ..)
    unfold U8 at h2
    simp only [leNum, List.length_cons, Int.pow_succ]
    omega
theorem leNum_append (l : List Int) (x : Int) : leNum (l ++ [x]) = leNum l + x * 256 ^ l.length := by
  induction l with
  | nil => simp [leNum]
  | cons y ys ih =>
    simp only [List.cons_append, leNum, ih, List.length_cons, Int.pow_succ, Int.mul_add]
    rw [Int.mul_left_comm 256 x, Int.mul_comm 256 (256 ^ ys.length)]
    omega
def getRaw (l : List Int) (a n : Int) : List Int × Int × Int := if inR a 0 l.length = true then (if inR n 0 (l.length - a) = true then ((l.take (a + n).toNat).drop a.toNat, a + n, 0) else ([], 0, 1)) else ([], 0, 1)
def getFix (l : List Int) (a w : Int) : Int × Int × Int := if inR w 1 7 = true then (leNum (getRaw l a w).1, (getRaw l a w).2) else (0, 0, 5)
/-- What is told of a frame behind its marks. -/
def frameRest (a3 : Int) (l : List Int) (a : Int) : Int × Int :=
  if l.length - a < 4 then (1, 0) else if inR (getFix l (a + 2) 2).1 1 a3 = true then (if l.length - a < 8 + (getFix l (a + 2) 2).1 then (1, 8 + (getFix l (a + 2) 2).1) else
    if (getFix l (a + 4) 4).1 = crc ((l.take (a + 8 + (getFix l (a + 2) 2).1).toNat).drop (a + 8).toNat) then (3, 8 + (getFix l (a + 2) 2).1) else (2, 8 + (getFix l (a + 2) 2).1)) else (0, 0)
def frameAt (a0 a1 a2 a3 a4 : Int) (l : List Int) (a : Int) : Int × Int :=
  if limitsOk a0 a1 a2 a3 a4 = true then (if inR a 0 (l.length - 1) = true then (if rd l a = 181 then (if a + 1 < l.length then (if rd l (a + 1) = 70 then frameRest a3 l a else (0, 0)) else frameRest a3 l a) else (0, 0)) else (0, 0)) else (0, 0)
theorem take_drop_mem {l : List Int} {P : Int → Prop} (h : ∀ x ∈ l, P x) (a b : Nat) : ∀ x ∈ (l.take a).drop b, P x := fun x hx => h x (List.mem_of_mem_take (List.mem_of_mem_drop hx))
theorem take_drop_length {l : List Int} {a b : Nat} (h1 : b ≤ a) (h2 : a ≤ l.length) : ((l.take a).drop b).length = a - b := by rw [List.length_drop, List.length_take]; omega
/-! ### 4. Bitmaps -/
/-- Is the bit set. -/
def bitHas (l : List Int) (i : Int) : Bool := decide (0 ≤ i) && (decide (i / 8 < l.length) && decide (rd l (i / 8) / 2 ^ (i % 8).toNat % 2 = 1))
/-- The set bits among d bits from i. -/
def bitsGo (l : List Int) : Nat → Nat → List Int
  | 0, _ => []
  | d + 1, i => if bitHas l i = true then (i : Int) :: bitsGo l d (i + 1) else bitsGo l d (i + 1)
def bitList (l : List Int) : List Int := bitsGo l (8 * l.length) 0
theorem bitsGo_len (l : List Int) : ∀ d i, (bitsGo l d i).length ≤ d
  | 0, _ => Nat.le_refl _
  | d + 1, i => by
    have := bitsGo_len l d (i + 1)
    unfold bitsGo; split
    · rw [List.length_cons]; omega
    · omega
theorem bitsGo_ge (l : List Int) : ∀ d i x, x ∈ bitsGo l d i → (i : Int) ≤ x ∧ x < ((i + d : Nat) : Int)
  | 0, _, x, h => by cases h
  | d + 1, i, x, h => by
    unfold bitsGo at h
    have ih := bitsGo_ge l d (i + 1) x
    split at h
    · rcases List.mem_cons.1 h with rfl | h
      · exact ⟨Int.le_refl _, by omega⟩
      · have := ih h; omega
    · have := ih h; omega
/-- Growing lists: the last bounds all. -/
theorem bitsGo_last (l : List Int) (n : Int) : ∀ d i, (bitsGo l d i).all (fun x => decide (x < n)) = match (bitsGo l d i).getLast? with | none => true | some x => decide (x < n)
  | 0, _ => rfl
  | d + 1, i => by
    have ih := bitsGo_last l n d (i + 1)
    have hg := bitsGo_ge l d (i + 1)
    unfold bitsGo
    split
    · rw [List.all_cons, ih, List.getLast?_cons]
      cases h : (bitsGo l d (i + 1)).getLast? with
      | none => simp
      | some y =>
        have hy := hg y (List.mem_of_getLast? h)
        simp only [Option.getD_some]
        by_cases c : y < n
        · rw [decide_eq_true c, decide_eq_true (by omega)]; rfl
        · rw [decide_eq_false c, Bool.and_false]
    · exact ih
theorem bitList_len (l : List Int) : (bitList l).length ≤ 8 * l.length := bitsGo_len l _ _
theorem bitList_bd {l : List Int} {x : Int} (h : x ∈ bitList l) : 0 ≤ x ∧ x < 8 * l.length := by have := bitsGo_ge l _ _ x h; omega
theorem all_last {xs : List Int} {n : Int} (h : xs.all (fun x => decide (x < n)) = match xs.getLast? with | none => true | some x => decide (x < n)) (hx : 0 < xs.length) : decide (rd xs ((xs.length : Int) - 1) < n) = xs.all (fun x => decide (x < n)) := by
  have e : xs.getLast? = some (rd xs ((xs.length : Int) - 1)) := by
    rw [List.getLast?_eq_getElem?, show ((xs.length : Int) - 1) = ((xs.length - 1 : Nat) : Int) by omega]
    have : xs.length - 1 < xs.length := by omega
    rw [List.getElem?_eq_getElem this, rd_at (List.getElem?_eq_getElem this)]
  rw [h, e]
/-- The bits of a byte, counted. -/
def ones (x : Int) : Int := (if x / 1 % 2 = 1 then 1 else 0) + (if x / 2 % 2 = 1 then 1 else 0) + (if x / 4 % 2 = 1 then 1 else 0) + (if x / 8 % 2 = 1 then 1 else 0) + (if x / 16 % 2 = 1 then 1 else 0) + (if x / 32 % 2 = 1 then 1 else 0) + (if x / 64 % 2 = 1 then 1 else 0) + (if x / 128 % 2 = 1 then 1 else 0)
theorem ones_bd (x : Int) : 0 ≤ ones x ∧ ones x ≤ 8 := by unfold ones; omega
theorem bitHas_at {l : List Int} {j : Nat} {x : Int} (h : l[j]? = some x) (t : Nat) (ht : t < 8) : bitHas l ((8 * j + t : Nat) : Int) = decide (x / 2 ^ t % 2 = 1) := by
  have hj := lt_of_at h
  have e1 : ((8 * j + t : Nat) : Int) / 8 = (j : Int) := by omega
  have e2 : (((8 * j + t : Nat) : Int) % 8).toNat = t := by omega
  unfold bitHas
  rw [e1, e2, rd_at h, decide_eq_true (show (0 : Int) ≤ ((8 * j + t : Nat) : Int) by omega), decide_eq_true (show (j : Int) < (l.length : Int) by omega), Bool.true_and, Bool.true_and]
theorem bitsGo_step (l : List Int) (d i : Nat) : ((bitsGo l (d + 1) i).length : Int) = (if bitHas l i = true then 1 else 0) + ((bitsGo l d (i + 1)).length : Int) := by
  show ((if bitHas l i = true then (i : Int) :: bitsGo l d (i + 1) else bitsGo l d (i + 1)).length : Int) = _
  split
  · rw [List.length_cons]; omega
  · omega
theorem bitsGo_eight {l : List Int} {j d : Nat} {x : Int} (h : l[j]? = some x) : ((bitsGo l (8 * (d + 1)) (8 * j)).length : Int) = ones x + ((bitsGo l (8 * d) (8 * (j + 1))).length : Int) := by
  rw [show 8 * (d + 1) = 8 * d + 1 + 1 + 1 + 1 + 1 + 1 + 1 + 1 by omega, show 8 * (j + 1) = 8 * j + 1 + 1 + 1 + 1 + 1 + 1 + 1 + 1 by omega]
  iterate 8 rw [bitsGo_step]
  have b := fun t ht => bitHas_at h t ht
  have b0 := b 0 (by decide); have b1 := b 1 (by decide); have b2 := b 2 (by decide); have b3 := b 3 (by decide); have b4 := b 4 (by decide); have b5 := b 5 (by decide); have b6 := b 6 (by decide); have b7 := b 7 (by decide)
  simp only [Nat.add_assoc, Nat.reduceAdd, Nat.add_zero] at b0 b1 b2 b3 b4 b5 b6 b7 ⊢
  rw [b0, b1, b2, b3, b4, b5, b6, b7]
  simp only [decide_eq_true_eq]
  unfold ones
  simp only [Int.reducePow]
  omega
def onesSum : List Int → Int
  | [] => 0
  | x :: xs => ones x + onesSum xs
theorem onesSum_len (l : List Int) : ∀ d j, j + d = l.length → onesSum (l.drop j) = ((bitsGo l (8 * d) (8 * j)).length : Int) := by
  intro d
  induction d with
  | zero => intro j hj; rw [List.drop_of_length_le (by omega)]; rfl
  | succ d ih =>
    intro j hj
    have hlt : j < l.length := by omega
    rw [List.drop_eq_getElem_cons hlt, bitsGo_eight (List.getElem?_eq_getElem hlt), ← ih (j + 1) (by omega)]
    rfl
theorem onesSum_all (l : List Int) : onesSum l = ((bitList l).length : Int) := by simpa [bitList] using onesSum_len l l.length 0 (by omega)
def bitsSize (n : Int) : Int := if n < 1 then 0 else (n - 1) / 8 + 1
def bitsOk (l : List Int) (n : Int) : Bool := inR n 1 10 && (decide ((l.length : Int) = bitsSize n) && (bitList l).all (fun x => decide (x < n)))
def qcOk (a0 a1 a2 a3 a4 : Int) (b0 b1 : Int) (l2 l3 : List Int) (l4 : List (List Int)) : Bool :=
  limitsOk a0 a1 a2 a3 a4 && (isNum b0 && (isNum b1 && (isHash l2 && (bitsOk l3 a0 && (decide (l4.length = (bitList l3).length) && l4.all isHash)))))
theorem and_one_u8 {a : Int} (ha : 0 ≤ a) (ha2 : a ≤ 255) : Go.bits .and .u8 a 1 = a % 2 := by
  have := bits_mask .u8 8 (by decide) wraps_u8 1 (by decide) a ha (by omega)
  simpa using this
theorem div_pow_bd {x : Int} (h0 : 0 ≤ x) (h1 : x ≤ 255) (t : Nat) : 0 ≤ x / 2 ^ t ∧ x / 2 ^ t ≤ 255 := by
  have hp : (0 : Int) < 2 ^ t := Int.pow_pos (by decide)
  refine ⟨Int.ediv_nonneg h0 (by omega), ?_⟩
  have := Int.ediv_le_self (2 ^ t) h0
  omega
theorem rd_u8 {l : List Int} (h : ∀ x ∈ l, U8 x) (i : Int) : U8 (rd l i) := by
  unfold rd
  rw [List.getD_eq_getElem?_getD]
  cases e : l[i.toNat]? with
  | none => exact ⟨by decide, by decide⟩
  | some x => exact h x (mem_at e)
/-! ### 5. Paths, heads, proofs -/
def pathLen : Nat → Int → Int → Int
  | 0, _, _ => 0
  | d + 1, i, n => if n < 2 then 0 else if i < splitAt n then 1 + pathLen d i (splitAt n) else 1 + pathLen d (i - splitAt n) (n - splitAt n)
theorem pathLen_bd : ∀ (d : Nat) (i n : Int), 0 ≤ pathLen d i n ∧ pathLen d i n ≤ d
  | 0, _, _ => ⟨Int.le_refl _, Int.le_refl _⟩
  | d + 1, i, n => by
    unfold pathLen
    have h1 := pathLen_bd d i (splitAt n)
    have h2 := pathLen_bd d (i - splitAt n) (n - splitAt n)
    split
    · omega
    · split <;> omega
theorem pathLen_le : ∀ (d : Nat) (i n : Int), 1 ≤ n → 0 ≤ i → i < n → pathLen d i n ≤ n - 1
  | 0, _, _, h1, h2, h3 => by unfold pathLen; omega
  | d + 1, i, n, h1, h2, h3 => by
    unfold pathLen
    by_cases c : n < 2
    · rw [if_pos c]; omega
    · rw [if_neg c]
      have hs := splitAt_bd n (by omega)
      by_cases c2 : i < splitAt n
      · rw [if_pos c2]; have := pathLen_le d i (splitAt n) hs.1 h2 c2; omega
      · rw [if_neg c2]; have := pathLen_le d (i - splitAt n) (n - splitAt n) (by omega) (by omega) (by omega); omega
def pathLenTop (i n : Int) : Int := if inR n 2 1048576 = true then (if inR i 0 (n - 1) = true then pathLen n.toNat i n else 0) else 0
def inclOk (a0 a1 a2 a3 a4 b0 b1 b2 : Int) (l3 : List Int) (l4 : List (List Int)) : Bool :=
  limitsOk a0 a1 a2 a3 a4 && (isNum b0 && (inR b1 1 a2 && (inR b2 0 (wrap64 (b1 - 1)) && (decide ((l3.length : Int) ≤ a1) && (decide ((l4.length : Int) = pathLenTop b2 b1) && l4.all isHash)))))
def headSame (a0 a1 a2 : Int) (l3 l4 : List Int) (a5 a6 : Int) (l7 l8 : List Int) (l9 : List (List Int)) (b0 b1 b2 : Int) (m3 m4 : List Int) (b5 b6 : Int) (m7 m8 : List Int) (m9 : List (List Int)) : Bool :=
  decide (a0 = b0) && (decide (a1 = b1) && (decide (a2 = b2) && (sameB l3 m3 && (sameB l4 m4 && qcSame a5 a6 l7 l8 l9 b5 b6 m7 m8 m9))))
def blockSame (a0 a1 a2 : Int) (l3 l4 : List Int) (a5 a6 : Int) (l7 l8 : List Int) (l9 l10 : List (List Int)) (b0 b1 b2 : Int) (m3 m4 : List Int) (b5 b6 : Int) (m7 m8 : List Int) (m9 m10 : List (List Int)) : Bool :=
  headSame a0 a1 a2 l3 l4 a5 a6 l7 l8 l9 b0 b1 b2 m3 m4 b5 b6 m7 m8 m9 && sameL l10 m10
/-- Does the head's certificate fit it. -/
def headFits (b0 b1 : Int) (l3 : List Int) (b5 b6 : Int) (l7 : List Int) : Bool := decide (b5 < b0) && (decide (b6 = wrap64 (b1 - 1)) && sameB l7 l3)
def headOk (a0 a1 a2 a3 a4 b0 b1 b2 : Int) (l3 l4 : List Int) (b5 b6 : Int) (l7 l8 : List Int) (l9 : List (List Int)) : Bool :=
  limitsOk a0 a1 a2 a3 a4 && (isNum b0 && (inR b1 1 1152921504606846975 && (inR b2 0 (wrap64 (a0 - 1)) && (isHash l3 && (isHash l4 && (qcOk a0 a1 a2 a3 a4 b5 b6 l7 l8 l9 && headFits b0 b1 l3 b5 b6 l7))))))
theorem qcOk_limits {a0 a1 a2 a3 a4 b0 b1 : Int} {l2 l3 : List Int} {l4 : List (List Int)} (h : limitsOk a0 a1 a2 a3 a4 = false) : qcOk a0 a1 a2 a3 a4 b0 b1 l2 l3 l4 = false := by unfold qcOk; rw [h, Bool.false_and]
theorem if_fold {b c : Bool} : (if b = true then some c else some false) = some (b && c) := and_if b c
/-! ### 6. Frames, marks -/
theorem pow_le_six {i : Nat} (h : i ≤ 6) : (256 : Int) ^ i ≤ 281474976710656 := by
  obtain rfl | rfl | rfl | rfl | rfl | rfl | rfl : i = 0 ∨ i = 1 ∨ i = 2 ∨ i = 3 ∨ i = 4 ∨ i = 5 ∨ i = 6 := by omega
  all_goals decide
theorem pow_ge_one (i : Nat) : (1 : Int) ≤ 256 ^ i := Int.pow_pos (by decide)
/-- The lowest w bytes of a number, the least significant first. -/
def lowBytes : Nat → Int → List Int
  | 0, _ => []
  | w + 1, a => (a % 256) :: lowBytes w (a / 256)
theorem lowBytes_length : ∀ w a, (lowBytes w a).length = w
  | 0, _ => rfl
  | w + 1, a => by rw [lowBytes, List.length_cons, lowBytes_length w]
def frame (a0 a1 a2 a3 a4 : Int) (l : List Int) : List Int × Bool :=
  if limitsOk a0 a1 a2 a3 a4 = true then (if inR (l.length : Int) 1 a3 = true then ([181, 70] ++ lowBytes 2 (l.length : Int) ++ lowBytes 4 (crc l) ++ l, true) else ([], false)) else ([], false)
theorem limits_frame {a0 a1 a2 a3 a4 : Int} (h : limitsOk a0 a1 a2 a3 a4 = true) : 1 ≤ a3 ∧ a3 ≤ 4000 := by
  unfold limitsOk at h
  simp only [Bool.and_eq_true] at h
  exact inR_iff.1 h.2.2.2.1
theorem limits_n {a0 a1 a2 a3 a4 : Int} (h : limitsOk a0 a1 a2 a3 a4 = true) : 1 ≤ a0 ∧ a0 ≤ 10 := by
  unfold limitsOk at h
  simp only [Bool.and_eq_true] at h
  exact inR_iff.1 h.1
theorem frame_length (a0 a1 a2 a3 a4 : Int) (l : List Int) : (frame a0 a1 a2 a3 a4 l).1.length ≤ l.length + 8 := by
  unfold frame
  split
  · split
    · simp only [List.length_append, lowBytes_length, List.length_cons, List.length_nil]; omega
    · simp
  · simp
/-- Marks: the bytes of the numbers from m on. -/
def markGo : Nat → Int → List Int
  | 0, _ => []
  | n + 1, m => (m % 256) :: markGo n (m + 1)
theorem markGo_length : ∀ n m, (markGo n m).length = n
  | 0, _ => rfl
  | n + 1, m => by rw [markGo, List.length_cons, markGo_length n]
theorem markGo_at : ∀ (n : Nat) (m : Int) (i : Nat), i < n → (markGo n m)[i]? = some ((m + i) % 256)
  | 0, _, _, h => by omega
  | n + 1, m, 0, _ => by simp [markGo]
  | n + 1, m, i + 1, h => by
    rw [markGo, List.getElem?_cons_succ, markGo_at n (m + 1) i (by omega)]
    congr 2
    omega
theorem markGo_take {n : Nat} {m : Int} {i : Nat} (h : i < n) : (markGo n m).take (i + 1) = (markGo n m).take i ++ [(m + i) % 256] := by
  rw [List.take_add_one, markGo_at n m i h]
  rfl
/-- The payload of a frame. -/
def frameData (a0 a1 a2 a3 a4 : Int) (l : List Int) (a : Int) : List Int × Bool :=
  if (frameAt a0 a1 a2 a3 a4 l a).1 = 3 then ((l.take (a + (frameAt a0 a1 a2 a3 a4 l a).2).toNat).drop (a + 8).toNat, true) else ([], false)
theorem frameData_length (a0 a1 a2 a3 a4 : Int) (l : List Int) (a : Int) : (frameData a0 a1 a2 a3 a4 l a).1.length ≤ l.length + 8 := by
  unfold frameData
  split
  · simp only [List.length_drop, List.length_take]; omega
  · simp
theorem frameAt_good (a0 a1 a2 a3 a4 : Int) (l : List Int) (a : Int) (h : (frameAt a0 a1 a2 a3 a4 l a).1 = 3) : 0 ≤ a ∧ 8 ≤ (frameAt a0 a1 a2 a3 a4 l a).2 ∧ a + (frameAt a0 a1 a2 a3 a4 l a).2 ≤ l.length := by
  have key : ∀ r, r = frameRest a3 l a → r.1 = 3 → 8 ≤ r.2 ∧ a + r.2 ≤ l.length := by
    intro r hr h3
    subst hr
    unfold frameRest at h3 ⊢
    split at h3
    · simp at h3
    · rename_i c4
      split at h3
      · rename_i cn
        have hn := inR_iff.1 cn
        split at h3
        · simp at h3
        · rename_i c8
          split at h3
          · rename_i cc
            rw [if_neg c4, if_pos cn, if_neg c8, if_pos cc]
            constructor
            · show 8 ≤ 8 + (getFix l (a + 2) 2).1; omega
            · show a + (8 + (getFix l (a + 2) 2).1) ≤ l.length; omega
          · simp at h3
      · simp at h3
  unfold frameAt at h ⊢
  split at h
  · rename_i cL
    split at h
    · rename_i ca
      have ha := inR_iff.1 ca
      split at h
      · rename_i c1
        split at h
        · rename_i c2
          split at h
          · rename_i c3
            rw [if_pos cL, if_pos ca, if_pos c1, if_pos c2, if_pos c3]
            exact ⟨ha.1, key _ rfl h⟩
          · simp at h
        · rename_i c2
          rw [if_pos cL, if_pos ca, if_pos c1, if_neg c2]
          exact ⟨ha.1, key _ rfl h⟩
      · simp at h
    · simp at h
  · simp at h
end Go.Proofs.Ytniapflmmigbjaa.Lib
