/- Words of 32 bits in machine numbers; the hash of a block, of bytes. Plain definitions and theorems. -/
import Derived.Test.YtmdojlglemnijaaRf31
namespace Go.Proofs.Ytmdojlglemnijaa.Rf
open Go.RowKit
set_option linter.unusedVariables false
set_option linter.unnecessarySimpa false
set_option linter.unusedSimpArgs false
def bor (a b : Int) : Int := IntKind.i64.wrap (BitVec.ofInt IntKind.i64.bits a ||| BitVec.ofInt IntKind.i64.bits b).toNat
def bxor (a b : Int) : Int := IntKind.i64.wrap (BitVec.ofInt IntKind.i64.bits a ^^^ BitVec.ofInt IntKind.i64.bits b).toNat
def band (a b : Int) : Int := IntKind.i64.wrap (BitVec.ofInt IntKind.i64.bits a &&& BitVec.ofInt IntKind.i64.bits b).toNat
def bshl (a n : Int) : Int := IntKind.i64.wrap (a * 2 ^ (min n.toNat IntKind.i64.bits))
def bshr (a n : Int) : Int := a.fdiv (2 ^ (min n.toNat IntKind.i64.bits))
def wadd (a b : Int) : Int := IntKind.i64.wrap (a + b)
def turnW (x n : Int) : Int := band (bor (bshr x n) (bshl x (32 - n))) 4294967295
theorem ofInt_nat (n : Nat) : (BitVec.ofInt 64 (n : Int)) = BitVec.ofNat 64 n := BitVec.ofInt_natCast 64 n
theorem ofInt_wrap (v : BitVec IntKind.i64.bits) : BitVec.ofInt IntKind.i64.bits (IntKind.i64.wrap ((v.toNat : Nat) : Int)) = v := by
  apply BitVec.eq_of_toNat_eq
  rw [BitVec.toNat_ofInt, IntKind.wrap_i64]
  have h : v.toNat < 2 ^ 64 := v.isLt
  show ((((v.toNat : Int) + 9223372036854775808) % 18446744073709551616 - 9223372036854775808) % ((2 ^ 64 : Nat) : Int)).toNat = v.toNat
  omega
theorem band_W (x : Int) : 0 ≤ band x 4294967295 ∧ band x 4294967295 ≤ 4294967295 := by
  unfold band
  have h : (BitVec.ofInt IntKind.i64.bits x &&& BitVec.ofInt IntKind.i64.bits 4294967295).toNat ≤ 4294967295 := by
    rw [BitVec.toNat_and]
    exact Nat.le_trans Nat.and_le_right (by decide)
  generalize (BitVec.ofInt IntKind.i64.bits x &&& BitVec.ofInt IntKind.i64.bits 4294967295).toNat = n at h
  rw [wrap_ok (by omega) (by omega)]
  omega
theorem bor_W {x y : Int} (hx : 0 ≤ x ∧ x ≤ 4294967295) (hy : 0 ≤ y ∧ y ≤ 4294967295) : 0 ≤ bor x y ∧ bor x y ≤ 4294967295 := by
  obtain ⟨a, rfl⟩ : ∃ a : Nat, x = a := ⟨x.toNat, by omega⟩
  obtain ⟨b, rfl⟩ : ∃ b : Nat, y = b := ⟨y.toNat, by omega⟩
  have h : (BitVec.ofInt IntKind.i64.bits (a : Int) ||| BitVec.ofInt IntKind.i64.bits (b : Int)).toNat ≤ 4294967295 := by
    rw [BitVec.toNat_or]
    have e : ∀ q : Nat, q < 2 ^ 32 → (BitVec.ofInt IntKind.i64.bits ((q : Nat) : Int)).toNat = q := fun q hq => by
      rw [BitVec.toNat_ofInt]; show ((q : Int) % ((2 ^ 64 : Nat) : Int)).toNat = q; omega
    rw [e a (by omega), e b (by omega)]
    have := Nat.or_lt_two_pow (x := a) (y := b) (n := 32) (by omega) (by omega)
    omega
  unfold bor
  generalize (BitVec.ofInt IntKind.i64.bits (a : Int) ||| BitVec.ofInt IntKind.i64.bits (b : Int)).toNat = n at h
  rw [wrap_ok (by omega) (by omega)]
  omega
theorem bshl_W {a : Int} (h0 : 0 ≤ a ∧ a ≤ 255) : (0 ≤ bshl a 24 ∧ bshl a 24 ≤ 4294967295) ∧ (0 ≤ bshl a 16 ∧ bshl a 16 ≤ 4294967295) ∧ (0 ≤ bshl a 8 ∧ bshl a 8 ≤ 4294967295) := by
  have e1 : bshl a 24 = a * 16777216 := wrap_ok (x := a * 16777216) (by omega) (by omega)
  have e2 : bshl a 16 = a * 65536 := wrap_ok (x := a * 65536) (by omega) (by omega)
  have e3 : bshl a 8 = a * 256 := wrap_ok (x := a * 256) (by omega) (by omega)
  rw [e1, e2, e3]
  omega
theorem bv_maj (A B C : BitVec IntKind.i64.bits) : (A &&& B) ||| (A &&& C) ||| (B &&& C) = (A &&& B) ^^^ (A &&& C) ^^^ (B &&& C) := by
  apply BitVec.eq_of_getLsbD_eq
  intro i hi
  simp only [BitVec.getLsbD_or, BitVec.getLsbD_and, BitVec.getLsbD_xor]
  cases A.getLsbD i <;> cases B.getLsbD i <;> cases C.getLsbD i <;> rfl
theorem bv_ch {E A B M : BitVec IntKind.i64.bits} (h : ∀ i, E.getLsbD i = true → M.getLsbD i = true) : (E &&& A) ||| ((E ^^^ M) &&& B) = (E &&& A) ^^^ ((M ^^^ E) &&& B) := by
  apply BitVec.eq_of_getLsbD_eq
  intro i hi
  have := h i
  simp only [BitVec.getLsbD_or, BitVec.getLsbD_and, BitVec.getLsbD_xor]
  cases hE : E.getLsbD i <;> cases A.getLsbD i <;> cases B.getLsbD i <;> cases hM : M.getLsbD i <;> simp_all
theorem maj_eq (a b c : Int) : bor (bor (band a b) (band a c)) (band b c) = bxor (bxor (band a b) (band a c)) (band b c) := by
  simp only [bor, bxor, band, ofInt_wrap, bv_maj]
theorem word_bits {e : Int} (h : 0 ≤ e ∧ e ≤ 4294967295) (i : Nat) : (BitVec.ofInt 64 e).getLsbD i = true → (BitVec.ofInt 64 4294967295).getLsbD i = true := by
  obtain ⟨n, rfl⟩ : ∃ n : Nat, e = n := ⟨e.toNat, by omega⟩
  intro hb
  have h1 : (BitVec.ofInt 64 (n : Int)).getLsbD i = (BitVec.ofNat 64 n).getLsbD i := by rw [ofInt_nat]
  rw [h1, BitVec.getLsbD_ofNat, Bool.and_eq_true, decide_eq_true_eq] at hb
  have h2 : (BitVec.ofInt 64 (4294967295 : Int)).getLsbD i = (BitVec.ofNat 64 (2 ^ 32 - 1)).getLsbD i := by rfl
  rw [h2, BitVec.getLsbD_ofNat, Nat.testBit_two_pow_sub_one, Bool.and_eq_true, decide_eq_true_eq, decide_eq_true_eq]
  refine ⟨hb.1, Nat.lt_of_not_le fun hle => ?_⟩
  have h3 := Nat.testBit_lt_two_pow (x := n) (i := i) (Nat.lt_of_lt_of_le (show n < 2 ^ 32 by omega) (Nat.pow_le_pow_right (by omega) hle))
  rw [h3] at hb
  exact absurd hb.2 (by decide)
theorem ch_eq {e : Int} (h : 0 ≤ e ∧ e ≤ 4294967295) (a b : Int) : bor (band e a) (band (bxor e 4294967295) b) = bxor (band e a) (band (bxor 4294967295 e) b) := by
  simp only [bor, bxor, band, ofInt_wrap]
  rw [bv_ch (E := BitVec.ofInt IntKind.i64.bits e) (M := BitVec.ofInt IntKind.i64.bits 4294967295) (word_bits h)]
def wordsOk (h : List Int) : Bool := h.all fun x => decide (0 ≤ x ∧ x ≤ 4294967295)
theorem words_step {l : List Int} {i : Nat} (hi : i < l.length) (h : wordsOk (l.take i) = true) (hx : 0 ≤ l.getD i 0 ∧ l.getD i 0 ≤ 4294967295) : wordsOk (l.take (i + 1)) = true := by
  rw [take_succ' (df := 0) hi]; simp only [wordsOk, List.all_append, List.all_cons, List.all_nil, Bool.and_true, Bool.and_eq_true] at h ⊢; exact ⟨h, decide_eq_true hx⟩
theorem words_no {l : List Int} {i : Nat} (hi : i < l.length) (hx : ¬ (0 ≤ l.getD i 0 ∧ l.getD i 0 ≤ 4294967295)) : wordsOk l = false := by
  cases h : wordsOk l with
  | false => rfl
  | true =>
    rw [wordsOk, List.all_eq_true] at h
    have := h (l.getD i 0) (by rw [List.getD_eq_getElem?_getD, List.getElem?_eq_getElem hi]; exact List.getElem_mem hi)
    exact absurd (of_decide_eq_true this) hx
theorem words_at {l : List Int} (h : wordsOk l = true) (i : Nat) : 0 ≤ l.getD i 0 ∧ l.getD i 0 ≤ 4294967295 := by
  rw [List.getD_eq_getElem?_getD]
  cases hx : l[i]? with
  | none => simp
  | some x => rw [wordsOk, List.all_eq_true] at h; exact of_decide_eq_true (h x (List.mem_of_getElem? hx))
def shaInit : List Int := [1779033703, 3144134277, 1013904242, 2773480762, 1359893119, 2600822924, 528734635, 1541459225]
def shaK : List Int := [1116352408, 1899447441, 3049323471, 3921009573, 961987163, 1508970993, 2453635748, 2870763221, 3624381080, 310598401, 607225278, 1426881987, 1925078388, 2162078206, 2614888103, 3248222580, 3835390401, 4022224774, 264347078, 604807628, 770255983, 1249150122, 1555081692, 1996064986, 2554220882, 2821834349, 2952996808, 3210313671, 3336571891, 3584528711, 113926993, 338241895, 666307205, 773529912, 1294757372, 1396182291, 1695183700, 1986661051, 2177026350, 2456956037, 2730485921, 2820302411, 3259730800, 3345764771, 3516065817, 3600352804, 4094571909, 275423344, 430227734, 506948616, 659060556, 883997877, 958139571, 1322822218, 1537002063, 1747873779, 1955562222, 2024104815, 2227730452, 2361852424, 2428436474, 2756734187, 3204031479, 3329325298]
def wAt (b : List Int) (i : Nat) : Int := bor (bor (bor (bshl (b.getD (4 * (i : Int)).toNat 0) 24) (bshl (b.getD (4 * (i : Int) + 1).toNat 0) 16)) (bshl (b.getD (4 * (i : Int) + 2).toNat 0) 8)) (b.getD (4 * (i : Int) + 3).toNat 0)
def w16 (b : List Int) : Nat → List Int
  | 0 => []
  | i + 1 => w16 b i ++ [wAt b i]
def nextW (A : List Int) (i : Nat) : Int := band (wadd (wadd (wadd (A.getD (16 + (i : Int) - 16).toNat 0) (bxor (bxor (turnW (A.getD (16 + (i : Int) - 15).toNat 0) 7) (turnW (A.getD (16 + (i : Int) - 15).toNat 0) 18)) (bshr (A.getD (16 + (i : Int) - 15).toNat 0) 3))) (A.getD (16 + (i : Int) - 7).toNat 0)) (bxor (bxor (turnW (A.getD (16 + (i : Int) - 2).toNat 0) 17) (turnW (A.getD (16 + (i : Int) - 2).toNat 0) 19)) (bshr (A.getD (16 + (i : Int) - 2).toNat 0) 10))) 4294967295
def wN (b : List Int) : Nat → List Int
  | 0 => w16 b 16
  | i + 1 => wN b i ++ [nextW (wN b i) i]
theorem w16_len (b : List Int) : ∀ i, (w16 b i).length = i
  | 0 => rfl
  | i + 1 => by rw [w16, List.length_append, w16_len b i]; rfl
theorem wN_len (b : List Int) : ∀ i, (wN b i).length = 16 + i
  | 0 => w16_len b 16
  | i + 1 => by rw [wN, List.length_append, wN_len b i]; rfl
theorem getD_app {A : List Int} {x : Int} (n : Nat) : (A ++ [x]).getD n 0 = if n < A.length then A.getD n 0 else if n = A.length then x else 0 := by
  simp only [List.getD_eq_getElem?_getD]
  split
  · rw [List.getElem?_append_left (by assumption)]
  · split
    · rw [List.getElem?_append_right (by omega), show n - A.length = 0 from by omega]; rfl
    · rw [List.getElem?_append_right (by omega), List.getElem?_eq_none (by simp; omega)]; rfl
theorem wAt_W {b : List Int} (h : U8s b) (i : Nat) : 0 ≤ wAt b i ∧ wAt b i ≤ 4294967295 := by
  have h3 := getD_u8 h (4 * (i : Int) + 3).toNat
  exact bor_W (bor_W (bor_W (bshl_W (getD_u8 h _)).1 (bshl_W (getD_u8 h _)).2.1) (bshl_W (getD_u8 h _)).2.2) (by omega)
theorem w16_W {b : List Int} (h : U8s b) : ∀ (i q : Nat), 0 ≤ (w16 b i).getD q 0 ∧ (w16 b i).getD q 0 ≤ 4294967295
  | 0, q => by simp [w16]
  | i + 1, q => by
    have h1 := w16_W h i q
    have h2 := wAt_W h i
    rw [w16, getD_app]
    split
    · exact h1
    · split
      · exact h2
      · simp
theorem wN_W {b : List Int} (h : U8s b) : ∀ (i q : Nat), 0 ≤ (wN b i).getD q 0 ∧ (wN b i).getD q 0 ≤ 4294967295
  | 0, q => w16_W h 16 q
  | i + 1, q => by
    have h1 := wN_W h i q
    rw [wN, getD_app]
    split
    · exact h1
    · split
      · exact band_W _
      · simp
theorem getD_rep {A : List Int} {n q : Nat} (h : q < A.length) : (A ++ List.replicate n 0).getD q 0 = A.getD q 0 := by
  simp only [List.getD_eq_getElem?_getD]
  rw [List.getElem?_append_left h]
theorem arr_W {A : List Int} (h : ∀ q, 0 ≤ A.getD q 0 ∧ A.getD q 0 ≤ 4294967295) (n q : Nat) : 0 ≤ (A ++ List.replicate n 0).getD q 0 ∧ (A ++ List.replicate n 0).getD q 0 ≤ 4294967295 := by
  by_cases hq : q < A.length
  · rw [getD_rep hq]; exact h q
  · simp only [List.getD_eq_getElem?_getD]
    rw [List.getElem?_append_right (by omega), List.getElem?_replicate]
    split <;> simp
theorem set_fill {A : List Int} {n q : Nat} {x : Int} (hq : q = A.length) : (A ++ List.replicate (n + 1) 0).set q x = (A ++ [x]) ++ List.replicate n 0 := by
  subst hq
  rw [List.replicate_succ, List.set_append_right _ _ (Nat.le_refl _), Nat.sub_self, List.set_cons_zero, List.append_assoc]; rfl
theorem nextW_rep {A : List Int} {i n : Nat} (h : A.length = 16 + i) : nextW (A ++ List.replicate n 0) i = nextW A i := by
  unfold nextW
  rw [getD_rep (q := (16 + (i : Int) - 16).toNat) (by omega), getD_rep (q := (16 + (i : Int) - 15).toNat) (by omega), getD_rep (q := (16 + (i : Int) - 7).toNat) (by omega), getD_rep (q := (16 + (i : Int) - 2).toNat) (by omega)]
theorem w16_set (b : List Int) {i : Nat} (hi : i < 16) : (w16 b i ++ List.replicate (64 - i) 0).set i (wAt b i) = w16 b (i + 1) ++ List.replicate (64 - (i + 1)) 0 := by
  rw [show 64 - i = (64 - (i + 1)) + 1 from by omega, set_fill (w16_len b i).symm]; rfl
theorem wN_set (b : List Int) {i : Nat} (hi : i < 48) : (wN b i ++ List.replicate (48 - i) 0).set (16 + (i : Int)).toNat (nextW (wN b i ++ List.replicate (48 - i) 0) i) = wN b (i + 1) ++ List.replicate (48 - (i + 1)) 0 := by
  rw [nextW_rep (wN_len b i), show 48 - i = (48 - (i + 1)) + 1 from by omega, set_fill (by rw [wN_len]; omega)]; rfl
def aI (b : List Int) (i : Nat) : List Int := w16 b i ++ List.replicate (64 - i) 0
theorem aI_len (b : List Int) {i : Nat} (h : i ≤ 16) : (aI b i).length = 64 := by unfold aI; rw [List.length_append, w16_len, List.length_replicate]; omega
theorem aI_zero (b : List Int) : List.replicate 64 0 = aI b 0 := rfl
theorem aI_set (b : List Int) {i : Nat} (hi : i < 16) : (aI b i).set i (wAt b i) = aI b (i + 1) := w16_set b hi
def wI (b : List Int) (i : Nat) : List Int := wN b i ++ List.replicate (48 - i) 0
theorem wI_len (b : List Int) {i : Nat} (h : i ≤ 48) : (wI b i).length = 64 := by unfold wI; rw [List.length_append, wN_len, List.length_replicate]; omega
theorem wI_zero (b : List Int) : aI b 16 = wI b 0 := rfl
theorem wI_set (b : List Int) {i : Nat} (hi : i < 48) : (wI b i).set (16 + (i : Int)).toNat (nextW (wI b i) i) = wI b (i + 1) := wN_set b hi
theorem wI_W {b : List Int} (h : U8s b) (i q : Nat) : 0 ≤ (wI b i).getD q 0 ∧ (wI b i).getD q 0 ≤ 4294967295 := arr_W (wN_W h i) _ q
theorem wI_all (b : List Int) : wI b 48 = wN b 48 := by unfold wI; simp
def stepV (v : List Int) (k w : Int) : List Int :=
  [band (wadd (wadd (wadd (wadd (wadd (v.getD 7 0) (bxor (bxor (turnW (v.getD 4 0) 6) (turnW (v.getD 4 0) 11)) (turnW (v.getD 4 0) 25))) (bxor (band (v.getD 4 0) (v.getD 5 0)) (band (bxor 4294967295 (v.getD 4 0)) (v.getD 6 0)))) k) w) (wadd (bxor (bxor (turnW (v.getD 0 0) 2) (turnW (v.getD 0 0) 13)) (turnW (v.getD 0 0) 22)) (bxor (bxor (band (v.getD 0 0) (v.getD 1 0)) (band (v.getD 0 0) (v.getD 2 0))) (band (v.getD 1 0) (v.getD 2 0))))) 4294967295,
   v.getD 0 0, v.getD 1 0, v.getD 2 0,
   band (wadd (v.getD 3 0) (wadd (wadd (wadd (wadd (v.getD 7 0) (bxor (bxor (turnW (v.getD 4 0) 6) (turnW (v.getD 4 0) 11)) (turnW (v.getD 4 0) 25))) (bxor (band (v.getD 4 0) (v.getD 5 0)) (band (bxor 4294967295 (v.getD 4 0)) (v.getD 6 0)))) k) w)) 4294967295,
   v.getD 4 0, v.getD 5 0, v.getD 6 0]
def stepI (v : List Int) (k w : Int) : List Int :=
  [band (wadd (wadd (wadd (wadd (wadd (v.getD 7 0) (bxor (bxor (turnW (v.getD 4 0) 6) (turnW (v.getD 4 0) 11)) (turnW (v.getD 4 0) 25))) (bor (band (v.getD 4 0) (v.getD 5 0)) (band (bxor (v.getD 4 0) 4294967295) (v.getD 6 0)))) k) w) (wadd (bxor (bxor (turnW (v.getD 0 0) 2) (turnW (v.getD 0 0) 13)) (turnW (v.getD 0 0) 22)) (bor (bor (band (v.getD 0 0) (v.getD 1 0)) (band (v.getD 0 0) (v.getD 2 0))) (band (v.getD 1 0) (v.getD 2 0))))) 4294967295,
   v.getD 0 0, v.getD 1 0, v.getD 2 0,
   band (wadd (v.getD 3 0) (wadd (wadd (wadd (wadd (v.getD 7 0) (bxor (bxor (turnW (v.getD 4 0) 6) (turnW (v.getD 4 0) 11)) (turnW (v.getD 4 0) 25))) (bor (band (v.getD 4 0) (v.getD 5 0)) (band (bxor (v.getD 4 0) 4294967295) (v.getD 6 0)))) k) w)) 4294967295,
   v.getD 4 0, v.getD 5 0, v.getD 6 0]
theorem stepI_eq {v : List Int} {k w : Int} (h : 0 ≤ v.getD 4 0 ∧ v.getD 4 0 ≤ 4294967295) : stepI v k w = stepV v k w := by
  unfold stepI stepV
  rw [ch_eq h, maj_eq]
def vN (h w : List Int) : Nat → List Int
  | 0 => h
  | i + 1 => stepV (vN h w i) (shaK.getD i 0) (w.getD i 0)
theorem vN_len {h w : List Int} (h8 : h.length = 8) : ∀ i, (vN h w i).length = 8
  | 0 => h8
  | i + 1 => rfl
theorem vN_W {h w : List Int} (hh : wordsOk h = true) : ∀ (i q : Nat), 0 ≤ (vN h w i).getD q 0 ∧ (vN h w i).getD q 0 ≤ 4294967295
  | 0, q => words_at hh q
  | i + 1, q => by
    have ih := vN_W (w := w) hh i
    match q with
    | 0 => exact band_W _
    | 1 => exact ih 0
    | 2 => exact ih 1
    | 3 => exact ih 2
    | 4 => exact band_W _
    | 5 => exact ih 4
    | 6 => exact ih 5
    | 7 => exact ih 6
    | q + 8 => exact ⟨Int.le_refl _, show (0 : Int) ≤ 4294967295 by decide⟩
def outs (h v : List Int) : Nat → List Int
  | 0 => []
  | i + 1 => outs h v i ++ [band (wadd (h.getD i 0) (v.getD i 0)) 4294967295]
theorem outs_len (h v : List Int) : ∀ i, (outs h v i).length = i
  | 0 => rfl
  | i + 1 => by rw [outs, List.length_append, outs_len h v i]; rfl
def shaBlock (h b : List Int) : List Int := if h.length = 8 ∧ b.length = 64 ∧ wordsOk h = true then outs h (vN h (wN b 48) 64) 8 else []
theorem shaBlock_len (h b : List Int) : (shaBlock h b).length ≤ 8 := by
  unfold shaBlock
  split
  · rw [outs_len]; omega
  · simp
theorem shaBlock_no {h b : List Int} (hn : ¬ (h.length = 8 ∧ b.length = 64 ∧ wordsOk h = true)) : shaBlock h b = [] := if_neg hn
theorem shaBlock_yes {h b : List Int} (hn : h.length = 8 ∧ b.length = 64 ∧ wordsOk h = true) : shaBlock h b = outs h (vN h (wN b 48) 64) 8 := if_pos hn
def padK (n : Nat) : Nat := (119 - n % 64) % 64
def padB (n : Nat) : Nat → List Int
  | 0 => []
  | i + 1 => padB n i ++ [bshr (8 * (n : Int)) (8 * (7 - (i : Int))) % 256]
theorem padB_len (n : Nat) : ∀ i, (padB n i).length = i
  | 0 => rfl
  | i + 1 => by rw [padB, List.length_append, padB_len n i]; rfl
def shaPad (b : List Int) : List Int := b ++ [128] ++ List.replicate (padK b.length) 0 ++ padB b.length 8
theorem shaPad_len (b : List Int) : (shaPad b).length = b.length + 1 + padK b.length + 8 := by simp [shaPad, padB_len]; omega
theorem shaPad_mod (b : List Int) : (shaPad b).length % 64 = 0 ∧ (shaPad b).length ≤ b.length + 72 := by rw [shaPad_len]; unfold padK; omega
theorem padB_u8 (n : Nat) : ∀ i, U8s (padB n i)
  | 0 => fun x hx => by cases hx
  | i + 1 => fun x hx => by
    rcases List.mem_append.1 hx with hx | hx
    · exact padB_u8 n i x hx
    · rcases List.mem_singleton.1 hx with rfl; omega
theorem shaPad_u8 {b : List Int} (h : U8s b) : U8s (shaPad b) := fun x hx => by
  rcases List.mem_append.1 hx with hx | hx
  · rcases List.mem_append.1 hx with hx | hx
    · rcases List.mem_append.1 hx with hx | hx
      · exact h x hx
      · rcases List.mem_singleton.1 hx with rfl; omega
    · rw [List.eq_of_mem_replicate hx]; omega
  · exact padB_u8 _ _ x hx
theorem u8_sub {b : List Int} (h : U8s b) (x y : Nat) : U8s ((b.drop x).take y) := fun z hz => h z (List.mem_of_mem_drop (List.mem_of_mem_take hz))
def hN (p : List Int) : Nat → List Int
  | 0 => shaInit
  | i + 1 => shaBlock (hN p i) ((p.drop (64 * (i : Int)).toNat).take ((64 * (i : Int) + 64).toNat - (64 * (i : Int)).toNat))
theorem hN_len (p : List Int) : ∀ i, (hN p i).length ≤ 8
  | 0 => show shaInit.length ≤ 8 by decide
  | i + 1 => shaBlock_len _ _
def outB (h : List Int) : Nat → List Int
  | 0 => []
  | i + 1 => outB h i ++ [bshr (h.getD i 0) 24 % 256, bshr (h.getD i 0) 16 % 256, bshr (h.getD i 0) 8 % 256, h.getD i 0 % 256]
theorem outB_len (h : List Int) : ∀ i, (outB h i).length = 4 * i
  | 0 => rfl
  | i + 1 => by rw [outB, List.length_append, outB_len h i]; simp; omega
theorem outB_u8 (h : List Int) : ∀ i, U8s (outB h i)
  | 0 => fun x hx => by cases hx
  | i + 1 => fun x hx => by
    rcases List.mem_append.1 hx with hx | hx
    · exact outB_u8 h i x hx
    · simp only [List.mem_cons, List.not_mem_nil, or_false] at hx
      omega
def shaH (b : List Int) : List Int := hN (shaPad b) ((shaPad b).length / 64)
def sha (b : List Int) : List Int := outB (shaH b) (shaH b).length
theorem sha_len (b : List Int) : (sha b).length ≤ 32 := by
  have := hN_len (shaPad b) ((shaPad b).length / 64)
  unfold sha
  rw [outB_len]
  unfold shaH
  omega
theorem sha_u8 (b : List Int) : U8s (sha b) := outB_u8 _ _
end Go.Proofs.Ytmdojlglemnijaa.Rf
