/- The functions that FnExactQcFrom calls, each held to what it answers. Printed by a program of this session; Lean checks it. -/
import Derived.Test.YthaagegnobegjaaProg
import Derived.Test.YthaagegnobegjaaTrFnExactQcFromb
namespace Go.Proofs.Ythaagegnobegjaa.Rf
open Go.RowKit
set_option linter.unusedVariables false
set_option linter.unnecessarySimpa false
set_option linter.unusedSimpArgs false
set_option maxRecDepth 100000
set_option maxHeartbeats 4000000
@[ext] structure SVote where
  f0 : Int
  f1 : Int
  f2 : List Int
  f3 : Int
  f4 : List Int
  deriving Inhabited, DecidableEq
def SVote.cells (x : SVote) : List D := [(.int .i64 x.f0), (.int .i64 x.f1), (.ints .u8 x.f2), (.int .i64 x.f3), (.ints .u8 x.f4)]
theorem SVote.len (x : SVote) : x.cells.length = 5 := rfl
def SVote.sz (x : SVote) (l : Int) : Int := szThen (szB x.f2 l) fun l0 => szThen (szB x.f4 l0) fun l1 => l1
def SVote.sm (x : SVote) : Prop := (x.f2.length ≤ 1048576) ∧ (x.f4.length ≤ 1048576)
def SVote.ok (x : SVote) : Prop := (I64 x.f0) ∧ (I64 x.f1) ∧ (U8s x.f2) ∧ (I64 x.f3) ∧ (U8s x.f4)
theorem SVote.sz_le (x : SVote) {l : Int} (h : 0 ≤ l) : x.sz l ≤ l := by
  unfold SVote.sz
  exact szThen_le' (szB_le _ h) h fun l0 h0 => szThen_le' (szB_le _ h0) h0 fun l1 h1 => Int.le_refl _
theorem SVote.sz_sm (x : SVote) {l : Int} (h0 : 0 ≤ l) (hl : l ≤ 1048576) (h : 0 ≤ x.sz l) : x.sm := by
  unfold SVote.sz at h
  have ⟨p0, h⟩ := szThen_nn h
  have e0 : (szB x.f2 l) ≤ l := szB_le _ h0
  have s0 := szB_sm p0 hl
  have c0 := Int.le_trans e0 hl
  have ⟨p1, h⟩ := szThen_nn h
  have e1 : (szB x.f4 (szB x.f2 l)) ≤ (szB x.f2 l) := szB_le _ p0
  have s1 := szB_sm p1 c0
  have c1 := Int.le_trans e1 c0
  exact ⟨s0, s1⟩
theorem SVote.sm_df : (default : SVote).sm := by (repeat' (first | exact Nat.zero_le _ | (intro y hy; exact absurd hy (List.not_mem_nil)) | apply And.intro))
def SVote.ce (x : SVote) : Int := 1 + 1 + (x.f2.length : Int) + 1 + (x.f4.length : Int)
def SVote.me (x : SVote) (k : Int) : SVote := ⟨k, k + 1, mkB x.f2 ((k + 1) + 1), ((k + 1) + 1) + (x.f2.length : Int), mkB x.f4 ((((k + 1) + 1) + (x.f2.length : Int)) + 1)⟩
theorem SVote.ce_nn (x : SVote) : 0 ≤ x.ce := by
  unfold SVote.ce
  omega
theorem SVote.ce_le {x : SVote} (h : x.sm) : x.ce ≤ 2097155 := by
  unfold SVote.ce
  obtain ⟨p2, p4⟩ := h
  have e2 := p2
  have e4 := p4
  omega
theorem SVote.cL_le {xs : List SVote} (h : xs.length ≤ 1048576 ∧ ∀ y ∈ xs, SVote.sm y) : cntL SVote.ce xs ≤ 2199026401280 := by
  have h1 := cntL_le (cnt := SVote.ce) (n := 2097155) xs fun x hx => SVote.ce_le (h.2 x hx)
  have h2 := h.1
  omega
@[ext] structure SQc where
  f0 : Int
  f1 : Int
  f2 : List Int
  f3 : List Int
  f4 : List (List Int)
  deriving Inhabited, DecidableEq
def SQc.cells (x : SQc) : List D := [(.int .i64 x.f0), (.int .i64 x.f1), (.ints .u8 x.f2), (.ints .u8 x.f3), (.bss x.f4)]
def SQc.sm (x : SQc) : Prop := (x.f2.length ≤ 1048576) ∧ (x.f3.length ≤ 1048576) ∧ (x.f4.length ≤ 1048576 ∧ ∀ y ∈ x.f4, y.length ≤ 1048576)
def SQc.ok (x : SQc) : Prop := (I64 x.f0) ∧ (I64 x.f1) ∧ (U8s x.f2) ∧ (U8s x.f3) ∧ (∀ y ∈ x.f4, U8s y)
def SQc.cm (x : SQc) : Int := (x.f2.length : Int) + (x.f3.length : Int) + cntL (fun x : List Int => (x.length : Int)) x.f4
def SQc.hm (a b : SQc) (k : Int) : Prop := (b.f2 = mkB a.f2 k) ∧ (b.f3 = mkB a.f3 (k + (a.f2.length : Int))) ∧ (b.f4 = mkBs a.f4 ((k + (a.f2.length : Int)) + (a.f3.length : Int)))
theorem SQc.cm_nn (x : SQc) : 0 ≤ x.cm := by
  unfold SQc.cm
  have n4 := cntBs_nonneg x.f4
  omega
theorem SQc.cm_le {x : SQc} (h : x.sm) : x.cm ≤ 1099513724928 := by
  unfold SQc.cm
  obtain ⟨p2, p3, p4⟩ := h
  have e2 := p2
  have e3 := p3
  have e4 := cntBs_le p4
  omega
theorem SQc.sm_df : (default : SQc).sm := by (repeat' (first | exact Nat.zero_le _ | (intro y hy; exact absurd hy (List.not_mem_nil)) | apply And.intro))
@[ext] structure SLimits where
  f0 : Int
  f1 : Int
  f2 : Int
  f3 : Int
  f4 : Int
  deriving Inhabited, DecidableEq
def SLimits.cells (x : SLimits) : List D := [(.int .i64 x.f0), (.int .i64 x.f1), (.int .i64 x.f2), (.int .i64 x.f3), (.int .i64 x.f4)]
def SLimits.ok (x : SLimits) : Prop := (I64 x.f0) ∧ (I64 x.f1) ∧ (I64 x.f2) ∧ (I64 x.f3) ∧ (I64 x.f4)
def qcVote (q : SQc) (i : Nat) : SVote := ⟨q.f0, q.f1, q.f2, (bitList q.f3).getD i 0, q.f4.getD i []⟩
def qcVotesN (q : SQc) (n : Nat) : List SVote := (List.range n).map (qcVote q)
def qcVotes (q : SQc) : List SVote := if (q.f4.length : Int) = ((bitList q.f3).length : Int) then qcVotesN q (bitList q.f3).length else []
theorem qcVotesN_succ (q : SQc) (n : Nat) : qcVotesN q (n + 1) = qcVotesN q n ++ [qcVote q n] := by simp [qcVotesN, List.range_succ]
theorem qcVotesN_len (q : SQc) (n : Nat) : (qcVotesN q n).length = n := by simp [qcVotesN]
def limOk (l : SLimits) : Bool := decide (1 ≤ l.f0 ∧ l.f0 ≤ 10) && decide (0 ≤ l.f1 ∧ l.f1 ≤ 40) && decide (0 ≤ l.f2 ∧ l.f2 ≤ 8) && decide (1 ≤ l.f3 ∧ l.f3 ≤ 4000) && decide (3 ≤ l.f4 ∧ l.f4 ≤ 5)
def hashes (l : List (List Int)) : Bool := l.all fun x => decide ((x.length : Int) = 32)
theorem hashes_step {l : List (List Int)} {i : Nat} (hi : i < l.length) (h : hashes (l.take i) = true) (hx : ((l.getD i []).length : Int) = 32) : hashes (l.take (i + 1)) = true := by
  rw [take_succ' (df := []) hi]; simp only [hashes, List.all_append, List.all_cons, List.all_nil, Bool.and_true, Bool.and_eq_true] at h ⊢; exact ⟨h, decide_eq_true hx⟩
theorem hashes_no {l : List (List Int)} {i : Nat} (hi : i < l.length) (hx : ¬ ((l.getD i []).length : Int) = 32) : hashes l = false := by
  cases h : hashes l with
  | false => rfl
  | true =>
    rw [hashes, List.all_eq_true] at h
    have := h (l.getD i []) (by rw [List.getD_eq_getElem?_getD, List.getElem?_eq_getElem hi]; exact List.getElem_mem hi)
    exact absurd (of_decide_eq_true this) hx
def bitsOk (b : List Int) (n : Int) : Bool := decide (1 ≤ n ∧ n ≤ 10) && decide ((b.length : Int) = bitsSize n) && (bitList b).all (fun x => decide (x < n))
theorem all_step {l : List Int} {n : Int} {i : Nat} (hi : i < l.length) (h : (l.take i).all (fun x => decide (x < n)) = true) (hx : l.getD i 0 < n) : (l.take (i + 1)).all (fun x => decide (x < n)) = true := by
  rw [take_succ' (df := 0) hi]; simp only [List.all_append, List.all_cons, List.all_nil, Bool.and_true, Bool.and_eq_true] at h ⊢; exact ⟨h, decide_eq_true hx⟩
theorem all_no {l : List Int} {n : Int} {i : Nat} (hi : i < l.length) (hx : ¬ l.getD i 0 < n) : l.all (fun x => decide (x < n)) = false := by
  cases h : l.all (fun x => decide (x < n)) with
  | false => rfl
  | true =>
    rw [List.all_eq_true] at h
    have := h (l.getD i 0) (by rw [List.getD_eq_getElem?_getD, List.getElem?_eq_getElem hi]; exact List.getElem_mem hi)
    exact absurd (of_decide_eq_true this) hx
theorem bits_last {b : List Int} {n : Int} (h : 0 < (bitList b).length) : (bitList b).all (fun x => decide (x < n)) = decide ((bitList b).getD (((bitList b).length : Int) - 1).toNat 0 < n) := by
  rw [show (((bitList b).length : Int) - 1).toNat = (bitList b).length - 1 from by omega]
  have h1 := bitsGo_last b n (8 * b.length) 0
  rw [show bitsGo b (8 * b.length) 0 = bitList b from rfl] at h1
  rw [h1, List.getLast?_eq_getElem?, List.getElem?_eq_getElem (by omega), List.getD_eq_getElem?_getD, List.getElem?_eq_getElem (by omega)]
  rfl
def setB (x : Int) (t : Nat) : Int := if x / 2 ^ t % 2 = 1 then x else x + 2 ^ t
def or8 (a b : Int) : Int := IntKind.u8.wrap (BitVec.ofInt IntKind.u8.bits a ||| BitVec.ofInt IntKind.u8.bits b).toNat
def xor8 (a b : Int) : Int := IntKind.u8.wrap (BitVec.ofInt IntKind.u8.bits a ^^^ BitVec.ofInt IntKind.u8.bits b).toNat
def shl8 (a n : Int) : Int := IntKind.u8.wrap (a * 2 ^ (min n.toNat IntKind.u8.bits))
theorem or8_set {x t : Int} (h : 0 ≤ x ∧ x ≤ 255) (ht : 0 ≤ t ∧ t ≤ 7) : or8 x (shl8 1 t) = setB x t.toNat := by
  obtain ⟨n, hn⟩ : ∃ n : Fin 256, x = ((n.val : Nat) : Int) := ⟨⟨x.toNat, by omega⟩, by simp only; omega⟩
  obtain ⟨m, hm⟩ : ∃ m : Fin 8, t = ((m.val : Nat) : Int) := ⟨⟨t.toNat, by omega⟩, by simp only; omega⟩
  subst hn hm; clear h ht; revert m; revert n; decide +kernel
theorem xor8_set {x t : Int} (h : 0 ≤ x ∧ x ≤ 255) (ht : 0 ≤ t ∧ t ≤ 7) (hb : ¬ x / 2 ^ t.toNat % 2 = 1) : xor8 x (shl8 1 t) = setB x t.toNat := by
  obtain ⟨n, hn⟩ : ∃ n : Fin 256, x = ((n.val : Nat) : Int) := ⟨⟨x.toNat, by omega⟩, by simp only; omega⟩
  obtain ⟨m, hm⟩ : ∃ m : Fin 8, t = ((m.val : Nat) : Int) := ⟨⟨t.toNat, by omega⟩, by simp only; omega⟩
  subst hn hm; clear h ht; revert hb; revert m; revert n; decide +kernel
theorem setB_u8 {x : Int} {t : Nat} (h : 0 ≤ x ∧ x ≤ 255) (ht : t < 8) : 0 ≤ setB x t ∧ setB x t ≤ 255 := by
  obtain ⟨n, hn⟩ : ∃ n : Fin 256, x = ((n.val : Nat) : Int) := ⟨⟨x.toNat, by omega⟩, by simp only; omega⟩
  obtain ⟨m, hm⟩ : ∃ m : Fin 8, t = m.val := ⟨⟨t, ht⟩, rfl⟩
  subst hn hm; clear h ht; revert m; revert n; decide +kernel
theorem setB_bit {x : Int} {t s : Nat} (h : 0 ≤ x ∧ x ≤ 255) (ht : t < 8) (hs : s < 8) : (setB x t / 2 ^ s % 2 = 1) ↔ (s = t ∨ x / 2 ^ s % 2 = 1) := by
  obtain ⟨n, hn⟩ : ∃ n : Fin 256, x = ((n.val : Nat) : Int) := ⟨⟨x.toNat, by omega⟩, by simp only; omega⟩
  obtain ⟨m, hm⟩ : ∃ m : Fin 8, t = m.val := ⟨⟨t, ht⟩, rfl⟩
  obtain ⟨k, hk⟩ : ∃ k : Fin 8, s = k.val := ⟨⟨s, hs⟩, rfl⟩
  subst hn hm hk; clear h ht hs; revert k; revert m; revert n; decide +kernel
def putBit (b : List Int) (i : Int) : List Int := b.set (i / 8).toNat (setB (b.getD (i / 8).toNat 0) (i % 8).toNat)
theorem putBit_len (b : List Int) (i : Int) : (putBit b i).length = b.length := by simp [putBit]
theorem putBit_u8 {b : List Int} (h : U8s b) (i : Int) : U8s (putBit b i) := fun x hx => by
  rcases List.mem_or_eq_of_mem_set hx with hx | rfl
  · exact h x hx
  · exact setB_u8 (getD_u8 h _) (by omega)
theorem bitHas_eq (b : List Int) (i : Int) : bitHas b i = decide (0 ≤ i ∧ i / 8 < (b.length : Int) ∧ b.getD (i / 8).toNat 0 / 2 ^ (i % 8).toNat % 2 = 1) := by
  unfold bitHas
  by_cases h0 : 0 ≤ i
  · by_cases h1 : i / 8 < (b.length : Int)
    · have e : rd b (i / 8) = b.getD (i / 8).toNat 0 := by
        have hlt : (i / 8).toNat < b.length := by omega
        have := rd_at (List.getElem?_eq_getElem hlt)
        rw [show (((i / 8).toNat : Nat) : Int) = i / 8 from by omega] at this
        rw [this, List.getD_eq_getElem?_getD, List.getElem?_eq_getElem hlt]; rfl
      rw [e]; simp [h0, h1]
    · simp [h0, h1]
  · simp [h0]
theorem putBit_has {b : List Int} (h : U8s b) {i : Int} (hi : 0 ≤ i ∧ i / 8 < (b.length : Int)) {j : Int} : bitHas (putBit b i) j = true ↔ (j = i ∨ bitHas b j = true) := by
  rw [bitHas_eq, bitHas_eq, decide_eq_true_eq, decide_eq_true_eq, putBit_len]
  by_cases hj : 0 ≤ j ∧ j / 8 < (b.length : Int)
  · by_cases hq : j / 8 = i / 8
    · have e : (putBit b i).getD (j / 8).toNat 0 = setB (b.getD (i / 8).toNat 0) (i % 8).toNat := by
        unfold putBit
        rw [List.getD_eq_getElem?_getD, hq, List.getElem?_set_self (by omega)]; rfl
      rw [e, setB_bit (getD_u8 h _) (by omega) (by omega), hq]
      constructor
      · rintro ⟨_, _, h2 | h2⟩
        · exact .inl (by omega)
        · exact .inr ⟨hj.1, by omega, h2⟩
      · rintro (rfl | ⟨h1, h2, h3⟩)
        · exact ⟨hj.1, hi.2, .inl rfl⟩
        · exact ⟨hj.1, hi.2, .inr h3⟩
    · have e : (putBit b i).getD (j / 8).toNat 0 = b.getD (j / 8).toNat 0 := by
        unfold putBit
        rw [List.getD_eq_getElem?_getD, List.getElem?_set_ne (by omega), List.getD_eq_getElem?_getD]
      rw [e]
      constructor
      · rintro ⟨h1, h2, h3⟩; exact .inr ⟨h1, h2, h3⟩
      · rintro (rfl | ⟨h1, h2, h3⟩)
        · exact absurd rfl hq
        · exact ⟨h1, h2, h3⟩
  · constructor
    · rintro ⟨h1, h2, h3⟩; exact absurd ⟨h1, h2⟩ hj
    · rintro (rfl | ⟨h1, h2, h3⟩)
      · exact absurd hi hj
      · exact absurd ⟨h1, h2⟩ hj
theorem bitsGo_mem (b : List Int) : ∀ (d i : Nat) (x : Int), x ∈ bitsGo b d i ↔ ((i : Int) ≤ x ∧ x < ((i + d : Nat) : Int) ∧ bitHas b x = true)
  | 0, i, x => by simp only [bitsGo, List.not_mem_nil, false_iff]; omega
  | d + 1, i, x => by
    unfold bitsGo
    have ih := bitsGo_mem b d (i + 1) x
    split
    · rename_i hb
      rw [List.mem_cons, ih]
      constructor
      · rintro (rfl | ⟨h1, h2, h3⟩)
        · exact ⟨Int.le_refl _, by omega, hb⟩
        · exact ⟨by omega, by omega, h3⟩
      · rintro ⟨h1, h2, h3⟩
        by_cases hx : x = (i : Int)
        · exact .inl hx
        · exact .inr ⟨by omega, by omega, h3⟩
    · rename_i hb
      rw [ih]
      constructor
      · rintro ⟨h1, h2, h3⟩; exact ⟨by omega, by omega, h3⟩
      · rintro ⟨h1, h2, h3⟩
        refine ⟨?_, by omega, h3⟩
        by_cases hx : x = (i : Int)
        · subst hx; exact absurd h3 hb
        · omega
theorem bitList_mem {b : List Int} {x : Int} : x ∈ bitList b ↔ bitHas b x = true := by
  unfold bitList
  rw [bitsGo_mem]
  constructor
  · exact fun h => h.2.2
  · intro h
    have := h
    rw [bitHas_eq, decide_eq_true_eq] at this
    exact ⟨by omega, by omega, h⟩
theorem bitsOk_iff {b : List Int} {n : Int} : bitsOk b n = true ↔ ((1 ≤ n ∧ n ≤ 10) ∧ (b.length : Int) = bitsSize n ∧ ∀ x, bitHas b x = true → x < n) := by
  simp only [bitsOk, Bool.and_eq_true, decide_eq_true_eq, List.all_eq_true, bitList_mem, and_assoc]
theorem bitsOk_put {b : List Int} {n i : Int} (hu : U8s b) (h : bitsOk b n = true) (hi : 0 ≤ i ∧ i ≤ n - 1) : bitsOk (putBit b i) n = true := by
  obtain ⟨h1, h2, h3⟩ := bitsOk_iff.1 h
  refine bitsOk_iff.2 ⟨h1, by rw [putBit_len]; exact h2, fun x hx => ?_⟩
  have hl : i / 8 < (b.length : Int) := by rw [h2]; unfold bitsSize; rw [if_neg (by omega)]; omega
  rcases (putBit_has hu ⟨hi.1, hl⟩).1 hx with rfl | hx
  · omega
  · exact h3 x hx
def zeros (n : Int) : List Int := List.replicate (bitsSize n).toNat 0
theorem zeros_u8 (n : Int) : U8s (zeros n) := fun x hx => by rw [List.eq_of_mem_replicate hx]; omega
theorem zbits_ok {n : Int} (h : 1 ≤ n ∧ n ≤ 10) : bitsOk (zeros n) n = true := by
  refine bitsOk_iff.2 ⟨h, by unfold zeros bitsSize; rw [if_neg (by omega), List.length_replicate]; omega, fun x hx => ?_⟩
  rw [bitHas_eq, decide_eq_true_eq] at hx
  have e : (zeros n).getD (x / 8).toNat 0 = 0 := by
    unfold zeros
    rw [List.getD_eq_getElem?_getD, List.getElem?_replicate]; split <;> rfl
  rw [e, Int.zero_ediv] at hx
  exact absurd hx.2.2 (by decide)
theorem zeros_len (n : Int) : (zeros n).length = (bitsSize n).toNat := by simp [zeros]
def putBits (n : Int) (l : List Int) : List Int := l.foldl putBit (zeros n)
def signersOk (l : List Int) (n : Int) : Bool := l.all fun i => decide (0 ≤ i ∧ i ≤ n - 1)
theorem signers_step {l : List Int} {n : Int} {i : Nat} (hi : i < l.length) (h : signersOk (l.take i) n = true) (hx : 0 ≤ l.getD i 0 ∧ l.getD i 0 ≤ n - 1) : signersOk (l.take (i + 1)) n = true := by
  rw [take_succ' (df := 0) hi]; simp only [signersOk, List.all_append, List.all_cons, List.all_nil, Bool.and_true, Bool.and_eq_true] at h ⊢; exact ⟨h, decide_eq_true hx⟩
theorem signers_no {l : List Int} {n : Int} {i : Nat} (hi : i < l.length) (hx : ¬ (0 ≤ l.getD i 0 ∧ l.getD i 0 ≤ n - 1)) : signersOk l n = false := by
  cases h : signersOk l n with
  | false => rfl
  | true =>
    rw [signersOk, List.all_eq_true] at h
    have := h (l.getD i 0) (by rw [List.getD_eq_getElem?_getD, List.getElem?_eq_getElem hi]; exact List.getElem_mem hi)
    exact absurd (of_decide_eq_true this) hx
theorem putBits_step (n : Int) {l : List Int} {i : Nat} (hi : i < l.length) : putBits n (l.take (i + 1)) = putBit (putBits n (l.take i)) (l.getD i 0) := by
  unfold putBits; rw [take_succ' (df := 0) hi, List.foldl_append]; rfl
theorem putBits_len (n : Int) (l : List Int) : (putBits n l).length = (bitsSize n).toNat := by
  unfold putBits
  rw [← zeros_len n]
  generalize zeros n = b
  induction l generalizing b with
  | nil => rfl
  | cons i l ih => rw [List.foldl_cons, ih, putBit_len]
theorem putBits_u8 (n : Int) (l : List Int) : U8s (putBits n l) := by
  unfold putBits
  have h := zeros_u8 n
  generalize zeros n = b at h
  induction l generalizing b with
  | nil => exact h
  | cons i l ih => exact ih _ (putBit_u8 h i)
theorem putBits_ok {n : Int} (h : 1 ≤ n ∧ n ≤ 10) {l : List Int} (hs : signersOk l n = true) : bitsOk (putBits n l) n = true := by
  unfold putBits
  have hu := zeros_u8 n
  have hk := zbits_ok h
  generalize zeros n = b at hu hk
  induction l generalizing b with
  | nil => exact hk
  | cons i l ih =>
    simp only [signersOk, List.all_cons, Bool.and_eq_true, decide_eq_true_eq] at hs
    exact ih hs.2 _ (putBit_u8 hu i) (bitsOk_put hu hk hs.1)
def bitsOfOk (l : List Int) (n : Int) : Bool := decide (1 ≤ n ∧ n ≤ 10) && signersOk l n
def bitsOf (l : List Int) (n : Int) : List Int := if bitsOfOk l n = true then putBits n l else []
theorem bitsOf_yes {l : List Int} {n : Int} (h : bitsOfOk l n = true) : bitsOf l n = putBits n l := if_pos h
theorem bitsOf_no {l : List Int} {n : Int} (h : bitsOfOk l n = false) : bitsOf l n = [] := by unfold bitsOf; rw [h]; rfl
theorem bitsOf_u8 (l : List Int) (n : Int) : U8s (bitsOf l n) := by
  unfold bitsOf
  split
  · exact putBits_u8 n l
  · exact fun x hx => by cases hx
theorem bitsOf_len (l : List Int) (n : Int) : (bitsOf l n).length ≤ 2 := by
  unfold bitsOf
  split
  · rename_i h
    simp only [bitsOfOk, Bool.and_eq_true, decide_eq_true_eq] at h
    rw [putBits_len]; unfold bitsSize; rw [if_neg (by omega)]; omega
  · simp
def putBit1 (b : List Int) (n i : Int) : List Int := if bitsOk b n = true ∧ 0 ≤ i ∧ i ≤ n - 1 then putBit b i else []
theorem putBit1_yes {b : List Int} {n i : Int} (h : bitsOk b n = true) (hi : 0 ≤ i ∧ i ≤ n - 1) : putBit1 b n i = putBit b i := if_pos ⟨h, hi⟩
theorem putBit1_no {b : List Int} {n i : Int} (h : ¬ (bitsOk b n = true ∧ 0 ≤ i ∧ i ≤ n - 1)) : putBit1 b n i = [] := if_neg h
theorem putBit1_has {b : List Int} {n i : Int} (h : bitsOk b n = true) (hi : 0 ≤ i ∧ i ≤ n - 1) (hb : bitHas b i = true) : putBit1 b n i = b := by
  rw [putBit1_yes h hi, putBit]
  rw [bitHas_eq, decide_eq_true_eq] at hb
  unfold setB
  rw [if_pos hb.2.2, List.getD_eq_getElem?_getD]
  have hlt : (i / 8).toNat < b.length := by omega
  rw [List.getElem?_eq_getElem hlt, Option.getD_some, List.set_getElem_self]
theorem bitsState_step {n : Int} {l : List Int} {i : Nat} (hi : i < l.length) : putBit1 (bitsOf (l.take i) n) n (l.getD i 0) = bitsOf (l.take (i + 1)) n ∧ bitsOfOk (l.take (i + 1)) n = (bitsOfOk (l.take i) n && (bitsOk (bitsOf (l.take i) n) n && decide (0 ≤ l.getD i 0 ∧ l.getD i 0 ≤ n - 1))) := by
  by_cases hn : 1 ≤ n ∧ n ≤ 10
  · cases hs : signersOk (l.take i) n with
    | true =>
      have h0 : bitsOfOk (l.take i) n = true := by unfold bitsOfOk; rw [hs, decide_eq_true hn]; rfl
      have hk : bitsOk (bitsOf (l.take i) n) n = true := by rw [bitsOf_yes h0]; exact putBits_ok hn hs
      by_cases hx : 0 ≤ l.getD i 0 ∧ l.getD i 0 ≤ n - 1
      · have h1 : bitsOfOk (l.take (i + 1)) n = true := by unfold bitsOfOk; rw [signers_step hi hs hx, decide_eq_true hn]; rfl
        refine ⟨?_, by rw [h1, h0, hk, decide_eq_true hx]; rfl⟩
        rw [putBit1_yes hk hx, bitsOf_yes h0, bitsOf_yes h1, putBits_step n hi]
      · have h1 : bitsOfOk (l.take (i + 1)) n = false := by
          unfold bitsOfOk
          rw [signers_no (i := i) (by simp; omega) (by rw [List.getD_eq_getElem?_getD, List.getElem?_take, if_pos (by omega), ← List.getD_eq_getElem?_getD]; exact hx), Bool.and_false]
        refine ⟨?_, by rw [h1, h0, hk, decide_eq_false hx]; rfl⟩
        rw [putBit1_no (fun h => hx h.2), bitsOf_no h1]
    | false =>
      have h0 : bitsOfOk (l.take i) n = false := by unfold bitsOfOk; rw [hs, Bool.and_false]
      have hs1 : signersOk (l.take (i + 1)) n = false := by
        rw [take_succ' (df := 0) hi]; simp only [signersOk, List.all_append] at hs ⊢; rw [hs]; rfl
      have h1 : bitsOfOk (l.take (i + 1)) n = false := by unfold bitsOfOk; rw [hs1, Bool.and_false]
      have hk : ¬ bitsOk ([] : List Int) n = true := by
        intro h
        have := (bitsOk_iff.1 h).2.1
        unfold bitsSize at this
        rw [if_neg (by omega)] at this
        simp at this
        omega
      rw [bitsOf_no h0, bitsOf_no h1, h0, h1]
      exact ⟨putBit1_no (fun h => hk h.1), rfl⟩
  · have hf : ∀ l, bitsOfOk l n = false := fun l => by unfold bitsOfOk; rw [decide_eq_false hn]; rfl
    rw [bitsOf_no (hf _), bitsOf_no (hf _), hf, hf]
    exact ⟨putBit1_no (fun h => hn (bitsOk_iff.1 h.1).1), rfl⟩
theorem has_of {x on : Bool} (h : (x != on) = false) (ho : on = true) : x = true := by subst ho; cases x <;> simp_all
theorem no_of {x on : Bool} (h : (x != on) = true) (ho : on = true) : x = false := by subst ho; cases x <;> simp_all
theorem putBit1_new {b : List Int} {n i : Int} (hu : U8s b) (h : bitsOk b n = true) (hi : 0 ≤ i ∧ i ≤ n - 1) (hb : bitHas b i = false) : b.set (i / 8).toNat (xor8 (b.getD (i / 8).toNat 0) (shl8 1 (i % 8))) = putBit1 b n i := by
  obtain ⟨h1, h2, _⟩ := bitsOk_iff.1 h
  have hl : i / 8 < (b.length : Int) := by rw [h2]; unfold bitsSize; rw [if_neg (by omega)]; omega
  rw [putBit1_yes h hi, putBit, xor8_set (getD_u8 hu _) (by omega)]
  intro hx
  rw [bitHas_eq, decide_eq_false_iff_not] at hb
  exact hb ⟨hi.1, hl, hx⟩
theorem or8_step {n : Int} {l : List Int} {i : Nat} (hi : i < l.length) (hx : 0 ≤ l.getD i 0) : (putBits n (l.take i)).set (l.getD i 0 / 8).toNat (or8 ((putBits n (l.take i)).getD (l.getD i 0 / 8).toNat 0) (shl8 1 (l.getD i 0 % 8))) = putBits n (l.take (i + 1)) := by
  rw [or8_set (getD_u8 (putBits_u8 _ _) _) (by omega), putBits_step n hi]; rfl
theorem bitsOfOk_in {l : List Int} {n : Int} (hn : 1 ≤ n ∧ n ≤ 10) (hs : signersOk l n = true) : bitsOfOk l n = true := by unfold bitsOfOk; rw [hs, decide_eq_true hn]; rfl
theorem bitsOfOk_out {l : List Int} {n : Int} (hn : ¬ (1 ≤ n ∧ n ≤ 10)) : bitsOfOk l n = false := by unfold bitsOfOk; rw [decide_eq_false hn]; rfl
theorem bitsOfOk_no {l : List Int} {n : Int} (hs : signersOk l n = false) : bitsOfOk l n = false := by unfold bitsOfOk; rw [hs, Bool.and_false]
theorem bitsOf_nil {n : Int} (hn : 1 ≤ n ∧ n ≤ 10) (l : List Int) : bitsOf [] n = putBits n (l.take 0) := bitsOf_yes (bitsOfOk_in hn rfl)
theorem bitsOf_all {l : List Int} {n : Int} {i : Nat} (hi : l.length ≤ i) : bitsOf (l.take i) n = bitsOf l n ∧ bitsOfOk (l.take i) n = bitsOfOk l n ∧ signersOk (l.take i) n = signersOk l n ∧ putBits n (l.take i) = putBits n l := by rw [List.take_of_length_le hi]; exact ⟨rfl, rfl, rfl, rfl⟩
def qcOk (l : SLimits) (q : SQc) : Bool := limOk l && decide (0 ≤ q.f0 ∧ q.f0 ≤ 1152921504606846975) && decide (0 ≤ q.f1 ∧ q.f1 ≤ 1152921504606846975) && decide ((q.f2.length : Int) = 32) && bitsOk q.f3 l.f0 && decide ((q.f4.length : Int) = ((bitList q.f3).length : Int)) && hashes q.f4
theorem qcOk_lim' {l : SLimits} {q : SQc} (k : qcOk l q = true) : limOk l = true := by simp only [qcOk, Bool.and_eq_true] at k; exact k.1.1.1.1.1.1
def voteWhos (v : List SVote) : List Int := v.map SVote.f3
def voteTags (v : List SVote) : List (List Int) := v.map SVote.f4
theorem voteWhos_step {v : List SVote} {i : Nat} (hi : i < v.length) : voteWhos (v.take (i + 1)) = voteWhos (v.take i) ++ [(v.getD i default).f3] := by
  unfold voteWhos; rw [take_succ' (df := default) hi, List.map_append]; rfl
theorem voteTags_step {v : List SVote} {i : Nat} (hi : i < v.length) : voteTags (v.take (i + 1)) = voteTags (v.take i) ++ [(v.getD i default).f4] := by
  unfold voteTags; rw [take_succ' (df := default) hi, List.map_append]; rfl
theorem voteWhos_len (v : List SVote) (i : Nat) : (voteWhos (v.take i)).length ≤ i := by unfold voteWhos; simp; omega
theorem voteTags_len (v : List SVote) (i : Nat) : (voteTags (v.take i)).length ≤ i := by unfold voteTags; simp; omega
def qcOf (l : SLimits) (v : List SVote) : SQc := ⟨(v.getD 0 default).f0, (v.getD 0 default).f1, (v.getD 0 default).f2, bitsOf (voteWhos v) l.f0, voteTags v⟩
def qcFromOk (l : SLimits) (v : List SVote) : Bool := decide (v.length ≠ 0) && qcOk l (qcOf l v) && decide (qcVotes (qcOf l v) = v)
def qcFrom (l : SLimits) (v : List SVote) : SQc := if qcFromOk l v = true then qcOf l v else default
theorem qcFrom_yes {l : SLimits} {v : List SVote} (h : qcFromOk l v = true) : qcFrom l v = qcOf l v := if_pos h
theorem qcFrom_no {l : SLimits} {v : List SVote} (h : qcFromOk l v = false) : qcFrom l v = default := by unfold qcFrom; rw [h]; rfl
theorem qcFromOk_iff {l : SLimits} {v : List SVote} : qcFromOk l v = true ↔ (v.length ≠ 0 ∧ qcOk l (qcOf l v) = true ∧ qcVotes (qcOf l v) = v) := by
  simp only [qcFromOk, Bool.and_eq_true, decide_eq_true_eq, and_assoc]
theorem qcOf_bits {l : SLimits} {v : List SVote} (h : qcOk l (qcOf l v) = true) : bitsOfOk (voteWhos v) l.f0 = true := by
  cases hb : bitsOfOk (voteWhos v) l.f0 with
  | true => rfl
  | false =>
    simp only [qcOk, Bool.and_eq_true] at h
    have h3 : bitsOk (qcOf l v).f3 l.f0 = true := h.1.1.2
    have e : (qcOf l v).f3 = [] := bitsOf_no hb
    rw [e] at h3
    have := (bitsOk_iff.1 h3).2.1
    have h1 := (bitsOk_iff.1 h3).1
    unfold bitsSize at this
    rw [if_neg (by omega)] at this
    simp at this
    omega
theorem vote_at_ok {v : List SVote} (h : ∀ y ∈ v, SVote.ok y) (i : Nat) : (v.getD i default).ok := by
  rw [List.getD_eq_getElem?_getD]
  cases hx : v[i]? with
  | none => exact ⟨⟨by decide, by decide⟩, ⟨by decide, by decide⟩, fun x hx => (by cases hx), ⟨by decide, by decide⟩, fun x hx => (by cases hx)⟩
  | some x => exact h x (List.mem_of_getElem? hx)
theorem vote_at_sm {v : List SVote} (h : ∀ y ∈ v, SVote.sm y) (i : Nat) : (v.getD i default).sm := by
  rw [List.getD_eq_getElem?_getD]
  cases hx : v[i]? with
  | none => exact SVote.sm_df
  | some x => exact h x (List.mem_of_getElem? hx)
theorem qcOf_ok {l : SLimits} {v : List SVote} (h : ∀ y ∈ v, SVote.ok y) : (qcOf l v).ok := by
  obtain ⟨h0, h1, h2, _, _⟩ := vote_at_ok h 0
  refine ⟨h0, h1, h2, bitsOf_u8 _ _, fun y hy => ?_⟩
  obtain ⟨x, hx, rfl⟩ := List.mem_map.1 hy
  exact (h x hx).2.2.2.2
theorem qcOf_sm {l : SLimits} {v : List SVote} (hl : v.length ≤ 1048576) (h : ∀ y ∈ v, SVote.sm y) : (qcOf l v).sm := by
  refine ⟨(vote_at_sm h 0).1, Nat.le_trans (bitsOf_len _ _) (by decide), ?_, fun y hy => ?_⟩
  · show (v.map SVote.f4).length ≤ 1048576
    rw [List.length_map]; exact hl
  · obtain ⟨x, hx, rfl⟩ := List.mem_map.1 hy
    exact (h x hx).2
theorem qcVotes_ok {q : SQc} (h : q.ok) (hs : q.sm) : ∀ y ∈ qcVotes q, SVote.ok y := by
  obtain ⟨h0, h1, h2, h3, h4⟩ := h
  unfold qcVotes
  split
  · intro y hy
    obtain ⟨i, hi, rfl⟩ := List.mem_map.1 hy
    refine ⟨h0, h1, h2, ?_, ?_⟩
    · show I64 ((bitList q.f3).getD i 0)
      have hb := bitList_len q.f3
      rw [List.getD_eq_getElem?_getD]
      cases hx : (bitList q.f3)[i]? with
      | none => exact ⟨by decide, by decide⟩
      | some x =>
        have := bitList_bd (List.mem_of_getElem? hx)
        unfold I64
        have hb2 := hs.2.1
        simp only [Option.getD_some]
        omega
    · show U8s (q.f4.getD i [])
      rw [List.getD_eq_getElem?_getD]
      cases hx : q.f4[i]? with
      | none => exact fun x hx => by cases hx
      | some x => exact h4 x (List.mem_of_getElem? hx)
  · intro y hy; cases hy
theorem qcFrom_sm {l : SLimits} {v : List SVote} (hl : v.length ≤ 1048576) (h : ∀ y ∈ v, SVote.sm y) : (qcFrom l v).sm := by
  unfold qcFrom
  split
  · exact qcOf_sm hl h
  · exact SQc.sm_df
theorem ok_laws_eqByteS (a : List Int) (b : List Int) : RO Try.prog 29 [.one (.ints .u8 a), .one (.ints .u8 b)] [(false, [.rd (.bool (decide (a = b)))])] := by
 refine RO.intro Try.func29 rfl 26 rfl (le_ok rfl) fun w Z => ?_
 refine T.bnd 0 0 rfl rfl fun hb_0_0 => ?_
 simp only [D.size, List.length_map] at hb_0_0
 refine T.bnd 1 0 rfl rfl fun hb_1_0 => ?_
 simp only [D.size, List.length_map] at hb_1_0
 refine T.seq ?_
 refine T.region ?_
 refine TL.as (pB false) ?_
 refine TL.nil ?_
 refine T.seq ?_
 refine T.seq ?_
 refine T.region ?_
 refine TL.mv (pS a) ?_
 refine TL.c (Step.len (e := 5) (z := 1) (d := (.ints .u8 a)) rfl rfl (lt_ok rfl) (by kernel_rfl) rfl rfl) ?_
 refine TL.mv (pS b) ?_
 refine TL.c (Step.len (e := 5) (z := 1) (d := (.ints .u8 b)) rfl rfl (lt_ok rfl) (by kernel_rfl) rfl rfl) ?_
 refine TL.c (Step.bin rfl rfl (lt_ok rfl) rfl rfl (Bin.neq (k := .i64) (a := (a.length : Int)) (b := (b.length : Int)))) ?_
 refine TL.nil ?_
 refine T.cond (b := decide ((a.length : Int) ≠ (b.length : Int))) rfl (fun h1 => ?_) (fun h1 => ?_)
 ·
  replace h1 := of_decide_eq_true h1
  refine T.seq ?_
  refine T.region ?_
  refine TL.as (pB false) ?_
  refine TL.nil ?_
  refine T.ret ?_
  refine ⟨[(false, [.d (.bool false)])], (.cons rfl .nil), rfl, [], (RetC.rd' ?_ .nil)⟩ <;> ((congr 1; symm; first | (apply decide_eq_false; rintro rfl; first | exact absurd rfl ‹¬ _ = _› | exact absurd rfl (of_decide_eq_false (by assumption)) | contradiction | simp_all) | (apply decide_eq_true; exact take_all hx2 (by omega) hx3)))
 ·
  replace h1 := of_decide_eq_false h1
  refine T.skip ?_
  refine T.seq ?_
  refine T.seq ?_
  refine T.region ?_
  refine TL.as (pI 0) ?_
  refine TL.nil ?_
  refine T.block ?_
  refine T.loop (ι := Nat) (fun xx_ => { tm := [(0, (pS a)), (1, (pS b)), (5, (pI (xx_ : Int)))], rows := [], boxes := [] }) (fun xx_ => xx_ ≤ a.length ∧ a.length = b.length ∧ a.take xx_ = b.take xx_) (fun xx_ => a.length - xx_) 0 ?_ ?_ ?_
  · refine Env.le_mk ⟨rfl, rfl, ?_, trivial⟩ trivial trivial <;> (first | rfl | (simp; done) | (congr 3; omega))
  · (refine ⟨Nat.zero_le _, by omega, by simp⟩)
  ·
   intro i hx
   try dsimp only at hx ⊢
   obtain ⟨hx1, hx2, hx3⟩ := hx
   refine T.seq ?_
   refine T.seq ?_
   refine T.region ?_
   refine TL.mv (pI (i : Int)) ?_
   refine TL.mv (pS a) ?_
   refine TL.c (Step.len (e := 5) (z := 1) (d := (.ints .u8 a)) rfl rfl (lt_ok rfl) (by kernel_rfl) rfl rfl) ?_
   refine TL.c (Step.bin rfl rfl (lt_ok rfl) rfl rfl (Bin.lss (k := .i64) (a := (i : Int)) (b := (a.length : Int)))) ?_
   refine TL.nil ?_
   refine T.cond (b := decide ((i : Int) < (a.length : Int))) rfl (fun h2 => ?_) (fun h2 => ?_)
   ·
    replace h2 := of_decide_eq_true h2
    refine T.skip ?_
    refine T.seq ?_
    refine T.block ?_
    refine T.seq ?_
    refine T.draw [⟨17, (pS a), []⟩, ⟨18, (pI (i : Int)), []⟩, ⟨19, (.one (.eptr (.ints .u8 a) i 0)), []⟩, ⟨20, (.one (.d (.int .u8 (a.getD i 0)))), []⟩, ⟨21, (pS b), []⟩, ⟨22, (pI (i : Int)), []⟩, ⟨23, (.one (.eptr (.ints .u8 b) i 0)), []⟩, ⟨24, (.one (.d (.int .u8 (b.getD i 0)))), []⟩, ⟨25, (pB (decide ((a.getD i 0) ≠ (b.getD i 0)))), []⟩] (by kernel_rfl) (by kernel_rfl) ?_ ?_
    ·
     refine .cons (fun E A => A.mv 0 17) ?_
     refine .cons (fun E A => A.mv 5 18) ?_
     refine .cons (fun E A => OpStep.plain rfl (Step.index (e := 5) (z := 1) (i := (i : Int)) (t := 19) rfl rfl (by exact lt_ok rfl) (by kernel_rfl) (A.g 17 rfl) rfl rfl (lt_ok rfl) (A.g 18 rfl) (by first | omega | (simp; omega)) (by simp only [D.size]; first | omega | (simp; omega)))) ?_
     refine .cons (fun E A => OpStep.plain rfl (Step.load (e := (.int .u8 (a.getD i 0))) (t := 20) rfl rfl (by exact lt_ok rfl) (by kernel_rfl) (A.g 19 rfl) rfl)) ?_
     refine .cons (fun E A => A.mv 1 21) ?_
     refine .cons (fun E A => A.mv 5 22) ?_
     refine .cons (fun E A => OpStep.plain rfl (Step.index (e := 5) (z := 1) (i := (i : Int)) (t := 23) rfl rfl (by exact lt_ok rfl) (by kernel_rfl) (A.g 21 rfl) rfl rfl (lt_ok rfl) (A.g 22 rfl) (by first | omega | (simp; omega)) (by simp only [D.size]; first | omega | (simp; omega)))) ?_
     refine .cons (fun E A => OpStep.plain rfl (Step.load (e := (.int .u8 (b.getD i 0))) (t := 24) rfl rfl (by exact lt_ok rfl) (by kernel_rfl) (A.g 23 rfl) rfl)) ?_
     refine .cons (fun E A => OpStep.plain rfl (Step.bd 25 (A.g 20 rfl) (A.g 24 rfl) (Bin.neq (k := .u8) (a := (a.getD i 0)) (b := (b.getD i 0))))) ?_
     exact .nil _ _
    refine TL.nil ?_
    refine T.cond (b := decide ((a.getD i 0) ≠ (b.getD i 0))) rfl (fun h3 => ?_) (fun h3 => ?_)
    ·
     replace h3 := of_decide_eq_true h3
     refine T.seq ?_
     refine T.region ?_
     refine TL.as (pB false) ?_
     refine TL.nil ?_
     refine T.ret ?_
     refine ⟨[(false, [.d (.bool false)])], (.cons rfl .nil), rfl, [], (RetC.rd' ?_ .nil)⟩ <;> ((congr 1; symm; first | (apply decide_eq_false; rintro rfl; first | exact absurd rfl ‹¬ _ = _› | exact absurd rfl (of_decide_eq_false (by assumption)) | contradiction | simp_all) | (apply decide_eq_true; exact take_all hx2 (by omega) hx3)))
    ·
     replace h3 := of_decide_eq_false h3
     refine T.skip ?_
     refine T.region ?_
     refine TL.mv (pI (i : Int)) ?_
     refine TL.c (Step.bin (r := .int .i64 ((i : Int) + 1)) rfl rfl (lt_ok rfl) rfl rfl (Bin.add (a := (i : Int)) (b := 1) (by first | exact wrap_ok (by first | omega | (simp; omega)) (by first | omega | (simp; omega)) | rfl))) ?_
     refine TL.as (pI ((i : Int) + 1)) ?_
     refine TL.nil ?_
     refine ⟨i + 1, by (refine ⟨by omega, hx2, take_step (d := 0) hx2 (by omega) hx3 (by first | assumption | exact Decidable.not_not.1 (by assumption) | omega)⟩), by omega, Env.le_mk ⟨rfl, rfl, ?_, trivial⟩ trivial trivial⟩ <;> (first | rfl | (simp; done) | (congr 3; omega))
   ·
    replace h2 := of_decide_eq_false h2
    refine T.exit ?_
    refine T.seq ?_
    refine T.region ?_
    refine TL.as (pB true) ?_
    refine TL.nil ?_
    refine T.ret ?_
    refine ⟨[(false, [.d (.bool true)])], (.cons rfl .nil), rfl, [], (RetC.rd' ?_ .nil)⟩ <;> ((congr 1; symm; first | (apply decide_eq_false; rintro rfl; first | exact absurd rfl ‹¬ _ = _› | exact absurd rfl (of_decide_eq_false (by assumption)) | contradiction | simp_all) | (apply decide_eq_true; exact take_all hx2 (by omega) hx3)))
theorem ok_laws_eqVote (a : SVote) (b : SVote) : RO Try.prog 44 [.agg a.cells, .agg b.cells] [(false, [.rd (.bool (decide (a = b)))])] := by
 refine RO.intro Try.func44 rfl 32 rfl (le_ok rfl) fun w Z => ?_
 refine T.seq ?_
 refine T.region ?_
 refine TL.c (Step.box (p := (.agg [cI a.f0, cI a.f1, cS a.f2, cI a.f3, cS a.f4])) (ps := [cI a.f0, cI a.f1, cS a.f2, cI a.f3, cS a.f4]) rfl rfl (lt_ok rfl) rfl rfl rfl rfl rfl) ?_
 refine TL.c (Step.box (p := (.agg [cI b.f0, cI b.f1, cS b.f2, cI b.f3, cS b.f4])) (ps := [cI b.f0, cI b.f1, cS b.f2, cI b.f3, cS b.f4]) rfl rfl (lt_ok rfl) rfl rfl rfl rfl rfl) ?_
 refine TL.as (pB false) ?_
 refine TL.nil ?_
 refine T.seq ?_
 refine T.seq ?_
 refine T.region ?_
 refine TL.c (Step.fieldAddr (q := 0) (off := 0) (n := 1) (one := true) rfl rfl (lt_ok rfl) (by kernel_rfl) (Nat.succ_ne_zero _) rfl) ?_
 refine TL.c (Step.load_box (c := cI a.f0) rfl rfl (lt_ok rfl) (by kernel_rfl) rfl rfl rfl) ?_
 refine TL.c (Step.fieldAddr (q := 0) (off := 0) (n := 1) (one := true) rfl rfl (lt_ok rfl) (by kernel_rfl) (Nat.succ_ne_zero _) rfl) ?_
 refine TL.c (Step.load_box (c := cI b.f0) rfl rfl (lt_ok rfl) (by kernel_rfl) rfl rfl rfl) ?_
 refine TL.c (Step.bin rfl rfl (lt_ok rfl) rfl rfl (Bin.neq (k := .i64) (a := a.f0) (b := b.f0))) ?_
 refine TL.nil ?_
 refine T.cond (b := decide (a.f0 ≠ b.f0)) rfl (fun h1 => ?_) (fun h1 => ?_)
 ·
  replace h1 := of_decide_eq_true h1
  refine T.seq ?_
  refine T.region ?_
  refine TL.as (pB false) ?_
  refine TL.nil ?_
  refine T.ret ?_
  refine ⟨[(false, [.d (.bool false)])], (.cons rfl .nil), rfl, [], (RetC.rd' ?_ .nil)⟩ <;> ((congr 1; symm; first | (apply decide_eq_false; rintro rfl; first | exact absurd rfl ‹¬ _ = _› | contradiction) | (apply decide_eq_true; apply SVote.ext <;> first | assumption | exact Decidable.not_not.1 (by assumption))))
 ·
  replace h1 := of_decide_eq_false h1
  refine T.skip ?_
  refine T.seq ?_
  refine T.seq ?_
  refine T.region ?_
  refine TL.c (Step.fieldAddr (q := 0) (off := 1) (n := 1) (one := true) rfl rfl (lt_ok rfl) (by kernel_rfl) (Nat.succ_ne_zero _) rfl) ?_
  refine TL.c (Step.load_box (c := cI a.f1) rfl rfl (lt_ok rfl) (by kernel_rfl) rfl rfl rfl) ?_
  refine TL.c (Step.fieldAddr (q := 0) (off := 1) (n := 1) (one := true) rfl rfl (lt_ok rfl) (by kernel_rfl) (Nat.succ_ne_zero _) rfl) ?_
  refine TL.c (Step.load_box (c := cI b.f1) rfl rfl (lt_ok rfl) (by kernel_rfl) rfl rfl rfl) ?_
  refine TL.c (Step.bin rfl rfl (lt_ok rfl) rfl rfl (Bin.neq (k := .i64) (a := a.f1) (b := b.f1))) ?_
  refine TL.nil ?_
  refine T.cond (b := decide (a.f1 ≠ b.f1)) rfl (fun h2 => ?_) (fun h2 => ?_)
  ·
   replace h2 := of_decide_eq_true h2
   refine T.seq ?_
   refine T.region ?_
   refine TL.as (pB false) ?_
   refine TL.nil ?_
   refine T.ret ?_
   refine ⟨[(false, [.d (.bool false)])], (.cons rfl .nil), rfl, [], (RetC.rd' ?_ .nil)⟩ <;> ((congr 1; symm; first | (apply decide_eq_false; rintro rfl; first | exact absurd rfl ‹¬ _ = _› | contradiction) | (apply decide_eq_true; apply SVote.ext <;> first | assumption | exact Decidable.not_not.1 (by assumption))))
  ·
   replace h2 := of_decide_eq_false h2
   refine T.skip ?_
   refine T.seq ?_
   refine T.seq ?_
   refine T.region ?_
   refine TL.c (Step.fieldAddr (q := 0) (off := 2) (n := 1) (one := true) rfl rfl (lt_ok rfl) (by kernel_rfl) (Nat.succ_ne_zero _) rfl) ?_
   refine TL.c (Step.load_box (c := cS a.f2) rfl rfl (lt_ok rfl) (by kernel_rfl) rfl rfl rfl) ?_
   refine TL.c (Step.fieldAddr (q := 0) (off := 2) (n := 1) (one := true) rfl rfl (lt_ok rfl) (by kernel_rfl) (Nat.succ_ne_zero _) rfl) ?_
   refine TL.c (Step.load_box (c := cS b.f2) rfl rfl (lt_ok rfl) (by kernel_rfl) rfl rfl rfl) ?_
   refine TL.c (Step.cl (xs := [.tmp 16, .tmp 18]) (ps := [(pS a.f2), (pS b.f2)]) (g := .func 29) false (.cons (.one (.d _)) (.cons (.one (.d _)) .nil)) (ok_laws_eqByteS a.f2 b.f2)) ?_
   refine TL.c (Step.not (b := (decide (a.f2 = b.f2))) rfl rfl (lt_ok rfl) rfl) ?_
   refine TL.nil ?_
   refine T.cond (b := !(decide (a.f2 = b.f2))) rfl (fun h3 => ?_) (fun h3 => ?_)
   ·
    replace h3 : (decide (a.f2 = b.f2)) = false := by simpa only [Bool.not_eq_true', Bool.not_eq_false'] using h3
    replace h3 := of_decide_eq_false h3
    refine T.seq ?_
    refine T.region ?_
    refine TL.as (pB false) ?_
    refine TL.nil ?_
    refine T.ret ?_
    refine ⟨[(false, [.d (.bool false)])], (.cons rfl .nil), rfl, [], (RetC.rd' ?_ .nil)⟩ <;> ((congr 1; symm; first | (apply decide_eq_false; rintro rfl; first | exact absurd rfl ‹¬ _ = _› | contradiction) | (apply decide_eq_true; apply SVote.ext <;> first | assumption | exact Decidable.not_not.1 (by assumption))))
   ·
    replace h3 : (decide (a.f2 = b.f2)) = true := by simpa only [Bool.not_eq_true', Bool.not_eq_false'] using h3
    replace h3 := of_decide_eq_true h3
    refine T.skip ?_
    refine T.seq ?_
    refine T.seq ?_
    refine T.region ?_
    refine TL.c (Step.fieldAddr (q := 0) (off := 3) (n := 1) (one := true) rfl rfl (lt_ok rfl) (by kernel_rfl) (Nat.succ_ne_zero _) rfl) ?_
    refine TL.c (Step.load_box (c := cI a.f3) rfl rfl (lt_ok rfl) (by kernel_rfl) rfl rfl rfl) ?_
    refine TL.c (Step.fieldAddr (q := 0) (off := 3) (n := 1) (one := true) rfl rfl (lt_ok rfl) (by kernel_rfl) (Nat.succ_ne_zero _) rfl) ?_
    refine TL.c (Step.load_box (c := cI b.f3) rfl rfl (lt_ok rfl) (by kernel_rfl) rfl rfl rfl) ?_
    refine TL.c (Step.bin rfl rfl (lt_ok rfl) rfl rfl (Bin.neq (k := .i64) (a := a.f3) (b := b.f3))) ?_
    refine TL.nil ?_
    refine T.cond (b := decide (a.f3 ≠ b.f3)) rfl (fun h4 => ?_) (fun h4 => ?_)
    ·
     replace h4 := of_decide_eq_true h4
     refine T.seq ?_
     refine T.region ?_
     refine TL.as (pB false) ?_
     refine TL.nil ?_
     refine T.ret ?_
     refine ⟨[(false, [.d (.bool false)])], (.cons rfl .nil), rfl, [], (RetC.rd' ?_ .nil)⟩ <;> ((congr 1; symm; first | (apply decide_eq_false; rintro rfl; first | exact absurd rfl ‹¬ _ = _› | contradiction) | (apply decide_eq_true; apply SVote.ext <;> first | assumption | exact Decidable.not_not.1 (by assumption))))
    ·
     replace h4 := of_decide_eq_false h4
     refine T.skip ?_
     refine T.seq ?_
     refine T.seq ?_
     refine T.region ?_
     refine TL.c (Step.fieldAddr (q := 0) (off := 4) (n := 1) (one := true) rfl rfl (lt_ok rfl) (by kernel_rfl) (Nat.succ_ne_zero _) rfl) ?_
     refine TL.c (Step.load_box (c := cS a.f4) rfl rfl (lt_ok rfl) (by kernel_rfl) rfl rfl rfl) ?_
     refine TL.c (Step.fieldAddr (q := 0) (off := 4) (n := 1) (one := true) rfl rfl (lt_ok rfl) (by kernel_rfl) (Nat.succ_ne_zero _) rfl) ?_
     refine TL.c (Step.load_box (c := cS b.f4) rfl rfl (lt_ok rfl) (by kernel_rfl) rfl rfl rfl) ?_
     refine TL.c (Step.cl (xs := [.tmp 27, .tmp 29]) (ps := [(pS a.f4), (pS b.f4)]) (g := .func 29) false (.cons (.one (.d _)) (.cons (.one (.d _)) .nil)) (ok_laws_eqByteS a.f4 b.f4)) ?_
     refine TL.c (Step.not (b := (decide (a.f4 = b.f4))) rfl rfl (lt_ok rfl) rfl) ?_
     refine TL.nil ?_
     refine T.cond (b := !(decide (a.f4 = b.f4))) rfl (fun h5 => ?_) (fun h5 => ?_)
     ·
      replace h5 : (decide (a.f4 = b.f4)) = false := by simpa only [Bool.not_eq_true', Bool.not_eq_false'] using h5
      replace h5 := of_decide_eq_false h5
      refine T.seq ?_
      refine T.region ?_
      refine TL.as (pB false) ?_
      refine TL.nil ?_
      refine T.ret ?_
      refine ⟨[(false, [.d (.bool false)])], (.cons rfl .nil), rfl, [], (RetC.rd' ?_ .nil)⟩ <;> ((congr 1; symm; first | (apply decide_eq_false; rintro rfl; first | exact absurd rfl ‹¬ _ = _› | contradiction) | (apply decide_eq_true; apply SVote.ext <;> first | assumption | exact Decidable.not_not.1 (by assumption))))
     ·
      replace h5 : (decide (a.f4 = b.f4)) = true := by simpa only [Bool.not_eq_true', Bool.not_eq_false'] using h5
      replace h5 := of_decide_eq_true h5
      refine T.skip ?_
      refine T.seq ?_
      refine T.region ?_
      refine TL.as (pB true) ?_
      refine TL.nil ?_
      refine T.ret ?_
      refine ⟨[(false, [.d (.bool true)])], (.cons rfl .nil), rfl, [], (RetC.rd' ?_ .nil)⟩ <;> ((congr 1; symm; first | (apply decide_eq_false; rintro rfl; first | exact absurd rfl ‹¬ _ = _› | contradiction) | (apply decide_eq_true; apply SVote.ext <;> first | assumption | exact Decidable.not_not.1 (by assumption))))
theorem ok_laws_eqVoteS (a : List SVote) (b : List SVote) : RO Try.prog 19 [.one (.sl 5 (a.map SVote.cells)), .one (.sl 5 (b.map SVote.cells))] [(false, [.rd (.bool (decide (a = b)))])] := by
 refine RO.intro Try.func19 rfl 27 rfl (le_ok rfl) fun w Z => ?_
 refine T.bnd 0 0 rfl rfl fun hb_0_0 => ?_
 simp only [D.size, List.length_map] at hb_0_0
 refine T.bnd 1 0 rfl rfl fun hb_1_0 => ?_
 simp only [D.size, List.length_map] at hb_1_0
 refine T.seq ?_
 refine T.region ?_
 refine TL.as (pB false) ?_
 refine TL.nil ?_
 refine T.seq ?_
 refine T.seq ?_
 refine T.region ?_
 refine TL.mv (.one (.d (.sl 5 (a.map SVote.cells)))) ?_
 refine TL.c (Step.len' (e := 64) (z := 5) (d := (.sl 5 (a.map SVote.cells))) (n := a.length) rfl rfl (lt_ok rfl) (by kernel_rfl) rfl rfl (by simp [D.size])) ?_
 refine TL.mv (.one (.d (.sl 5 (b.map SVote.cells)))) ?_
 refine TL.c (Step.len' (e := 64) (z := 5) (d := (.sl 5 (b.map SVote.cells))) (n := b.length) rfl rfl (lt_ok rfl) (by kernel_rfl) rfl rfl (by simp [D.size])) ?_
 refine TL.c (Step.bin rfl rfl (lt_ok rfl) rfl rfl (Bin.neq (k := .i64) (a := (a.length : Int)) (b := (b.length : Int)))) ?_
 refine TL.nil ?_
 refine T.cond (b := decide ((a.length : Int) ≠ (b.length : Int))) rfl (fun h1 => ?_) (fun h1 => ?_)
 ·
  replace h1 := of_decide_eq_true h1
  refine T.seq ?_
  refine T.region ?_
  refine TL.as (pB false) ?_
  refine TL.nil ?_
  refine T.ret ?_
  refine ⟨[(false, [.d (.bool false)])], (.cons rfl .nil), rfl, [], (RetC.rd' ?_ .nil)⟩ <;> ((congr 1; symm; first | (apply decide_eq_false; rintro rfl; first | exact absurd rfl ‹¬ _ = _› | exact absurd rfl (of_decide_eq_false (by assumption)) | contradiction | simp_all) | (apply decide_eq_true; exact take_all hx2 (by omega) hx3)))
 ·
  replace h1 := of_decide_eq_false h1
  refine T.skip ?_
  refine T.seq ?_
  refine T.seq ?_
  refine T.region ?_
  refine TL.as (pI 0) ?_
  refine TL.nil ?_
  refine T.block ?_
  refine T.loop (ι := Nat) (fun xx_ => { tm := [(0, (.one (.d (.sl 5 (a.map SVote.cells))))), (1, (.one (.d (.sl 5 (b.map SVote.cells))))), (5, (pI (xx_ : Int)))], rows := [], boxes := [] }) (fun xx_ => xx_ ≤ a.length ∧ a.length = b.length ∧ a.take xx_ = b.take xx_) (fun xx_ => a.length - xx_) 0 ?_ ?_ ?_
  · refine Env.le_mk ⟨rfl, rfl, ?_, trivial⟩ trivial trivial <;> (first | rfl | (simp; done) | (congr 3; omega))
  · (refine ⟨Nat.zero_le _, by omega, by simp⟩)
  ·
   intro i hx
   try dsimp only at hx ⊢
   obtain ⟨hx1, hx2, hx3⟩ := hx
   refine T.seq ?_
   refine T.seq ?_
   refine T.region ?_
   refine TL.mv (pI (i : Int)) ?_
   refine TL.mv (.one (.d (.sl 5 (a.map SVote.cells)))) ?_
   refine TL.c (Step.len' (e := 64) (z := 5) (d := (.sl 5 (a.map SVote.cells))) (n := a.length) rfl rfl (lt_ok rfl) (by kernel_rfl) rfl rfl (by simp [D.size])) ?_
   refine TL.c (Step.bin rfl rfl (lt_ok rfl) rfl rfl (Bin.lss (k := .i64) (a := (i : Int)) (b := (a.length : Int)))) ?_
   refine TL.nil ?_
   refine T.cond (b := decide ((i : Int) < (a.length : Int))) rfl (fun h2 => ?_) (fun h2 => ?_)
   ·
    replace h2 := of_decide_eq_true h2
    refine T.skip ?_
    refine T.seq ?_
    refine T.block ?_
    refine T.seq ?_
    refine T.draw [⟨17, (.one (.d (.sl 5 (a.map SVote.cells)))), []⟩, ⟨18, (pI (i : Int)), []⟩, ⟨19, (.one (.eptr (.sl 5 (a.map SVote.cells)) i 0)), []⟩, ⟨20, (.agg [cI (a.getD i default).f0, cI (a.getD i default).f1, cS (a.getD i default).f2, cI (a.getD i default).f3, cS (a.getD i default).f4]), []⟩, ⟨21, (.one (.d (.sl 5 (b.map SVote.cells)))), []⟩, ⟨22, (pI (i : Int)), []⟩, ⟨23, (.one (.eptr (.sl 5 (b.map SVote.cells)) i 0)), []⟩, ⟨24, (.agg [cI (b.getD i default).f0, cI (b.getD i default).f1, cS (b.getD i default).f2, cI (b.getD i default).f3, cS (b.getD i default).f4]), []⟩, ⟨25, (pB (decide ((a.getD i default) = (b.getD i default)))), []⟩, ⟨26, (pB (!(decide ((a.getD i default) = (b.getD i default))))), []⟩] (by kernel_rfl) (by kernel_rfl) ?_ ?_
    ·
     refine .cons (fun E A => A.mv 0 17) ?_
     refine .cons (fun E A => A.mv 5 18) ?_
     refine .cons (fun E A => OpStep.plain rfl (Step.index (e := 64) (z := 5) (i := (i : Int)) (t := 19) rfl rfl (by exact lt_ok rfl) (by kernel_rfl) (A.g 17 rfl) rfl rfl (lt_ok rfl) (A.g 18 rfl) (by first | omega | (simp; omega)) (by simp only [D.size]; first | omega | (simp; omega)))) ?_
     refine .cons (fun E A => OpStep.plain rfl (Step.load_agg (n := 5) (cs := [cI (a.getD i default).f0, cI (a.getD i default).f1, cS (a.getD i default).f2, cI (a.getD i default).f3, cS (a.getD i default).f4]) (t := 20) rfl rfl (by exact lt_ok rfl) (by kernel_rfl) (A.g 19 rfl) rfl (by simp only [List.range, List.range.loop, List.map_cons, List.map_nil]; rw [cell_map default (by first | omega | (simp; omega)), cell_map default (by first | omega | (simp; omega)), cell_map default (by first | omega | (simp; omega)), cell_map default (by first | omega | (simp; omega)), cell_map default (by first | omega | (simp; omega))]; rfl))) ?_
     refine .cons (fun E A => A.mv 1 21) ?_
     refine .cons (fun E A => A.mv 5 22) ?_
     refine .cons (fun E A => OpStep.plain rfl (Step.index (e := 64) (z := 5) (i := (i : Int)) (t := 23) rfl rfl (by exact lt_ok rfl) (by kernel_rfl) (A.g 21 rfl) rfl rfl (lt_ok rfl) (A.g 22 rfl) (by first | omega | (simp; omega)) (by simp only [D.size]; first | omega | (simp; omega)))) ?_
     refine .cons (fun E A => OpStep.plain rfl (Step.load_agg (n := 5) (cs := [cI (b.getD i default).f0, cI (b.getD i default).f1, cS (b.getD i default).f2, cI (b.getD i default).f3, cS (b.getD i default).f4]) (t := 24) rfl rfl (by exact lt_ok rfl) (by kernel_rfl) (A.g 23 rfl) rfl (by simp only [List.range, List.range.loop, List.map_cons, List.map_nil]; rw [cell_map default (by first | omega | (simp; omega)), cell_map default (by first | omega | (simp; omega)), cell_map default (by first | omega | (simp; omega)), cell_map default (by first | omega | (simp; omega)), cell_map default (by first | omega | (simp; omega))]; rfl))) ?_
     refine .cons (fun E A => OpStep.plain rfl (Step.cd (xs := [.tmp 20, .tmp 24]) (ps := [(.agg [cI (a.getD i default).f0, cI (a.getD i default).f1, cS (a.getD i default).f2, cI (a.getD i default).f3, cS (a.getD i default).f4]), (.agg [cI (b.getD i default).f0, cI (b.getD i default).f1, cS (b.getD i default).f2, cI (b.getD i default).f3, cS (b.getD i default).f4])]) (g := .func 44) false 25 (evs_cons (A.g 20 rfl) (evs_cons (A.g 24 rfl) (rfl))) (.cons (.agg (.cons (.d _) (.cons (.d _) (.cons (.d _) (.cons (.d _) (.cons (.d _) .nil)))))) (.cons (.agg (.cons (.d _) (.cons (.d _) (.cons (.d _) (.cons (.d _) (.cons (.d _) .nil)))))) .nil)) (ok_laws_eqVote (a.getD i default) (b.getD i default)) (At.freshRows A rfl))) ?_
     refine .cons (fun E A => OpStep.plain rfl (Step.not (b := (decide ((a.getD i default) = (b.getD i default)))) (t := 26) rfl rfl (by exact lt_ok rfl) (A.g 25 rfl))) ?_
     exact .nil _ _
    refine TL.nil ?_
    refine T.cond (b := !(decide ((a.getD i default) = (b.getD i default)))) rfl (fun h3 => ?_) (fun h3 => ?_)
    ·
     replace h3 : (decide ((a.getD i default) = (b.getD i default))) = false := by simpa only [Bool.not_eq_true', Bool.not_eq_false'] using h3
     replace h3 := of_decide_eq_false h3
     refine T.seq ?_
     refine T.region ?_
     refine TL.as (pB false) ?_
     refine TL.nil ?_
     refine T.ret ?_
     refine ⟨[(false, [.d (.bool false)])], (.cons rfl .nil), rfl, [], (RetC.rd' ?_ .nil)⟩ <;> ((congr 1; symm; first | (apply decide_eq_false; rintro rfl; first | exact absurd rfl ‹¬ _ = _› | exact absurd rfl (of_decide_eq_false (by assumption)) | contradiction | simp_all) | (apply decide_eq_true; exact take_all hx2 (by omega) hx3)))
    ·
     replace h3 : (decide ((a.getD i default) = (b.getD i default))) = true := by simpa only [Bool.not_eq_true', Bool.not_eq_false'] using h3
     replace h3 := of_decide_eq_true h3
     refine T.skip ?_
     refine T.region ?_
     refine TL.mv (pI (i : Int)) ?_
     refine TL.c (Step.bin (r := .int .i64 ((i : Int) + 1)) rfl rfl (lt_ok rfl) rfl rfl (Bin.add (a := (i : Int)) (b := 1) (by first | exact wrap_ok (by first | omega | (simp; omega)) (by first | omega | (simp; omega)) | rfl))) ?_
     refine TL.as (pI ((i : Int) + 1)) ?_
     refine TL.nil ?_
     refine ⟨i + 1, by (refine ⟨by omega, hx2, take_step (d := default) hx2 (by omega) hx3 (by first | assumption | exact Decidable.not_not.1 (by assumption) | omega)⟩), by omega, Env.le_mk ⟨rfl, rfl, ?_, trivial⟩ trivial trivial⟩ <;> (first | rfl | (simp; done) | (congr 3; omega))
   ·
    replace h2 := of_decide_eq_false h2
    refine T.exit ?_
    refine T.seq ?_
    refine T.region ?_
    refine TL.as (pB true) ?_
    refine TL.nil ?_
    refine T.ret ?_
    refine ⟨[(false, [.d (.bool true)])], (.cons rfl .nil), rfl, [], (RetC.rd' ?_ .nil)⟩ <;> ((congr 1; symm; first | (apply decide_eq_false; rintro rfl; first | exact absurd rfl ‹¬ _ = _› | exact absurd rfl (of_decide_eq_false (by assumption)) | contradiction | simp_all) | (apply decide_eq_true; exact take_all hx2 (by omega) hx3)))
theorem ok_laws_eqByteSS (a : List (List Int)) (b : List (List Int)) : RO Try.prog 84 [.one (.bss a), .one (.bss b)] [(false, [.rd (.bool (decide (a = b)))])] := by
 refine RO.intro Try.func84 rfl 27 rfl (le_ok rfl) fun w Z => ?_
 refine T.bnd 0 0 rfl rfl fun hb_0_0 => ?_
 simp only [D.size, List.length_map] at hb_0_0
 refine T.bnd 1 0 rfl rfl fun hb_1_0 => ?_
 simp only [D.size, List.length_map] at hb_1_0
 refine T.seq ?_
 refine T.region ?_
 refine TL.as (pB false) ?_
 refine TL.nil ?_
 refine T.seq ?_
 refine T.seq ?_
 refine T.region ?_
 refine TL.mv (.one (.d (.bss a))) ?_
 refine TL.c (Step.len (e := 22) (z := 1) (d := (.bss a)) rfl rfl (lt_ok rfl) (by kernel_rfl) rfl rfl) ?_
 refine TL.mv (.one (.d (.bss b))) ?_
 refine TL.c (Step.len (e := 22) (z := 1) (d := (.bss b)) rfl rfl (lt_ok rfl) (by kernel_rfl) rfl rfl) ?_
 refine TL.c (Step.bin rfl rfl (lt_ok rfl) rfl rfl (Bin.neq (k := .i64) (a := (a.length : Int)) (b := (b.length : Int)))) ?_
 refine TL.nil ?_
 refine T.cond (b := decide ((a.length : Int) ≠ (b.length : Int))) rfl (fun h1 => ?_) (fun h1 => ?_)
 ·
  replace h1 := of_decide_eq_true h1
  refine T.seq ?_
  refine T.region ?_
  refine TL.as (pB false) ?_
  refine TL.nil ?_
  refine T.ret ?_
  refine ⟨[(false, [.d (.bool false)])], (.cons rfl .nil), rfl, [], (RetC.rd' ?_ .nil)⟩ <;> ((congr 1; symm; first | (apply decide_eq_false; rintro rfl; first | exact absurd rfl ‹¬ _ = _› | exact absurd rfl (of_decide_eq_false (by assumption)) | contradiction | simp_all) | (apply decide_eq_true; exact take_all hx2 (by omega) hx3)))
 ·
  replace h1 := of_decide_eq_false h1
  refine T.skip ?_
  refine T.seq ?_
  refine T.seq ?_
  refine T.region ?_
  refine TL.as (pI 0) ?_
  refine TL.nil ?_
  refine T.block ?_
  refine T.loop (ι := Nat) (fun xx_ => { tm := [(0, (.one (.d (.bss a)))), (1, (.one (.d (.bss b)))), (5, (pI (xx_ : Int)))], rows := [], boxes := [] }) (fun xx_ => xx_ ≤ a.length ∧ a.length = b.length ∧ a.take xx_ = b.take xx_) (fun xx_ => a.length - xx_) 0 ?_ ?_ ?_
  · refine Env.le_mk ⟨rfl, rfl, ?_, trivial⟩ trivial trivial <;> (first | rfl | (simp; done) | (congr 3; omega))
  · (refine ⟨Nat.zero_le _, by omega, by simp⟩)
  ·
   intro i hx
   try dsimp only at hx ⊢
   obtain ⟨hx1, hx2, hx3⟩ := hx
   refine T.seq ?_
   refine T.seq ?_
   refine T.region ?_
   refine TL.mv (pI (i : Int)) ?_
   refine TL.mv (.one (.d (.bss a))) ?_
   refine TL.c (Step.len (e := 22) (z := 1) (d := (.bss a)) rfl rfl (lt_ok rfl) (by kernel_rfl) rfl rfl) ?_
   refine TL.c (Step.bin rfl rfl (lt_ok rfl) rfl rfl (Bin.lss (k := .i64) (a := (i : Int)) (b := (a.length : Int)))) ?_
   refine TL.nil ?_
   refine T.cond (b := decide ((i : Int) < (a.length : Int))) rfl (fun h2 => ?_) (fun h2 => ?_)
   ·
    replace h2 := of_decide_eq_true h2
    refine T.skip ?_
    refine T.seq ?_
    refine T.block ?_
    refine T.seq ?_
    refine T.draw [⟨17, (.one (.d (.bss a))), []⟩, ⟨18, (pI (i : Int)), []⟩, ⟨19, (.one (.eptr (.bss a) i 0)), []⟩, ⟨20, (pS (a.getD i [])), []⟩, ⟨21, (.one (.d (.bss b))), []⟩, ⟨22, (pI (i : Int)), []⟩, ⟨23, (.one (.eptr (.bss b) i 0)), []⟩, ⟨24, (pS (b.getD i [])), []⟩, ⟨25, (pB (decide ((a.getD i []) = (b.getD i [])))), []⟩, ⟨26, (pB (!(decide ((a.getD i []) = (b.getD i []))))), []⟩] (by kernel_rfl) (by kernel_rfl) ?_ ?_
    ·
     refine .cons (fun E A => A.mv 0 17) ?_
     refine .cons (fun E A => A.mv 5 18) ?_
     refine .cons (fun E A => OpStep.plain rfl (Step.index (e := 22) (z := 1) (i := (i : Int)) (t := 19) rfl rfl (by exact lt_ok rfl) (by kernel_rfl) (A.g 17 rfl) rfl rfl (lt_ok rfl) (A.g 18 rfl) (by first | omega | (simp; omega)) (by simp only [D.size]; first | omega | (simp; omega)))) ?_
     refine .cons (fun E A => OpStep.plain rfl (Step.load (e := (.ints .u8 (a.getD i []))) (t := 20) rfl rfl (by exact lt_ok rfl) (by kernel_rfl) (A.g 19 rfl) rfl)) ?_
     refine .cons (fun E A => A.mv 1 21) ?_
     refine .cons (fun E A => A.mv 5 22) ?_
     refine .cons (fun E A => OpStep.plain rfl (Step.index (e := 22) (z := 1) (i := (i : Int)) (t := 23) rfl rfl (by exact lt_ok rfl) (by kernel_rfl) (A.g 21 rfl) rfl rfl (lt_ok rfl) (A.g 22 rfl) (by first | omega | (simp; omega)) (by simp only [D.size]; first | omega | (simp; omega)))) ?_
     refine .cons (fun E A => OpStep.plain rfl (Step.load (e := (.ints .u8 (b.getD i []))) (t := 24) rfl rfl (by exact lt_ok rfl) (by kernel_rfl) (A.g 23 rfl) rfl)) ?_
     refine .cons (fun E A => OpStep.plain rfl (Step.cd (xs := [.tmp 20, .tmp 24]) (ps := [(pS (a.getD i [])), (pS (b.getD i []))]) (g := .func 29) false 25 (evs_cons (A.g 20 rfl) (evs_cons (A.g 24 rfl) (rfl))) (.cons (.one (.d _)) (.cons (.one (.d _)) .nil)) (ok_laws_eqByteS (a.getD i []) (b.getD i [])) (At.freshRows A rfl))) ?_
     refine .cons (fun E A => OpStep.plain rfl (Step.not (b := (decide ((a.getD i []) = (b.getD i [])))) (t := 26) rfl rfl (by exact lt_ok rfl) (A.g 25 rfl))) ?_
     exact .nil _ _
    refine TL.nil ?_
    refine T.cond (b := !(decide ((a.getD i []) = (b.getD i [])))) rfl (fun h3 => ?_) (fun h3 => ?_)
    ·
     replace h3 : (decide ((a.getD i []) = (b.getD i []))) = false := by simpa only [Bool.not_eq_true', Bool.not_eq_false'] using h3
     replace h3 := of_decide_eq_false h3
     refine T.seq ?_
     refine T.region ?_
     refine TL.as (pB false) ?_
     refine TL.nil ?_
     refine T.ret ?_
     refine ⟨[(false, [.d (.bool false)])], (.cons rfl .nil), rfl, [], (RetC.rd' ?_ .nil)⟩ <;> ((congr 1; symm; first | (apply decide_eq_false; rintro rfl; first | exact absurd rfl ‹¬ _ = _› | exact absurd rfl (of_decide_eq_false (by assumption)) | contradiction | simp_all) | (apply decide_eq_true; exact take_all hx2 (by omega) hx3)))
    ·
     replace h3 : (decide ((a.getD i []) = (b.getD i []))) = true := by simpa only [Bool.not_eq_true', Bool.not_eq_false'] using h3
     replace h3 := of_decide_eq_true h3
     refine T.skip ?_
     refine T.region ?_
     refine TL.mv (pI (i : Int)) ?_
     refine TL.c (Step.bin (r := .int .i64 ((i : Int) + 1)) rfl rfl (lt_ok rfl) rfl rfl (Bin.add (a := (i : Int)) (b := 1) (by first | exact wrap_ok (by first | omega | (simp; omega)) (by first | omega | (simp; omega)) | rfl))) ?_
     refine TL.as (pI ((i : Int) + 1)) ?_
     refine TL.nil ?_
     refine ⟨i + 1, by (refine ⟨by omega, hx2, take_step (d := []) hx2 (by omega) hx3 (by first | assumption | exact Decidable.not_not.1 (by assumption) | omega)⟩), by omega, Env.le_mk ⟨rfl, rfl, ?_, trivial⟩ trivial trivial⟩ <;> (first | rfl | (simp; done) | (congr 3; omega))
   ·
    replace h2 := of_decide_eq_false h2
    refine T.exit ?_
    refine T.seq ?_
    refine T.region ?_
    refine TL.as (pB true) ?_
    refine TL.nil ?_
    refine T.ret ?_
    refine ⟨[(false, [.d (.bool true)])], (.cons rfl .nil), rfl, [], (RetC.rd' ?_ .nil)⟩ <;> ((congr 1; symm; first | (apply decide_eq_false; rintro rfl; first | exact absurd rfl ‹¬ _ = _› | exact absurd rfl (of_decide_eq_false (by assumption)) | contradiction | simp_all) | (apply decide_eq_true; exact take_all hx2 (by omega) hx3)))
theorem ok_laws_eqQc (a : SQc) (b : SQc) : RO Try.prog 20 [.agg a.cells, .agg b.cells] [(false, [.rd (.bool (decide (a = b)))])] := by
 refine RO.intro Try.func20 rfl 33 rfl (le_ok rfl) fun w Z => ?_
 refine T.seq ?_
 refine T.region ?_
 refine TL.c (Step.box (p := (.agg [cI a.f0, cI a.f1, cS a.f2, cS a.f3, .d (.bss a.f4)])) (ps := [cI a.f0, cI a.f1, cS a.f2, cS a.f3, .d (.bss a.f4)]) rfl rfl (lt_ok rfl) rfl rfl rfl rfl rfl) ?_
 refine TL.c (Step.box (p := (.agg [cI b.f0, cI b.f1, cS b.f2, cS b.f3, .d (.bss b.f4)])) (ps := [cI b.f0, cI b.f1, cS b.f2, cS b.f3, .d (.bss b.f4)]) rfl rfl (lt_ok rfl) rfl rfl rfl rfl rfl) ?_
 refine TL.as (pB false) ?_
 refine TL.nil ?_
 refine T.seq ?_
 refine T.seq ?_
 refine T.region ?_
 refine TL.c (Step.fieldAddr (q := 0) (off := 0) (n := 1) (one := true) rfl rfl (lt_ok rfl) (by kernel_rfl) (Nat.succ_ne_zero _) rfl) ?_
 refine TL.c (Step.load_box (c := cI a.f0) rfl rfl (lt_ok rfl) (by kernel_rfl) rfl rfl rfl) ?_
 refine TL.c (Step.fieldAddr (q := 0) (off := 0) (n := 1) (one := true) rfl rfl (lt_ok rfl) (by kernel_rfl) (Nat.succ_ne_zero _) rfl) ?_
 refine TL.c (Step.load_box (c := cI b.f0) rfl rfl (lt_ok rfl) (by kernel_rfl) rfl rfl rfl) ?_
 refine TL.c (Step.bin rfl rfl (lt_ok rfl) rfl rfl (Bin.neq (k := .i64) (a := a.f0) (b := b.f0))) ?_
 refine TL.nil ?_
 refine T.cond (b := decide (a.f0 ≠ b.f0)) rfl (fun h1 => ?_) (fun h1 => ?_)
 ·
  replace h1 := of_decide_eq_true h1
  refine T.seq ?_
  refine T.region ?_
  refine TL.as (pB false) ?_
  refine TL.nil ?_
  refine T.ret ?_
  refine ⟨[(false, [.d (.bool false)])], (.cons rfl .nil), rfl, [], (RetC.rd' ?_ .nil)⟩ <;> ((congr 1; symm; first | (apply decide_eq_false; rintro rfl; first | exact absurd rfl ‹¬ _ = _› | contradiction) | (apply decide_eq_true; apply SQc.ext <;> first | assumption | exact Decidable.not_not.1 (by assumption))))
 ·
  replace h1 := of_decide_eq_false h1
  refine T.skip ?_
  refine T.seq ?_
  refine T.seq ?_
  refine T.region ?_
  refine TL.c (Step.fieldAddr (q := 0) (off := 1) (n := 1) (one := true) rfl rfl (lt_ok rfl) (by kernel_rfl) (Nat.succ_ne_zero _) rfl) ?_
  refine TL.c (Step.load_box (c := cI a.f1) rfl rfl (lt_ok rfl) (by kernel_rfl) rfl rfl rfl) ?_
  refine TL.c (Step.fieldAddr (q := 0) (off := 1) (n := 1) (one := true) rfl rfl (lt_ok rfl) (by kernel_rfl) (Nat.succ_ne_zero _) rfl) ?_
  refine TL.c (Step.load_box (c := cI b.f1) rfl rfl (lt_ok rfl) (by kernel_rfl) rfl rfl rfl) ?_
  refine TL.c (Step.bin rfl rfl (lt_ok rfl) rfl rfl (Bin.neq (k := .i64) (a := a.f1) (b := b.f1))) ?_
  refine TL.nil ?_
  refine T.cond (b := decide (a.f1 ≠ b.f1)) rfl (fun h2 => ?_) (fun h2 => ?_)
  ·
   replace h2 := of_decide_eq_true h2
   refine T.seq ?_
   refine T.region ?_
   refine TL.as (pB false) ?_
   refine TL.nil ?_
   refine T.ret ?_
   refine ⟨[(false, [.d (.bool false)])], (.cons rfl .nil), rfl, [], (RetC.rd' ?_ .nil)⟩ <;> ((congr 1; symm; first | (apply decide_eq_false; rintro rfl; first | exact absurd rfl ‹¬ _ = _› | contradiction) | (apply decide_eq_true; apply SQc.ext <;> first | assumption | exact Decidable.not_not.1 (by assumption))))
  ·
   replace h2 := of_decide_eq_false h2
   refine T.skip ?_
   refine T.seq ?_
   refine T.seq ?_
   refine T.region ?_
   refine TL.c (Step.fieldAddr (q := 0) (off := 2) (n := 1) (one := true) rfl rfl (lt_ok rfl) (by kernel_rfl) (Nat.succ_ne_zero _) rfl) ?_
   refine TL.c (Step.load_box (c := cS a.f2) rfl rfl (lt_ok rfl) (by kernel_rfl) rfl rfl rfl) ?_
   refine TL.c (Step.fieldAddr (q := 0) (off := 2) (n := 1) (one := true) rfl rfl (lt_ok rfl) (by kernel_rfl) (Nat.succ_ne_zero _) rfl) ?_
   refine TL.c (Step.load_box (c := cS b.f2) rfl rfl (lt_ok rfl) (by kernel_rfl) rfl rfl rfl) ?_
   refine TL.c (Step.cl (xs := [.tmp 16, .tmp 18]) (ps := [(pS a.f2), (pS b.f2)]) (g := .func 29) false (.cons (.one (.d _)) (.cons (.one (.d _)) .nil)) (ok_laws_eqByteS a.f2 b.f2)) ?_
   refine TL.c (Step.not (b := (decide (a.f2 = b.f2))) rfl rfl (lt_ok rfl) rfl) ?_
   refine TL.nil ?_
   refine T.cond (b := !(decide (a.f2 = b.f2))) rfl (fun h3 => ?_) (fun h3 => ?_)
   ·
    replace h3 : (decide (a.f2 = b.f2)) = false := by simpa only [Bool.not_eq_true', Bool.not_eq_false'] using h3
    replace h3 := of_decide_eq_false h3
    refine T.seq ?_
    refine T.region ?_
    refine TL.as (pB false) ?_
    refine TL.nil ?_
    refine T.ret ?_
    refine ⟨[(false, [.d (.bool false)])], (.cons rfl .nil), rfl, [], (RetC.rd' ?_ .nil)⟩ <;> ((congr 1; symm; first | (apply decide_eq_false; rintro rfl; first | exact absurd rfl ‹¬ _ = _› | contradiction) | (apply decide_eq_true; apply SQc.ext <;> first | assumption | exact Decidable.not_not.1 (by assumption))))
   ·
    replace h3 : (decide (a.f2 = b.f2)) = true := by simpa only [Bool.not_eq_true', Bool.not_eq_false'] using h3
    replace h3 := of_decide_eq_true h3
    refine T.skip ?_
    refine T.seq ?_
    refine T.seq ?_
    refine T.region ?_
    refine TL.c (Step.fieldAddr (q := 0) (off := 3) (n := 1) (one := true) rfl rfl (lt_ok rfl) (by kernel_rfl) (Nat.succ_ne_zero _) rfl) ?_
    refine TL.c (Step.load_box (c := cS a.f3) rfl rfl (lt_ok rfl) (by kernel_rfl) rfl rfl rfl) ?_
    refine TL.c (Step.fieldAddr (q := 0) (off := 3) (n := 1) (one := true) rfl rfl (lt_ok rfl) (by kernel_rfl) (Nat.succ_ne_zero _) rfl) ?_
    refine TL.c (Step.load_box (c := cS b.f3) rfl rfl (lt_ok rfl) (by kernel_rfl) rfl rfl rfl) ?_
    refine TL.c (Step.cl (xs := [.tmp 22, .tmp 24]) (ps := [(pS a.f3), (pS b.f3)]) (g := .func 29) false (.cons (.one (.d _)) (.cons (.one (.d _)) .nil)) (ok_laws_eqByteS a.f3 b.f3)) ?_
    refine TL.c (Step.not (b := (decide (a.f3 = b.f3))) rfl rfl (lt_ok rfl) rfl) ?_
    refine TL.nil ?_
    refine T.cond (b := !(decide (a.f3 = b.f3))) rfl (fun h4 => ?_) (fun h4 => ?_)
    ·
     replace h4 : (decide (a.f3 = b.f3)) = false := by simpa only [Bool.not_eq_true', Bool.not_eq_false'] using h4
     replace h4 := of_decide_eq_false h4
     refine T.seq ?_
     refine T.region ?_
     refine TL.as (pB false) ?_
     refine TL.nil ?_
     refine T.ret ?_
     refine ⟨[(false, [.d (.bool false)])], (.cons rfl .nil), rfl, [], (RetC.rd' ?_ .nil)⟩ <;> ((congr 1; symm; first | (apply decide_eq_false; rintro rfl; first | exact absurd rfl ‹¬ _ = _› | contradiction) | (apply decide_eq_true; apply SQc.ext <;> first | assumption | exact Decidable.not_not.1 (by assumption))))
    ·
     replace h4 : (decide (a.f3 = b.f3)) = true := by simpa only [Bool.not_eq_true', Bool.not_eq_false'] using h4
     replace h4 := of_decide_eq_true h4
     refine T.skip ?_
     refine T.seq ?_
     refine T.seq ?_
     refine T.region ?_
     refine TL.c (Step.fieldAddr (q := 0) (off := 4) (n := 1) (one := true) rfl rfl (lt_ok rfl) (by kernel_rfl) (Nat.succ_ne_zero _) rfl) ?_
     refine TL.c (Step.load_box (c := .d (.bss a.f4)) rfl rfl (lt_ok rfl) (by kernel_rfl) rfl rfl rfl) ?_
     refine TL.c (Step.fieldAddr (q := 0) (off := 4) (n := 1) (one := true) rfl rfl (lt_ok rfl) (by kernel_rfl) (Nat.succ_ne_zero _) rfl) ?_
     refine TL.c (Step.load_box (c := .d (.bss b.f4)) rfl rfl (lt_ok rfl) (by kernel_rfl) rfl rfl rfl) ?_
     refine TL.c (Step.cl (xs := [.tmp 28, .tmp 30]) (ps := [(.one (.d (.bss a.f4))), (.one (.d (.bss b.f4)))]) (g := .func 84) false (.cons (.one (.d _)) (.cons (.one (.d _)) .nil)) (ok_laws_eqByteSS a.f4 b.f4)) ?_
     refine TL.c (Step.not (b := (decide (a.f4 = b.f4))) rfl rfl (lt_ok rfl) rfl) ?_
     refine TL.nil ?_
     refine T.cond (b := !(decide (a.f4 = b.f4))) rfl (fun h5 => ?_) (fun h5 => ?_)
     ·
      replace h5 : (decide (a.f4 = b.f4)) = false := by simpa only [Bool.not_eq_true', Bool.not_eq_false'] using h5
      replace h5 := of_decide_eq_false h5
      refine T.seq ?_
      refine T.region ?_
      refine TL.as (pB false) ?_
      refine TL.nil ?_
      refine T.ret ?_
      refine ⟨[(false, [.d (.bool false)])], (.cons rfl .nil), rfl, [], (RetC.rd' ?_ .nil)⟩ <;> ((congr 1; symm; first | (apply decide_eq_false; rintro rfl; first | exact absurd rfl ‹¬ _ = _› | contradiction) | (apply decide_eq_true; apply SQc.ext <;> first | assumption | exact Decidable.not_not.1 (by assumption))))
     ·
      replace h5 : (decide (a.f4 = b.f4)) = true := by simpa only [Bool.not_eq_true', Bool.not_eq_false'] using h5
      replace h5 := of_decide_eq_true h5
      refine T.skip ?_
      refine T.seq ?_
      refine T.region ?_
      refine TL.as (pB true) ?_
      refine TL.nil ?_
      refine T.ret ?_
      refine ⟨[(false, [.d (.bool true)])], (.cons rfl .nil), rfl, [], (RetC.rd' ?_ .nil)⟩ <;> ((congr 1; symm; first | (apply decide_eq_false; rintro rfl; first | exact absurd rfl ‹¬ _ = _› | contradiction) | (apply decide_eq_true; apply SQc.ext <;> first | assumption | exact Decidable.not_not.1 (by assumption))))
theorem ok_laws_markByteS (a : List Int) (k : Int) (h0_ : 0 ≤ k) (h1_ : k + (a.length : Int) ≤ 4611686018427387904) : MK Try.prog 32 [.one (.mk (.ints .u8 a) (.ints .u8 (mkB a k))), .one (.rd (.int .i64 k))] [(false, [.rd (.int .i64 (k + (a.length : Int)))])] := by
 refine MK.intro Try.func32 rfl 20 rfl (le_ok rfl) (le_ok rfl) rfl fun w Z IX pin Ts hp => ?_
 refine T.bndRow 900 rfl fun hb_900 => ?_
 simp only [D.size, List.length_map] at hb_900
 refine T.seq ?_
 refine T.region ?_
 refine TL.as (pI 0) ?_
 refine TL.nil ?_
 refine T.seq ?_
 refine T.seq ?_
 refine T.region ?_
 refine TL.as (pI 0) ?_
 refine TL.nil ?_
 refine T.block ?_
 refine T.loop (ι := Nat) (fun xx_ => { tm := [(0, (.one (.row 900 []))), (4, (pI 0)), (5, (pI (xx_ : Int))), (1, (pI (k + (xx_ : Int))))], rows := [(900, ((Ts 0), (.ints .u8 (upTo (fun _ => 1) (fun _ k => k % 256) a k xx_))))], boxes := [] }) (fun xx_ => xx_ ≤ a.length) (fun xx_ => a.length - xx_) 0 ?_ ?_ ?_
 · refine Env.le_mk ⟨rfl, rfl, ?_, ?_, trivial⟩ ⟨?_, trivial⟩ trivial <;> (first | exact congrArg (fun x => some (Ts 0, D.ints .u8 x)) (upTo_set (df := 0) (by omega) (by simp only [cntL_one_take a i (by omega)])) | exact congrArg (fun x => some (Ts 0, D.ints .u8 x)) (upTo_zero _ _).symm | rfl | (refine congrArg (fun n => PV.one (.d (.int .i64 n))) ?_; first | omega | (simp; done) | (simp [cntL]; done)))
 · exact Nat.zero_le _
 ·
  intro i hx
  try dsimp only at hx ⊢
  refine T.seq ?_
  refine T.seq ?_
  refine T.region ?_
  refine TL.mv (pI (i : Int)) ?_
  refine TL.mv (.one (.row 900 [])) ?_
  refine TL.c (Step.len' (e := 5) (z := 1) (d := (.ints .u8 (upTo (fun _ => 1) (fun _ k => k % 256) a k i))) (n := a.length) rfl rfl (lt_ok rfl) (by kernel_rfl) rfl rfl (by simp [D.size, upTo_length])) ?_
  refine TL.c (Step.bin rfl rfl (lt_ok rfl) rfl rfl (Bin.lss (k := .i64) (a := (i : Int)) (b := (a.length : Int)))) ?_
  refine TL.nil ?_
  refine T.cond (b := decide ((i : Int) < (a.length : Int))) rfl (fun h1 => ?_) (fun h1 => ?_)
  ·
   replace h1 := of_decide_eq_true h1
   refine T.skip ?_
   refine T.seq ?_
   refine T.block ?_
   refine T.seq ?_
   refine T.region ?_
   refine TL.mv (.one (.row 900 [])) ?_
   refine TL.mv (pI (i : Int)) ?_
   refine TL.mv (pI (k + (i : Int))) ?_
   refine TL.c (Step.conv (c := ((k + (i : Int)) % 256)) rfl rfl (lt_ok rfl) (by kernel_rfl) (by kernel_rfl) rfl (wrap_byte _)) ?_
   refine TL.c (Step.index_row (d := (.ints .u8 (upTo (fun _ => 1) (fun _ k => k % 256) a k i))) (e := 5) (z := 1) (i := (i : Int)) rfl rfl (lt_ok rfl) (by kernel_rfl) rfl rfl rfl rfl (lt_ok rfl) rfl (by first | omega | (simp; omega)) (by simp only [D.at_, D.cell, D.size, List.length_set, List.length_map, upTo_length]; first | omega | (simp; omega))) ?_
   refine TL.c (Step.store_row (n := 1) (p := (.one (.d (.int .u8 ((k + (i : Int)) % 256))))) (ps := [.d (.int .u8 ((k + (i : Int)) % 256))]) (es := [(.int .u8 ((k + (i : Int)) % 256))]) (ss := []) (d1 := (.ints .u8 ((upTo (fun _ => 1) (fun _ k => k % 256) a k i).set i ((k + (i : Int)) % 256)))) (d' := (.ints .u8 ((upTo (fun _ => 1) (fun _ k => k % 256) a k i).set i ((k + (i : Int)) % 256)))) rfl rfl (by kernel_rfl) rfl rfl rfl rfl rfl rfl (.val rfl .nil) (by simp) (Putd.one rfl trivial rfl (by simp only [D.at_, D.size, List.length_set, upTo_length]; first | omega | (simp; omega)) (lt_ok rfl)) rfl) ?_
   refine TL.nil ?_
   refine T.region ?_
   refine TL.mv (pI (k + (i : Int))) ?_
   refine TL.c (Step.bin (r := .int .i64 ((k + (i : Int)) + 1)) rfl rfl (lt_ok rfl) rfl rfl (Bin.add (a := (k + (i : Int))) (b := 1) (by first | exact wrap_ok (by first | omega | (simp; omega)) (by first | omega | (simp; omega)) | rfl))) ?_
   refine TL.as (pI ((k + (i : Int)) + 1)) ?_
   refine TL.nil ?_
   refine T.region ?_
   refine TL.mv (pI (i : Int)) ?_
   refine TL.c (Step.bin (r := .int .i64 ((i : Int) + 1)) rfl rfl (lt_ok rfl) rfl rfl (Bin.add (a := (i : Int)) (b := 1) (by first | exact wrap_ok (by first | omega | (simp; omega)) (by first | omega | (simp; omega)) | rfl))) ?_
   refine TL.as (pI ((i : Int) + 1)) ?_
   refine TL.nil ?_
   refine ⟨i + 1, by omega, by first | omega | (dsimp only; omega), Env.le_mk ⟨rfl, rfl, ?_, ?_, trivial⟩ ⟨?_, trivial⟩ trivial⟩ <;> (first | exact congrArg (fun x => some (Ts 0, D.ints .u8 x)) (upTo_set (df := 0) (by omega) (by simp only [cntL_one_take a i (by omega)])) | exact congrArg (fun x => some (Ts 0, D.ints .u8 x)) (upTo_zero _ _).symm | rfl | (refine congrArg (fun n => PV.one (.d (.int .i64 n))) ?_; first | omega | (simp; done) | (simp [cntL]; done)))
  ·
   replace h1 := of_decide_eq_false h1
   refine T.exit ?_
   refine T.seq ?_
   refine T.region ?_
   refine TL.mv (pI (k + (i : Int))) ?_
   refine TL.as (pI (k + (i : Int))) ?_
   refine TL.nil ?_
   refine T.ret ?_
   refine ⟨⟨⟨[(false, [cI (k + (i : Int))])], (.cons rfl .nil), rfl, [], (RetC.rd' ?_ .nil)⟩, rfl⟩, (.mk' (by exact congrArg (fun x => some (Ts 0, D.ints .u8 x)) (upTo_all (by omega))) (.rd .nil'))⟩ <;> ((congr 1; omega))
theorem ok_laws_markByteSS (a : List (List Int)) (k : Int) (h0_ : 0 ≤ k) (h1_ : k + cntL (fun x : List Int => (x.length : Int)) a ≤ 4611686018427387904) : MK Try.prog 85 [.one (.mk (.bss a) (.bss (mkBs a k))), .one (.rd (.int .i64 k))] [(false, [.rd (.int .i64 (k + cntL (fun x : List Int => (x.length : Int)) a))])] := by
 refine MK.intro Try.func85 rfl 19 rfl (le_ok rfl) (le_ok rfl) rfl fun w Z IX pin Ts hp => ?_
 refine T.bndRow 900 rfl fun hb_900 => ?_
 simp only [D.size, List.length_map] at hb_900
 refine T.seq ?_
 refine T.region ?_
 refine TL.as (pI 0) ?_
 refine TL.nil ?_
 refine T.seq ?_
 refine T.seq ?_
 refine T.region ?_
 refine TL.as (pI 0) ?_
 refine TL.nil ?_
 refine T.block ?_
 refine T.loop (ι := Nat) (fun xx_ => { tm := [(0, (.one (.row 900 []))), (4, (pI 0)), (5, (pI (xx_ : Int))), (1, (pI (k + cntL (fun x : List Int => (x.length : Int)) (a.take xx_))))], rows := [(900, ((Ts 0), (.bss ((upTo (fun x : List Int => (x.length : Int)) mkB a k xx_).set xx_ (a.getD xx_ [])))))], boxes := [] }) (fun xx_ => xx_ ≤ a.length) (fun xx_ => a.length - xx_) 0 ?_ ?_ ?_
 · refine Env.le_mk ⟨rfl, rfl, ?_, ?_, trivial⟩ ⟨?_, trivial⟩ trivial <;> (first | exact congrArg (fun x => some (Ts 0, D.bss x)) (upTo_next (df := []) (by omega) rfl) | exact congrArg (fun x => some (Ts 0, D.bss x)) (upTo_first a k []) | rfl | (refine congrArg (fun n => PV.one (.d (.int .i64 n))) ?_; first | omega | (simp; done) | (simp [cntL]; done)))
 · exact Nat.zero_le _
 ·
  intro i hx
  try dsimp only at hx ⊢
  refine T.seq ?_
  refine T.seq ?_
  refine T.region ?_
  refine TL.mv (pI (i : Int)) ?_
  refine TL.mv (.one (.row 900 [])) ?_
  refine TL.c (Step.len' (e := 22) (z := 1) (d := (.bss ((upTo (fun x : List Int => (x.length : Int)) mkB a k i).set i (a.getD i [])))) (n := a.length) rfl rfl (lt_ok rfl) (by kernel_rfl) rfl rfl (by simp [D.size, upTo_length])) ?_
  refine TL.c (Step.bin rfl rfl (lt_ok rfl) rfl rfl (Bin.lss (k := .i64) (a := (i : Int)) (b := (a.length : Int)))) ?_
  refine TL.nil ?_
  refine T.cond (b := decide ((i : Int) < (a.length : Int))) rfl (fun h1 => ?_) (fun h1 => ?_)
  ·
   replace h1 := of_decide_eq_true h1
   have hc1 := cntL_take_le (cnt := (fun x : List Int => (x.length : Int))) (fun x => by omega) a (i + 1)
   have hc2 := cntL_take_succ (cnt := (fun x : List Int => (x.length : Int))) (i := i) [] (show i < a.length by omega)
   have hc3 := cntL_nonneg (cnt := (fun x : List Int => (x.length : Int))) (fun x => by omega) (a.take i)
   try dsimp only at hc2
   refine T.skip ?_
   refine T.seq ?_
   refine T.block ?_
   refine T.region ?_
   refine TL.mv (.one (.row 900 [])) ?_
   refine TL.mv (pI (i : Int)) ?_
   refine TL.c (Step.index_row (d := (.bss ((upTo (fun x : List Int => (x.length : Int)) mkB a k i).set i (a.getD i [])))) (e := 22) (z := 1) (i := (i : Int)) rfl rfl (lt_ok rfl) (by kernel_rfl) rfl rfl rfl rfl (lt_ok rfl) rfl (by first | omega | (simp; omega)) (by simp only [D.at_, D.cell, D.size, List.length_set, List.length_map, upTo_length]; first | omega | (simp; omega))) ?_
   refine TL.c (Step.load_row (d := (.bss ((upTo (fun x : List Int => (x.length : Int)) mkB a k i).set i (a.getD i [])))) (c := .row 900 [(i, 0)]) rfl rfl (lt_ok rfl) (by kernel_rfl) rfl rfl (ofRow_sl (cell_set_bss (by simp only [upTo_length]; first | omega | (simp; omega))) rfl)) ?_
   refine TL.mv (pI (k + cntL (fun x : List Int => (x.length : Int)) (a.take i))) ?_
   refine TL.c (Step.callM2 (xs := [.tmp 15, .tmp 16]) (ps := [(.one (.row 900 [(i, 0)])), (pI (k + cntL (fun x : List Int => (x.length : Int)) (a.take i)))]) (js := [(900, (.bss ((upTo (fun x : List Int => (x.length : Int)) mkB a k i).set i (mkB (a.getD i []) (k + cntL (fun x : List Int => (x.length : Int)) (a.take i))))))]) (g := .func 32) (ok_laws_markByteS (a.getD i []) (k + cntL (fun x : List Int => (x.length : Int)) (a.take i)) (by omega) (by first | omega | (have := (by assumption); omega))) rfl rfl (lt_ok rfl) rfl (by kernel_rfl) rfl rfl (.row (T := (Ts 0)) (d := (.bss ((upTo (fun x : List Int => (x.length : Int)) mkB a k i).set i (a.getD i [])))) (e' := (.ints .u8 (mkB (a.getD i []) (k + cntL (fun x : List Int => (x.length : Int)) (a.take i))))) (d' := (.bss ((upTo (fun x : List Int => (x.length : Int)) mkB a k i).set i (mkB (a.getD i []) (k + cntL (fun x : List Int => (x.length : Int)) (a.take i)))))) rfl (cell_set_bss (by simp only [upTo_length]; first | omega | (simp; omega))) rfl putAt_bss2 rfl (by simp [D.size]) rfl rfl (.d .nil)) rfl) ?_
   refine TL.as (pI ((k + cntL (fun x : List Int => (x.length : Int)) (a.take i)) + ((a.getD i []).length : Int))) ?_
   refine TL.nil ?_
   refine T.region ?_
   refine TL.mv (pI (i : Int)) ?_
   refine TL.c (Step.bin (r := .int .i64 ((i : Int) + 1)) rfl rfl (lt_ok rfl) rfl rfl (Bin.add (a := (i : Int)) (b := 1) (by first | exact wrap_ok (by first | omega | (simp; omega)) (by first | omega | (simp; omega)) | rfl))) ?_
   refine TL.as (pI ((i : Int) + 1)) ?_
   refine TL.nil ?_
   refine ⟨i + 1, by omega, by first | omega | (dsimp only; omega), Env.le_mk ⟨rfl, rfl, ?_, ?_, trivial⟩ ⟨?_, trivial⟩ trivial⟩ <;> (first | exact congrArg (fun x => some (Ts 0, D.bss x)) (upTo_next (df := []) (by omega) rfl) | exact congrArg (fun x => some (Ts 0, D.bss x)) (upTo_first a k []) | rfl | (refine congrArg (fun n => PV.one (.d (.int .i64 n))) ?_; first | omega | (simp; done) | (simp [cntL]; done)))
  ·
   replace h1 := of_decide_eq_false h1
   refine T.exit ?_
   refine T.seq ?_
   refine T.region ?_
   refine TL.mv (pI (k + cntL (fun x : List Int => (x.length : Int)) (a.take i))) ?_
   refine TL.as (pI (k + cntL (fun x : List Int => (x.length : Int)) (a.take i))) ?_
   refine TL.nil ?_
   refine T.ret ?_
   refine ⟨⟨⟨[(false, [cI (k + cntL (fun x : List Int => (x.length : Int)) (a.take i))])], (.cons rfl .nil), rfl, [], (RetC.rd' ?_ .nil)⟩, rfl⟩, (.mk' (by exact congrArg (fun x => some (Ts 0, D.bss x)) (upTo_end (by omega))) (.rd .nil'))⟩ <;> ((congr 1; rw [cntL_all (by omega)]))
theorem ok_laws_markQc (a : SQc) (k : Int) (h0_ : 0 ≤ k) (h1_ : k + a.cm ≤ 4611686018427387904) : MK Try.prog 21 [.agg [.rd (.int .i64 a.f0), .rd (.int .i64 a.f1), .mk (.ints .u8 a.f2) (.ints .u8 (mkB a.f2 k)), .mk (.ints .u8 a.f3) (.ints .u8 (mkB a.f3 (k + (a.f2.length : Int)))), .mk (.bss a.f4) (.bss (mkBs a.f4 ((k + (a.f2.length : Int)) + (a.f3.length : Int))))], .one (.rd (.int .i64 k))] [(false, [.rd (.int .i64 (k + a.cm))])] := by
 refine MK.intro Try.func21 rfl 18 rfl (le_ok rfl) (le_ok rfl) rfl fun w Z IX pin Ts hp => ?_
 have n4 := cntBs_nonneg a.f4
 simp only [SQc.cm] at h1_
 refine T.seq ?_
 refine T.region ?_
 refine TL.c (Step.box (p := (.agg [cI a.f0, cI a.f1, .row 902 [], .row 903 [], .row 904 []])) (ps := [cI a.f0, cI a.f1, .row 902 [], .row 903 [], .row 904 []]) rfl rfl (lt_ok rfl) rfl rfl rfl rfl rfl) ?_
 refine TL.as (pI 0) ?_
 refine TL.nil ?_
 refine T.seq ?_
 refine T.region ?_
 refine TL.c (Step.fieldAddr (q := 0) (off := 2) (n := 1) (one := true) rfl rfl (lt_ok rfl) (by kernel_rfl) (Nat.succ_ne_zero _) rfl) ?_
 refine TL.c (Step.load_box (c := .row 902 []) rfl rfl (lt_ok rfl) (by kernel_rfl) rfl rfl rfl) ?_
 refine TL.mv (pI k) ?_
 refine TL.c (Step.callM2 (xs := [.tmp 6, .tmp 7]) (ps := [(.one (.row 902 [])), (pI k)]) (js := [(902, (.ints .u8 (mkB a.f2 k)))]) (g := .func 32) (ok_laws_markByteS a.f2 k (by omega) (by first | omega | (have := (by assumption); omega))) rfl rfl (lt_ok rfl) rfl (by kernel_rfl) rfl rfl (.row (T := (Ts 2)) (d := (.ints .u8 a.f2)) (e' := (.ints .u8 (mkB a.f2 k))) (d' := (.ints .u8 (mkB a.f2 k))) rfl rfl rfl rfl rfl (by simp [D.size, mkL_length]) rfl rfl (.d .nil)) rfl) ?_
 refine TL.as (pI (k + (a.f2.length : Int))) ?_
 refine TL.nil ?_
 refine T.seq ?_
 refine T.region ?_
 refine TL.c (Step.fieldAddr (q := 0) (off := 3) (n := 1) (one := true) rfl rfl (lt_ok rfl) (by kernel_rfl) (Nat.succ_ne_zero _) rfl) ?_
 refine TL.c (Step.load_box (c := .row 903 []) rfl rfl (lt_ok rfl) (by kernel_rfl) rfl rfl rfl) ?_
 refine TL.mv (pI (k + (a.f2.length : Int))) ?_
 refine TL.c (Step.callM2 (xs := [.tmp 10, .tmp 11]) (ps := [(.one (.row 903 [])), (pI (k + (a.f2.length : Int)))]) (js := [(903, (.ints .u8 (mkB a.f3 (k + (a.f2.length : Int)))))]) (g := .func 32) (ok_laws_markByteS a.f3 (k + (a.f2.length : Int)) (by omega) (by first | omega | (have := (by assumption); omega))) rfl rfl (lt_ok rfl) rfl (by kernel_rfl) rfl rfl (.row (T := (Ts 3)) (d := (.ints .u8 a.f3)) (e' := (.ints .u8 (mkB a.f3 (k + (a.f2.length : Int))))) (d' := (.ints .u8 (mkB a.f3 (k + (a.f2.length : Int))))) rfl rfl rfl rfl rfl (by simp [D.size, mkL_length]) rfl rfl (.d .nil)) rfl) ?_
 refine TL.as (pI ((k + (a.f2.length : Int)) + (a.f3.length : Int))) ?_
 refine TL.nil ?_
 refine T.seq ?_
 refine T.region ?_
 refine TL.c (Step.fieldAddr (q := 0) (off := 4) (n := 1) (one := true) rfl rfl (lt_ok rfl) (by kernel_rfl) (Nat.succ_ne_zero _) rfl) ?_
 refine TL.c (Step.load_box (c := .row 904 []) rfl rfl (lt_ok rfl) (by kernel_rfl) rfl rfl rfl) ?_
 refine TL.mv (pI ((k + (a.f2.length : Int)) + (a.f3.length : Int))) ?_
 have nn1 := cntBs_nonneg a.f4
 refine TL.c (Step.callM2 (xs := [.tmp 14, .tmp 15]) (ps := [(.one (.row 904 [])), (pI ((k + (a.f2.length : Int)) + (a.f3.length : Int)))]) (js := [(904, (.bss (mkBs a.f4 ((k + (a.f2.length : Int)) + (a.f3.length : Int)))))]) (g := .func 85) (ok_laws_markByteSS a.f4 ((k + (a.f2.length : Int)) + (a.f3.length : Int)) (by omega) (by first | omega | (have := cntBs_le (xs := a.f4) (by assumption); omega))) rfl rfl (lt_ok rfl) rfl (by kernel_rfl) rfl rfl (.row (T := (Ts 4)) (d := (.bss a.f4)) (e' := (.bss (mkBs a.f4 ((k + (a.f2.length : Int)) + (a.f3.length : Int))))) (d' := (.bss (mkBs a.f4 ((k + (a.f2.length : Int)) + (a.f3.length : Int))))) rfl rfl rfl rfl rfl (by simp [D.size, mkL_length]) rfl rfl (.d .nil)) rfl) ?_
 refine TL.as (pI (((k + (a.f2.length : Int)) + (a.f3.length : Int)) + cntL (fun x : List Int => (x.length : Int)) a.f4)) ?_
 refine TL.nil ?_
 refine T.seq ?_
 refine T.region ?_
 refine TL.mv (pI (((k + (a.f2.length : Int)) + (a.f3.length : Int)) + cntL (fun x : List Int => (x.length : Int)) a.f4)) ?_
 refine TL.as (pI (((k + (a.f2.length : Int)) + (a.f3.length : Int)) + cntL (fun x : List Int => (x.length : Int)) a.f4)) ?_
 refine TL.nil ?_
 refine T.ret ?_
 refine ⟨⟨⟨[(false, [cI (((k + (a.f2.length : Int)) + (a.f3.length : Int)) + cntL (fun x : List Int => (x.length : Int)) a.f4)])], (.cons rfl .nil), rfl, [], (RetC.rd' ?_ .nil)⟩, rfl⟩, (.rd (.rd (.mk' (by rfl) (.mk' (by rfl) (.mk' (by rfl) (.rd .nil'))))))⟩ <;> (first | rfl | (congr 1; simp only [SQc.cm]; omega))
theorem ok_laws_markVoteS (a : List SVote) (k : Int) (h0_ : 0 ≤ k) (h1_ : k + cntL SVote.ce a ≤ 4611686018427387904) : MK Try.prog 22 [.one (.mk (.sl 5 (a.map SVote.cells)) (.sl 5 ((mkL SVote.ce SVote.me a k).map SVote.cells))), .one (.rd (.int .i64 k))] [(false, [.rd (.int .i64 (k + cntL SVote.ce a))])] := by
 refine MK.intro Try.func22 rfl 48 rfl (le_ok rfl) (le_ok rfl) rfl fun w Z IX pin Ts hp => ?_
 refine T.bndRow 900 rfl fun hb_900 => ?_
 simp only [D.size, List.length_map] at hb_900
 refine T.seq ?_
 refine T.region ?_
 refine TL.as (pI 0) ?_
 refine TL.nil ?_
 refine T.seq ?_
 refine T.seq ?_
 refine T.region ?_
 refine TL.as (pI 0) ?_
 refine TL.nil ?_
 refine T.block ?_
 refine T.loop (ι := Nat) (fun xx_ => { tm := [(0, (.one (.row 900 []))), (4, (pI 0)), (5, (pI (xx_ : Int))), (1, (pI (k + cntL SVote.ce (a.take xx_))))], rows := [(900, ((Ts 0), (.sl 5 (((upTo SVote.ce SVote.me a k xx_).set xx_ (a.getD xx_ default)).map SVote.cells))))], boxes := [] }) (fun xx_ => xx_ ≤ a.length) (fun xx_ => a.length - xx_) 0 ?_ ?_ ?_
 · refine Env.le_mk ⟨rfl, rfl, ?_, ?_, trivial⟩ ⟨?_, trivial⟩ trivial <;> (first | exact congrArg (fun x => some (Ts 0, D.sl 5 (List.map SVote.cells x))) (upTo_next (df := default) (by omega) rfl) | exact congrArg (fun x => some (Ts 0, D.sl 5 (List.map SVote.cells x))) (upTo_first a k default) | rfl | (refine congrArg (fun n => PV.one (.d (.int .i64 n))) ?_; first | omega | (simp; done) | (simp [cntL]; done)))
 · exact Nat.zero_le _
 ·
  intro i hx
  try dsimp only at hx ⊢
  refine T.seq ?_
  refine T.seq ?_
  refine T.region ?_
  refine TL.mv (pI (i : Int)) ?_
  refine TL.mv (.one (.row 900 [])) ?_
  refine TL.c (Step.len' (e := 64) (z := 5) (d := (.sl 5 (((upTo SVote.ce SVote.me a k i).set i (a.getD i default)).map SVote.cells))) (n := a.length) rfl rfl (lt_ok rfl) (by kernel_rfl) rfl rfl (by simp [D.size, upTo_length])) ?_
  refine TL.c (Step.bin rfl rfl (lt_ok rfl) rfl rfl (Bin.lss (k := .i64) (a := (i : Int)) (b := (a.length : Int)))) ?_
  refine TL.nil ?_
  refine T.cond (b := decide ((i : Int) < (a.length : Int))) rfl (fun h1 => ?_) (fun h1 => ?_)
  ·
   replace h1 := of_decide_eq_true h1
   have hc1 := cntL_take_le (cnt := SVote.ce) SVote.ce_nn a (i + 1)
   have hc2 := cntL_take_succ (cnt := SVote.ce) (i := i) default (show i < a.length by omega)
   have hc3 := cntL_nonneg (cnt := SVote.ce) SVote.ce_nn (a.take i)
   have hc4 : SVote.ce (a.getD i default) = 1 + 1 + ((a.getD i default).f2.length : Int) + 1 + ((a.getD i default).f4.length : Int) := rfl
   refine T.skip ?_
   refine T.seq ?_
   refine T.block ?_
   refine T.seq ?_
   refine T.region ?_
   refine TL.mv (.one (.row 900 [])) ?_
   refine TL.mv (pI (i : Int)) ?_
   refine TL.mv (pI (k + cntL SVote.ce (a.take i))) ?_
   refine TL.c (Step.index_row (d := (.sl 5 (((upTo SVote.ce SVote.me a k i).set i (a.getD i default)).map SVote.cells))) (e := 64) (z := 5) (i := (i : Int)) rfl rfl (lt_ok rfl) (by kernel_rfl) rfl rfl rfl rfl (lt_ok rfl) rfl (by first | omega | (simp; omega)) (by simp only [D.at_, D.cell, D.size, List.length_set, List.length_map, upTo_length]; first | omega | (simp; omega))) ?_
   refine TL.c (Step.fieldAddr_r (d := (.sl 5 (((upTo SVote.ce SVote.me a k i).set i (a.getD i default)).map SVote.cells))) (j := 0) (off := 0) (n := 1) (one := true) rfl rfl (lt_ok rfl) (by kernel_rfl) (Nat.succ_ne_zero _) rfl rfl (lt_ok rfl)) ?_
   refine TL.c (Step.store_row (n := 1) (p := (pI (k + cntL SVote.ce (a.take i)))) (ps := [cI (k + cntL SVote.ce (a.take i))]) (es := [(.int .i64 (k + cntL SVote.ce (a.take i)))]) (ss := []) (d1 := (.sl 5 (((upTo SVote.ce SVote.me a k i).set i (⟨k + cntL SVote.ce (a.take i), (a.getD i default).f1, (a.getD i default).f2, (a.getD i default).f3, (a.getD i default).f4⟩ : SVote)).map SVote.cells))) (d' := (.sl 5 (((upTo SVote.ce SVote.me a k i).set i (⟨k + cntL SVote.ce (a.take i), (a.getD i default).f1, (a.getD i default).f2, (a.getD i default).f3, (a.getD i default).f4⟩ : SVote)).map SVote.cells))) rfl rfl (by kernel_rfl) rfl rfl rfl rfl rfl rfl (.val rfl .nil) (by simp) (Putd.fld2 SVote.len (by simp only [upTo_length]; first | omega | (simp; omega)) (lt_ok rfl) rfl) rfl) ?_
   refine TL.nil ?_
   refine T.seq ?_
   refine T.region ?_
   refine TL.mv (pI (k + cntL SVote.ce (a.take i))) ?_
   refine TL.c (Step.bin (r := .int .i64 ((k + cntL SVote.ce (a.take i)) + 1)) rfl rfl (lt_ok rfl) rfl rfl (Bin.add (a := (k + cntL SVote.ce (a.take i))) (b := 1) (by first | exact wrap_ok (by first | omega | (simp; omega)) (by first | omega | (simp; omega)) | rfl))) ?_
   refine TL.as (pI ((k + cntL SVote.ce (a.take i)) + 1)) ?_
   refine TL.nil ?_
   refine T.seq ?_
   refine T.region ?_
   refine TL.mv (.one (.row 900 [])) ?_
   refine TL.mv (pI (i : Int)) ?_
   refine TL.mv (pI ((k + cntL SVote.ce (a.take i)) + 1)) ?_
   refine TL.c (Step.index_row (d := (.sl 5 (((upTo SVote.ce SVote.me a k i).set i (⟨k + cntL SVote.ce (a.take i), (a.getD i default).f1, (a.getD i default).f2, (a.getD i default).f3, (a.getD i default).f4⟩ : SVote)).map SVote.cells))) (e := 64) (z := 5) (i := (i : Int)) rfl rfl (lt_ok rfl) (by kernel_rfl) rfl rfl rfl rfl (lt_ok rfl) rfl (by first | omega | (simp; omega)) (by simp only [D.at_, D.cell, D.size, List.length_set, List.length_map, upTo_length]; first | omega | (simp; omega))) ?_
   refine TL.c (Step.fieldAddr_r (d := (.sl 5 (((upTo SVote.ce SVote.me a k i).set i (⟨k + cntL SVote.ce (a.take i), (a.getD i default).f1, (a.getD i default).f2, (a.getD i default).f3, (a.getD i default).f4⟩ : SVote)).map SVote.cells))) (j := 0) (off := 1) (n := 1) (one := true) rfl rfl (lt_ok rfl) (by kernel_rfl) (Nat.succ_ne_zero _) rfl rfl (lt_ok rfl)) ?_
   refine TL.c (Step.store_row (n := 1) (p := (pI ((k + cntL SVote.ce (a.take i)) + 1))) (ps := [cI ((k + cntL SVote.ce (a.take i)) + 1)]) (es := [(.int .i64 ((k + cntL SVote.ce (a.take i)) + 1))]) (ss := []) (d1 := (.sl 5 (((upTo SVote.ce SVote.me a k i).set i (⟨k + cntL SVote.ce (a.take i), (k + cntL SVote.ce (a.take i)) + 1, (a.getD i default).f2, (a.getD i default).f3, (a.getD i default).f4⟩ : SVote)).map SVote.cells))) (d' := (.sl 5 (((upTo SVote.ce SVote.me a k i).set i (⟨k + cntL SVote.ce (a.take i), (k + cntL SVote.ce (a.take i)) + 1, (a.getD i default).f2, (a.getD i default).f3, (a.getD i default).f4⟩ : SVote)).map SVote.cells))) rfl rfl (by kernel_rfl) rfl rfl rfl rfl rfl rfl (.val rfl .nil) (by simp) (Putd.fld2 SVote.len (by simp only [upTo_length]; first | omega | (simp; omega)) (lt_ok rfl) rfl) rfl) ?_
   refine TL.nil ?_
   refine T.seq ?_
   refine T.region ?_
   refine TL.mv (pI ((k + cntL SVote.ce (a.take i)) + 1)) ?_
   refine TL.c (Step.bin (r := .int .i64 (((k + cntL SVote.ce (a.take i)) + 1) + 1)) rfl rfl (lt_ok rfl) rfl rfl (Bin.add (a := ((k + cntL SVote.ce (a.take i)) + 1)) (b := 1) (by first | exact wrap_ok (by first | omega | (simp; omega)) (by first | omega | (simp; omega)) | rfl))) ?_
   refine TL.as (pI (((k + cntL SVote.ce (a.take i)) + 1) + 1)) ?_
   refine TL.nil ?_
   refine T.seq ?_
   refine T.region ?_
   refine TL.mv (.one (.row 900 [])) ?_
   refine TL.mv (pI (i : Int)) ?_
   refine TL.c (Step.index_row (d := (.sl 5 (((upTo SVote.ce SVote.me a k i).set i (⟨k + cntL SVote.ce (a.take i), (k + cntL SVote.ce (a.take i)) + 1, (a.getD i default).f2, (a.getD i default).f3, (a.getD i default).f4⟩ : SVote)).map SVote.cells))) (e := 64) (z := 5) (i := (i : Int)) rfl rfl (lt_ok rfl) (by kernel_rfl) rfl rfl rfl rfl (lt_ok rfl) rfl (by first | omega | (simp; omega)) (by simp only [D.at_, D.cell, D.size, List.length_set, List.length_map, upTo_length]; first | omega | (simp; omega))) ?_
   refine TL.c (Step.fieldAddr_r (d := (.sl 5 (((upTo SVote.ce SVote.me a k i).set i (⟨k + cntL SVote.ce (a.take i), (k + cntL SVote.ce (a.take i)) + 1, (a.getD i default).f2, (a.getD i default).f3, (a.getD i default).f4⟩ : SVote)).map SVote.cells))) (j := 0) (off := 2) (n := 1) (one := true) rfl rfl (lt_ok rfl) (by kernel_rfl) (Nat.succ_ne_zero _) rfl rfl (lt_ok rfl)) ?_
   refine TL.c (Step.load_row (d := (.sl 5 (((upTo SVote.ce SVote.me a k i).set i (⟨k + cntL SVote.ce (a.take i), (k + cntL SVote.ce (a.take i)) + 1, (a.getD i default).f2, (a.getD i default).f3, (a.getD i default).f4⟩ : SVote)).map SVote.cells))) (c := .row 900 [(i, 2)]) rfl rfl (lt_ok rfl) (by kernel_rfl) rfl rfl (ofRow_sl (cell_set_sl (z := 5) (by simp only [upTo_length]; first | omega | (simp; omega)) rfl) rfl)) ?_
   refine TL.mv (pI (((k + cntL SVote.ce (a.take i)) + 1) + 1)) ?_
   refine TL.c (Step.callM2 (xs := [.tmp 30, .tmp 31]) (ps := [(.one (.row 900 [(i, 2)])), (pI (((k + cntL SVote.ce (a.take i)) + 1) + 1))]) (js := [(900, (.sl 5 (((upTo SVote.ce SVote.me a k i).set i (⟨k + cntL SVote.ce (a.take i), (k + cntL SVote.ce (a.take i)) + 1, mkB (a.getD i default).f2 (((k + cntL SVote.ce (a.take i)) + 1) + 1), (a.getD i default).f3, (a.getD i default).f4⟩ : SVote)).map SVote.cells)))]) (g := .func 32) (ok_laws_markByteS (a.getD i default).f2 (((k + cntL SVote.ce (a.take i)) + 1) + 1) (by omega) (by first | omega | (have := (by assumption); omega))) rfl rfl (lt_ok rfl) rfl (by kernel_rfl) rfl rfl (.row (T := (Ts 0)) (d := (.sl 5 (((upTo SVote.ce SVote.me a k i).set i (⟨k + cntL SVote.ce (a.take i), (k + cntL SVote.ce (a.take i)) + 1, (a.getD i default).f2, (a.getD i default).f3, (a.getD i default).f4⟩ : SVote)).map SVote.cells))) (e' := (.ints .u8 (mkB (a.getD i default).f2 (((k + cntL SVote.ce (a.take i)) + 1) + 1)))) (d' := (.sl 5 (((upTo SVote.ce SVote.me a k i).set i (⟨k + cntL SVote.ce (a.take i), (k + cntL SVote.ce (a.take i)) + 1, mkB (a.getD i default).f2 (((k + cntL SVote.ce (a.take i)) + 1) + 1), (a.getD i default).f3, (a.getD i default).f4⟩ : SVote)).map SVote.cells))) rfl (cell_set_sl (z := 5) (by simp only [upTo_length]; first | omega | (simp; omega)) rfl) rfl (putAt_fld2 (by simp only [upTo_length]; first | omega | (simp; omega)) rfl) rfl (by simp [D.size]) rfl rfl (.d .nil)) rfl) ?_
   refine TL.as (pI ((((k + cntL SVote.ce (a.take i)) + 1) + 1) + ((a.getD i default).f2.length : Int))) ?_
   refine TL.nil ?_
   refine T.seq ?_
   refine T.region ?_
   refine TL.mv (.one (.row 900 [])) ?_
   refine TL.mv (pI (i : Int)) ?_
   refine TL.mv (pI ((((k + cntL SVote.ce (a.take i)) + 1) + 1) + ((a.getD i default).f2.length : Int))) ?_
   refine TL.c (Step.index_row (d := (.sl 5 (((upTo SVote.ce SVote.me a k i).set i (⟨k + cntL SVote.ce (a.take i), (k + cntL SVote.ce (a.take i)) + 1, mkB (a.getD i default).f2 (((k + cntL SVote.ce (a.take i)) + 1) + 1), (a.getD i default).f3, (a.getD i default).f4⟩ : SVote)).map SVote.cells))) (e := 64) (z := 5) (i := (i : Int)) rfl rfl (lt_ok rfl) (by kernel_rfl) rfl rfl rfl rfl (lt_ok rfl) rfl (by first | omega | (simp; omega)) (by simp only [D.at_, D.cell, D.size, List.length_set, List.length_map, upTo_length]; first | omega | (simp; omega))) ?_
   refine TL.c (Step.fieldAddr_r (d := (.sl 5 (((upTo SVote.ce SVote.me a k i).set i (⟨k + cntL SVote.ce (a.take i), (k + cntL SVote.ce (a.take i)) + 1, mkB (a.getD i default).f2 (((k + cntL SVote.ce (a.take i)) + 1) + 1), (a.getD i default).f3, (a.getD i default).f4⟩ : SVote)).map SVote.cells))) (j := 0) (off := 3) (n := 1) (one := true) rfl rfl (lt_ok rfl) (by kernel_rfl) (Nat.succ_ne_zero _) rfl rfl (lt_ok rfl)) ?_
   refine TL.c (Step.store_row (n := 1) (p := (pI ((((k + cntL SVote.ce (a.take i)) + 1) + 1) + ((a.getD i default).f2.length : Int)))) (ps := [cI ((((k + cntL SVote.ce (a.take i)) + 1) + 1) + ((a.getD i default).f2.length : Int))]) (es := [(.int .i64 ((((k + cntL SVote.ce (a.take i)) + 1) + 1) + ((a.getD i default).f2.length : Int)))]) (ss := []) (d1 := (.sl 5 (((upTo SVote.ce SVote.me a k i).set i (⟨k + cntL SVote.ce (a.take i), (k + cntL SVote.ce (a.take i)) + 1, mkB (a.getD i default).f2 (((k + cntL SVote.ce (a.take i)) + 1) + 1), (((k + cntL SVote.ce (a.take i)) + 1) + 1) + ((a.getD i default).f2.length : Int), (a.getD i default).f4⟩ : SVote)).map SVote.cells))) (d' := (.sl 5 (((upTo SVote.ce SVote.me a k i).set i (⟨k + cntL SVote.ce (a.take i), (k + cntL SVote.ce (a.take i)) + 1, mkB (a.getD i default).f2 (((k + cntL SVote.ce (a.take i)) + 1) + 1), (((k + cntL SVote.ce (a.take i)) + 1) + 1) + ((a.getD i default).f2.length : Int), (a.getD i default).f4⟩ : SVote)).map SVote.cells))) rfl rfl (by kernel_rfl) rfl rfl rfl rfl rfl rfl (.val rfl .nil) (by simp) (Putd.fld2 SVote.len (by simp only [upTo_length]; first | omega | (simp; omega)) (lt_ok rfl) rfl) rfl) ?_
   refine TL.nil ?_
   refine T.seq ?_
   refine T.region ?_
   refine TL.mv (pI ((((k + cntL SVote.ce (a.take i)) + 1) + 1) + ((a.getD i default).f2.length : Int))) ?_
   refine TL.c (Step.bin (r := .int .i64 (((((k + cntL SVote.ce (a.take i)) + 1) + 1) + ((a.getD i default).f2.length : Int)) + 1)) rfl rfl (lt_ok rfl) rfl rfl (Bin.add (a := ((((k + cntL SVote.ce (a.take i)) + 1) + 1) + ((a.getD i default).f2.length : Int))) (b := 1) (by first | exact wrap_ok (by first | omega | (simp; omega)) (by first | omega | (simp; omega)) | rfl))) ?_
   refine TL.as (pI (((((k + cntL SVote.ce (a.take i)) + 1) + 1) + ((a.getD i default).f2.length : Int)) + 1)) ?_
   refine TL.nil ?_
   refine T.region ?_
   refine TL.mv (.one (.row 900 [])) ?_
   refine TL.mv (pI (i : Int)) ?_
   refine TL.c (Step.index_row (d := (.sl 5 (((upTo SVote.ce SVote.me a k i).set i (⟨k + cntL SVote.ce (a.take i), (k + cntL SVote.ce (a.take i)) + 1, mkB (a.getD i default).f2 (((k + cntL SVote.ce (a.take i)) + 1) + 1), (((k + cntL SVote.ce (a.take i)) + 1) + 1) + ((a.getD i default).f2.length : Int), (a.getD i default).f4⟩ : SVote)).map SVote.cells))) (e := 64) (z := 5) (i := (i : Int)) rfl rfl (lt_ok rfl) (by kernel_rfl) rfl rfl rfl rfl (lt_ok rfl) rfl (by first | omega | (simp; omega)) (by simp only [D.at_, D.cell, D.size, List.length_set, List.length_map, upTo_length]; first | omega | (simp; omega))) ?_
   refine TL.c (Step.fieldAddr_r (d := (.sl 5 (((upTo SVote.ce SVote.me a k i).set i (⟨k + cntL SVote.ce (a.take i), (k + cntL SVote.ce (a.take i)) + 1, mkB (a.getD i default).f2 (((k + cntL SVote.ce (a.take i)) + 1) + 1), (((k + cntL SVote.ce (a.take i)) + 1) + 1) + ((a.getD i default).f2.length : Int), (a.getD i default).f4⟩ : SVote)).map SVote.cells))) (j := 0) (off := 4) (n := 1) (one := true) rfl rfl (lt_ok rfl) (by kernel_rfl) (Nat.succ_ne_zero _) rfl rfl (lt_ok rfl)) ?_
   refine TL.c (Step.load_row (d := (.sl 5 (((upTo SVote.ce SVote.me a k i).set i (⟨k + cntL SVote.ce (a.take i), (k + cntL SVote.ce (a.take i)) + 1, mkB (a.getD i default).f2 (((k + cntL SVote.ce (a.take i)) + 1) + 1), (((k + cntL SVote.ce (a.take i)) + 1) + 1) + ((a.getD i default).f2.length : Int), (a.getD i default).f4⟩ : SVote)).map SVote.cells))) (c := .row 900 [(i, 4)]) rfl rfl (lt_ok rfl) (by kernel_rfl) rfl rfl (ofRow_sl (cell_set_sl (z := 5) (by simp only [upTo_length]; first | omega | (simp; omega)) rfl) rfl)) ?_
   refine TL.mv (pI (((((k + cntL SVote.ce (a.take i)) + 1) + 1) + ((a.getD i default).f2.length : Int)) + 1)) ?_
   refine TL.c (Step.callM2 (xs := [.tmp 44, .tmp 45]) (ps := [(.one (.row 900 [(i, 4)])), (pI (((((k + cntL SVote.ce (a.take i)) + 1) + 1) + ((a.getD i default).f2.length : Int)) + 1))]) (js := [(900, (.sl 5 (((upTo SVote.ce SVote.me a k i).set i (⟨k + cntL SVote.ce (a.take i), (k + cntL SVote.ce (a.take i)) + 1, mkB (a.getD i default).f2 (((k + cntL SVote.ce (a.take i)) + 1) + 1), (((k + cntL SVote.ce (a.take i)) + 1) + 1) + ((a.getD i default).f2.length : Int), mkB (a.getD i default).f4 (((((k + cntL SVote.ce (a.take i)) + 1) + 1) + ((a.getD i default).f2.length : Int)) + 1)⟩ : SVote)).map SVote.cells)))]) (g := .func 32) (ok_laws_markByteS (a.getD i default).f4 (((((k + cntL SVote.ce (a.take i)) + 1) + 1) + ((a.getD i default).f2.length : Int)) + 1) (by omega) (by first | omega | (have := (by assumption); omega))) rfl rfl (lt_ok rfl) rfl (by kernel_rfl) rfl rfl (.row (T := (Ts 0)) (d := (.sl 5 (((upTo SVote.ce SVote.me a k i).set i (⟨k + cntL SVote.ce (a.take i), (k + cntL SVote.ce (a.take i)) + 1, mkB (a.getD i default).f2 (((k + cntL SVote.ce (a.take i)) + 1) + 1), (((k + cntL SVote.ce (a.take i)) + 1) + 1) + ((a.getD i default).f2.length : Int), (a.getD i default).f4⟩ : SVote)).map SVote.cells))) (e' := (.ints .u8 (mkB (a.getD i default).f4 (((((k + cntL SVote.ce (a.take i)) + 1) + 1) + ((a.getD i default).f2.length : Int)) + 1)))) (d' := (.sl 5 (((upTo SVote.ce SVote.me a k i).set i (⟨k + cntL SVote.ce (a.take i), (k + cntL SVote.ce (a.take i)) + 1, mkB (a.getD i default).f2 (((k + cntL SVote.ce (a.take i)) + 1) + 1), (((k + cntL SVote.ce (a.take i)) + 1) + 1) + ((a.getD i default).f2.length : Int), mkB (a.getD i default).f4 (((((k + cntL SVote.ce (a.take i)) + 1) + 1) + ((a.getD i default).f2.length : Int)) + 1)⟩ : SVote)).map SVote.cells))) rfl (cell_set_sl (z := 5) (by simp only [upTo_length]; first | omega | (simp; omega)) rfl) rfl (putAt_fld2 (by simp only [upTo_length]; first | omega | (simp; omega)) rfl) rfl (by simp [D.size]) rfl rfl (.d .nil)) rfl) ?_
   refine TL.as (pI ((((((k + cntL SVote.ce (a.take i)) + 1) + 1) + ((a.getD i default).f2.length : Int)) + 1) + ((a.getD i default).f4.length : Int))) ?_
   refine TL.nil ?_
   refine T.region ?_
   refine TL.mv (pI (i : Int)) ?_
   refine TL.c (Step.bin (r := .int .i64 ((i : Int) + 1)) rfl rfl (lt_ok rfl) rfl rfl (Bin.add (a := (i : Int)) (b := 1) (by first | exact wrap_ok (by first | omega | (simp; omega)) (by first | omega | (simp; omega)) | rfl))) ?_
   refine TL.as (pI ((i : Int) + 1)) ?_
   refine TL.nil ?_
   refine ⟨i + 1, by omega, by first | omega | (dsimp only; omega), Env.le_mk ⟨rfl, rfl, ?_, ?_, trivial⟩ ⟨?_, trivial⟩ trivial⟩ <;> (first | exact congrArg (fun x => some (Ts 0, D.sl 5 (List.map SVote.cells x))) (upTo_next (df := default) (by omega) rfl) | exact congrArg (fun x => some (Ts 0, D.sl 5 (List.map SVote.cells x))) (upTo_first a k default) | rfl | (refine congrArg (fun n => PV.one (.d (.int .i64 n))) ?_; first | omega | (simp; done) | (simp [cntL]; done)))
  ·
   replace h1 := of_decide_eq_false h1
   refine T.exit ?_
   refine T.seq ?_
   refine T.region ?_
   refine TL.mv (pI (k + cntL SVote.ce (a.take i))) ?_
   refine TL.as (pI (k + cntL SVote.ce (a.take i))) ?_
   refine TL.nil ?_
   refine T.ret ?_
   refine ⟨⟨⟨[(false, [cI (k + cntL SVote.ce (a.take i))])], (.cons rfl .nil), rfl, [], (RetC.rd' ?_ .nil)⟩, rfl⟩, (.mk' (by exact congrArg (fun x => some (Ts 0, D.sl 5 (List.map SVote.cells x))) (upTo_end (by omega))) (.rd .nil'))⟩ <;> ((congr 1; rw [cntL_all (by omega)]))
theorem ok_laws_toLimits (a : SLimits) : RO Try.prog 26 [.agg a.cells] [(true, [.rd (.int .i64 a.f0), .rd (.int .i64 a.f1), .rd (.int .i64 a.f2), .rd (.int .i64 a.f3), .rd (.int .i64 a.f4)])] := by
 refine RO.intro Try.func26 rfl 20 rfl (le_ok rfl) fun w Z => ?_
 refine T.seq ?_
 refine T.region ?_
 refine TL.c (Step.box (p := (.agg [cI a.f0, cI a.f1, cI a.f2, cI a.f3, cI a.f4])) (ps := [cI a.f0, cI a.f1, cI a.f2, cI a.f3, cI a.f4]) rfl rfl (lt_ok rfl) rfl rfl rfl rfl rfl) ?_
 refine TL.c (Step.alloc (cs := [.int .i64 0, .int .i64 0, .int .i64 0, .int .i64 0, .int .i64 0]) (ps := [cI 0, cI 0, cI 0, cI 0, cI 0]) rfl rfl (lt_ok rfl) (by kernel_rfl) rfl rfl rfl rfl) ?_
 refine TL.nil ?_
 refine T.seq ?_
 refine T.region ?_
 refine TL.c (Step.alloc (cs := [.int .i64 0, .int .i64 0, .int .i64 0, .int .i64 0, .int .i64 0]) (ps := [cI 0, cI 0, cI 0, cI 0, cI 0]) rfl rfl (lt_ok rfl) (by kernel_rfl) rfl rfl rfl rfl) ?_
 refine TL.nil ?_
 refine T.seq ?_
 refine T.region ?_
 refine TL.c (Step.fieldAddr (q := 0) (off := 0) (n := 1) (one := true) rfl rfl (lt_ok rfl) (by kernel_rfl) (Nat.succ_ne_zero _) rfl) ?_
 refine TL.c (Step.load_box (c := cI a.f0) rfl rfl (lt_ok rfl) (by kernel_rfl) rfl rfl rfl) ?_
 refine TL.c (Step.fieldAddr (q := 0) (off := 0) (n := 1) (one := true) rfl rfl (lt_ok rfl) (by kernel_rfl) (Nat.succ_ne_zero _) rfl) ?_
 refine TL.c (Step.store_box (n := 1) (p := (pI a.f0)) (qs := [cI a.f0]) (ps' := [cI a.f0, cI 0, cI 0, cI 0, cI 0]) rfl rfl (by kernel_rfl) rfl rfl rfl rfl rfl rfl (le_ok rfl) rfl) ?_
 refine TL.nil ?_
 refine T.seq ?_
 refine T.region ?_
 refine TL.c (Step.fieldAddr (q := 0) (off := 1) (n := 1) (one := true) rfl rfl (lt_ok rfl) (by kernel_rfl) (Nat.succ_ne_zero _) rfl) ?_
 refine TL.c (Step.load_box (c := cI a.f1) rfl rfl (lt_ok rfl) (by kernel_rfl) rfl rfl rfl) ?_
 refine TL.c (Step.fieldAddr (q := 0) (off := 1) (n := 1) (one := true) rfl rfl (lt_ok rfl) (by kernel_rfl) (Nat.succ_ne_zero _) rfl) ?_
 refine TL.c (Step.store_box (n := 1) (p := (pI a.f1)) (qs := [cI a.f1]) (ps' := [cI a.f0, cI a.f1, cI 0, cI 0, cI 0]) rfl rfl (by kernel_rfl) rfl rfl rfl rfl rfl rfl (le_ok rfl) rfl) ?_
 refine TL.nil ?_
 refine T.seq ?_
 refine T.region ?_
 refine TL.c (Step.fieldAddr (q := 0) (off := 2) (n := 1) (one := true) rfl rfl (lt_ok rfl) (by kernel_rfl) (Nat.succ_ne_zero _) rfl) ?_
 refine TL.c (Step.load_box (c := cI a.f2) rfl rfl (lt_ok rfl) (by kernel_rfl) rfl rfl rfl) ?_
 refine TL.c (Step.fieldAddr (q := 0) (off := 2) (n := 1) (one := true) rfl rfl (lt_ok rfl) (by kernel_rfl) (Nat.succ_ne_zero _) rfl) ?_
 refine TL.c (Step.store_box (n := 1) (p := (pI a.f2)) (qs := [cI a.f2]) (ps' := [cI a.f0, cI a.f1, cI a.f2, cI 0, cI 0]) rfl rfl (by kernel_rfl) rfl rfl rfl rfl rfl rfl (le_ok rfl) rfl) ?_
 refine TL.nil ?_
 refine T.seq ?_
 refine T.region ?_
 refine TL.c (Step.fieldAddr (q := 0) (off := 3) (n := 1) (one := true) rfl rfl (lt_ok rfl) (by kernel_rfl) (Nat.succ_ne_zero _) rfl) ?_
 refine TL.c (Step.load_box (c := cI a.f3) rfl rfl (lt_ok rfl) (by kernel_rfl) rfl rfl rfl) ?_
 refine TL.c (Step.fieldAddr (q := 0) (off := 3) (n := 1) (one := true) rfl rfl (lt_ok rfl) (by kernel_rfl) (Nat.succ_ne_zero _) rfl) ?_
 refine TL.c (Step.store_box (n := 1) (p := (pI a.f3)) (qs := [cI a.f3]) (ps' := [cI a.f0, cI a.f1, cI a.f2, cI a.f3, cI 0]) rfl rfl (by kernel_rfl) rfl rfl rfl rfl rfl rfl (le_ok rfl) rfl) ?_
 refine TL.nil ?_
 refine T.seq ?_
 refine T.region ?_
 refine TL.c (Step.fieldAddr (q := 0) (off := 4) (n := 1) (one := true) rfl rfl (lt_ok rfl) (by kernel_rfl) (Nat.succ_ne_zero _) rfl) ?_
 refine TL.c (Step.load_box (c := cI a.f4) rfl rfl (lt_ok rfl) (by kernel_rfl) rfl rfl rfl) ?_
 refine TL.c (Step.fieldAddr (q := 0) (off := 4) (n := 1) (one := true) rfl rfl (lt_ok rfl) (by kernel_rfl) (Nat.succ_ne_zero _) rfl) ?_
 refine TL.c (Step.store_box (n := 1) (p := (pI a.f4)) (qs := [cI a.f4]) (ps' := [cI a.f0, cI a.f1, cI a.f2, cI a.f3, cI a.f4]) rfl rfl (by kernel_rfl) rfl rfl rfl rfl rfl rfl (le_ok rfl) rfl) ?_
 refine TL.nil ?_
 refine T.seq ?_
 refine T.region ?_
 refine TL.c (Step.load_box_agg (n := 5) (qs := [cI a.f0, cI a.f1, cI a.f2, cI a.f3, cI a.f4]) rfl rfl (lt_ok rfl) (by kernel_rfl) rfl rfl rfl rfl) ?_
 refine TL.c (Step.store_box (n := 5) (p := (.agg [cI a.f0, cI a.f1, cI a.f2, cI a.f3, cI a.f4])) (qs := [cI a.f0, cI a.f1, cI a.f2, cI a.f3, cI a.f4]) (ps' := [cI a.f0, cI a.f1, cI a.f2, cI a.f3, cI a.f4]) rfl rfl (by kernel_rfl) rfl rfl rfl rfl rfl rfl (le_ok rfl) rfl) ?_
 refine TL.nil ?_
 refine T.ret ?_
 exact ⟨[(true, [.d (.int .i64 a.f0), .d (.int .i64 a.f1), .d (.int .i64 a.f2), .d (.int .i64 a.f3), .d (.int .i64 a.f4)])], (.cons rfl .nil), rfl, [], (RetC.rd' rfl (RetC.rd' rfl (RetC.rd' rfl (RetC.rd' rfl (RetC.rd' rfl .nil)))))⟩
theorem ok_laws_szByteS (a : List Int) (left : Int) (h0_ : 0 ≤ left) (h1_ : left ≤ 9223372036854775807) : RO Try.prog 76 [.one (.ints .u8 a), .one (.int .i64 left)] [(false, [.rd (.int .i64 (szB a left))])] := by
 refine RO.intro Try.func76 rfl 12 rfl (le_ok rfl) fun w Z => ?_
 refine T.bnd 0 0 rfl rfl fun hb_0_0 => ?_
 simp only [D.size, List.length_map] at hb_0_0
 refine T.seq ?_
 refine T.region ?_
 refine TL.as (pI 0) ?_
 refine TL.nil ?_
 refine T.seq ?_
 refine T.region ?_
 refine TL.mv (pI left) ?_
 refine TL.mv (pS a) ?_
 refine TL.c (Step.len (e := 5) (z := 1) (d := (.ints .u8 a)) rfl rfl (lt_ok rfl) (by kernel_rfl) rfl rfl) ?_
 refine TL.c (Step.bin (r := .int .i64 (left - (a.length : Int))) rfl rfl (lt_ok rfl) rfl rfl (Bin.sub (a := left) (b := (a.length : Int)) (by first | exact wrap_ok (by first | omega | (simp; omega)) (by first | omega | (simp; omega)) | rfl))) ?_
 refine TL.as (pI (left - (a.length : Int))) ?_
 refine TL.nil ?_
 refine T.seq ?_
 refine T.seq ?_
 refine T.region ?_
 refine TL.mv (pI (left - (a.length : Int))) ?_
 refine TL.c (Step.bin rfl rfl (lt_ok rfl) rfl rfl (Bin.lss (k := .i64) (a := (left - (a.length : Int))) (b := 0))) ?_
 refine TL.nil ?_
 refine T.cond (b := decide ((left - (a.length : Int)) < 0)) rfl (fun h1 => ?_) (fun h1 => ?_)
 ·
  replace h1 := of_decide_eq_true h1
  refine T.seq ?_
  refine T.region ?_
  refine TL.as (pI (-1)) ?_
  refine TL.nil ?_
  refine T.ret ?_
  refine ⟨[(false, [cI (-1)])], (.cons rfl .nil), rfl, [], (RetC.rd' ?_ .nil)⟩ <;> ((congr 1; unfold szB; split <;> omega))
 ·
  replace h1 := of_decide_eq_false h1
  refine T.skip ?_
  refine T.seq ?_
  refine T.region ?_
  refine TL.mv (pI (left - (a.length : Int))) ?_
  refine TL.as (pI (left - (a.length : Int))) ?_
  refine TL.nil ?_
  refine T.ret ?_
  refine ⟨[(false, [cI (left - (a.length : Int))])], (.cons rfl .nil), rfl, [], (RetC.rd' ?_ .nil)⟩ <;> ((congr 1; unfold szB; split <;> omega))
theorem ok_laws_szVote (a : SVote) (left : Int) (h0_ : 0 ≤ left) (h1_ : left ≤ 9223372036854775807) : RO Try.prog 39 [.agg a.cells, .one (.int .i64 left)] [(false, [.rd (.int .i64 (a.sz left))])] := by
 refine RO.intro Try.func39 rfl 18 rfl (le_ok rfl) fun w Z => ?_
 refine T.seq ?_
 refine T.region ?_
 refine TL.c (Step.box (p := (.agg [cI a.f0, cI a.f1, cS a.f2, cI a.f3, cS a.f4])) (ps := [cI a.f0, cI a.f1, cS a.f2, cI a.f3, cS a.f4]) rfl rfl (lt_ok rfl) rfl rfl rfl rfl rfl) ?_
 refine TL.as (pI 0) ?_
 refine TL.nil ?_
 refine T.seq ?_
 refine T.region ?_
 refine TL.c (Step.fieldAddr (q := 0) (off := 2) (n := 1) (one := true) rfl rfl (lt_ok rfl) (by kernel_rfl) (Nat.succ_ne_zero _) rfl) ?_
 refine TL.c (Step.load_box (c := cS a.f2) rfl rfl (lt_ok rfl) (by kernel_rfl) rfl rfl rfl) ?_
 refine TL.mv (pI left) ?_
 refine TL.c (Step.cl (xs := [.tmp 6, .tmp 7]) (ps := [(pS a.f2), (pI left)]) (g := .func 76) false (.cons (.one (.d _)) (.cons (.one (.d _)) .nil)) (ok_laws_szByteS a.f2 left (by omega) (by omega))) ?_
 refine TL.as (pI (szB a.f2 left)) ?_
 refine TL.nil ?_
 refine T.seq ?_
 refine T.seq ?_
 refine T.region ?_
 refine TL.mv (pI (szB a.f2 left)) ?_
 refine TL.c (Step.bin rfl rfl (lt_ok rfl) rfl rfl (Bin.lss (k := .i64) (a := (szB a.f2 left)) (b := 0))) ?_
 refine TL.nil ?_
 refine T.cond (b := decide ((szB a.f2 left) < 0)) rfl (fun h2 => ?_) (fun h2 => ?_)
 ·
  replace h2 := of_decide_eq_true h2
  refine T.seq ?_
  refine T.region ?_
  refine TL.as (pI (-1)) ?_
  refine TL.nil ?_
  refine T.ret ?_
  refine ⟨[(false, [cI (-1)])], (.cons rfl .nil), rfl, [], (RetC.rd' ?_ .nil)⟩ <;> (first | rfl | (congr 1; simp only [SVote.sz, szThen]; repeat' (split <;> try omega)))
 ·
  replace h2 := of_decide_eq_false h2
  have z1_le : szB a.f2 left ≤ left := szB_le _ (by omega)
  refine T.skip ?_
  refine T.seq ?_
  refine T.region ?_
  refine TL.c (Step.fieldAddr (q := 0) (off := 4) (n := 1) (one := true) rfl rfl (lt_ok rfl) (by kernel_rfl) (Nat.succ_ne_zero _) rfl) ?_
  refine TL.c (Step.load_box (c := cS a.f4) rfl rfl (lt_ok rfl) (by kernel_rfl) rfl rfl rfl) ?_
  refine TL.mv (pI (szB a.f2 left)) ?_
  refine TL.c (Step.cl (xs := [.tmp 12, .tmp 13]) (ps := [(pS a.f4), (pI (szB a.f2 left))]) (g := .func 76) false (.cons (.one (.d _)) (.cons (.one (.d _)) .nil)) (ok_laws_szByteS a.f4 (szB a.f2 left) (by omega) (by omega))) ?_
  refine TL.as (pI (szB a.f4 (szB a.f2 left))) ?_
  refine TL.nil ?_
  refine T.seq ?_
  refine T.seq ?_
  refine T.region ?_
  refine TL.mv (pI (szB a.f4 (szB a.f2 left))) ?_
  refine TL.c (Step.bin rfl rfl (lt_ok rfl) rfl rfl (Bin.lss (k := .i64) (a := (szB a.f4 (szB a.f2 left))) (b := 0))) ?_
  refine TL.nil ?_
  refine T.cond (b := decide ((szB a.f4 (szB a.f2 left)) < 0)) rfl (fun h4 => ?_) (fun h4 => ?_)
  ·
   replace h4 := of_decide_eq_true h4
   refine T.seq ?_
   refine T.region ?_
   refine TL.as (pI (-1)) ?_
   refine TL.nil ?_
   refine T.ret ?_
   refine ⟨[(false, [cI (-1)])], (.cons rfl .nil), rfl, [], (RetC.rd' ?_ .nil)⟩ <;> (first | rfl | (congr 1; simp only [SVote.sz, szThen]; repeat' (split <;> try omega)))
  ·
   replace h4 := of_decide_eq_false h4
   have z3_le : szB a.f4 (szB a.f2 left) ≤ (szB a.f2 left) := szB_le _ (by omega)
   refine T.skip ?_
   refine T.seq ?_
   refine T.region ?_
   refine TL.mv (pI (szB a.f4 (szB a.f2 left))) ?_
   refine TL.as (pI (szB a.f4 (szB a.f2 left))) ?_
   refine TL.nil ?_
   refine T.ret ?_
   refine ⟨[(false, [cI (szB a.f4 (szB a.f2 left))])], (.cons rfl .nil), rfl, [], (RetC.rd' ?_ .nil)⟩ <;> (first | rfl | (congr 1; simp only [SVote.sz, szThen]; repeat' (split <;> try omega)))
theorem ok_laws_szVoteS (a : List SVote) (left : Int) (h0_ : 0 ≤ left) (h1_ : left ≤ 9223372036854775807) : RO Try.prog 34 [.one (.sl 5 (a.map SVote.cells)), .one (.int .i64 left)] [(false, [.rd (.int .i64 (szLs SVote.sz a left))])] := by
 refine RO.intro Try.func34 rfl 27 rfl (le_ok rfl) fun w Z => ?_
 refine T.bnd 0 0 rfl rfl fun hb_0_0 => ?_
 simp only [D.size, List.length_map] at hb_0_0
 refine T.seq ?_
 refine T.region ?_
 refine TL.as (pI 0) ?_
 refine TL.nil ?_
 refine T.seq ?_
 refine T.region ?_
 refine TL.mv (pI left) ?_
 refine TL.mv (.one (.d (.sl 5 (a.map SVote.cells)))) ?_
 refine TL.c (Step.len' (e := 62) (z := 5) (d := (.sl 5 (a.map SVote.cells))) (n := a.length) rfl rfl (lt_ok rfl) (by kernel_rfl) rfl rfl (by simp [D.size])) ?_
 refine TL.c (Step.bin (r := .int .i64 (left - (a.length : Int))) rfl rfl (lt_ok rfl) rfl rfl (Bin.sub (a := left) (b := (a.length : Int)) (by first | exact wrap_ok (by first | omega | (simp; omega)) (by first | omega | (simp; omega)) | rfl))) ?_
 refine TL.as (pI (left - (a.length : Int))) ?_
 refine TL.nil ?_
 refine T.seq ?_
 refine T.seq ?_
 refine T.region ?_
 refine TL.mv (pI (left - (a.length : Int))) ?_
 refine TL.c (Step.bin rfl rfl (lt_ok rfl) rfl rfl (Bin.lss (k := .i64) (a := (left - (a.length : Int))) (b := 0))) ?_
 refine TL.nil ?_
 refine T.cond (b := decide ((left - (a.length : Int)) < 0)) rfl (fun h1 => ?_) (fun h1 => ?_)
 ·
  replace h1 := of_decide_eq_true h1
  refine T.seq ?_
  refine T.region ?_
  refine TL.as (pI (-1)) ?_
  refine TL.nil ?_
  refine T.ret ?_
  refine ⟨[(false, [cI (-1)])], (.cons rfl .nil), rfl, [], (RetC.rd' ?_ .nil)⟩ <;> ((congr 1; first | (rw [← hx4, szL_drop (dflt := default) a i l (by omega), if_pos (by omega)]; done) | (rw [← hx4, List.drop_of_length_le (by omega)]; rfl) | (unfold szLs; rw [if_pos (by omega)]; done)))
 ·
  replace h1 := of_decide_eq_false h1
  refine T.skip ?_
  refine T.seq ?_
  refine T.seq ?_
  refine T.region ?_
  refine TL.as (pI 0) ?_
  refine TL.nil ?_
  refine T.block ?_
  refine T.loop (ι := Nat × Int) (fun xx_ => { tm := [(0, (.one (.d (.sl 5 (a.map SVote.cells))))), (5, (pI ((xx_.1) : Int))), (1, (pI (xx_.2)))], rows := [], boxes := [] }) (fun xx_ => (xx_.1) ≤ a.length ∧ 0 ≤ (xx_.2) ∧ (xx_.2) ≤ 9223372036854775807 ∧ szL SVote.sz (a.drop (xx_.1)) (xx_.2) = szLs SVote.sz a left) (fun xx_ => a.length - (xx_.1)) (0, left - (a.length : Int)) ?_ ?_ ?_
  · refine Env.le_mk ⟨rfl, ?_, ?_, trivial⟩ trivial trivial <;> (first | rfl | (simp; done) | (congr 3; omega))
  · (refine ⟨Nat.zero_le _, by omega, by omega, ?_⟩; unfold szLs; rw [if_neg (by omega), List.drop_zero])
  ·
   intro xx_ hx
   obtain ⟨i, l⟩ := xx_
   try dsimp only at hx ⊢
   obtain ⟨hx1, hx2, hx3, hx4⟩ := hx
   refine T.seq ?_
   refine T.seq ?_
   refine T.region ?_
   refine TL.mv (pI (i : Int)) ?_
   refine TL.mv (.one (.d (.sl 5 (a.map SVote.cells)))) ?_
   refine TL.c (Step.len' (e := 62) (z := 5) (d := (.sl 5 (a.map SVote.cells))) (n := a.length) rfl rfl (lt_ok rfl) (by kernel_rfl) rfl rfl (by simp [D.size])) ?_
   refine TL.c (Step.bin rfl rfl (lt_ok rfl) rfl rfl (Bin.lss (k := .i64) (a := (i : Int)) (b := (a.length : Int)))) ?_
   refine TL.nil ?_
   refine T.cond (b := decide ((i : Int) < (a.length : Int))) rfl (fun h2 => ?_) (fun h2 => ?_)
   ·
    replace h2 := of_decide_eq_true h2
    refine T.skip ?_
    refine T.seq ?_
    refine T.block ?_
    refine T.seq ?_
    refine T.region ?_
    refine TL.mv (.one (.d (.sl 5 (a.map SVote.cells)))) ?_
    refine TL.mv (pI (i : Int)) ?_
    refine TL.c (Step.index (e := 62) (z := 5) (i := (i : Int)) rfl rfl (lt_ok rfl) (by kernel_rfl) rfl rfl rfl (lt_ok rfl) rfl (by first | omega | (simp; omega)) (by simp only [D.size]; first | omega | (simp; omega))) ?_
    refine TL.c (Step.load_agg (n := 5) (cs := [cI (a.getD i default).f0, cI (a.getD i default).f1, cS (a.getD i default).f2, cI (a.getD i default).f3, cS (a.getD i default).f4]) rfl rfl (lt_ok rfl) (by kernel_rfl) rfl rfl (by simp only [List.range, List.range.loop, List.map_cons, List.map_nil]; rw [cell_map default (by first | omega | (simp; omega)), cell_map default (by first | omega | (simp; omega)), cell_map default (by first | omega | (simp; omega)), cell_map default (by first | omega | (simp; omega)), cell_map default (by first | omega | (simp; omega))]; rfl)) ?_
    refine TL.mv (pI l) ?_
    refine TL.c (Step.cl (xs := [.tmp 21, .tmp 22]) (ps := [(.agg [cI (a.getD i default).f0, cI (a.getD i default).f1, cS (a.getD i default).f2, cI (a.getD i default).f3, cS (a.getD i default).f4]), (pI l)]) (g := .func 39) false (.cons (.agg (.cons (.d _) (.cons (.d _) (.cons (.d _) (.cons (.d _) (.cons (.d _) .nil)))))) (.cons (.one (.d _)) .nil)) (ok_laws_szVote (a.getD i default) l (by omega) (by omega))) ?_
    refine TL.as (pI ((a.getD i default).sz l)) ?_
    refine TL.nil ?_
    refine T.seq ?_
    refine T.region ?_
    refine TL.mv (pI ((a.getD i default).sz l)) ?_
    refine TL.c (Step.bin rfl rfl (lt_ok rfl) rfl rfl (Bin.lss (k := .i64) (a := ((a.getD i default).sz l)) (b := 0))) ?_
    refine TL.nil ?_
    refine T.cond (b := decide (((a.getD i default).sz l) < 0)) rfl (fun h4 => ?_) (fun h4 => ?_)
    ·
     replace h4 := of_decide_eq_true h4
     refine T.seq ?_
     refine T.region ?_
     refine TL.as (pI (-1)) ?_
     refine TL.nil ?_
     refine T.ret ?_
     refine ⟨[(false, [cI (-1)])], (.cons rfl .nil), rfl, [], (RetC.rd' ?_ .nil)⟩ <;> ((congr 1; first | (rw [← hx4, szL_drop (dflt := default) a i l (by omega), if_pos (by omega)]; done) | (rw [← hx4, List.drop_of_length_le (by omega)]; rfl) | (unfold szLs; rw [if_pos (by omega)]; done)))
    ·
     replace h4 := of_decide_eq_false h4
     have z3_le : (a.getD i default).sz l ≤ l := SVote.sz_le _ (by omega)
     refine T.skip ?_
     refine T.region ?_
     refine TL.mv (pI (i : Int)) ?_
     refine TL.c (Step.bin (r := .int .i64 ((i : Int) + 1)) rfl rfl (lt_ok rfl) rfl rfl (Bin.add (a := (i : Int)) (b := 1) (by first | exact wrap_ok (by first | omega | (simp; omega)) (by first | omega | (simp; omega)) | rfl))) ?_
     refine TL.as (pI ((i : Int) + 1)) ?_
     refine TL.nil ?_
     refine ⟨(i + 1, (SVote.sz (a.getD i default) l)), by (refine ⟨by omega, by omega, by omega, ?_⟩; rw [← hx4, szL_drop (dflt := default) a i l (by omega), if_neg (by omega)]), by (dsimp only; omega), Env.le_mk ⟨rfl, ?_, ?_, trivial⟩ trivial trivial⟩ <;> (first | rfl | (simp; done) | (congr 3; omega))
   ·
    replace h2 := of_decide_eq_false h2
    refine T.exit ?_
    refine T.seq ?_
    refine T.region ?_
    refine TL.mv (pI l) ?_
    refine TL.as (pI l) ?_
    refine TL.nil ?_
    refine T.ret ?_
    refine ⟨[(false, [cI l])], (.cons rfl .nil), rfl, [], (RetC.rd' ?_ .nil)⟩ <;> ((congr 1; first | (rw [← hx4, szL_drop (dflt := default) a i l (by omega), if_pos (by omega)]; done) | (rw [← hx4, List.drop_of_length_le (by omega)]; rfl) | (unfold szLs; rw [if_pos (by omega)]; done)))
theorem ok_spec_BitsHas (b : List Int) (i : Int) (h0_ : U8s b) (h1_ : b.length ≤ 17592186044416) (h2_ : i ≤ 9223372036854775807) : RO Try.prog 133 [.one (.ints .u8 b), .one (.int .i64 i)] [(false, [.rd (.bool (bitHas b i))])] := by
 refine RO.intro Try.func133 rfl 27 rfl (le_ok rfl) fun w Z => ?_
 refine T.bnd 0 0 rfl rfl fun hb_0_0 => ?_
 simp only [D.size, List.length_map] at hb_0_0
 have hu_ := getD_u8 h0_ (i / 8).toNat
 have hp_ := div_pow_bd hu_.1 hu_.2 (i % 8).toNat
 refine T.seq ?_
 refine T.region ?_
 refine TL.as (pB false) ?_
 refine TL.nil ?_
 refine T.seq ?_
 refine T.region ?_
 refine TL.mv (pI i) ?_
 refine TL.c (Step.bin rfl rfl (lt_ok rfl) rfl rfl (Bin.geq (k := .i64) (a := i) (b := 0))) ?_
 refine TL.mv (pB (decide (0 ≤ i))) ?_
 rcases Bool.eq_false_or_eq_true (decide (0 ≤ i)) with hb1 | hb1
 ·
  refine TL.known 7 hb1 rfl ?_
  have hb1' := hb1
  replace hb1' := of_decide_eq_true hb1'
  refine TL.gm 7 (pI i) ?_
  refine TL.gy 7 (Step.bin (r := .int .i64 (i / 8)) rfl rfl (lt_ok rfl) rfl rfl (Bin.quo (k := .i64) (a := i) (b := 8) (by decide) (by rw [Int.tdiv_eq_ediv_of_nonneg (by first | omega | exact hp_.1 | exact hp_.2 | (simp; omega))]; exact wrap_ok (by first | omega | exact hp_.1 | exact hp_.2 | (simp; omega)) (by first | omega | exact hp_.1 | exact hp_.2 | (simp; omega))))) ?_
  refine TL.gm 7 (pS b) ?_
  refine TL.gy 7 (Step.len (e := 5) (z := 1) (d := (.ints .u8 b)) rfl rfl (lt_ok rfl) (by kernel_rfl) rfl rfl) ?_
  refine TL.gy 7 (Step.bin rfl rfl (lt_ok rfl) rfl rfl (Bin.lss (k := .i64) (a := (i / 8)) (b := (b.length : Int)))) ?_
  refine TL.pk true (pB (decide ((i / 8) < (b.length : Int)))) ?_
  refine TL.mv (pB (decide ((i / 8) < (b.length : Int)))) ?_
  rcases Bool.eq_false_or_eq_true (decide ((i / 8) < (b.length : Int))) with hb2 | hb2
  ·
   refine TL.known 14 hb2 rfl ?_
   have hb2' := hb2
   replace hb2' := of_decide_eq_true hb2'
   refine TL.gm 14 (pS b) ?_
   refine TL.gm 14 (pI i) ?_
   refine TL.gy 14 (Step.bin (r := .int .i64 (i / 8)) rfl rfl (lt_ok rfl) rfl rfl (Bin.quo (k := .i64) (a := i) (b := 8) (by decide) (by rw [Int.tdiv_eq_ediv_of_nonneg (by first | omega | exact hp_.1 | exact hp_.2 | (simp; omega))]; exact wrap_ok (by first | omega | exact hp_.1 | exact hp_.2 | (simp; omega)) (by first | omega | exact hp_.1 | exact hp_.2 | (simp; omega))))) ?_
   refine TL.gy 14 (Step.index (e := 5) (z := 1) (i := (i / 8)) rfl rfl (lt_ok rfl) (by kernel_rfl) rfl rfl rfl (lt_ok rfl) rfl (by first | omega | exact hp_.1 | exact hp_.2 | (simp; omega)) (by simp only [D.size]; first | omega | exact hp_.1 | exact hp_.2 | (simp; omega))) ?_
   refine TL.gy 14 (Step.load (e := (.int .u8 (b.getD (i / 8).toNat 0))) rfl rfl (lt_ok rfl) (by kernel_rfl) rfl rfl) ?_
   refine TL.gy 14 (Step.conv (c := (b.getD (i / 8).toNat 0)) rfl rfl (lt_ok rfl) (by kernel_rfl) (by kernel_rfl) rfl (wrap_ok (by first | omega | exact hp_.1 | exact hp_.2 | (simp; omega)) (by first | omega | exact hp_.1 | exact hp_.2 | (simp; omega)))) ?_
   refine TL.gm 14 (pI i) ?_
   refine TL.gy 14 (Step.bin (r := .int .i64 (i % 8)) rfl rfl (lt_ok rfl) rfl rfl (Bin.rem (k := .i64) (a := i) (b := 8) (by decide) (Int.tmod_eq_emod_of_nonneg (by first | omega | exact hp_.1 | exact hp_.2 | (simp; omega))))) ?_
   refine TL.gy 14 (Step.bin (r := .int .i64 ((b.getD (i / 8).toNat 0) / 2 ^ ((i % 8)).toNat)) rfl rfl (lt_ok rfl) rfl rfl (Bin.shr (k := .i64) (k' := .i64) (a := (b.getD (i / 8).toNat 0)) (b := (i % 8)) (by first | omega | exact hp_.1 | exact hp_.2 | (simp; omega)) (shr_ok (by first | omega | exact hp_.1 | exact hp_.2 | (simp; omega)) (by show _ < ((64 : Nat) : Int); first | omega | exact hp_.1 | exact hp_.2 | (simp; omega))))) ?_
   refine TL.gy 14 (Step.bin (r := .int .i64 (((b.getD (i / 8).toNat 0) / 2 ^ ((i % 8)).toNat) % 2)) rfl rfl (lt_ok rfl) rfl rfl (Bin.rem (k := .i64) (a := ((b.getD (i / 8).toNat 0) / 2 ^ ((i % 8)).toNat)) (b := 2) (by decide) (Int.tmod_eq_emod_of_nonneg (by first | omega | exact hp_.1 | exact hp_.2 | (simp; omega))))) ?_
   refine TL.gy 14 (Step.bin rfl rfl (lt_ok rfl) rfl rfl (Bin.eql (k := .i64) (a := (((b.getD (i / 8).toNat 0) / 2 ^ ((i % 8)).toNat) % 2)) (b := 1))) ?_
   refine TL.pk true (pB (decide ((((b.getD (i / 8).toNat 0) / 2 ^ ((i % 8)).toNat) % 2) = 1))) ?_
   refine TL.as (pB (decide ((((b.getD (i / 8).toNat 0) / 2 ^ ((i % 8)).toNat) % 2) = 1))) ?_
   refine TL.nil ?_
   refine T.ret ?_
   refine ⟨[(false, [.d (.bool (decide ((((b.getD (i / 8).toNat 0) / 2 ^ ((i % 8)).toNat) % 2) = 1)))])], (.cons rfl .nil), rfl, [], (RetC.rd' ?_ .nil)⟩ <;> ((congr 1; symm; unfold bitHas; first | (rw [decide_eq_false (p := 0 ≤ i) (by omega)]; rfl) | (rw [decide_eq_true (p := 0 ≤ i) (by omega), decide_eq_false (p := i / 8 < (b.length : Int)) (by omega)]; rfl) | (rw [decide_eq_true (p := 0 ≤ i) (by omega), decide_eq_true (p := i / 8 < (b.length : Int)) (by omega)]; rfl) | (by_cases hi_ : 0 ≤ i; (rw [decide_eq_true (p := 0 ≤ i) (by omega), decide_eq_false (p := i / 8 < (b.length : Int)) (by omega)]; rfl); (rw [decide_eq_false (p := 0 ≤ i) hi_]; rfl))))
  ·
   refine TL.known 14 hb2 rfl ?_
   have hb2' := hb2
   replace hb2' := of_decide_eq_false hb2'
   refine TL.gf 14 ?_
   refine TL.gf 14 ?_
   refine TL.gf 14 ?_
   refine TL.gf 14 ?_
   refine TL.gf 14 ?_
   refine TL.gf 14 ?_
   refine TL.gf 14 ?_
   refine TL.gf 14 ?_
   refine TL.gf 14 ?_
   refine TL.gf 14 ?_
   refine TL.gf 14 ?_
   refine TL.pk false (pB false) ?_
   refine TL.as (pB false) ?_
   refine TL.nil ?_
   refine T.ret ?_
   refine ⟨[(false, [.d (.bool false)])], (.cons rfl .nil), rfl, [], (RetC.rd' ?_ .nil)⟩ <;> ((congr 1; symm; unfold bitHas; first | (rw [decide_eq_false (p := 0 ≤ i) (by omega)]; rfl) | (rw [decide_eq_true (p := 0 ≤ i) (by omega), decide_eq_false (p := i / 8 < (b.length : Int)) (by omega)]; rfl) | (rw [decide_eq_true (p := 0 ≤ i) (by omega), decide_eq_true (p := i / 8 < (b.length : Int)) (by omega)]; rfl) | (by_cases hi_ : 0 ≤ i; (rw [decide_eq_true (p := 0 ≤ i) (by omega), decide_eq_false (p := i / 8 < (b.length : Int)) (by omega)]; rfl); (rw [decide_eq_false (p := 0 ≤ i) hi_]; rfl))))
 ·
  refine TL.known 7 hb1 rfl ?_
  have hb1' := hb1
  replace hb1' := of_decide_eq_false hb1'
  refine TL.gf 7 ?_
  refine TL.gf 7 ?_
  refine TL.gf 7 ?_
  refine TL.gf 7 ?_
  refine TL.gf 7 ?_
  refine TL.pk false (pB false) ?_
  refine TL.mv (pB false) ?_
  refine TL.gf 14 ?_
  refine TL.gf 14 ?_
  refine TL.gf 14 ?_
  refine TL.gf 14 ?_
  refine TL.gf 14 ?_
  refine TL.gf 14 ?_
  refine TL.gf 14 ?_
  refine TL.gf 14 ?_
  refine TL.gf 14 ?_
  refine TL.gf 14 ?_
  refine TL.gf 14 ?_
  refine TL.pk false (pB false) ?_
  refine TL.as (pB false) ?_
  refine TL.nil ?_
  refine T.ret ?_
  refine ⟨[(false, [.d (.bool false)])], (.cons rfl .nil), rfl, [], (RetC.rd' ?_ .nil)⟩ <;> ((congr 1; symm; unfold bitHas; first | (rw [decide_eq_false (p := 0 ≤ i) (by omega)]; rfl) | (rw [decide_eq_true (p := 0 ≤ i) (by omega), decide_eq_false (p := i / 8 < (b.length : Int)) (by omega)]; rfl) | (rw [decide_eq_true (p := 0 ≤ i) (by omega), decide_eq_true (p := i / 8 < (b.length : Int)) (by omega)]; rfl) | (by_cases hi_ : 0 ≤ i; (rw [decide_eq_true (p := 0 ≤ i) (by omega), decide_eq_false (p := i / 8 < (b.length : Int)) (by omega)]; rfl); (rw [decide_eq_false (p := 0 ≤ i) hi_]; rfl))))
theorem ok_spec_BitsList (b : List Int) (h0_ : U8s b) (h1_ : b.length ≤ 1099511627776) : RO Try.prog 78 [.one (.ints .u8 b)] [(false, [.own 3 (.ints .i64 (bitList b))])] := by
 refine RO.intro Try.func78 rfl 21 rfl (le_ok rfl) fun w Z => ?_
 refine T.bnd 0 0 rfl rfl fun hb_0_0 => ?_
 simp only [D.size, List.length_map] at hb_0_0
 refine T.seq ?_
 refine T.region ?_
 refine TL.as (.one (.nil)) ?_
 refine TL.nil ?_
 refine T.seq ?_
 refine T.region ?_
 refine TL.c (Step.lit (e := 3) (z := 1) (by_ := 8) (xs := []) (pss := []) (es := []) (ss := []) (d := (.ints .i64 [])) rfl rfl (lt_ok rfl) (by kernel_rfl) rfl rfl .nil (by simp) (le_ok rfl) (le_ok rfl) rfl .nil rfl (by simp) (by simp) rfl trivial rfl rfl) ?_
 refine TL.as (.one (.row 5 [])) ?_
 refine TL.nil ?_
 refine T.seq ?_
 refine T.seq ?_
 refine T.region ?_
 refine TL.as (pI 0) ?_
 refine TL.nil ?_
 refine T.block ?_
 refine T.loop (ι := Nat × (List Int)) (fun xx_ => { tm := [(0, (pS b)), (2, (.one (.nil))), (4, (pI ((xx_.1) : Int))), (3, (.one (.row 5 [])))], rows := [(5, (3, (.ints .i64 (xx_.2))))], boxes := [] }) (fun xx_ => (xx_.1) ≤ 8 * b.length ∧ (xx_.2) ++ bitsGo b (8 * b.length - (xx_.1)) (xx_.1) = bitList b ∧ (xx_.2).length ≤ (xx_.1)) (fun xx_ => 8 * b.length - (xx_.1)) (0, []) ?_ ?_ ?_
 · refine Env.le_mk ⟨rfl, rfl, ?_, rfl, trivial⟩ ⟨?_, trivial⟩ trivial <;> (first | rfl | (refine congrArg (fun x => some (_, D.ints .i64 x)) ?_; rfl) | (refine congrArg (fun n => PV.one (.d (.int .i64 n))) ?_; first | omega | (simp; done)))
 · (dsimp only; refine ⟨Nat.zero_le _, rfl, Nat.zero_le _⟩)
 ·
  intro xx_ hx
  obtain ⟨i, o⟩ := xx_
  try dsimp only at hx ⊢
  obtain ⟨hx1, hx2, hx3⟩ := hx
  refine T.seq ?_
  refine T.seq ?_
  refine T.region ?_
  refine TL.mv (pI (i : Int)) ?_
  refine TL.mv (pS b) ?_
  refine TL.c (Step.len (e := 5) (z := 1) (d := (.ints .u8 b)) rfl rfl (lt_ok rfl) (by kernel_rfl) rfl rfl) ?_
  refine TL.c (Step.bin (r := .int .i64 (8 * (b.length : Int))) rfl rfl (lt_ok rfl) rfl rfl (Bin.mul (a := 8) (b := (b.length : Int)) (by first | exact wrap_ok (by first | omega | (simp; omega)) (by first | omega | (simp; omega)) | rfl))) ?_
  refine TL.c (Step.bin rfl rfl (lt_ok rfl) rfl rfl (Bin.lss (k := .i64) (a := (i : Int)) (b := (8 * (b.length : Int))))) ?_
  refine TL.nil ?_
  refine T.cond (b := decide ((i : Int) < (8 * (b.length : Int)))) rfl (fun h1 => ?_) (fun h1 => ?_)
  ·
   replace h1 := of_decide_eq_true h1
   refine T.skip ?_
   refine T.seq ?_
   refine T.block ?_
   refine T.seq ?_
   refine T.region ?_
   refine TL.mv (pS b) ?_
   refine TL.mv (pI (i : Int)) ?_
   refine TL.c (Step.cl (xs := [.tmp 13, .tmp 14]) (ps := [(pS b), (pI (i : Int))]) (g := .func 133) false (.cons (.one (.d _)) (.cons (.one (.d _)) .nil)) (ok_spec_BitsHas b (i : Int) (by assumption) (by first | omega | assumption | (simp only [List.length_append] at *; omega)) (by first | omega | (have := hn_ (by first | assumption | simpa using ‹(!bitsOk b n) = false›); omega)))) ?_
   refine TL.nil ?_
   refine T.cond (b := bitHas b (i : Int)) rfl (fun h2 => ?_) (fun h2 => ?_)
   ·
    refine T.region ?_
    refine TL.mv (.one (.row 5 [])) ?_
    refine TL.mv (pI (i : Int)) ?_
    refine TL.c (Step.lit (e := 3) (z := 1) (by_ := 8) (xs := [.tmp 17]) (pss := [[cI (i : Int)]]) (es := [(.int .i64 (i : Int))]) (ss := []) (d := (.ints .i64 [(i : Int)])) rfl rfl (lt_ok rfl) (by kernel_rfl) rfl rfl (.cons rfl .nil) (by simp) (le_ok rfl) (le_ok rfl) rfl (.val rfl .nil) rfl (by simp) (by simp) rfl trivial rfl rfl) ?_
    refine TL.c (Step.append (e := 3) (z := 1) (by_ := 8) (d := (.ints .i64 o)) (dy := (.ints .i64 [(i : Int)])) (d' := (.ints .i64 (o ++ [(i : Int)]))) (ss := []) rfl rfl (lt_ok rfl) (by kernel_rfl) rfl rfl rfl (lt_ok rfl) rfl (.copy rfl rfl rfl (by simp [D.flat, D.val])) (by simp) rfl (by simp only [D.size, List.length_map]; first | omega | (simp only [List.length_append, List.length_cons, List.length_nil]; omega) | (simp; omega) | (simp only [List.length_append] at *; omega)) (by simp only [D.size, List.length_map]; first | omega | (simp only [List.length_append, List.length_cons, List.length_nil]; omega) | (simp; omega) | (simp only [List.length_append] at *; omega)) (by simp)) ?_
    refine TL.as (.one (.row 5 [])) ?_
    refine TL.nil ?_
    refine T.region ?_
    refine TL.mv (pI (i : Int)) ?_
    refine TL.c (Step.bin (r := .int .i64 ((i : Int) + 1)) rfl rfl (lt_ok rfl) rfl rfl (Bin.add (a := (i : Int)) (b := 1) (by first | exact wrap_ok (by first | omega | (simp; omega)) (by first | omega | (simp; omega)) | rfl))) ?_
    refine TL.as (pI ((i : Int) + 1)) ?_
    refine TL.nil ?_
    refine ⟨(i + 1, o ++ [(i : Int)]), by (refine ⟨by omega, ?_, by simp only [List.length_append, List.length_cons, List.length_nil]; omega⟩; rw [← hx2, bitsGo_next b (n := 8 * b.length) (i := i) (by omega)]; first | (rw [if_pos (by assumption)]; simp only [List.append_assoc]; done) | (rw [if_neg (by simp [*])]; rfl)), by (dsimp only; omega), Env.le_mk ⟨rfl, rfl, ?_, rfl, trivial⟩ ⟨?_, trivial⟩ trivial⟩ <;> (first | rfl | (refine congrArg (fun x => some (_, D.ints .i64 x)) ?_; rfl) | (refine congrArg (fun n => PV.one (.d (.int .i64 n))) ?_; first | omega | (simp; done)))
   ·
    refine T.skip ?_
    refine T.region ?_
    refine TL.mv (pI (i : Int)) ?_
    refine TL.c (Step.bin (r := .int .i64 ((i : Int) + 1)) rfl rfl (lt_ok rfl) rfl rfl (Bin.add (a := (i : Int)) (b := 1) (by first | exact wrap_ok (by first | omega | (simp; omega)) (by first | omega | (simp; omega)) | rfl))) ?_
    refine TL.as (pI ((i : Int) + 1)) ?_
    refine TL.nil ?_
    refine ⟨(i + 1, o), by (refine ⟨by omega, ?_, by simp only [List.length_append, List.length_cons, List.length_nil]; omega⟩; rw [← hx2, bitsGo_next b (n := 8 * b.length) (i := i) (by omega)]; first | (rw [if_pos (by assumption)]; simp only [List.append_assoc]; done) | (rw [if_neg (by simp [*])]; rfl)), by (dsimp only; omega), Env.le_mk ⟨rfl, rfl, ?_, rfl, trivial⟩ ⟨rfl, trivial⟩ trivial⟩ <;> (first | rfl | (refine congrArg (fun x => some (_, D.ints .i64 x)) ?_; rfl) | (refine congrArg (fun n => PV.one (.d (.int .i64 n))) ?_; first | omega | (simp; done)))
  ·
   replace h1 := of_decide_eq_false h1
   refine T.exit ?_
   refine T.seq ?_
   refine T.region ?_
   refine TL.mv (.one (.row 5 [])) ?_
   refine TL.as (.one (.row 5 [])) ?_
   refine TL.nil ?_
   refine T.ret ?_
   refine ⟨[(false, [.row 5 []])], (.cons rfl .nil), rfl, [5], (RetC.own' rfl ?_ rfl .nil)⟩ <;> ((congr 1; rw [← hx2, bitsGo_end b (by omega), List.append_nil]))
theorem ok_spec_l01Copy (a : List Int) (h0_ : a.length ≤ 17592186044416) : RO Try.prog 79 [.one (.ints .u8 a)] [(false, [.own 5 (.ints .u8 a)])] := by
 refine RO.intro Try.func79 rfl 6 rfl (le_ok rfl) fun w Z => ?_
 refine T.bnd 0 0 rfl rfl fun hb_0_0 => ?_
 simp only [D.size, List.length_map] at hb_0_0
 refine T.seq ?_
 refine T.region ?_
 refine TL.as (.one (.nil)) ?_
 refine TL.nil ?_
 refine T.seq ?_
 refine T.region ?_
 refine TL.c (Step.lit (e := 5) (z := 1) (by_ := 1) (xs := []) (pss := []) (es := []) (ss := []) (d := (.ints .u8 [])) rfl rfl (lt_ok rfl) (by kernel_rfl) rfl rfl .nil (by simp) (le_ok rfl) (le_ok rfl) rfl .nil rfl (by simp) (by simp) rfl trivial rfl rfl) ?_
 refine TL.mv (pS a) ?_
 refine TL.c (Step.append (e := 5) (z := 1) (by_ := 1) (d := (.ints .u8 [])) (dy := (.ints .u8 a)) (d' := (.ints .u8 ([] ++ a))) (ss := []) rfl rfl (lt_ok rfl) (by kernel_rfl) rfl rfl rfl (lt_ok rfl) rfl (.froz rfl (by simp [D.flat, D.val])) (by simp) rfl (by simp only [D.size, List.length_map]; first | omega | (simp only [List.length_append, List.length_cons, List.length_nil]; omega) | (simp; omega) | (simp only [List.length_append] at *; omega)) (by simp only [D.size, List.length_map]; first | omega | (simp only [List.length_append, List.length_cons, List.length_nil]; omega) | (simp; omega) | (simp only [List.length_append] at *; omega)) (by simp)) ?_
 refine TL.as (.one (.row 3 [])) ?_
 refine TL.nil ?_
 refine T.ret ?_
 refine ⟨[(false, [.row 3 []])], (.cons rfl .nil), rfl, [3], (RetC.own' rfl ?_ rfl .nil)⟩ <;> (rfl)
theorem ok_spec_QcVotes (q : SQc) (h0_ : q.ok) (h1_ : q.sm) : RO Try.prog 16 [.agg q.cells] [(false, [.own 64 (.sl 5 ((qcVotes q).map SVote.cells))])] := by
 refine RO.intro Try.func16 rfl 45 rfl (le_ok rfl) fun w Z => ?_
 refine T.bnd 0 2 rfl rfl fun hb_0_2 => ?_
 simp only [D.size, List.length_map] at hb_0_2
 refine T.bnd 0 3 rfl rfl fun hb_0_3 => ?_
 simp only [D.size, List.length_map] at hb_0_3
 refine T.bnd 0 4 rfl rfl fun hb_0_4 => ?_
 simp only [D.size, List.length_map] at hb_0_4
 obtain ⟨o0, o1, o2, o3, o4⟩ := h0_
 obtain ⟨s0, s1, s2⟩ := h1_
 refine T.seq ?_
 refine T.region ?_
 refine TL.c (Step.box (p := (.agg [cI q.f0, cI q.f1, cS q.f2, cS q.f3, .d (.bss q.f4)])) (ps := [cI q.f0, cI q.f1, cS q.f2, cS q.f3, .d (.bss q.f4)]) rfl rfl (lt_ok rfl) rfl rfl rfl rfl rfl) ?_
 refine TL.as (.one (.nil)) ?_
 refine TL.nil ?_
 refine T.seq ?_
 refine T.region ?_
 refine TL.c (Step.lit (e := 64) (z := 5) (by_ := 72) (xs := []) (pss := []) (es := []) (ss := []) (d := (.sl 5 [])) rfl rfl (lt_ok rfl) (by kernel_rfl) rfl rfl .nil (by simp) (le_ok rfl) (le_ok rfl) rfl .nil rfl (by simp) (by simp) rfl (D.wf_nil _) rfl rfl) ?_
 refine TL.as (.one (.row 7 [])) ?_
 refine TL.ren 7 600001 rfl (by simp) ?_
 refine TL.nil ?_
 refine T.seq ?_
 refine T.region ?_
 refine TL.c (Step.fieldAddr (q := 0) (off := 3) (n := 1) (one := true) rfl rfl (lt_ok rfl) (by kernel_rfl) (Nat.succ_ne_zero _) rfl) ?_
 refine TL.c (Step.load_box (c := cS q.f3) rfl rfl (lt_ok rfl) (by kernel_rfl) rfl rfl rfl) ?_
 have nn1 := bitList_len q.f3
 refine TL.c (Step.cl (xs := [.tmp 9]) (ps := [(pS q.f3)]) (g := .func 78) false (.cons (.one (.d _)) .nil) (ok_spec_BitsList q.f3 (by assumption) (by first | omega | assumption | (simp only [List.length_append] at *; omega)))) ?_
 refine TL.as (.one (.row 1010 [])) ?_
 refine TL.nil ?_
 refine T.seq ?_
 refine T.seq ?_
 refine T.region ?_
 refine TL.mv (.one (.row 1010 [])) ?_
 refine TL.c (Step.len (e := 3) (z := 1) (d := (.ints .i64 (bitList q.f3))) rfl rfl (lt_ok rfl) (by kernel_rfl) rfl rfl) ?_
 refine TL.c (Step.fieldAddr (q := 0) (off := 4) (n := 1) (one := true) rfl rfl (lt_ok rfl) (by kernel_rfl) (Nat.succ_ne_zero _) rfl) ?_
 refine TL.c (Step.load_box (c := .d (.bss q.f4)) rfl rfl (lt_ok rfl) (by kernel_rfl) rfl rfl rfl) ?_
 refine TL.c (Step.len (e := 22) (z := 1) (d := (.bss q.f4)) rfl rfl (lt_ok rfl) (by kernel_rfl) rfl rfl) ?_
 refine TL.c (Step.bin rfl rfl (lt_ok rfl) rfl rfl (Bin.neq (k := .i64) (a := ((bitList q.f3).length : Int)) (b := (q.f4.length : Int)))) ?_
 refine TL.nil ?_
 refine T.cond (b := decide (((bitList q.f3).length : Int) ≠ (q.f4.length : Int))) rfl (fun h2 => ?_) (fun h2 => ?_)
 ·
  replace h2 := of_decide_eq_true h2
  refine T.seq ?_
  refine T.region ?_
  refine TL.mv (.one (.row 600001 [])) ?_
  refine TL.as (.one (.row 600001 [])) ?_
  refine TL.nil ?_
  refine T.ret ?_
  refine ⟨[(false, [.row 600001 []])], (.cons rfl .nil), rfl, [600001], (RetC.own' rfl ?_ rfl .nil)⟩ <;> (first | (congr 1; unfold qcVotes; rw [if_pos (by omega), show i = (bitList q.f3).length from by omega]) | (show (qcVotes q).length = 0; unfold qcVotes; rw [if_neg (by omega)]; rfl) | (congr 1; unfold qcVotes; rw [if_neg (by omega)]; rfl) | (simp only [D.size, List.length_map]; unfold qcVotes; rw [if_neg (by omega)]; rfl))
 ·
  replace h2 := of_decide_eq_false h2
  refine T.skip ?_
  refine T.seq ?_
  refine T.seq ?_
  refine T.region ?_
  refine TL.mv (.one (.row 1010 [])) ?_
  refine TL.c (Step.len (e := 3) (z := 1) (d := (.ints .i64 (bitList q.f3))) rfl rfl (lt_ok rfl) (by kernel_rfl) rfl rfl) ?_
  refine TL.mv (pI 0) ?_
  refine TL.nil ?_
  refine T.block ?_
  refine T.loop (ι := Nat) (fun xx_ => { tm := [(1, (.one (.ptr 1 0))), (2, (.one (.nil))), (18, (.one (.row 1010 []))), (19, (pI ((bitList q.f3).length : Int))), (20, (pI (xx_ : Int))), (3, (.one (.row 600001 [])))], rows := [(600001, (64, (.sl 5 ((qcVotesN q xx_).map SVote.cells)))), (1010, (3, (.ints .i64 (bitList q.f3))))], boxes := [(1, (29, [cI q.f0, cI q.f1, cS q.f2, cS q.f3, .d (.bss q.f4)]))] }) (fun xx_ => xx_ ≤ (bitList q.f3).length) (fun xx_ => (bitList q.f3).length - xx_) 0 ?_ ?_ ?_
  · refine Env.le_mk ⟨rfl, rfl, rfl, rfl, ?_, rfl, trivial⟩ ⟨?_, rfl, trivial⟩ ⟨rfl, trivial⟩ <;> (first | exact congrArg (fun x => some (_, D.sl 5 (List.map SVote.cells x))) (qcVotesN_succ q i).symm | rfl | (refine congrArg (fun n => PV.one (.d (.int .i64 n))) ?_; first | omega | (simp; done)))
  · exact Nat.zero_le _
  ·
   intro i hx
   try dsimp only at hx ⊢
   have hl_ := qcVotesN_len q i
   have ht_ := mem_len (q := 1048576) s2.2 i
   refine T.seq ?_
   refine T.region ?_
   refine TL.c (Step.bin rfl rfl (lt_ok rfl) rfl rfl (Bin.lss (k := .i64) (a := (i : Int)) (b := ((bitList q.f3).length : Int)))) ?_
   refine TL.nil ?_
   refine T.seq ?_
   refine T.cond (b := decide ((i : Int) < ((bitList q.f3).length : Int))) rfl (fun h3 => ?_) (fun h3 => ?_)
   ·
    replace h3 := of_decide_eq_true h3
    refine T.skip ?_
    refine T.seq ?_
    refine T.block ?_
    refine T.seq ?_
    refine T.region ?_
    refine TL.mv (pI (i : Int)) ?_
    refine TL.c (Step.index_row (e := 3) (z := 1) (i := (i : Int)) rfl rfl (lt_ok rfl) (by kernel_rfl) rfl rfl rfl rfl (lt_ok rfl) rfl (by first | omega | (simp; omega)) (by simp only [D.at_, D.cell, D.size]; first | omega | (simp; omega))) ?_
    refine TL.c (Step.load_row (c := cI ((bitList q.f3).getD i 0)) rfl rfl (lt_ok rfl) (by kernel_rfl) rfl rfl rfl) ?_
    refine TL.as (pI (i : Int)) ?_
    refine TL.as (pI ((bitList q.f3).getD i 0)) ?_
    refine TL.nil ?_
    refine T.drawX [{ dst := some 25, pv := (.one (.row 600001 [])) }, { dst := some 26, pv := (.one (.ptr 1 0)) }, { dst := some 27, pv := (pI q.f0) }, { dst := some 28, pv := (.one (.ptr 1 1)) }, { dst := some 29, pv := (pI q.f1) }, { dst := some 30, pv := (.one (.ptr 1 2)) }, { dst := some 31, pv := (pS q.f2) }, { dst := some 32, pv := (.one (.row 1032 [])), rows := [(1032, (5, (.ints .u8 q.f2)))] }, { dst := some 33, pv := (pI ((bitList q.f3).getD i 0)) }, { dst := some 34, pv := (.one (.ptr 1 4)) }, { dst := some 35, pv := (.one (.d (.bss q.f4))) }, { dst := some 36, pv := (pI (i : Int)) }, { dst := some 37, pv := (.one (.eptr (.bss q.f4) i 0)) }, { dst := some 38, pv := (pS (q.f4.getD i [])) }, { dst := some 39, pv := (.one (.row 1039 [])), rows := [(1039, (5, (.ints .u8 (q.f4.getD i []))))] }, { dst := some 40, pv := (.agg [cI q.f0, cI q.f1, .row 1032 [], cI ((bitList q.f3).getD i 0), .row 1039 []]) }, { dst := some 41, pv := (.one (.row 41 [])), rows := [(41, (64, (.sl 5 ([(⟨q.f0, q.f1, q.f2, (bitList q.f3).getD i 0, (q.f4.getD i [])⟩ : SVote)].map SVote.cells))))], dead := [1032, 1039] }, { dst := some 42, pv := (.one (.row 500042 [])), rows := [(500042, (64, (.sl 5 (((qcVotesN q i) ++ [(⟨q.f0, q.f1, q.f2, (bitList q.f3).getD i 0, (q.f4.getD i [])⟩ : SVote)]).map SVote.cells))))], dead := [600001, 41] }, { dst := some 3, pv := (.one (.row 500042 [])) }] (by kernel_rfl) (by kernel_rfl) ?_ ?_
    ·
     refine .cons (fun E hA_ => by have g3 : E.get 3 = (.one (.row 600001 [])) := (hA_.get 3 (by kernel_rfl)).trans (by kernel_rfl); exact OpStep.plain rfl (Step.move (p := (.one (.row 600001 []))) (t := 25) rfl rfl (by exact lt_ok rfl) (show Env.ev E (.tmp 3) = _ from g3.trans rfl))) ?_
     refine .cons (fun E hA_ => by have g1 : E.get 1 = (.one (.ptr 1 0)) := (hA_.get 1 (by kernel_rfl)).trans (by kernel_rfl); exact OpStep.plain rfl (Step.fa (off := 0) (n := 1) (one := true) 0 26 (show Env.ev E (.tmp 1) = _ from g1.trans rfl))) ?_
     refine .cons (fun E hA_ => by have g26 : E.get 26 = (.one (.ptr 1 0)) := (hA_.get 26 (by kernel_rfl)).trans (by kernel_rfl); have b1 : E.box 1 = some (29, [cI q.f0, cI q.f1, cS q.f2, cS q.f3, .d (.bss q.f4)]) := (hA_.box 1 (by kernel_rfl)).trans (by kernel_rfl); exact OpStep.plain rfl (Step.load_box (c := cI q.f0) (t := 27) rfl rfl (by exact lt_ok rfl) (by kernel_rfl) (show Env.ev E (.tmp 26) = _ from g26.trans rfl) b1 rfl)) ?_
     refine .cons (fun E hA_ => by have g1 : E.get 1 = (.one (.ptr 1 0)) := (hA_.get 1 (by kernel_rfl)).trans (by kernel_rfl); exact OpStep.plain rfl (Step.fa (off := 1) (n := 1) (one := true) 0 28 (show Env.ev E (.tmp 1) = _ from g1.trans rfl))) ?_
     refine .cons (fun E hA_ => by have g28 : E.get 28 = (.one (.ptr 1 1)) := (hA_.get 28 (by kernel_rfl)).trans (by kernel_rfl); have b1 : E.box 1 = some (29, [cI q.f0, cI q.f1, cS q.f2, cS q.f3, .d (.bss q.f4)]) := (hA_.box 1 (by kernel_rfl)).trans (by kernel_rfl); exact OpStep.plain rfl (Step.load_box (c := cI q.f1) (t := 29) rfl rfl (by exact lt_ok rfl) (by kernel_rfl) (show Env.ev E (.tmp 28) = _ from g28.trans rfl) b1 rfl)) ?_
     refine .cons (fun E hA_ => by have g1 : E.get 1 = (.one (.ptr 1 0)) := (hA_.get 1 (by kernel_rfl)).trans (by kernel_rfl); exact OpStep.plain rfl (Step.fa (off := 2) (n := 1) (one := true) 0 30 (show Env.ev E (.tmp 1) = _ from g1.trans rfl))) ?_
     refine .cons (fun E hA_ => by have g30 : E.get 30 = (.one (.ptr 1 2)) := (hA_.get 30 (by kernel_rfl)).trans (by kernel_rfl); have b1 : E.box 1 = some (29, [cI q.f0, cI q.f1, cS q.f2, cS q.f3, .d (.bss q.f4)]) := (hA_.box 1 (by kernel_rfl)).trans (by kernel_rfl); exact OpStep.plain rfl (Step.load_box (c := cS q.f2) (t := 31) rfl rfl (by exact lt_ok rfl) (by kernel_rfl) (show Env.ev E (.tmp 30) = _ from g30.trans rfl) b1 rfl)) ?_
     refine .cons (fun E hA_ => by have g31 : E.get 31 = (pS q.f2) := (hA_.get 31 (by kernel_rfl)).trans (by kernel_rfl); exact OpStep.plain rfl (Step.call (f := 79) (xs := [.tmp 31]) (ps := [(pS q.f2)]) false (g := .func 79) (t := 32) rfl rfl (by exact lt_ok rfl) rfl (by kernel_rfl) (evs_cons (show Env.ev E (.tmp 31) = _ from g31.trans rfl) (rfl)) (.cons (.one (.d _)) .nil) (ok_spec_l01Copy q.f2 (by first | omega | assumption | (simp only [List.length_take, List.length_drop]; omega))) (.inr rfl) (freshRows_of _ _ (fun x_ hx_ => hA_.fresh x_ (by exact hx_))) (by simp) rfl)) ?_
     refine .cons (fun E hA_ => by have g6 : E.get 6 = (pI ((bitList q.f3).getD i 0)) := (hA_.get 6 (by kernel_rfl)).trans (by kernel_rfl); exact OpStep.plain rfl (Step.move (p := (pI ((bitList q.f3).getD i 0))) (t := 33) rfl rfl (by exact lt_ok rfl) (show Env.ev E (.tmp 6) = _ from g6.trans rfl))) ?_
     refine .cons (fun E hA_ => by have g1 : E.get 1 = (.one (.ptr 1 0)) := (hA_.get 1 (by kernel_rfl)).trans (by kernel_rfl); exact OpStep.plain rfl (Step.fa (off := 4) (n := 1) (one := true) 0 34 (show Env.ev E (.tmp 1) = _ from g1.trans rfl))) ?_
     refine .cons (fun E hA_ => by have g34 : E.get 34 = (.one (.ptr 1 4)) := (hA_.get 34 (by kernel_rfl)).trans (by kernel_rfl); have b1 : E.box 1 = some (29, [cI q.f0, cI q.f1, cS q.f2, cS q.f3, .d (.bss q.f4)]) := (hA_.box 1 (by kernel_rfl)).trans (by kernel_rfl); exact OpStep.plain rfl (Step.load_box (c := .d (.bss q.f4)) (t := 35) rfl rfl (by exact lt_ok rfl) (by kernel_rfl) (show Env.ev E (.tmp 34) = _ from g34.trans rfl) b1 rfl)) ?_
     refine .cons (fun E hA_ => by have g5 : E.get 5 = (pI (i : Int)) := (hA_.get 5 (by kernel_rfl)).trans (by kernel_rfl); exact OpStep.plain rfl (Step.move (p := (pI (i : Int))) (t := 36) rfl rfl (by exact lt_ok rfl) (show Env.ev E (.tmp 5) = _ from g5.trans rfl))) ?_
     refine .cons (fun E hA_ => by have g35 : E.get 35 = (.one (.d (.bss q.f4))) := (hA_.get 35 (by kernel_rfl)).trans (by kernel_rfl); have g36 : E.get 36 = (pI (i : Int)) := (hA_.get 36 (by kernel_rfl)).trans (by kernel_rfl); exact OpStep.plain rfl (Step.index (e := 22) (z := 1) (i := (i : Int)) (t := 37) rfl rfl (by exact lt_ok rfl) (by kernel_rfl) (show Env.ev E (.tmp 35) = _ from g35.trans rfl) rfl rfl (lt_ok rfl) (show Env.ev E (.tmp 36) = _ from g36.trans rfl) (by first | omega | (simp; omega)) (by simp only [D.size]; first | omega | (simp; omega)))) ?_
     refine .cons (fun E hA_ => by have g37 : E.get 37 = (.one (.eptr (.bss q.f4) i 0)) := (hA_.get 37 (by kernel_rfl)).trans (by kernel_rfl); exact OpStep.plain rfl (Step.load (e := (.ints .u8 (q.f4.getD i []))) (t := 38) rfl rfl (by exact lt_ok rfl) (by kernel_rfl) (show Env.ev E (.tmp 37) = _ from g37.trans rfl) rfl)) ?_
     refine .cons (fun E hA_ => by have g38 : E.get 38 = (pS (q.f4.getD i [])) := (hA_.get 38 (by kernel_rfl)).trans (by kernel_rfl); exact OpStep.plain rfl (Step.call (f := 79) (xs := [.tmp 38]) (ps := [(pS (q.f4.getD i []))]) false (g := .func 79) (t := 39) rfl rfl (by exact lt_ok rfl) rfl (by kernel_rfl) (evs_cons (show Env.ev E (.tmp 38) = _ from g38.trans rfl) (rfl)) (.cons (.one (.d _)) .nil) (ok_spec_l01Copy (q.f4.getD i []) (by first | omega | assumption | (simp only [List.length_take, List.length_drop]; omega))) (.inr rfl) (freshRows_of _ _ (fun x_ hx_ => hA_.fresh x_ (by exact hx_))) (by simp) rfl)) ?_
     refine .cons (fun E hA_ => by have g27 : E.get 27 = (pI q.f0) := (hA_.get 27 (by kernel_rfl)).trans (by kernel_rfl); have g29 : E.get 29 = (pI q.f1) := (hA_.get 29 (by kernel_rfl)).trans (by kernel_rfl); have g32 : E.get 32 = (.one (.row 1032 [])) := (hA_.get 32 (by kernel_rfl)).trans (by kernel_rfl); have g33 : E.get 33 = (pI ((bitList q.f3).getD i 0)) := (hA_.get 33 (by kernel_rfl)).trans (by kernel_rfl); have g39 : E.get 39 = (.one (.row 1039 [])) := (hA_.get 39 (by kernel_rfl)).trans (by kernel_rfl); have q1032 : E.row 1032 = some (5, (.ints .u8 q.f2)) := (hA_.row 1032 (by kernel_rfl)).trans (by kernel_rfl); have q1039 : E.row 1039 = some (5, (.ints .u8 (q.f4.getD i []))) := (hA_.row 1039 (by kernel_rfl)).trans (by kernel_rfl); exact OpStep.plain rfl (Step.build (zs := [.int .i64 0, .int .i64 0, .slice none 0 0, .int .i64 0, .slice none 0 0]) (places := [(0, 1), (1, 1), (2, 1), (3, 1), (4, 1)]) (pss := [(0, [cI q.f0]), (1, [cI q.f1]), (2, [.row 1032 []]), (3, [cI ((bitList q.f3).getD i 0)]), (4, [.row 1039 []])]) (ps' := [cI q.f0, cI q.f1, .row 1032 [], cI ((bitList q.f3).getD i 0), .row 1039 []]) (t := 40) rfl rfl (by exact lt_ok rfl) (by kernel_rfl) (.cons ⟨rfl, (by exact (congrArg PV.flat (show Env.ev E (.tmp 27) = _ from g27.trans rfl)).trans rfl)⟩ (.cons ⟨rfl, (by exact (congrArg PV.flat (show Env.ev E (.tmp 29) = _ from g29.trans rfl)).trans rfl)⟩ (.cons ⟨rfl, (by exact (congrArg PV.flat (show Env.ev E (.tmp 32) = _ from g32.trans rfl)).trans rfl)⟩ (.cons ⟨rfl, (by exact (congrArg PV.flat (show Env.ev E (.tmp 33) = _ from g33.trans rfl)).trans rfl)⟩ (.cons ⟨rfl, (by exact (congrArg PV.flat (show Env.ev E (.tmp 39) = _ from g39.trans rfl)).trans rfl)⟩ .nil))))) (by simp only [List.all_cons, List.all_nil, Env.fine, q1032, q1039]; rfl) rfl rfl)) ?_
     refine .cons (fun E hA_ => by have g40 : E.get 40 = (.agg [cI q.f0, cI q.f1, .row 1032 [], cI ((bitList q.f3).getD i 0), .row 1039 []]) := (hA_.get 40 (by kernel_rfl)).trans (by kernel_rfl); have q1032 : E.row 1032 = some (5, (.ints .u8 q.f2)) := (hA_.row 1032 (by kernel_rfl)).trans (by kernel_rfl); have q1039 : E.row 1039 = some (5, (.ints .u8 (q.f4.getD i []))) := (hA_.row 1039 (by kernel_rfl)).trans (by kernel_rfl); exact OpStep.plain rfl (Step.litX (e := 64) (z := 5) (by_ := 72) (xs := [.tmp 40]) (pss := [[cI q.f0, cI q.f1, .row 1032 [], cI ((bitList q.f3).getD i 0), .row 1039 []]]) (es := [(.int .i64 q.f0), (.int .i64 q.f1), (.ints .u8 q.f2), (.int .i64 ((bitList q.f3).getD i 0)), (.ints .u8 (q.f4.getD i []))]) (ss := [1032, 1039]) (d := (.sl 5 ([(⟨q.f0, q.f1, q.f2, (bitList q.f3).getD i 0, (q.f4.getD i [])⟩ : SVote)].map SVote.cells))) (t := 41) rfl rfl (by exact lt_ok rfl) (by kernel_rfl) rfl rfl (.cons (by exact (congrArg PV.flat (show Env.ev E (.tmp 40) = _ from g40.trans rfl)).trans rfl) .nil) (by simp) (le_ok rfl) (le_ok rfl) (by simp only [List.all_cons, List.all_nil, List.flatten_cons, List.flatten_nil, List.append_nil, List.cons_append, List.nil_append, Env.fine, q1032, q1039]; rfl) (.val rfl (.val rfl (.row q1032 (by simp) (.val rfl (.row q1039 (by simp) .nil))))) (hA_.fresh _ (List.mem_singleton.2 rfl)) (by simp) (by simp) rfl (wf_map SVote.len _) rfl rfl)) ?_
     refine .cons (fun E hA_ => by have g25 : E.get 25 = (.one (.row 600001 [])) := (hA_.get 25 (by kernel_rfl)).trans (by kernel_rfl); have g41 : E.get 41 = (.one (.row 41 [])) := (hA_.get 41 (by kernel_rfl)).trans (by kernel_rfl); have q41 : E.row 41 = some (64, (.sl 5 ([(⟨q.f0, q.f1, q.f2, (bitList q.f3).getD i 0, (q.f4.getD i [])⟩ : SVote)].map SVote.cells))) := (hA_.row 41 (by kernel_rfl)).trans (by kernel_rfl); have q600001 : E.row 600001 = some (64, (.sl 5 ((qcVotesN q i).map SVote.cells))) := (hA_.row 600001 (by kernel_rfl)).trans (by kernel_rfl); exact OpStep.plain rfl (Step.appendX (e := 64) (z := 5) (by_ := 72) (d := (.sl 5 ((qcVotesN q i).map SVote.cells))) (dy := (.sl 5 ([(⟨q.f0, q.f1, q.f2, (bitList q.f3).getD i 0, (q.f4.getD i [])⟩ : SVote)].map SVote.cells))) (d' := (.sl 5 (((qcVotesN q i) ++ [(⟨q.f0, q.f1, q.f2, (bitList q.f3).getD i 0, (q.f4.getD i [])⟩ : SVote)]).map SVote.cells))) (ss := [41]) 500042 (t := 42) rfl rfl (by exact lt_ok rfl) (by kernel_rfl) (show Env.ev E (.tmp 25) = _ from g25.trans rfl) q600001 rfl (lt_ok rfl) (show Env.ev E (.tmp 41) = _ from g41.trans rfl) (.move q41) (by simp) app_sl (by simp only [D.size, List.length_map]; first | omega | (simp only [List.length_append, List.length_cons, List.length_nil]; omega) | (simp; omega) | (simp only [List.length_append] at *; omega)) (by simp only [D.size, List.length_map]; first | omega | (simp only [List.length_append, List.length_cons, List.length_nil]; omega) | (simp; omega) | (simp only [List.length_append] at *; omega)) (by simp) (hA_.fresh _ (List.mem_singleton.2 rfl)) (by simp) (by simp))) ?_
     refine .cons (fun E hA_ => by have g42 : E.get 42 = (.one (.row 500042 [])) := (hA_.get 42 (by kernel_rfl)).trans (by kernel_rfl); exact OpStep.plain rfl (Step.assign (p := (.one (.row 500042 []))) (t := 3) rfl rfl (by exact lt_ok rfl) (show Env.ev E (.tmp 42) = _ from g42.trans rfl))) ?_
     exact .nil _ _
    refine TL.weaken (E' := { tm := [(1, (.one (.ptr 1 0))), (2, (.one (.nil))), (18, (.one (.row 1010 []))), (19, (pI ((bitList q.f3).length : Int))), (20, (pI (i : Int))), (3, (.one (.row 500042 []))), (21, (pB (decide ((i : Int) < ((bitList q.f3).length : Int))))), (22, (pI (i : Int))), (23, (.one (.rptr 1010 [] i 0))), (24, (pI ((bitList q.f3).getD i 0))), (5, (pI (i : Int))), (6, (pI ((bitList q.f3).getD i 0))), (26, (.one (.ptr 1 0))), (27, (pI q.f0)), (28, (.one (.ptr 1 1))), (29, (pI q.f1)), (30, (.one (.ptr 1 2))), (31, (pS q.f2)), (33, (pI ((bitList q.f3).getD i 0))), (34, (.one (.ptr 1 4))), (35, (.one (.d (.bss q.f4)))), (36, (pI (i : Int))), (37, (.one (.eptr (.bss q.f4) i 0))), (38, (pS (q.f4.getD i []))), (42, (.one (.row 500042 [])))], rows := [(1010, (3, (.ints .i64 (bitList q.f3)))), (500042, (64, (.sl 5 (((qcVotesN q i) ++ [(⟨q.f0, q.f1, q.f2, (bitList q.f3).getD i 0, (q.f4.getD i [])⟩ : SVote)]).map SVote.cells))))], boxes := [(1, (29, [cI q.f0, cI q.f1, cS q.f2, cS q.f3, .d (.bss q.f4)]))] }) (Env.le_mk ⟨by kernel_rfl, by kernel_rfl, by kernel_rfl, by kernel_rfl, by kernel_rfl, by kernel_rfl, by kernel_rfl, by kernel_rfl, by kernel_rfl, by kernel_rfl, by kernel_rfl, by kernel_rfl, by kernel_rfl, by kernel_rfl, by kernel_rfl, by kernel_rfl, by kernel_rfl, by kernel_rfl, by kernel_rfl, by kernel_rfl, by kernel_rfl, by kernel_rfl, by kernel_rfl, by kernel_rfl, by kernel_rfl, trivial⟩ ⟨by kernel_rfl, by kernel_rfl, trivial⟩ ⟨by kernel_rfl, trivial⟩) ?_
    refine TL.ren 500042 600001 rfl (by simp) ?_
    refine TL.nil ?_
    refine T.region ?_
    refine TL.c (Step.bin (r := .int .i64 ((i : Int) + 1)) rfl rfl (lt_ok rfl) rfl rfl (Bin.add (a := (i : Int)) (b := 1) (by first | exact wrap_ok (by first | omega | (simp; omega)) (by first | omega | (simp; omega)) | rfl))) ?_
    refine TL.mv (pI ((i : Int) + 1)) ?_
    refine TL.nil ?_
    refine ⟨i + 1, by omega, by first | omega | (dsimp only; omega), Env.le_mk ⟨rfl, rfl, rfl, rfl, ?_, rfl, trivial⟩ ⟨?_, rfl, trivial⟩ ⟨rfl, trivial⟩⟩ <;> (first | exact congrArg (fun x => some (_, D.sl 5 (List.map SVote.cells x))) (qcVotesN_succ q i).symm | rfl | (refine congrArg (fun n => PV.one (.d (.int .i64 n))) ?_; first | omega | (simp; done)))
   ·
    replace h3 := of_decide_eq_false h3
    refine T.exit ?_
    refine T.seq ?_
    refine T.region ?_
    refine TL.mv (.one (.row 600001 [])) ?_
    refine TL.as (.one (.row 600001 [])) ?_
    refine TL.nil ?_
    refine T.ret ?_
    refine ⟨[(false, [.row 600001 []])], (.cons rfl .nil), rfl, [600001], (RetC.own' rfl ?_ rfl .nil)⟩ <;> (first | (congr 1; unfold qcVotes; rw [if_pos (by omega), show i = (bitList q.f3).length from by omega]) | (show (qcVotes q).length = 0; unfold qcVotes; rw [if_neg (by omega)]; rfl) | (congr 1; unfold qcVotes; rw [if_neg (by omega)]; rfl) | (simp only [D.size, List.length_map]; unfold qcVotes; rw [if_neg (by omega)]; rfl))
theorem ok_spec_l01In (n : Int) (lo : Int) (hi : Int) : RO Try.prog 138 [.one (.int .i64 n), .one (.int .i64 lo), .one (.int .i64 hi)] [(false, [.rd (.bool (decide (lo ≤ n ∧ n ≤ hi)))])] := by
 refine RO.intro Try.func138 rfl 15 rfl (le_ok rfl) fun w Z => ?_
 refine T.seq ?_
 refine T.region ?_
 refine TL.as (pB false) ?_
 refine TL.nil ?_
 refine T.seq ?_
 refine T.region ?_
 refine TL.mv (pI n) ?_
 refine TL.mv (pI lo) ?_
 refine TL.c (Step.bin rfl rfl (lt_ok rfl) rfl rfl (Bin.geq (k := .i64) (a := n) (b := lo))) ?_
 refine TL.mv (pB (decide (lo ≤ n))) ?_
 rcases Bool.eq_false_or_eq_true (decide (lo ≤ n)) with hb1 | hb1
 ·
  refine TL.known 10 hb1 rfl ?_
  refine TL.gm 10 (pI n) ?_
  refine TL.gm 10 (pI hi) ?_
  refine TL.gy 10 (Step.bin rfl rfl (lt_ok rfl) rfl rfl (Bin.leq (k := .i64) (a := n) (b := hi))) ?_
  refine TL.pk true (pB (decide (n ≤ hi))) ?_
  refine TL.as (pB (decide (n ≤ hi))) ?_
  refine TL.nil ?_
  refine T.ret ?_
  refine ⟨[(false, [.d (.bool (decide (n ≤ hi)))])], (.cons rfl .nil), rfl, [], (RetC.rd' ?_ .nil)⟩ <;> (first | (congr 1; simp_all; done) | (congr 1; simp_all; omega))
 ·
  refine TL.known 10 hb1 rfl ?_
  refine TL.gf 10 ?_
  refine TL.gf 10 ?_
  refine TL.gf 10 ?_
  refine TL.pk false (pB false) ?_
  refine TL.as (pB false) ?_
  refine TL.nil ?_
  refine T.ret ?_
  refine ⟨[(false, [.d (.bool false)])], (.cons rfl .nil), rfl, [], (RetC.rd' ?_ .nil)⟩ <;> (first | (congr 1; simp_all; done) | (congr 1; simp_all; omega))
theorem ok_spec_l02Signers (n : Int) : RO Try.prog 141 [.one (.int .i64 n)] [(false, [.rd (.bool (decide (1 ≤ n ∧ n ≤ 10)))])] := by
 refine RO.intro Try.func141 rfl 5 rfl (le_ok rfl) fun w Z => ?_
 refine T.seq ?_
 refine T.region ?_
 refine TL.as (pB false) ?_
 refine TL.nil ?_
 refine T.seq ?_
 refine T.region ?_
 refine TL.mv (pI n) ?_
 refine TL.c (Step.cl (xs := [.tmp 3, .const (.int .i64 1), .const (.int .i64 10)]) (ps := [(pI n), (pI 1), (pI 10)]) (g := .func 138) false (.cons (.one (.d _)) (.cons (.one (.d _)) (.cons (.one (.d _)) .nil))) (ok_spec_l01In n 1 10)) ?_
 refine TL.as (pB (decide (1 ≤ n ∧ n ≤ 10))) ?_
 refine TL.nil ?_
 refine T.ret ?_
 exact ⟨[(false, [.d (.bool (decide (1 ≤ n ∧ n ≤ 10)))])], (.cons rfl .nil), rfl, [], (RetC.rd' rfl .nil)⟩
theorem ok_spec_BitsSize (n : Int) (h0_ : n ≤ 9223372036854775807) : RO Try.prog 173 [.one (.int .i64 n)] [(false, [.rd (.int .i64 (bitsSize n))])] := by
 refine RO.intro Try.func173 rfl 9 rfl (le_ok rfl) fun w Z => ?_
 refine T.seq ?_
 refine T.region ?_
 refine TL.as (pI 0) ?_
 refine TL.nil ?_
 refine T.seq ?_
 refine T.seq ?_
 refine T.region ?_
 refine TL.mv (pI n) ?_
 refine TL.c (Step.bin rfl rfl (lt_ok rfl) rfl rfl (Bin.lss (k := .i64) (a := n) (b := 1))) ?_
 refine TL.nil ?_
 refine T.cond (b := decide (n < 1)) rfl (fun h1 => ?_) (fun h1 => ?_)
 ·
  replace h1 := of_decide_eq_true h1
  refine T.seq ?_
  refine T.region ?_
  refine TL.as (pI 0) ?_
  refine TL.nil ?_
  refine T.ret ?_
  refine ⟨[(false, [cI 0])], (.cons rfl .nil), rfl, [], (RetC.rd' ?_ .nil)⟩ <;> ((congr 1; unfold bitsSize; first | rw [if_pos (by omega)] | (rw [if_neg (by omega)]; done) | (rw [if_neg (by omega)]; omega)))
 ·
  replace h1 := of_decide_eq_false h1
  refine T.skip ?_
  refine T.seq ?_
  refine T.region ?_
  refine TL.mv (pI n) ?_
  refine TL.c (Step.bin (r := .int .i64 (n - 1)) rfl rfl (lt_ok rfl) rfl rfl (Bin.sub (a := n) (b := 1) (by first | exact wrap_ok (by first | omega | (simp; omega)) (by first | omega | (simp; omega)) | rfl))) ?_
  refine TL.c (Step.bin (r := .int .i64 ((n - 1) / 8)) rfl rfl (lt_ok rfl) rfl rfl (Bin.quo (k := .i64) (a := (n - 1)) (b := 8) (by decide) (by rw [Int.tdiv_eq_ediv_of_nonneg (by first | omega | (simp; omega))]; exact wrap_ok (by first | omega | (simp; omega)) (by first | omega | (simp; omega))))) ?_
  refine TL.c (Step.bin (r := .int .i64 (((n - 1) / 8) + 1)) rfl rfl (lt_ok rfl) rfl rfl (Bin.add (a := ((n - 1) / 8)) (b := 1) (by first | exact wrap_ok (by first | omega | (simp; omega)) (by first | omega | (simp; omega)) | rfl))) ?_
  refine TL.as (pI (((n - 1) / 8) + 1)) ?_
  refine TL.nil ?_
  refine T.ret ?_
  refine ⟨[(false, [cI (((n - 1) / 8) + 1)])], (.cons rfl .nil), rfl, [], (RetC.rd' ?_ .nil)⟩ <;> ((congr 1; unfold bitsSize; first | rw [if_pos (by omega)] | (rw [if_neg (by omega)]; done) | (rw [if_neg (by omega)]; omega)))
theorem ok_spec_BitsNew (n : Int) (h0_ : n ≤ 9223372036854775807) : RO Try.prog 140 [.one (.int .i64 n)] [(false, [.own 5 (.ints .u8 (bitsOf [] n))])] := by
 refine RO.intro Try.func140 rfl 9 rfl (le_ok rfl) fun w Z => ?_
 have hz_ : (1 ≤ n ∧ n ≤ 10) → bitsSize n = (n - 1) / 8 + 1 := fun h => by unfold bitsSize; rw [if_neg (by omega)]
 refine T.seq ?_
 refine T.region ?_
 refine TL.as (.one (.nil)) ?_
 refine TL.nil ?_
 refine T.seq ?_
 refine T.seq ?_
 refine T.region ?_
 refine TL.mv (pI n) ?_
 refine TL.c (Step.cl (xs := [.tmp 3]) (ps := [(pI n)]) (g := .func 141) false (.cons (.one (.d _)) .nil) (ok_spec_l02Signers n)) ?_
 refine TL.c (Step.not (b := (decide (1 ≤ n ∧ n ≤ 10))) rfl rfl (lt_ok rfl) rfl) ?_
 refine TL.nil ?_
 refine T.cond (b := !(decide (1 ≤ n ∧ n ≤ 10))) rfl (fun h1 => ?_) (fun h1 => ?_)
 ·
  replace h1 : (decide (1 ≤ n ∧ n ≤ 10)) = false := by simpa only [Bool.not_eq_true', Bool.not_eq_false'] using h1
  replace h1 := of_decide_eq_false h1
  refine T.seq ?_
  refine T.region ?_
  refine TL.as (.one (.nil)) ?_
  refine TL.nil ?_
  refine T.ret ?_
  refine ⟨[(false, [.nil])], (.cons rfl .nil), rfl, [], (RetC.nilown' rfl ?_ (by first | exact trivial | exact D.wf_nil _) .nil)⟩ <;> (first | (congr 1; rw [bitsOf_yes (bitsOfOk_in (l := []) (n := n) (by omega) rfl)]; rfl) | (simp only [D.size]; rw [bitsOf_no (bitsOfOk_out (l := []) (n := n) (by omega))]; rfl))
 ·
  replace h1 : (decide (1 ≤ n ∧ n ≤ 10)) = true := by simpa only [Bool.not_eq_true', Bool.not_eq_false'] using h1
  replace h1 := of_decide_eq_true h1
  refine T.skip ?_
  refine T.seq ?_
  refine T.region ?_
  refine TL.mv (pI n) ?_
  refine TL.c (Step.cl (xs := [.tmp 6]) (ps := [(pI n)]) (g := .func 173) false (.cons (.one (.d _)) .nil) (ok_spec_BitsSize n (by first | omega | assumption | (simp only [List.length_append] at *; omega)))) ?_
  refine TL.c (Step.make (e := 5) (z := 1) (by_ := 1) (n := (bitsSize n)) (zs := [.int .u8 0]) (zd := [.int .u8 0]) (d := (.ints .u8 (List.replicate (bitsSize n).toNat 0))) rfl rfl (lt_ok rfl) (by kernel_rfl) (lt_ok rfl) rfl (by first | omega | (have := hz_ (by omega); omega) | (simp; omega)) (by first | omega | (have := hz_ (by omega); omega) | (simp; omega)) (by first | omega | (have := hz_ (by omega); omega) | (simp; omega)) (by kernel_rfl) (.val rfl .nil) rfl (by simp) (by simp [D.flat, List.flatten_replicate_singleton]) (by simp [D.size]) rfl trivial) ?_
  refine TL.as (.one (.row 8 [])) ?_
  refine TL.nil ?_
  refine T.ret ?_
  refine ⟨[(false, [.row 8 []])], (.cons rfl .nil), rfl, [8], (RetC.own' rfl ?_ rfl .nil)⟩ <;> (first | (congr 1; rw [bitsOf_yes (bitsOfOk_in (l := []) (n := n) (by omega) rfl)]; rfl) | (simp only [D.size]; rw [bitsOf_no (bitsOfOk_out (l := []) (n := n) (by omega))]; rfl))
theorem ok_spec_BitsOk (b : List Int) (n : Int) (h0_ : U8s b) (h1_ : b.length ≤ 1099511627776) : RO Try.prog 150 [.one (.ints .u8 b), .one (.int .i64 n)] [(false, [.rd (.bool (bitsOk b n))])] := by
 refine RO.intro Try.func150 rfl 31 rfl (le_ok rfl) fun w Z => ?_
 refine T.bnd 0 0 rfl rfl fun hb_0_0 => ?_
 simp only [D.size, List.length_map] at hb_0_0
 refine T.seq ?_
 refine T.region ?_
 refine TL.as (pB false) ?_
 refine TL.nil ?_
 refine T.seq ?_
 refine T.seq ?_
 refine T.region ?_
 refine TL.mv (pI n) ?_
 refine TL.c (Step.cl (xs := [.tmp 6]) (ps := [(pI n)]) (g := .func 141) false (.cons (.one (.d _)) .nil) (ok_spec_l02Signers n)) ?_
 refine TL.c (Step.not (b := (decide (1 ≤ n ∧ n ≤ 10))) rfl rfl (lt_ok rfl) rfl) ?_
 refine TL.mv (pB (!(decide (1 ≤ n ∧ n ≤ 10)))) ?_
 rcases Bool.eq_false_or_eq_true (!(decide (1 ≤ n ∧ n ≤ 10))) with hb1 | hb1
 ·
  refine TL.known 9 hb1 rfl ?_
  have hb1' := hb1
  replace hb1' : (decide (1 ≤ n ∧ n ≤ 10)) = false := by simpa only [Bool.not_eq_true', Bool.not_eq_false'] using hb1'
  replace hb1' := of_decide_eq_false hb1'
  refine TL.gf 9 ?_
  refine TL.gf 9 ?_
  refine TL.gf 9 ?_
  refine TL.gf 9 ?_
  refine TL.gf 9 ?_
  refine TL.pk true (pB true) ?_
  refine TL.nil ?_
  refine T.cond (b := true) rfl (fun h2_ => ?_) (fun h2_ => absurd h2_ (by simp))
  refine T.seq ?_
  refine T.region ?_
  refine TL.as (pB false) ?_
  refine TL.nil ?_
  refine T.ret ?_
  refine ⟨[(false, [.d (.bool false)])], (.cons rfl .nil), rfl, [], (RetC.rd' ?_ .nil)⟩ <;> (first | (congr 1; symm; unfold bitsOk; rw [bits_last (by omega), decide_eq_true (p := (1 ≤ n ∧ n ≤ 10)) (by omega), decide_eq_true (p := ((b.length : Int) = bitsSize n)) (by omega)]; rfl) | (congr 1; symm; simp only [bitsOk, *, Bool.and_true, Bool.true_and, Bool.and_false, Bool.false_and, decide_true, decide_false, and_true, true_and, and_self, and_false, false_and, Bool.and_self, not_true, not_false, Bool.not_true, Bool.not_false, ge_iff_le, gt_iff_lt, if_true, if_false, Bool.false_eq_true, ite_true, ite_false, reduceIte]; done) | (congr 1; symm; unfold bitsOk; rw [decide_eq_false (p := (1 ≤ n ∧ n ≤ 10)) (by omega)]; rfl) | (congr 1; symm; unfold bitsOk; rw [decide_eq_false (p := ((b.length : Int) = bitsSize n)) (by omega)]; simp; done) | (congr 1; symm; unfold bitsOk; rw [all_no (i := i) (by omega) (by omega)]; simp; done) | (congr 1; symm; unfold bitsOk; rw [List.take_of_length_le (by omega)] at hx2; rw [hx2, decide_eq_true (p := (1 ≤ n ∧ n ≤ 10)) (by omega), decide_eq_true (p := ((b.length : Int) = bitsSize n)) (by omega)]; rfl) | (congr 1; unfold bitsOk; rw [bits_last (by omega), decide_eq_true (p := (1 ≤ n ∧ n ≤ 10)) (by omega), decide_eq_true (p := ((b.length : Int) = bitsSize n)) (by omega)]; simp only [Bool.true_and]; rfl) | (congr 1; symm; unfold bitsOk; rw [List.eq_nil_of_length_eq_zero (l := bitList b) (by omega), decide_eq_true (p := (1 ≤ n ∧ n ≤ 10)) (by omega), decide_eq_true (p := ((b.length : Int) = bitsSize n)) (by omega)]; rfl))
 ·
  refine TL.known 9 hb1 rfl ?_
  have hb1' := hb1
  replace hb1' : (decide (1 ≤ n ∧ n ≤ 10)) = true := by simpa only [Bool.not_eq_true', Bool.not_eq_false'] using hb1'
  replace hb1' := of_decide_eq_true hb1'
  refine TL.gm 9 (pS b) ?_
  refine TL.gy 9 (Step.len (e := 5) (z := 1) (d := (.ints .u8 b)) rfl rfl (lt_ok rfl) (by kernel_rfl) rfl rfl) ?_
  refine TL.gm 9 (pI n) ?_
  refine TL.gy 9 (Step.cl (xs := [.tmp 12]) (ps := [(pI n)]) (g := .func 173) false (.cons (.one (.d _)) .nil) (ok_spec_BitsSize n (by first | omega | assumption | (simp only [List.length_append] at *; omega)))) ?_
  refine TL.gy 9 (Step.bin rfl rfl (lt_ok rfl) rfl rfl (Bin.neq (k := .i64) (a := (b.length : Int)) (b := (bitsSize n)))) ?_
  refine TL.pk false (pB (decide ((b.length : Int) ≠ (bitsSize n)))) ?_
  refine TL.nil ?_
  refine T.cond (b := decide ((b.length : Int) ≠ (bitsSize n))) rfl (fun h3 => ?_) (fun h3 => ?_)
  ·
   replace h3 := of_decide_eq_true h3
   refine T.seq ?_
   refine T.region ?_
   refine TL.as (pB false) ?_
   refine TL.nil ?_
   refine T.ret ?_
   refine ⟨[(false, [.d (.bool false)])], (.cons rfl .nil), rfl, [], (RetC.rd' ?_ .nil)⟩ <;> (first | (congr 1; symm; unfold bitsOk; rw [bits_last (by omega), decide_eq_true (p := (1 ≤ n ∧ n ≤ 10)) (by omega), decide_eq_true (p := ((b.length : Int) = bitsSize n)) (by omega)]; rfl) | (congr 1; symm; simp only [bitsOk, *, Bool.and_true, Bool.true_and, Bool.and_false, Bool.false_and, decide_true, decide_false, and_true, true_and, and_self, and_false, false_and, Bool.and_self, not_true, not_false, Bool.not_true, Bool.not_false, ge_iff_le, gt_iff_lt, if_true, if_false, Bool.false_eq_true, ite_true, ite_false, reduceIte]; done) | (congr 1; symm; unfold bitsOk; rw [decide_eq_false (p := (1 ≤ n ∧ n ≤ 10)) (by omega)]; rfl) | (congr 1; symm; unfold bitsOk; rw [decide_eq_false (p := ((b.length : Int) = bitsSize n)) (by omega)]; simp; done) | (congr 1; symm; unfold bitsOk; rw [all_no (i := i) (by omega) (by omega)]; simp; done) | (congr 1; symm; unfold bitsOk; rw [List.take_of_length_le (by omega)] at hx2; rw [hx2, decide_eq_true (p := (1 ≤ n ∧ n ≤ 10)) (by omega), decide_eq_true (p := ((b.length : Int) = bitsSize n)) (by omega)]; rfl) | (congr 1; unfold bitsOk; rw [bits_last (by omega), decide_eq_true (p := (1 ≤ n ∧ n ≤ 10)) (by omega), decide_eq_true (p := ((b.length : Int) = bitsSize n)) (by omega)]; simp only [Bool.true_and]; rfl) | (congr 1; symm; unfold bitsOk; rw [List.eq_nil_of_length_eq_zero (l := bitList b) (by omega), decide_eq_true (p := (1 ≤ n ∧ n ≤ 10)) (by omega), decide_eq_true (p := ((b.length : Int) = bitsSize n)) (by omega)]; rfl))
  ·
   replace h3 := of_decide_eq_false h3
   refine T.skip ?_
   refine T.seq ?_
   refine T.region ?_
   refine TL.mv (pS b) ?_
   have nn4 := bitList_len b
   refine TL.c (Step.cl (xs := [.tmp 16]) (ps := [(pS b)]) (g := .func 78) false (.cons (.one (.d _)) .nil) (ok_spec_BitsList b (by assumption) (by first | omega | assumption | (simp only [List.length_append] at *; omega)))) ?_
   refine TL.as (.one (.row 1017 [])) ?_
   refine TL.nil ?_
   refine T.seq ?_
   refine T.region ?_
   refine TL.mv (.one (.row 1017 [])) ?_
   refine TL.c (Step.len (e := 3) (z := 1) (d := (.ints .i64 (bitList b))) rfl rfl (lt_ok rfl) (by kernel_rfl) rfl rfl) ?_
   refine TL.c (Step.bin rfl rfl (lt_ok rfl) rfl rfl (Bin.eql (k := .i64) (a := ((bitList b).length : Int)) (b := 0))) ?_
   refine TL.mv (pB (decide (((bitList b).length : Int) = 0))) ?_
   rcases Bool.eq_false_or_eq_true (decide (((bitList b).length : Int) = 0)) with hb5 | hb5
   ·
    refine TL.known 21 hb5 rfl ?_
    have hb5' := hb5
    replace hb5' := of_decide_eq_true hb5'
    refine TL.gf 21 ?_
    refine TL.gf 21 ?_
    refine TL.gf 21 ?_
    refine TL.gf 21 ?_
    refine TL.gf 21 ?_
    refine TL.gf 21 ?_
    refine TL.gf 21 ?_
    refine TL.gf 21 ?_
    refine TL.pk true (pB true) ?_
    refine TL.as (pB true) ?_
    refine TL.nil ?_
    refine T.ret ?_
    refine ⟨[(false, [.d (.bool true)])], (.cons rfl .nil), rfl, [], (RetC.rd' ?_ .nil)⟩ <;> (first | (congr 1; symm; unfold bitsOk; rw [bits_last (by omega), decide_eq_true (p := (1 ≤ n ∧ n ≤ 10)) (by omega), decide_eq_true (p := ((b.length : Int) = bitsSize n)) (by omega)]; rfl) | (congr 1; symm; simp only [bitsOk, *, Bool.and_true, Bool.true_and, Bool.and_false, Bool.false_and, decide_true, decide_false, and_true, true_and, and_self, and_false, false_and, Bool.and_self, not_true, not_false, Bool.not_true, Bool.not_false, ge_iff_le, gt_iff_lt, if_true, if_false, Bool.false_eq_true, ite_true, ite_false, reduceIte]; done) | (congr 1; symm; unfold bitsOk; rw [decide_eq_false (p := (1 ≤ n ∧ n ≤ 10)) (by omega)]; rfl) | (congr 1; symm; unfold bitsOk; rw [decide_eq_false (p := ((b.length : Int) = bitsSize n)) (by omega)]; simp; done) | (congr 1; symm; unfold bitsOk; rw [all_no (i := i) (by omega) (by omega)]; simp; done) | (congr 1; symm; unfold bitsOk; rw [List.take_of_length_le (by omega)] at hx2; rw [hx2, decide_eq_true (p := (1 ≤ n ∧ n ≤ 10)) (by omega), decide_eq_true (p := ((b.length : Int) = bitsSize n)) (by omega)]; rfl) | (congr 1; unfold bitsOk; rw [bits_last (by omega), decide_eq_true (p := (1 ≤ n ∧ n ≤ 10)) (by omega), decide_eq_true (p := ((b.length : Int) = bitsSize n)) (by omega)]; simp only [Bool.true_and]; rfl) | (congr 1; symm; unfold bitsOk; rw [List.eq_nil_of_length_eq_zero (l := bitList b) (by omega), decide_eq_true (p := (1 ≤ n ∧ n ≤ 10)) (by omega), decide_eq_true (p := ((b.length : Int) = bitsSize n)) (by omega)]; rfl))
   ·
    refine TL.known 21 hb5 rfl ?_
    have hb5' := hb5
    replace hb5' := of_decide_eq_false hb5'
    refine TL.gm 21 (.one (.row 1017 [])) ?_
    refine TL.gm 21 (.one (.row 1017 [])) ?_
    refine TL.gy 21 (Step.len (e := 3) (z := 1) (d := (.ints .i64 (bitList b))) rfl rfl (lt_ok rfl) (by kernel_rfl) rfl rfl) ?_
    refine TL.gy 21 (Step.bin (r := .int .i64 (((bitList b).length : Int) - 1)) rfl rfl (lt_ok rfl) rfl rfl (Bin.sub (a := ((bitList b).length : Int)) (b := 1) (by first | exact wrap_ok (by first | omega | (simp; omega)) (by first | omega | (simp; omega)) | rfl))) ?_
    refine TL.gy 21 (Step.index_row (e := 3) (z := 1) (i := (((bitList b).length : Int) - 1)) rfl rfl (lt_ok rfl) (by kernel_rfl) rfl rfl rfl rfl (lt_ok rfl) rfl (by first | omega | (simp; omega)) (by simp only [D.at_, D.cell, D.size]; first | omega | (simp; omega))) ?_
    refine TL.gy 21 (Step.load_row (c := cI ((bitList b).getD (((bitList b).length : Int) - 1).toNat 0)) rfl rfl (lt_ok rfl) (by kernel_rfl) rfl rfl rfl) ?_
    refine TL.gm 21 (pI n) ?_
    refine TL.gy 21 (Step.bin rfl rfl (lt_ok rfl) rfl rfl (Bin.lss (k := .i64) (a := ((bitList b).getD (((bitList b).length : Int) - 1).toNat 0)) (b := n))) ?_
    refine TL.pk false (pB (decide (((bitList b).getD (((bitList b).length : Int) - 1).toNat 0) < n))) ?_
    refine TL.as (pB (decide (((bitList b).getD (((bitList b).length : Int) - 1).toNat 0) < n))) ?_
    refine TL.nil ?_
    refine T.ret ?_
    refine ⟨[(false, [.d (.bool (decide (((bitList b).getD (((bitList b).length : Int) - 1).toNat 0) < n)))])], (.cons rfl .nil), rfl, [], (RetC.rd' ?_ .nil)⟩ <;> (first | (congr 1; symm; unfold bitsOk; rw [bits_last (by omega), decide_eq_true (p := (1 ≤ n ∧ n ≤ 10)) (by omega), decide_eq_true (p := ((b.length : Int) = bitsSize n)) (by omega)]; rfl) | (congr 1; symm; simp only [bitsOk, *, Bool.and_true, Bool.true_and, Bool.and_false, Bool.false_and, decide_true, decide_false, and_true, true_and, and_self, and_false, false_and, Bool.and_self, not_true, not_false, Bool.not_true, Bool.not_false, ge_iff_le, gt_iff_lt, if_true, if_false, Bool.false_eq_true, ite_true, ite_false, reduceIte]; done) | (congr 1; symm; unfold bitsOk; rw [decide_eq_false (p := (1 ≤ n ∧ n ≤ 10)) (by omega)]; rfl) | (congr 1; symm; unfold bitsOk; rw [decide_eq_false (p := ((b.length : Int) = bitsSize n)) (by omega)]; simp; done) | (congr 1; symm; unfold bitsOk; rw [all_no (i := i) (by omega) (by omega)]; simp; done) | (congr 1; symm; unfold bitsOk; rw [List.take_of_length_le (by omega)] at hx2; rw [hx2, decide_eq_true (p := (1 ≤ n ∧ n ≤ 10)) (by omega), decide_eq_true (p := ((b.length : Int) = bitsSize n)) (by omega)]; rfl) | (congr 1; unfold bitsOk; rw [bits_last (by omega), decide_eq_true (p := (1 ≤ n ∧ n ≤ 10)) (by omega), decide_eq_true (p := ((b.length : Int) = bitsSize n)) (by omega)]; simp only [Bool.true_and]; rfl) | (congr 1; symm; unfold bitsOk; rw [List.eq_nil_of_length_eq_zero (l := bitList b) (by omega), decide_eq_true (p := (1 ≤ n ∧ n ≤ 10)) (by omega), decide_eq_true (p := ((b.length : Int) = bitsSize n)) (by omega)]; rfl))
theorem ok_spec_BitsSet (b : List Int) (n : Int) (i : Int) (on : Bool) (h0_ : on = true) (h1_ : U8s b) (h2_ : b.length ≤ 2) : RO Try.prog 142 [.one (.ints .u8 b), .one (.int .i64 n), .one (.int .i64 i), .one (.bool on)] [(false, [.own 5 (.ints .u8 (putBit1 b n i))]), (false, [.rd (.bool (bitsOk b n && decide (0 ≤ i ∧ i ≤ n - 1)))])] := by
 refine RO.intro Try.func142 rfl 43 rfl (le_ok rfl) fun w Z => ?_
 refine T.bnd 0 0 rfl rfl fun hb_0_0 => ?_
 simp only [D.size, List.length_map] at hb_0_0
 have hn_ : bitsOk b n = true → (1 ≤ n ∧ n ≤ 10) ∧ (b.length : Int) = (n - 1) / 8 + 1 := fun h => by have h1 := (bitsOk_iff.1 h).1; have h2 := (bitsOk_iff.1 h).2.1; unfold bitsSize at h2; rw [if_neg (by omega)] at h2; exact ⟨h1, h2⟩
 refine T.seq ?_
 refine T.region ?_
 refine TL.as (.one (.nil)) ?_
 refine TL.as (pB false) ?_
 refine TL.nil ?_
 refine T.seq ?_
 refine T.seq ?_
 refine T.region ?_
 refine TL.mv (pS b) ?_
 refine TL.mv (pI n) ?_
 refine TL.c (Step.cl (xs := [.tmp 11, .tmp 12]) (ps := [(pS b), (pI n)]) (g := .func 150) false (.cons (.one (.d _)) (.cons (.one (.d _)) .nil)) (ok_spec_BitsOk b n (by assumption) (by first | omega | assumption | (simp only [List.length_append] at *; omega)))) ?_
 refine TL.c (Step.not (b := (bitsOk b n)) rfl rfl (lt_ok rfl) rfl) ?_
 refine TL.mv (pB (!(bitsOk b n))) ?_
 rcases Bool.eq_false_or_eq_true (!(bitsOk b n)) with hb1 | hb1
 ·
  refine TL.known 15 hb1 rfl ?_
  have hb1' := hb1
  replace hb1' : (bitsOk b n) = false := by simpa only [Bool.not_eq_true', Bool.not_eq_false'] using hb1'
  refine TL.gf 15 ?_
  refine TL.gf 15 ?_
  refine TL.gf 15 ?_
  refine TL.gf 15 ?_
  refine TL.gf 15 ?_
  refine TL.pk true (pB true) ?_
  refine TL.nil ?_
  refine T.cond (b := true) rfl (fun h2_ => ?_) (fun h2_ => absurd h2_ (by simp))
  refine T.seq ?_
  refine T.region ?_
  refine TL.as (.one (.nil)) ?_
  refine TL.as (pB false) ?_
  refine TL.nil ?_
  refine T.ret ?_
  refine ⟨[(false, [.nil]), (false, [.d (.bool false)])], (.cons rfl (.cons rfl .nil)), rfl, [], (RetC.nilown' rfl ?_ (by first | exact trivial | exact D.wf_nil _) (RetC.rd' ?_ .nil))⟩ <;> (first | (congr 1; first | (rw [putBit1_new h1_ (by first | assumption | simpa using ‹(!bitsOk b n) = false›) (by omega) (no_of (by assumption) h0_)]; done) | (rw [putBit1_has (by first | assumption | simpa using ‹(!bitsOk b n) = false›) (by omega) (has_of (by assumption) h0_)]; done)) | (simp only [D.size]; rw [putBit1_no (fun h => by first | (have := h.2; omega) | (have := h.1; simp_all))]; rfl) | (congr 1; symm; first | (simp_all; done) | (simp_all; omega)))
 ·
  refine TL.known 15 hb1 rfl ?_
  have hb1' := hb1
  replace hb1' : (bitsOk b n) = true := by simpa only [Bool.not_eq_true', Bool.not_eq_false'] using hb1'
  refine TL.gm 15 (pI i) ?_
  refine TL.gm 15 (pI n) ?_
  refine TL.gy 15 (Step.bin (r := .int .i64 (n - 1)) rfl rfl (lt_ok rfl) rfl rfl (Bin.sub (a := n) (b := 1) (by first | exact wrap_ok (by first | omega | (have := hn_ (by first | assumption | simpa using ‹(!bitsOk b n) = false›); omega) | (simp; omega)) (by first | omega | (have := hn_ (by first | assumption | simpa using ‹(!bitsOk b n) = false›); omega) | (simp; omega)) | rfl))) ?_
  refine TL.gy 15 (Step.cl (xs := [.tmp 16, .const (.int .i64 0), .tmp 18]) (ps := [(pI i), (pI 0), (pI (n - 1))]) (g := .func 138) false (.cons (.one (.d _)) (.cons (.one (.d _)) (.cons (.one (.d _)) .nil))) (ok_spec_l01In i 0 (n - 1))) ?_
  refine TL.gy 15 (Step.not (b := (decide (0 ≤ i ∧ i ≤ (n - 1)))) rfl rfl (lt_ok rfl) rfl) ?_
  refine TL.pk false (pB (!(decide (0 ≤ i ∧ i ≤ (n - 1))))) ?_
  refine TL.nil ?_
  refine T.cond (b := !(decide (0 ≤ i ∧ i ≤ (n - 1)))) rfl (fun h3 => ?_) (fun h3 => ?_)
  ·
   replace h3 : (decide (0 ≤ i ∧ i ≤ (n - 1))) = false := by simpa only [Bool.not_eq_true', Bool.not_eq_false'] using h3
   replace h3 := of_decide_eq_false h3
   refine T.seq ?_
   refine T.region ?_
   refine TL.as (.one (.nil)) ?_
   refine TL.as (pB false) ?_
   refine TL.nil ?_
   refine T.ret ?_
   refine ⟨[(false, [.nil]), (false, [.d (.bool false)])], (.cons rfl (.cons rfl .nil)), rfl, [], (RetC.nilown' rfl ?_ (by first | exact trivial | exact D.wf_nil _) (RetC.rd' ?_ .nil))⟩ <;> (first | (congr 1; first | (rw [putBit1_new h1_ (by first | assumption | simpa using ‹(!bitsOk b n) = false›) (by omega) (no_of (by assumption) h0_)]; done) | (rw [putBit1_has (by first | assumption | simpa using ‹(!bitsOk b n) = false›) (by omega) (has_of (by assumption) h0_)]; done)) | (simp only [D.size]; rw [putBit1_no (fun h => by first | (have := h.2; omega) | (have := h.1; simp_all))]; rfl) | (congr 1; symm; first | (simp_all; done) | (simp_all; omega)))
  ·
   replace h3 : (decide (0 ≤ i ∧ i ≤ (n - 1))) = true := by simpa only [Bool.not_eq_true', Bool.not_eq_false'] using h3
   replace h3 := of_decide_eq_true h3
   refine T.skip ?_
   refine T.seq ?_
   refine T.region ?_
   refine TL.mv (pS b) ?_
   refine TL.c (Step.cl (xs := [.tmp 22]) (ps := [(pS b)]) (g := .func 79) false (.cons (.one (.d _)) .nil) (ok_spec_l01Copy b (by first | omega | assumption | (simp only [List.length_take, List.length_drop]; omega)))) ?_
   refine TL.as (.one (.row 1023 [])) ?_
   refine TL.nil ?_
   refine T.seq ?_
   refine T.seq ?_
   refine T.region ?_
   refine TL.mv (pS b) ?_
   refine TL.mv (pI i) ?_
   refine TL.c (Step.cl (xs := [.tmp 24, .tmp 25]) (ps := [(pS b), (pI i)]) (g := .func 133) false (.cons (.one (.d _)) (.cons (.one (.d _)) .nil)) (ok_spec_BitsHas b i (by assumption) (by first | omega | assumption | (simp only [List.length_append] at *; omega)) (by first | omega | (have := hn_ (by first | assumption | simpa using ‹(!bitsOk b n) = false›); omega)))) ?_
   refine TL.mv (pB on) ?_
   refine TL.c (Step.bneq (b := (bitHas b i)) (c := on) rfl rfl (lt_ok rfl) (by kernel_rfl) rfl rfl) ?_
   refine TL.nil ?_
   refine T.cond (b := (bitHas b i) != on) rfl (fun h4 => ?_) (fun h4 => ?_)
   ·
    refine T.draw [⟨29, (.one (.row 1023 [])), []⟩, ⟨30, (pI i), []⟩, ⟨31, (pI (i / 8)), []⟩, ⟨32, (.one (.row 1023 [])), []⟩, ⟨33, (pI i), []⟩, ⟨34, (pI (i / 8)), []⟩, ⟨35, (.one (.rptr 1023 [] (i / 8).toNat 0)), []⟩, ⟨36, (.one (.d (.int .u8 (b.getD (i / 8).toNat 0)))), []⟩, ⟨37, (pI i), []⟩, ⟨38, (pI (i % 8)), []⟩, ⟨39, (.one (.d (.int .u8 (shl8 1 (i % 8))))), []⟩, ⟨40, (.one (.d (.int .u8 (xor8 (b.getD (i / 8).toNat 0) (shl8 1 (i % 8)))))), []⟩, ⟨41, (.one (.rptr 1023 [] (i / 8).toNat 0)), []⟩] (by kernel_rfl) (by kernel_rfl) ?_ ?_
    ·
     refine .cons (fun E A => A.mv 10 29) ?_
     refine .cons (fun E A => A.mv 2 30) ?_
     refine .cons (fun E A => OpStep.plain rfl (Step.bd (r := .int .i64 (i / 8)) 31 (A.g 30 rfl) rfl (Bin.quo (k := .i64) (a := i) (b := 8) (by decide) (by rw [Int.tdiv_eq_ediv_of_nonneg (by first | omega | (have := hn_ (by first | assumption | simpa using ‹(!bitsOk b n) = false›); omega) | (simp; omega))]; exact wrap_ok (by first | omega | (have := hn_ (by first | assumption | simpa using ‹(!bitsOk b n) = false›); omega) | (simp; omega)) (by first | omega | (have := hn_ (by first | assumption | simpa using ‹(!bitsOk b n) = false›); omega) | (simp; omega)))))) ?_
     refine .cons (fun E A => A.mv 10 32) ?_
     refine .cons (fun E A => A.mv 2 33) ?_
     refine .cons (fun E A => OpStep.plain rfl (Step.bd (r := .int .i64 (i / 8)) 34 (A.g 33 rfl) rfl (Bin.quo (k := .i64) (a := i) (b := 8) (by decide) (by rw [Int.tdiv_eq_ediv_of_nonneg (by first | omega | (have := hn_ (by first | assumption | simpa using ‹(!bitsOk b n) = false›); omega) | (simp; omega))]; exact wrap_ok (by first | omega | (have := hn_ (by first | assumption | simpa using ‹(!bitsOk b n) = false›); omega) | (simp; omega)) (by first | omega | (have := hn_ (by first | assumption | simpa using ‹(!bitsOk b n) = false›); omega) | (simp; omega)))))) ?_
     refine .cons (fun E A => OpStep.plain rfl (Step.index_row (e := 5) (z := 1) (i := (i / 8)) (t := 35) rfl rfl (by exact lt_ok rfl) (by kernel_rfl) (A.g 32 rfl) (by exact (A.row 1023 (by kernel_rfl)).trans rfl) rfl rfl (lt_ok rfl) (A.g 34 rfl) (by first | omega | (have := hn_ (by first | assumption | simpa using ‹(!bitsOk b n) = false›); omega) | (simp; omega)) (by simp only [D.at_, D.cell, D.size]; first | omega | (have := hn_ (by first | assumption | simpa using ‹(!bitsOk b n) = false›); omega) | (simp; omega)))) ?_
     refine .cons (fun E A => OpStep.plain rfl (Step.load_row (c := .d (.int .u8 (b.getD (i / 8).toNat 0))) (t := 36) rfl rfl (by exact lt_ok rfl) (by kernel_rfl) (A.g 35 rfl) (by exact (A.row 1023 (by kernel_rfl)).trans rfl) rfl)) ?_
     refine .cons (fun E A => A.mv 2 37) ?_
     refine .cons (fun E A => OpStep.plain rfl (Step.bd (r := .int .i64 (i % 8)) 38 (A.g 37 rfl) rfl (Bin.rem (k := .i64) (a := i) (b := 8) (by decide) (Int.tmod_eq_emod_of_nonneg (by first | omega | (have := hn_ (by first | assumption | simpa using ‹(!bitsOk b n) = false›); omega) | (simp; omega)))))) ?_
     refine .cons (fun E A => OpStep.plain rfl (Step.bd (r := .int .u8 (shl8 1 (i % 8))) 39 rfl (A.g 38 rfl) (Bin.shl (k := .u8) (k' := .i64) (a := 1) (b := (i % 8)) (by first | omega | (have := hn_ (by first | assumption | simpa using ‹(!bitsOk b n) = false›); omega) | (simp; omega)) (rfl)))) ?_
     refine .cons (fun E A => OpStep.plain rfl (Step.bd (r := .int .u8 (xor8 (b.getD (i / 8).toNat 0) (shl8 1 (i % 8)))) 40 (A.g 36 rfl) (A.g 39 rfl) (Bin.xor (k := .u8) (a := (b.getD (i / 8).toNat 0)) (b := (shl8 1 (i % 8))) (rfl)))) ?_
     refine .cons (fun E A => OpStep.plain rfl (Step.index_row (e := 5) (z := 1) (i := (i / 8)) (t := 41) rfl rfl (by exact lt_ok rfl) (by kernel_rfl) (A.g 29 rfl) (by exact (A.row 1023 (by kernel_rfl)).trans rfl) rfl rfl (lt_ok rfl) (A.g 31 rfl) (by first | omega | (have := hn_ (by first | assumption | simpa using ‹(!bitsOk b n) = false›); omega) | (simp; omega)) (by simp only [D.at_, D.cell, D.size]; first | omega | (have := hn_ (by first | assumption | simpa using ‹(!bitsOk b n) = false›); omega) | (simp; omega)))) ?_
     exact .nil _ _
    refine TL.c (Step.store_row (n := 1) (p := (.one (.d (.int .u8 (xor8 (b.getD (i / 8).toNat 0) (shl8 1 (i % 8))))))) (ps := [.d (.int .u8 (xor8 (b.getD (i / 8).toNat 0) (shl8 1 (i % 8))))]) (es := [(.int .u8 (xor8 (b.getD (i / 8).toNat 0) (shl8 1 (i % 8))))]) (ss := []) (d1 := (.ints .u8 (b.set (i / 8).toNat (xor8 (b.getD (i / 8).toNat 0) (shl8 1 (i % 8)))))) (d' := (.ints .u8 (b.set (i / 8).toNat (xor8 (b.getD (i / 8).toNat 0) (shl8 1 (i % 8)))))) rfl rfl (by kernel_rfl) rfl rfl rfl rfl rfl rfl (.val rfl .nil) (by simp) (Putd.one rfl trivial rfl (by simp only [D.at_, D.size, List.length_set, upTo_length]; first | omega | (have := hn_ (by first | assumption | simpa using ‹(!bitsOk b n) = false›); omega) | (simp; omega)) (lt_ok rfl)) rfl) ?_
    refine TL.nil ?_
    refine T.seq ?_
    refine T.region ?_
    refine TL.mv (.one (.row 1023 [])) ?_
    refine TL.as (.one (.row 1023 [])) ?_
    refine TL.as (pB true) ?_
    refine TL.nil ?_
    refine T.ret ?_
    refine ⟨[(false, [.row 1023 []]), (false, [.d (.bool true)])], (.cons rfl (.cons rfl .nil)), rfl, [1023], (RetC.own' rfl ?_ rfl (RetC.rd' ?_ .nil))⟩ <;> (first | (congr 1; first | (rw [putBit1_new h1_ (by first | assumption | simpa using ‹(!bitsOk b n) = false›) (by omega) (no_of (by assumption) h0_)]; done) | (rw [putBit1_has (by first | assumption | simpa using ‹(!bitsOk b n) = false›) (by omega) (has_of (by assumption) h0_)]; done)) | (simp only [D.size]; rw [putBit1_no (fun h => by first | (have := h.2; omega) | (have := h.1; simp_all))]; rfl) | (congr 1; symm; first | (simp_all; done) | (simp_all; omega)))
   ·
    refine T.skip ?_
    refine T.seq ?_
    refine T.region ?_
    refine TL.mv (.one (.row 1023 [])) ?_
    refine TL.as (.one (.row 1023 [])) ?_
    refine TL.as (pB true) ?_
    refine TL.nil ?_
    refine T.ret ?_
    refine ⟨[(false, [.row 1023 []]), (false, [.d (.bool true)])], (.cons rfl (.cons rfl .nil)), rfl, [1023], (RetC.own' rfl ?_ rfl (RetC.rd' ?_ .nil))⟩ <;> (first | (congr 1; first | (rw [putBit1_new h1_ (by first | assumption | simpa using ‹(!bitsOk b n) = false›) (by omega) (no_of (by assumption) h0_)]; done) | (rw [putBit1_has (by first | assumption | simpa using ‹(!bitsOk b n) = false›) (by omega) (has_of (by assumption) h0_)]; done)) | (simp only [D.size]; rw [putBit1_no (fun h => by first | (have := h.2; omega) | (have := h.1; simp_all))]; rfl) | (congr 1; symm; first | (simp_all; done) | (simp_all; omega)))
theorem ok_spec_BitsOf (l : List Int) (n : Int) (h0_ : n ≤ 9223372036854775807) : RO Try.prog 88 [.one (.ints .i64 l), .one (.int .i64 n)] [(false, [.own 5 (.ints .u8 (bitsOf l n))]), (false, [.rd (.bool (bitsOfOk l n))])] := by
 refine RO.intro Try.func88 rfl 38 rfl (le_ok rfl) fun w Z => ?_
 refine T.bnd 0 0 rfl rfl fun hb_0_0 => ?_
 simp only [D.size, List.length_map] at hb_0_0
 have hz_ : (1 ≤ n ∧ n ≤ 10) → bitsSize n = (n - 1) / 8 + 1 := fun h => by unfold bitsSize; rw [if_neg (by omega)]
 refine T.seq ?_
 refine T.region ?_
 refine TL.as (.one (.nil)) ?_
 refine TL.as (pB false) ?_
 refine TL.nil ?_
 refine T.seq ?_
 refine T.region ?_
 refine TL.mv (pI n) ?_
 have nn1 := bitsOf_len [] n
 refine TL.c (Step.cl (xs := [.tmp 12]) (ps := [(pI n)]) (g := .func 140) false (.cons (.one (.d _)) .nil) (ok_spec_BitsNew n (by first | omega | assumption | (simp only [List.length_append] at *; omega)))) ?_
 refine TL.as (.one (.row 1013 [])) ?_
 refine TL.ren 1013 600004 rfl (by simp) ?_
 refine TL.nil ?_
 refine T.seq ?_
 refine T.region ?_
 refine TL.mv (pI n) ?_
 refine TL.c (Step.cl (xs := [.tmp 14]) (ps := [(pI n)]) (g := .func 141) false (.cons (.one (.d _)) .nil) (ok_spec_l02Signers n)) ?_
 refine TL.as (pB (decide (1 ≤ n ∧ n ≤ 10))) ?_
 refine TL.nil ?_
 refine T.seq ?_
 refine T.seq ?_
 refine T.region ?_
 refine TL.mv (.one (.d (.ints .i64 l))) ?_
 refine TL.c (Step.len (e := 3) (z := 1) (d := (.ints .i64 l)) rfl rfl (lt_ok rfl) (by kernel_rfl) rfl rfl) ?_
 refine TL.mv (pI 0) ?_
 refine TL.nil ?_
 refine T.block ?_
 refine T.loop (ι := Nat) (fun xx_ => { tm := [(1, (pI n)), (4, (.one (.nil))), (5, (pB false)), (16, (.one (.d (.ints .i64 l)))), (17, (pI (l.length : Int))), (18, (pI (xx_ : Int))), (6, (.one (.row 600004 []))), (7, (pB (bitsOfOk (l.take xx_) n)))], rows := [(600004, (5, (.ints .u8 (bitsOf (l.take xx_) n))))], boxes := [] }) (fun xx_ => xx_ ≤ l.length) (fun xx_ => l.length - xx_) 0 ?_ ?_ ?_
 · refine Env.le_mk ⟨rfl, rfl, rfl, rfl, rfl, ?_, rfl, ?_, trivial⟩ ⟨?_, trivial⟩ trivial <;> (first | (refine congrArg (fun x => some (_, D.ints .u8 x)) ?_; first | exact (bitsState_step (l := l) (n := n) (by omega)).1 | rfl) | rfl | (refine congrArg (fun b => PV.one (.d (.bool b))) ?_; first | (rw [(bitsState_step (l := l) (n := n) (by omega)).2, show bitsOfOk (l.take i) n = _ from by assumption]; rfl) | (simp [bitsOfOk, signersOk]; done)) | (refine congrArg (fun n => PV.one (.d (.int .i64 n))) ?_; first | rfl | omega | (simp; done)))
 · exact Nat.zero_le _
 ·
  intro i hx
  try dsimp only at hx ⊢
  have hu_ := bitsOf_u8 (l.take i) n
  have hl_ := bitsOf_len (l.take i) n
  refine T.seq ?_
  refine T.region ?_
  refine TL.c (Step.bin rfl rfl (lt_ok rfl) rfl rfl (Bin.lss (k := .i64) (a := (i : Int)) (b := (l.length : Int)))) ?_
  refine TL.nil ?_
  refine T.seq ?_
  refine T.cond (b := decide ((i : Int) < (l.length : Int))) rfl (fun h2 => ?_) (fun h2 => ?_)
  ·
   replace h2 := of_decide_eq_true h2
   refine T.skip ?_
   refine T.seq ?_
   refine T.block ?_
   refine T.seq ?_
   refine T.region ?_
   refine TL.c (Step.index (e := 3) (z := 1) (i := (i : Int)) rfl rfl (lt_ok rfl) (by kernel_rfl) rfl rfl rfl (lt_ok rfl) rfl (by first | omega | (simp; omega)) (by simp only [D.size]; first | omega | (simp; omega))) ?_
   refine TL.c (Step.load (e := (.int .i64 (l.getD i 0))) rfl rfl (lt_ok rfl) (by kernel_rfl) rfl rfl) ?_
   refine TL.as (pI (l.getD i 0)) ?_
   refine TL.nil ?_
   refine T.seq ?_
   refine T.region ?_
   refine TL.mv (.one (.row 600004 [])) ?_
   refine TL.mv (pI n) ?_
   refine TL.mv (pI (l.getD i 0)) ?_
   refine TL.c (Step.cl (xs := [.tmp 23, .tmp 24, .tmp 25, .const (.bool true)]) (ps := [(.one (.row 600004 [])), (pI n), (pI (l.getD i 0)), (pB true)]) (g := .func 142) false (.cons (.one (.row rfl rfl rfl rfl)) (.cons (.one (.d _)) (.cons (.one (.d _)) (.cons (.one (.d _)) .nil)))) (ok_spec_BitsSet (bitsOf (l.take i) n) n (l.getD i 0) true (by first | rfl | assumption) (by first | assumption | exact bitsOf_u8 _ _) (by first | omega | exact bitsOf_len _ _))) ?_
   refine TL.mv (.tup [(false, [.row 1026 []]), (false, [.d (.bool (bitsOk (bitsOf (l.take i) n) n && decide (0 ≤ (l.getD i 0) ∧ (l.getD i 0) ≤ n - 1)))])]) ?_
   refine TL.c (Step.extract (p := (.one (.row 1026 []))) rfl rfl (lt_ok rfl) rfl rfl) ?_
   refine TL.c (Step.extract (p := (pB (bitsOk (bitsOf (l.take i) n) n && decide (0 ≤ (l.getD i 0) ∧ (l.getD i 0) ≤ n - 1)))) rfl rfl (lt_ok rfl) rfl rfl) ?_
   refine TL.as (.one (.row 1026 [])) ?_
   refine TL.as (pB (bitsOk (bitsOf (l.take i) n) n && decide (0 ≤ (l.getD i 0) ∧ (l.getD i 0) ≤ n - 1))) ?_
   refine TL.nil ?_
   refine T.seq ?_
   refine T.region ?_
   refine TL.mv (pB (bitsOfOk (l.take i) n)) ?_
   refine TL.mv (pB (bitsOfOk (l.take i) n)) ?_
   rcases Bool.eq_false_or_eq_true (bitsOfOk (l.take i) n) with hb3 | hb3
   ·
    refine TL.known 30 hb3 rfl ?_
    refine TL.gm 30 (pB (bitsOk (bitsOf (l.take i) n) n && decide (0 ≤ (l.getD i 0) ∧ (l.getD i 0) ≤ n - 1))) ?_
    refine TL.pk true (pB (bitsOk (bitsOf (l.take i) n) n && decide (0 ≤ (l.getD i 0) ∧ (l.getD i 0) ≤ n - 1))) ?_
    refine TL.as (pB (bitsOk (bitsOf (l.take i) n) n && decide (0 ≤ (l.getD i 0) ∧ (l.getD i 0) ≤ n - 1))) ?_
    refine TL.nil ?_
    refine T.region ?_
    refine TL.mv (.one (.row 1026 [])) ?_
    refine TL.as (.one (.row 1026 [])) ?_
    refine TL.weaken (Env.drops_le [600004] _) ?_
    refine TL.ren 1026 600004 rfl (by simp) ?_
    refine TL.nil ?_
    refine T.region ?_
    refine TL.c (Step.bin (r := .int .i64 ((i : Int) + 1)) rfl rfl (lt_ok rfl) rfl rfl (Bin.add (a := (i : Int)) (b := 1) (by first | exact wrap_ok (by first | omega | (simp; omega)) (by first | omega | (simp; omega)) | rfl))) ?_
    refine TL.mv (pI ((i : Int) + 1)) ?_
    refine TL.nil ?_
    refine ⟨i + 1, by omega, by first | omega | (dsimp only; omega), Env.le_mk ⟨rfl, rfl, rfl, rfl, rfl, ?_, rfl, ?_, trivial⟩ ⟨?_, trivial⟩ trivial⟩ <;> (first | (refine congrArg (fun x => some (_, D.ints .u8 x)) ?_; first | exact (bitsState_step (l := l) (n := n) (by omega)).1 | rfl) | rfl | (refine congrArg (fun b => PV.one (.d (.bool b))) ?_; first | (rw [(bitsState_step (l := l) (n := n) (by omega)).2, show bitsOfOk (l.take i) n = _ from by assumption]; rfl) | (simp [bitsOfOk, signersOk]; done)) | (refine congrArg (fun n => PV.one (.d (.int .i64 n))) ?_; first | rfl | omega | (simp; done)))
   ·
    refine TL.known 30 hb3 rfl ?_
    refine TL.gf 30 ?_
    refine TL.pk false (pB false) ?_
    refine TL.as (pB false) ?_
    refine TL.nil ?_
    refine T.region ?_
    refine TL.mv (.one (.row 1026 [])) ?_
    refine TL.as (.one (.row 1026 [])) ?_
    refine TL.weaken (Env.drops_le [600004] _) ?_
    refine TL.ren 1026 600004 rfl (by simp) ?_
    refine TL.nil ?_
    refine T.region ?_
    refine TL.c (Step.bin (r := .int .i64 ((i : Int) + 1)) rfl rfl (lt_ok rfl) rfl rfl (Bin.add (a := (i : Int)) (b := 1) (by first | exact wrap_ok (by first | omega | (simp; omega)) (by first | omega | (simp; omega)) | rfl))) ?_
    refine TL.mv (pI ((i : Int) + 1)) ?_
    refine TL.nil ?_
    refine ⟨i + 1, by omega, by first | omega | (dsimp only; omega), Env.le_mk ⟨rfl, rfl, rfl, rfl, rfl, ?_, rfl, ?_, trivial⟩ ⟨?_, trivial⟩ trivial⟩ <;> (first | (refine congrArg (fun x => some (_, D.ints .u8 x)) ?_; first | exact (bitsState_step (l := l) (n := n) (by omega)).1 | rfl) | rfl | (refine congrArg (fun b => PV.one (.d (.bool b))) ?_; first | (rw [(bitsState_step (l := l) (n := n) (by omega)).2, show bitsOfOk (l.take i) n = _ from by assumption]; rfl) | (simp [bitsOfOk, signersOk]; done)) | (refine congrArg (fun n => PV.one (.d (.int .i64 n))) ?_; first | rfl | omega | (simp; done)))
  ·
   replace h2 := of_decide_eq_false h2
   refine T.exit ?_
   refine T.seq ?_
   refine T.seq ?_
   refine T.region ?_
   refine TL.mv (pB (bitsOfOk (l.take i) n)) ?_
   refine TL.c (Step.not (b := (bitsOfOk (l.take i) n)) rfl rfl (lt_ok rfl) rfl) ?_
   refine TL.nil ?_
   refine T.cond (b := !(bitsOfOk (l.take i) n)) rfl (fun h4 => ?_) (fun h4 => ?_)
   ·
    replace h4 : (bitsOfOk (l.take i) n) = false := by simpa only [Bool.not_eq_true', Bool.not_eq_false'] using h4
    refine T.seq ?_
    refine T.region ?_
    refine TL.as (.one (.nil)) ?_
    refine TL.as (pB false) ?_
    refine TL.nil ?_
    refine T.ret ?_
    refine ⟨[(false, [.nil]), (false, [.d (.bool false)])], (.cons rfl (.cons rfl .nil)), rfl, [], (RetC.nilown' rfl ?_ (by first | exact trivial | exact D.wf_nil _) (RetC.rd' ?_ .nil))⟩ <;> (first | (congr 1; first | (rw [(bitsOf_all (l := l) (n := n) (i := i) (by omega)).1]; done) | (rw [← (bitsOf_all (l := l) (n := n) (i := i) (by omega)).2.1]; symm; first | assumption | simpa using ‹(!bitsOfOk (l.take i) n) = _›)) | (simp only [D.size]; rw [← (bitsOf_all (l := l) (n := n) (i := i) (by omega)).1, bitsOf_no (l := l.take i) (by first | assumption | simpa using ‹(!bitsOfOk (l.take i) n) = _›)]; rfl))
   ·
    replace h4 : (bitsOfOk (l.take i) n) = true := by simpa only [Bool.not_eq_true', Bool.not_eq_false'] using h4
    refine T.skip ?_
    refine T.seq ?_
    refine T.region ?_
    refine TL.mv (.one (.row 600004 [])) ?_
    refine TL.as (.one (.row 600004 [])) ?_
    refine TL.as (pB true) ?_
    refine TL.nil ?_
    refine T.ret ?_
    refine ⟨[(false, [.row 600004 []]), (false, [.d (.bool true)])], (.cons rfl (.cons rfl .nil)), rfl, [600004], (RetC.own' rfl ?_ rfl (RetC.rd' ?_ .nil))⟩ <;> (first | (congr 1; first | (rw [(bitsOf_all (l := l) (n := n) (i := i) (by omega)).1]; done) | (rw [← (bitsOf_all (l := l) (n := n) (i := i) (by omega)).2.1]; symm; first | assumption | simpa using ‹(!bitsOfOk (l.take i) n) = _›)) | (simp only [D.size]; rw [← (bitsOf_all (l := l) (n := n) (i := i) (by omega)).1, bitsOf_no (l := l.take i) (by first | assumption | simpa using ‹(!bitsOfOk (l.take i) n) = _›)]; rfl))
theorem ok_spec_LimitsOk (l : SLimits) : RO Try.prog 94 [.agg l.cells] [(false, [.rd (.bool (limOk l))])] := by
 refine RO.intro Try.func94 rfl 26 rfl (le_ok rfl) fun w Z => ?_
 refine T.seq ?_
 refine T.region ?_
 refine TL.c (Step.box (p := (.agg [cI l.f0, cI l.f1, cI l.f2, cI l.f3, cI l.f4])) (ps := [cI l.f0, cI l.f1, cI l.f2, cI l.f3, cI l.f4]) rfl rfl (lt_ok rfl) rfl rfl rfl rfl rfl) ?_
 refine TL.as (pB false) ?_
 refine TL.nil ?_
 refine T.seq ?_
 refine T.region ?_
 refine TL.c (Step.fieldAddr (q := 0) (off := 0) (n := 1) (one := true) rfl rfl (lt_ok rfl) (by kernel_rfl) (Nat.succ_ne_zero _) rfl) ?_
 refine TL.c (Step.load_box (c := cI l.f0) rfl rfl (lt_ok rfl) (by kernel_rfl) rfl rfl rfl) ?_
 refine TL.c (Step.cl (xs := [.tmp 4]) (ps := [(pI l.f0)]) (g := .func 141) false (.cons (.one (.d _)) .nil) (ok_spec_l02Signers l.f0)) ?_
 refine TL.mv (pB (decide (1 ≤ l.f0 ∧ l.f0 ≤ 10))) ?_
 rcases Bool.eq_false_or_eq_true (decide (1 ≤ l.f0 ∧ l.f0 ≤ 10)) with hb1 | hb1
 ·
  refine TL.known 6 hb1 rfl ?_
  refine TL.gy 6 (Step.fieldAddr (q := 0) (off := 1) (n := 1) (one := true) rfl rfl (lt_ok rfl) (by kernel_rfl) (Nat.succ_ne_zero _) rfl) ?_
  refine TL.gy 6 (Step.load_box (c := cI l.f1) rfl rfl (lt_ok rfl) (by kernel_rfl) rfl rfl rfl) ?_
  refine TL.gy 6 (Step.cl (xs := [.tmp 8, .const (.int .i64 0), .const (.int .i64 40)]) (ps := [(pI l.f1), (pI 0), (pI 40)]) (g := .func 138) false (.cons (.one (.d _)) (.cons (.one (.d _)) (.cons (.one (.d _)) .nil))) (ok_spec_l01In l.f1 0 40)) ?_
  refine TL.pk true (pB (decide (0 ≤ l.f1 ∧ l.f1 ≤ 40))) ?_
  refine TL.mv (pB (decide (0 ≤ l.f1 ∧ l.f1 ≤ 40))) ?_
  rcases Bool.eq_false_or_eq_true (decide (0 ≤ l.f1 ∧ l.f1 ≤ 40)) with hb2 | hb2
  ·
   refine TL.known 11 hb2 rfl ?_
   refine TL.gy 11 (Step.fieldAddr (q := 0) (off := 2) (n := 1) (one := true) rfl rfl (lt_ok rfl) (by kernel_rfl) (Nat.succ_ne_zero _) rfl) ?_
   refine TL.gy 11 (Step.load_box (c := cI l.f2) rfl rfl (lt_ok rfl) (by kernel_rfl) rfl rfl rfl) ?_
   refine TL.gy 11 (Step.cl (xs := [.tmp 13, .const (.int .i64 0), .const (.int .i64 8)]) (ps := [(pI l.f2), (pI 0), (pI 8)]) (g := .func 138) false (.cons (.one (.d _)) (.cons (.one (.d _)) (.cons (.one (.d _)) .nil))) (ok_spec_l01In l.f2 0 8)) ?_
   refine TL.pk true (pB (decide (0 ≤ l.f2 ∧ l.f2 ≤ 8))) ?_
   refine TL.mv (pB (decide (0 ≤ l.f2 ∧ l.f2 ≤ 8))) ?_
   rcases Bool.eq_false_or_eq_true (decide (0 ≤ l.f2 ∧ l.f2 ≤ 8)) with hb3 | hb3
   ·
    refine TL.known 16 hb3 rfl ?_
    refine TL.gy 16 (Step.fieldAddr (q := 0) (off := 3) (n := 1) (one := true) rfl rfl (lt_ok rfl) (by kernel_rfl) (Nat.succ_ne_zero _) rfl) ?_
    refine TL.gy 16 (Step.load_box (c := cI l.f3) rfl rfl (lt_ok rfl) (by kernel_rfl) rfl rfl rfl) ?_
    refine TL.gy 16 (Step.cl (xs := [.tmp 18, .const (.int .i64 1), .const (.int .i64 4000)]) (ps := [(pI l.f3), (pI 1), (pI 4000)]) (g := .func 138) false (.cons (.one (.d _)) (.cons (.one (.d _)) (.cons (.one (.d _)) .nil))) (ok_spec_l01In l.f3 1 4000)) ?_
    refine TL.pk true (pB (decide (1 ≤ l.f3 ∧ l.f3 ≤ 4000))) ?_
    refine TL.mv (pB (decide (1 ≤ l.f3 ∧ l.f3 ≤ 4000))) ?_
    rcases Bool.eq_false_or_eq_true (decide (1 ≤ l.f3 ∧ l.f3 ≤ 4000)) with hb4 | hb4
    ·
     refine TL.known 21 hb4 rfl ?_
     refine TL.gy 21 (Step.fieldAddr (q := 0) (off := 4) (n := 1) (one := true) rfl rfl (lt_ok rfl) (by kernel_rfl) (Nat.succ_ne_zero _) rfl) ?_
     refine TL.gy 21 (Step.load_box (c := cI l.f4) rfl rfl (lt_ok rfl) (by kernel_rfl) rfl rfl rfl) ?_
     refine TL.gy 21 (Step.cl (xs := [.tmp 23, .const (.int .i64 3), .const (.int .i64 5)]) (ps := [(pI l.f4), (pI 3), (pI 5)]) (g := .func 138) false (.cons (.one (.d _)) (.cons (.one (.d _)) (.cons (.one (.d _)) .nil))) (ok_spec_l01In l.f4 3 5)) ?_
     refine TL.pk true (pB (decide (3 ≤ l.f4 ∧ l.f4 ≤ 5))) ?_
     refine TL.as (pB (decide (3 ≤ l.f4 ∧ l.f4 ≤ 5))) ?_
     refine TL.nil ?_
     refine T.ret ?_
     refine ⟨[(false, [.d (.bool (decide (3 ≤ l.f4 ∧ l.f4 ≤ 5)))])], (.cons rfl .nil), rfl, [], (RetC.rd' ?_ .nil)⟩ <;> (first | rfl | (congr 1; symm; simp only [limOk, *, Bool.and_true, Bool.true_and, Bool.and_false, Bool.false_and, decide_true, decide_false, and_true, true_and, and_self, and_false, false_and, Bool.and_self, not_true, not_false, Bool.not_true, Bool.not_false, ge_iff_le, gt_iff_lt, if_true, if_false, Bool.false_eq_true, ite_true, ite_false, reduceIte]; done) | (congr 1; symm; simp_all [limOk]; done) | (congr 1; symm; simp_all [limOk]; omega))
    ·
     refine TL.known 21 hb4 rfl ?_
     refine TL.gf 21 ?_
     refine TL.gf 21 ?_
     refine TL.gf 21 ?_
     refine TL.pk false (pB false) ?_
     refine TL.as (pB false) ?_
     refine TL.nil ?_
     refine T.ret ?_
     refine ⟨[(false, [.d (.bool false)])], (.cons rfl .nil), rfl, [], (RetC.rd' ?_ .nil)⟩ <;> (first | rfl | (congr 1; symm; simp only [limOk, *, Bool.and_true, Bool.true_and, Bool.and_false, Bool.false_and, decide_true, decide_false, and_true, true_and, and_self, and_false, false_and, Bool.and_self, not_true, not_false, Bool.not_true, Bool.not_false, ge_iff_le, gt_iff_lt, if_true, if_false, Bool.false_eq_true, ite_true, ite_false, reduceIte]; done) | (congr 1; symm; simp_all [limOk]; done) | (congr 1; symm; simp_all [limOk]; omega))
   ·
    refine TL.known 16 hb3 rfl ?_
    refine TL.gf 16 ?_
    refine TL.gf 16 ?_
    refine TL.gf 16 ?_
    refine TL.pk false (pB false) ?_
    refine TL.mv (pB false) ?_
    refine TL.gf 21 ?_
    refine TL.gf 21 ?_
    refine TL.gf 21 ?_
    refine TL.pk false (pB false) ?_
    refine TL.as (pB false) ?_
    refine TL.nil ?_
    refine T.ret ?_
    refine ⟨[(false, [.d (.bool false)])], (.cons rfl .nil), rfl, [], (RetC.rd' ?_ .nil)⟩ <;> (first | rfl | (congr 1; symm; simp only [limOk, *, Bool.and_true, Bool.true_and, Bool.and_false, Bool.false_and, decide_true, decide_false, and_true, true_and, and_self, and_false, false_and, Bool.and_self, not_true, not_false, Bool.not_true, Bool.not_false, ge_iff_le, gt_iff_lt, if_true, if_false, Bool.false_eq_true, ite_true, ite_false, reduceIte]; done) | (congr 1; symm; simp_all [limOk]; done) | (congr 1; symm; simp_all [limOk]; omega))
  ·
   refine TL.known 11 hb2 rfl ?_
   refine TL.gf 11 ?_
   refine TL.gf 11 ?_
   refine TL.gf 11 ?_
   refine TL.pk false (pB false) ?_
   refine TL.mv (pB false) ?_
   refine TL.gf 16 ?_
   refine TL.gf 16 ?_
   refine TL.gf 16 ?_
   refine TL.pk false (pB false) ?_
   refine TL.mv (pB false) ?_
   refine TL.gf 21 ?_
   refine TL.gf 21 ?_
   refine TL.gf 21 ?_
   refine TL.pk false (pB false) ?_
   refine TL.as (pB false) ?_
   refine TL.nil ?_
   refine T.ret ?_
   refine ⟨[(false, [.d (.bool false)])], (.cons rfl .nil), rfl, [], (RetC.rd' ?_ .nil)⟩ <;> (first | rfl | (congr 1; symm; simp only [limOk, *, Bool.and_true, Bool.true_and, Bool.and_false, Bool.false_and, decide_true, decide_false, and_true, true_and, and_self, and_false, false_and, Bool.and_self, not_true, not_false, Bool.not_true, Bool.not_false, ge_iff_le, gt_iff_lt, if_true, if_false, Bool.false_eq_true, ite_true, ite_false, reduceIte]; done) | (congr 1; symm; simp_all [limOk]; done) | (congr 1; symm; simp_all [limOk]; omega))
 ·
  refine TL.known 6 hb1 rfl ?_
  refine TL.gf 6 ?_
  refine TL.gf 6 ?_
  refine TL.gf 6 ?_
  refine TL.pk false (pB false) ?_
  refine TL.mv (pB false) ?_
  refine TL.gf 11 ?_
  refine TL.gf 11 ?_
  refine TL.gf 11 ?_
  refine TL.pk false (pB false) ?_
  refine TL.mv (pB false) ?_
  refine TL.gf 16 ?_
  refine TL.gf 16 ?_
  refine TL.gf 16 ?_
  refine TL.pk false (pB false) ?_
  refine TL.mv (pB false) ?_
  refine TL.gf 21 ?_
  refine TL.gf 21 ?_
  refine TL.gf 21 ?_
  refine TL.pk false (pB false) ?_
  refine TL.as (pB false) ?_
  refine TL.nil ?_
  refine T.ret ?_
  refine ⟨[(false, [.d (.bool false)])], (.cons rfl .nil), rfl, [], (RetC.rd' ?_ .nil)⟩ <;> (first | rfl | (congr 1; symm; simp only [limOk, *, Bool.and_true, Bool.true_and, Bool.and_false, Bool.false_and, decide_true, decide_false, and_true, true_and, and_self, and_false, false_and, Bool.and_self, not_true, not_false, Bool.not_true, Bool.not_false, ge_iff_le, gt_iff_lt, if_true, if_false, Bool.false_eq_true, ite_true, ite_false, reduceIte]; done) | (congr 1; symm; simp_all [limOk]; done) | (congr 1; symm; simp_all [limOk]; omega))
theorem ok_spec_l01Num (n : Int) : RO Try.prog 137 [.one (.int .i64 n)] [(false, [.rd (.bool (decide (0 ≤ n ∧ n ≤ 1152921504606846975)))])] := by
 refine RO.intro Try.func137 rfl 5 rfl (le_ok rfl) fun w Z => ?_
 refine T.seq ?_
 refine T.region ?_
 refine TL.as (pB false) ?_
 refine TL.nil ?_
 refine T.seq ?_
 refine T.region ?_
 refine TL.mv (pI n) ?_
 refine TL.c (Step.cl (xs := [.tmp 3, .const (.int .i64 0), .const (.int .i64 1152921504606846975)]) (ps := [(pI n), (pI 0), (pI 1152921504606846975)]) (g := .func 138) false (.cons (.one (.d _)) (.cons (.one (.d _)) (.cons (.one (.d _)) .nil))) (ok_spec_l01In n 0 1152921504606846975)) ?_
 refine TL.as (pB (decide (0 ≤ n ∧ n ≤ 1152921504606846975))) ?_
 refine TL.nil ?_
 refine T.ret ?_
 exact ⟨[(false, [.d (.bool (decide (0 ≤ n ∧ n ≤ 1152921504606846975)))])], (.cons rfl .nil), rfl, [], (RetC.rd' rfl .nil)⟩
theorem ok_spec_l07Hash (h : List Int) : RO Try.prog 139 [.one (.ints .u8 h)] [(false, [.rd (.bool (decide ((h.length : Int) = 32)))])] := by
 refine RO.intro Try.func139 rfl 6 rfl (le_ok rfl) fun w Z => ?_
 refine T.bnd 0 0 rfl rfl fun hb_0_0 => ?_
 simp only [D.size, List.length_map] at hb_0_0
 refine T.seq ?_
 refine T.region ?_
 refine TL.as (pB false) ?_
 refine TL.nil ?_
 refine T.seq ?_
 refine T.region ?_
 refine TL.mv (pS h) ?_
 refine TL.c (Step.len (e := 5) (z := 1) (d := (.ints .u8 h)) rfl rfl (lt_ok rfl) (by kernel_rfl) rfl rfl) ?_
 refine TL.c (Step.bin rfl rfl (lt_ok rfl) rfl rfl (Bin.eql (k := .i64) (a := (h.length : Int)) (b := 32))) ?_
 refine TL.as (pB (decide ((h.length : Int) = 32))) ?_
 refine TL.nil ?_
 refine T.ret ?_
 exact ⟨[(false, [.d (.bool (decide ((h.length : Int) = 32)))])], (.cons rfl .nil), rfl, [], (RetC.rd' rfl .nil)⟩
theorem ok_spec_BitsCount (b : List Int) (h0_ : U8s b) (h1_ : b.length ≤ 1099511627776) : RO Try.prog 151 [.one (.ints .u8 b)] [(false, [.rd (.int .i64 ((bitList b).length : Int))])] := by
 refine RO.intro Try.func151 rfl 6 rfl (le_ok rfl) fun w Z => ?_
 refine T.bnd 0 0 rfl rfl fun hb_0_0 => ?_
 simp only [D.size, List.length_map] at hb_0_0
 refine T.seq ?_
 refine T.region ?_
 refine TL.as (pI 0) ?_
 refine TL.nil ?_
 refine T.seq ?_
 refine T.region ?_
 refine TL.mv (pS b) ?_
 have nn1 := bitList_len b
 refine TL.c (Step.cl (xs := [.tmp 3]) (ps := [(pS b)]) (g := .func 78) false (.cons (.one (.d _)) .nil) (ok_spec_BitsList b (by assumption) (by first | omega | assumption | (simp only [List.length_append] at *; omega)))) ?_
 refine TL.c (Step.len (e := 3) (z := 1) (d := (.ints .i64 (bitList b))) rfl rfl (lt_ok rfl) (by kernel_rfl) rfl rfl) ?_
 refine TL.as (pI ((bitList b).length : Int)) ?_
 refine TL.nil ?_
 refine T.ret ?_
 exact ⟨[(false, [.d (.int .i64 ((bitList b).length : Int))])], (.cons rfl .nil), rfl, [], (RetC.rd' rfl .nil)⟩
theorem ok_spec_l08Hashes (l : List (List Int)) : RO Try.prog 152 [.one (.bss l)] [(false, [.rd (.bool (hashes l))])] := by
 refine RO.intro Try.func152 rfl 15 rfl (le_ok rfl) fun w Z => ?_
 refine T.bnd 0 0 rfl rfl fun hb_0_0 => ?_
 simp only [D.size, List.length_map] at hb_0_0
 refine T.seq ?_
 refine T.region ?_
 refine TL.as (pB false) ?_
 refine TL.nil ?_
 refine T.seq ?_
 refine T.seq ?_
 refine T.region ?_
 refine TL.mv (.one (.d (.bss l))) ?_
 refine TL.c (Step.len (e := 22) (z := 1) (d := (.bss l)) rfl rfl (lt_ok rfl) (by kernel_rfl) rfl rfl) ?_
 refine TL.mv (pI 0) ?_
 refine TL.nil ?_
 refine T.block ?_
 refine T.loop (ι := Nat) (fun xx_ => { tm := [(5, (.one (.d (.bss l)))), (6, (pI (l.length : Int))), (7, (pI (xx_ : Int)))], rows := [], boxes := [] }) (fun xx_ => xx_ ≤ l.length ∧ hashes (l.take xx_) = true) (fun xx_ => l.length - xx_) 0 ?_ ?_ ?_
 · refine Env.le_mk ⟨rfl, rfl, ?_, trivial⟩ trivial trivial <;> (first | rfl | (simp; done) | (congr 3; omega))
 · (refine ⟨Nat.zero_le _, by rw [List.take_zero]; rfl⟩)
 ·
  intro i hx
  try dsimp only at hx ⊢
  obtain ⟨hx1, hx2⟩ := hx
  refine T.seq ?_
  refine T.region ?_
  refine TL.c (Step.bin rfl rfl (lt_ok rfl) rfl rfl (Bin.lss (k := .i64) (a := (i : Int)) (b := (l.length : Int)))) ?_
  refine TL.nil ?_
  refine T.seq ?_
  refine T.cond (b := decide ((i : Int) < (l.length : Int))) rfl (fun h1 => ?_) (fun h1 => ?_)
  ·
   replace h1 := of_decide_eq_true h1
   refine T.skip ?_
   refine T.seq ?_
   refine T.block ?_
   refine T.seq ?_
   refine T.region ?_
   refine TL.c (Step.index (e := 22) (z := 1) (i := (i : Int)) rfl rfl (lt_ok rfl) (by kernel_rfl) rfl rfl rfl (lt_ok rfl) rfl (by first | omega | (simp; omega)) (by simp only [D.size]; first | omega | (simp; omega))) ?_
   refine TL.c (Step.load (e := (.ints .u8 (l.getD i []))) rfl rfl (lt_ok rfl) (by kernel_rfl) rfl rfl) ?_
   refine TL.as (pS (l.getD i [])) ?_
   refine TL.nil ?_
   refine T.seq ?_
   refine T.region ?_
   refine TL.mv (pS (l.getD i [])) ?_
   refine TL.c (Step.cl (xs := [.tmp 11]) (ps := [(pS (l.getD i []))]) (g := .func 139) false (.cons (.one (.d _)) .nil) (ok_spec_l07Hash (l.getD i []))) ?_
   refine TL.c (Step.not (b := (decide (((l.getD i []).length : Int) = 32))) rfl rfl (lt_ok rfl) rfl) ?_
   refine TL.nil ?_
   refine T.cond (b := !(decide (((l.getD i []).length : Int) = 32))) rfl (fun h2 => ?_) (fun h2 => ?_)
   ·
    replace h2 : (decide (((l.getD i []).length : Int) = 32)) = false := by simpa only [Bool.not_eq_true', Bool.not_eq_false'] using h2
    replace h2 := of_decide_eq_false h2
    refine T.seq ?_
    refine T.region ?_
    refine TL.as (pB false) ?_
    refine TL.nil ?_
    refine T.ret ?_
    refine ⟨[(false, [.d (.bool false)])], (.cons rfl .nil), rfl, [], (RetC.rd' ?_ .nil)⟩ <;> ((congr 1; symm; first | (exact hashes_no (i := i) (by omega) (by omega)) | (rw [List.take_of_length_le (by omega)] at hx2; exact hx2)))
   ·
    replace h2 : (decide (((l.getD i []).length : Int) = 32)) = true := by simpa only [Bool.not_eq_true', Bool.not_eq_false'] using h2
    replace h2 := of_decide_eq_true h2
    refine T.skip ?_
    refine T.region ?_
    refine TL.c (Step.bin (r := .int .i64 ((i : Int) + 1)) rfl rfl (lt_ok rfl) rfl rfl (Bin.add (a := (i : Int)) (b := 1) (by first | exact wrap_ok (by first | omega | (simp; omega)) (by first | omega | (simp; omega)) | rfl))) ?_
    refine TL.mv (pI ((i : Int) + 1)) ?_
    refine TL.nil ?_
    refine ⟨i + 1, by (refine ⟨by omega, hashes_step (by omega) hx2 (by omega)⟩), by first | omega | (dsimp only; omega), Env.le_mk ⟨rfl, rfl, ?_, trivial⟩ trivial trivial⟩ <;> (first | rfl | (simp; done) | (congr 3; omega))
  ·
   replace h1 := of_decide_eq_false h1
   refine T.exit ?_
   refine T.seq ?_
   refine T.region ?_
   refine TL.as (pB true) ?_
   refine TL.nil ?_
   refine T.ret ?_
   refine ⟨[(false, [.d (.bool true)])], (.cons rfl .nil), rfl, [], (RetC.rd' ?_ .nil)⟩ <;> ((congr 1; symm; first | (exact hashes_no (i := i) (by omega) (by omega)) | (rw [List.take_of_length_le (by omega)] at hx2; exact hx2)))
theorem ok_spec_QcOk (l : SLimits) (q : SQc) (h0_ : q.ok) (h1_ : q.sm) : RO Try.prog 95 [.agg l.cells, .agg q.cells] [(false, [.rd (.bool (qcOk l q))])] := by
 refine RO.intro Try.func95 rfl 43 rfl (le_ok rfl) fun w Z => ?_
 obtain ⟨o0, o1, o2, o3, o4⟩ := h0_
 obtain ⟨s0, s1, s2⟩ := h1_
 refine T.seq ?_
 refine T.region ?_
 refine TL.c (Step.box (p := (.agg [cI l.f0, cI l.f1, cI l.f2, cI l.f3, cI l.f4])) (ps := [cI l.f0, cI l.f1, cI l.f2, cI l.f3, cI l.f4]) rfl rfl (lt_ok rfl) rfl rfl rfl rfl rfl) ?_
 refine TL.c (Step.box (p := (.agg [cI q.f0, cI q.f1, cS q.f2, cS q.f3, .d (.bss q.f4)])) (ps := [cI q.f0, cI q.f1, cS q.f2, cS q.f3, .d (.bss q.f4)]) rfl rfl (lt_ok rfl) rfl rfl rfl rfl rfl) ?_
 refine TL.as (pB false) ?_
 refine TL.nil ?_
 refine T.seq ?_
 rcases Bool.eq_false_or_eq_true (limOk l) with hb1 | hb1
 ·
  rcases Bool.eq_false_or_eq_true (decide (0 ≤ q.f0 ∧ q.f0 ≤ 1152921504606846975)) with hb2 | hb2
  ·
   rcases Bool.eq_false_or_eq_true (decide (0 ≤ q.f1 ∧ q.f1 ≤ 1152921504606846975)) with hb3 | hb3
   ·
    rcases Bool.eq_false_or_eq_true (decide ((q.f2.length : Int) = 32)) with hb4 | hb4
    ·
     rcases Bool.eq_false_or_eq_true (bitsOk q.f3 l.f0) with hb5 | hb5
     ·
      have nn6 := bitList_len q.f3
      rcases Bool.eq_false_or_eq_true (decide ((q.f4.length : Int) = ((bitList q.f3).length : Int))) with hb7 | hb7
      ·
       have nn8 := bitList_len q.f3
       refine T.draw [⟨5, (.agg [cI l.f0, cI l.f1, cI l.f2, cI l.f3, cI l.f4]), []⟩, ⟨6, (pB true), []⟩, ⟨7, (pB true), []⟩, ⟨8, (.one (.ptr 3 0)), []⟩, ⟨9, (pI q.f0), []⟩, ⟨10, (pB true), []⟩, ⟨11, (pB true), []⟩, ⟨12, (pB true), []⟩, ⟨13, (.one (.ptr 3 1)), []⟩, ⟨14, (pI q.f1), []⟩, ⟨15, (pB true), []⟩, ⟨16, (pB true), []⟩, ⟨17, (pB true), []⟩, ⟨18, (.one (.ptr 3 2)), []⟩, ⟨19, (pS q.f2), []⟩, ⟨20, (pB true), []⟩, ⟨21, (pB true), []⟩, ⟨22, (pB true), []⟩, ⟨23, (.one (.ptr 3 3)), []⟩, ⟨24, (pS q.f3), []⟩, ⟨25, (.one (.ptr 2 0)), []⟩, ⟨26, (pI l.f0), []⟩, ⟨27, (pB true), []⟩, ⟨28, (pB true), []⟩, ⟨29, (pB true), []⟩, ⟨30, (.one (.ptr 3 4)), []⟩, ⟨31, (.one (.d (.bss q.f4))), []⟩, ⟨32, (pI (q.f4.length : Int)), []⟩, ⟨33, (.one (.ptr 3 3)), []⟩, ⟨34, (pS q.f3), []⟩, ⟨35, (pI ((bitList q.f3).length : Int)), []⟩, ⟨36, (pB true), []⟩, ⟨37, (pB true), []⟩, ⟨38, (pB true), []⟩, ⟨39, (.one (.ptr 3 4)), []⟩, ⟨40, (.one (.d (.bss q.f4))), []⟩, ⟨41, (pB (hashes q.f4)), []⟩, ⟨42, (pB (hashes q.f4)), []⟩, ⟨4, (pB (hashes q.f4)), []⟩] (by kernel_rfl) (by kernel_rfl) ?_ ?_
       ·
        refine .cons (fun E A => OpStep.plain rfl (Step.load_box_agg (n := 5) (qs := [cI l.f0, cI l.f1, cI l.f2, cI l.f3, cI l.f4]) (t := 5) rfl rfl (by exact lt_ok rfl) (by kernel_rfl) (A.g 2 rfl) (by exact A.box rfl) rfl rfl)) ?_
        refine .cons (fun E A => OpStep.plain rfl (Step.tb 6 (limOk l) hb1 (Step.cd (xs := [.tmp 5]) (ps := [(.agg [cI l.f0, cI l.f1, cI l.f2, cI l.f3, cI l.f4])]) (g := .func 94) false 6 (evs_cons (A.g 5 rfl) (rfl)) (.cons (.agg (.cons (.d _) (.cons (.d _) (.cons (.d _) (.cons (.d _) (.cons (.d _) .nil)))))) .nil) (ok_spec_LimitsOk l) (At.freshRows A rfl)))) ?_
        refine .cons (fun E A => A.mv 6 7) ?_
        refine .cons (fun E A => A.y 7 (Step.fa (off := 0) (n := 1) (one := true) 0 8 (A.g 3 rfl))) ?_
        refine .cons (fun E A => A.y 7 (Step.load_box (c := cI q.f0) (t := 9) rfl rfl (by exact lt_ok rfl) (by kernel_rfl) (A.g 8 rfl) (by exact A.box rfl) rfl)) ?_
        refine .cons (fun E A => A.y 7 (Step.tb 10 (decide (0 ≤ q.f0 ∧ q.f0 ≤ 1152921504606846975)) hb2 (Step.cd (xs := [.tmp 9]) (ps := [(pI q.f0)]) (g := .func 137) false 10 (evs_cons (A.g 9 rfl) (rfl)) (.cons (.one (.d _)) .nil) (ok_spec_l01Num q.f0) (At.freshRows A rfl)))) ?_
        refine .cons (fun E A => OpStep.plain rfl (Step.pick (b := true) (p := (pB true)) (t := 11) rfl rfl (by exact lt_ok rfl) (A.g 7 rfl) (A.g 10 rfl))) ?_
        refine .cons (fun E A => A.mv 11 12) ?_
        refine .cons (fun E A => A.y 12 (Step.fa (off := 1) (n := 1) (one := true) 0 13 (A.g 3 rfl))) ?_
        refine .cons (fun E A => A.y 12 (Step.load_box (c := cI q.f1) (t := 14) rfl rfl (by exact lt_ok rfl) (by kernel_rfl) (A.g 13 rfl) (by exact A.box rfl) rfl)) ?_
        refine .cons (fun E A => A.y 12 (Step.tb 15 (decide (0 ≤ q.f1 ∧ q.f1 ≤ 1152921504606846975)) hb3 (Step.cd (xs := [.tmp 14]) (ps := [(pI q.f1)]) (g := .func 137) false 15 (evs_cons (A.g 14 rfl) (rfl)) (.cons (.one (.d _)) .nil) (ok_spec_l01Num q.f1) (At.freshRows A rfl)))) ?_
        refine .cons (fun E A => OpStep.plain rfl (Step.pick (b := true) (p := (pB true)) (t := 16) rfl rfl (by exact lt_ok rfl) (A.g 12 rfl) (A.g 15 rfl))) ?_
        refine .cons (fun E A => A.mv 16 17) ?_
        refine .cons (fun E A => A.y 17 (Step.fa (off := 2) (n := 1) (one := true) 0 18 (A.g 3 rfl))) ?_
        refine .cons (fun E A => A.y 17 (Step.load_box (c := cS q.f2) (t := 19) rfl rfl (by exact lt_ok rfl) (by kernel_rfl) (A.g 18 rfl) (by exact A.box rfl) rfl)) ?_
        refine .cons (fun E A => A.y 17 (Step.tb 20 (decide ((q.f2.length : Int) = 32)) hb4 (Step.cd (xs := [.tmp 19]) (ps := [(pS q.f2)]) (g := .func 139) false 20 (evs_cons (A.g 19 rfl) (rfl)) (.cons (.one (.d _)) .nil) (ok_spec_l07Hash q.f2) (At.freshRows A rfl)))) ?_
        refine .cons (fun E A => OpStep.plain rfl (Step.pick (b := true) (p := (pB true)) (t := 21) rfl rfl (by exact lt_ok rfl) (A.g 17 rfl) (A.g 20 rfl))) ?_
        refine .cons (fun E A => A.mv 21 22) ?_
        refine .cons (fun E A => A.y 22 (Step.fa (off := 3) (n := 1) (one := true) 0 23 (A.g 3 rfl))) ?_
        refine .cons (fun E A => A.y 22 (Step.load_box (c := cS q.f3) (t := 24) rfl rfl (by exact lt_ok rfl) (by kernel_rfl) (A.g 23 rfl) (by exact A.box rfl) rfl)) ?_
        refine .cons (fun E A => A.y 22 (Step.fa (off := 0) (n := 1) (one := true) 0 25 (A.g 2 rfl))) ?_
        refine .cons (fun E A => A.y 22 (Step.load_box (c := cI l.f0) (t := 26) rfl rfl (by exact lt_ok rfl) (by kernel_rfl) (A.g 25 rfl) (by exact A.box rfl) rfl)) ?_
        refine .cons (fun E A => A.y 22 (Step.tb 27 (bitsOk q.f3 l.f0) hb5 (Step.cd (xs := [.tmp 24, .tmp 26]) (ps := [(pS q.f3), (pI l.f0)]) (g := .func 150) false 27 (evs_cons (A.g 24 rfl) (evs_cons (A.g 26 rfl) (rfl))) (.cons (.one (.d _)) (.cons (.one (.d _)) .nil)) (ok_spec_BitsOk q.f3 l.f0 (by assumption) (by first | omega | assumption | (simp only [List.length_append] at *; omega))) (At.freshRows A rfl)))) ?_
        refine .cons (fun E A => OpStep.plain rfl (Step.pick (b := true) (p := (pB true)) (t := 28) rfl rfl (by exact lt_ok rfl) (A.g 22 rfl) (A.g 27 rfl))) ?_
        refine .cons (fun E A => A.mv 28 29) ?_
        refine .cons (fun E A => A.y 29 (Step.fa (off := 4) (n := 1) (one := true) 0 30 (A.g 3 rfl))) ?_
        refine .cons (fun E A => A.y 29 (Step.load_box (c := .d (.bss q.f4)) (t := 31) rfl rfl (by exact lt_ok rfl) (by kernel_rfl) (A.g 30 rfl) (by exact A.box rfl) rfl)) ?_
        refine .cons (fun E A => A.y 29 (Step.len (e := 22) (z := 1) (d := (.bss q.f4)) (t := 32) rfl rfl (by exact lt_ok rfl) (by kernel_rfl) (A.g 31 rfl) rfl)) ?_
        refine .cons (fun E A => A.y 29 (Step.fa (off := 3) (n := 1) (one := true) 0 33 (A.g 3 rfl))) ?_
        refine .cons (fun E A => A.y 29 (Step.load_box (c := cS q.f3) (t := 34) rfl rfl (by exact lt_ok rfl) (by kernel_rfl) (A.g 33 rfl) (by exact A.box rfl) rfl)) ?_
        refine .cons (fun E A => A.y 29 (Step.cd (xs := [.tmp 34]) (ps := [(pS q.f3)]) (g := .func 151) false 35 (evs_cons (A.g 34 rfl) (rfl)) (.cons (.one (.d _)) .nil) (ok_spec_BitsCount q.f3 (by first | assumption | exact fun x hx => by cases hx) (by first | omega | assumption | (simp only [List.length_append] at *; omega) | (simp; done))) (At.freshRows A rfl))) ?_
        refine .cons (fun E A => A.y 29 (Step.tb 36 (decide ((q.f4.length : Int) = ((bitList q.f3).length : Int))) hb7 (Step.bd 36 (A.g 32 rfl) (A.g 35 rfl) (Bin.eql (k := .i64) (a := (q.f4.length : Int)) (b := ((bitList q.f3).length : Int)))))) ?_
        refine .cons (fun E A => OpStep.plain rfl (Step.pick (b := true) (p := (pB true)) (t := 37) rfl rfl (by exact lt_ok rfl) (A.g 29 rfl) (A.g 36 rfl))) ?_
        refine .cons (fun E A => A.mv 37 38) ?_
        refine .cons (fun E A => A.y 38 (Step.fa (off := 4) (n := 1) (one := true) 0 39 (A.g 3 rfl))) ?_
        refine .cons (fun E A => A.y 38 (Step.load_box (c := .d (.bss q.f4)) (t := 40) rfl rfl (by exact lt_ok rfl) (by kernel_rfl) (A.g 39 rfl) (by exact A.box rfl) rfl)) ?_
        refine .cons (fun E A => A.y 38 (Step.cd (xs := [.tmp 40]) (ps := [(.one (.d (.bss q.f4)))]) (g := .func 152) false 41 (evs_cons (A.g 40 rfl) (rfl)) (.cons (.one (.d _)) .nil) (ok_spec_l08Hashes q.f4) (At.freshRows A rfl))) ?_
        refine .cons (fun E A => OpStep.plain rfl (Step.pick (b := true) (p := (pB (hashes q.f4))) (t := 42) rfl rfl (by exact lt_ok rfl) (A.g 38 rfl) (A.g 41 rfl))) ?_
        refine .cons (fun E A => A.as 42 4) ?_
        exact .nil _ _
       refine TL.nil ?_
       refine T.ret ?_
       refine ⟨[(false, [.d (.bool (hashes q.f4))])], (.cons rfl .nil), rfl, [], (RetC.rd' ?_ .nil)⟩ <;> (first | rfl | (congr 1; symm; simp only [qcOk, hashes, List.all_cons, List.all_nil, *, Bool.and_true, Bool.true_and, Bool.and_false, Bool.false_and, decide_true, decide_false, and_true, true_and, and_self, and_false, false_and, Bool.and_self, not_true, not_false, Bool.not_true, Bool.not_false, ge_iff_le, gt_iff_lt, if_true, if_false, Bool.false_eq_true, ite_true, ite_false, reduceIte]; done) | (congr 1; symm; simp_all [qcOk, hashes, List.all_cons, List.all_nil]; done) | (congr 1; symm; simp_all [qcOk, hashes, List.all_cons, List.all_nil]; omega))
      ·
       have nn9 := bitList_len q.f3
       refine T.draw [⟨5, (.agg [cI l.f0, cI l.f1, cI l.f2, cI l.f3, cI l.f4]), []⟩, ⟨6, (pB true), []⟩, ⟨7, (pB true), []⟩, ⟨8, (.one (.ptr 3 0)), []⟩, ⟨9, (pI q.f0), []⟩, ⟨10, (pB true), []⟩, ⟨11, (pB true), []⟩, ⟨12, (pB true), []⟩, ⟨13, (.one (.ptr 3 1)), []⟩, ⟨14, (pI q.f1), []⟩, ⟨15, (pB true), []⟩, ⟨16, (pB true), []⟩, ⟨17, (pB true), []⟩, ⟨18, (.one (.ptr 3 2)), []⟩, ⟨19, (pS q.f2), []⟩, ⟨20, (pB true), []⟩, ⟨21, (pB true), []⟩, ⟨22, (pB true), []⟩, ⟨23, (.one (.ptr 3 3)), []⟩, ⟨24, (pS q.f3), []⟩, ⟨25, (.one (.ptr 2 0)), []⟩, ⟨26, (pI l.f0), []⟩, ⟨27, (pB true), []⟩, ⟨28, (pB true), []⟩, ⟨29, (pB true), []⟩, ⟨30, (.one (.ptr 3 4)), []⟩, ⟨31, (.one (.d (.bss q.f4))), []⟩, ⟨32, (pI (q.f4.length : Int)), []⟩, ⟨33, (.one (.ptr 3 3)), []⟩, ⟨34, (pS q.f3), []⟩, ⟨35, (pI ((bitList q.f3).length : Int)), []⟩, ⟨36, (pB false), []⟩, ⟨37, (pB false), []⟩, ⟨38, (pB false), []⟩, ⟨39, (.tup []), []⟩, ⟨40, (.tup []), []⟩, ⟨41, (.tup []), []⟩, ⟨42, (pB false), []⟩, ⟨4, (pB false), []⟩] (by kernel_rfl) (by kernel_rfl) ?_ ?_
       ·
        refine .cons (fun E A => OpStep.plain rfl (Step.load_box_agg (n := 5) (qs := [cI l.f0, cI l.f1, cI l.f2, cI l.f3, cI l.f4]) (t := 5) rfl rfl (by exact lt_ok rfl) (by kernel_rfl) (A.g 2 rfl) (by exact A.box rfl) rfl rfl)) ?_
        refine .cons (fun E A => OpStep.plain rfl (Step.tb 6 (limOk l) hb1 (Step.cd (xs := [.tmp 5]) (ps := [(.agg [cI l.f0, cI l.f1, cI l.f2, cI l.f3, cI l.f4])]) (g := .func 94) false 6 (evs_cons (A.g 5 rfl) (rfl)) (.cons (.agg (.cons (.d _) (.cons (.d _) (.cons (.d _) (.cons (.d _) (.cons (.d _) .nil)))))) .nil) (ok_spec_LimitsOk l) (At.freshRows A rfl)))) ?_
        refine .cons (fun E A => A.mv 6 7) ?_
        refine .cons (fun E A => A.y 7 (Step.fa (off := 0) (n := 1) (one := true) 0 8 (A.g 3 rfl))) ?_
        refine .cons (fun E A => A.y 7 (Step.load_box (c := cI q.f0) (t := 9) rfl rfl (by exact lt_ok rfl) (by kernel_rfl) (A.g 8 rfl) (by exact A.box rfl) rfl)) ?_
        refine .cons (fun E A => A.y 7 (Step.tb 10 (decide (0 ≤ q.f0 ∧ q.f0 ≤ 1152921504606846975)) hb2 (Step.cd (xs := [.tmp 9]) (ps := [(pI q.f0)]) (g := .func 137) false 10 (evs_cons (A.g 9 rfl) (rfl)) (.cons (.one (.d _)) .nil) (ok_spec_l01Num q.f0) (At.freshRows A rfl)))) ?_
        refine .cons (fun E A => OpStep.plain rfl (Step.pick (b := true) (p := (pB true)) (t := 11) rfl rfl (by exact lt_ok rfl) (A.g 7 rfl) (A.g 10 rfl))) ?_
        refine .cons (fun E A => A.mv 11 12) ?_
        refine .cons (fun E A => A.y 12 (Step.fa (off := 1) (n := 1) (one := true) 0 13 (A.g 3 rfl))) ?_
        refine .cons (fun E A => A.y 12 (Step.load_box (c := cI q.f1) (t := 14) rfl rfl (by exact lt_ok rfl) (by kernel_rfl) (A.g 13 rfl) (by exact A.box rfl) rfl)) ?_
        refine .cons (fun E A => A.y 12 (Step.tb 15 (decide (0 ≤ q.f1 ∧ q.f1 ≤ 1152921504606846975)) hb3 (Step.cd (xs := [.tmp 14]) (ps := [(pI q.f1)]) (g := .func 137) false 15 (evs_cons (A.g 14 rfl) (rfl)) (.cons (.one (.d _)) .nil) (ok_spec_l01Num q.f1) (At.freshRows A rfl)))) ?_
        refine .cons (fun E A => OpStep.plain rfl (Step.pick (b := true) (p := (pB true)) (t := 16) rfl rfl (by exact lt_ok rfl) (A.g 12 rfl) (A.g 15 rfl))) ?_
        refine .cons (fun E A => A.mv 16 17) ?_
        refine .cons (fun E A => A.y 17 (Step.fa (off := 2) (n := 1) (one := true) 0 18 (A.g 3 rfl))) ?_
        refine .cons (fun E A => A.y 17 (Step.load_box (c := cS q.f2) (t := 19) rfl rfl (by exact lt_ok rfl) (by kernel_rfl) (A.g 18 rfl) (by exact A.box rfl) rfl)) ?_
        refine .cons (fun E A => A.y 17 (Step.tb 20 (decide ((q.f2.length : Int) = 32)) hb4 (Step.cd (xs := [.tmp 19]) (ps := [(pS q.f2)]) (g := .func 139) false 20 (evs_cons (A.g 19 rfl) (rfl)) (.cons (.one (.d _)) .nil) (ok_spec_l07Hash q.f2) (At.freshRows A rfl)))) ?_
        refine .cons (fun E A => OpStep.plain rfl (Step.pick (b := true) (p := (pB true)) (t := 21) rfl rfl (by exact lt_ok rfl) (A.g 17 rfl) (A.g 20 rfl))) ?_
        refine .cons (fun E A => A.mv 21 22) ?_
        refine .cons (fun E A => A.y 22 (Step.fa (off := 3) (n := 1) (one := true) 0 23 (A.g 3 rfl))) ?_
        refine .cons (fun E A => A.y 22 (Step.load_box (c := cS q.f3) (t := 24) rfl rfl (by exact lt_ok rfl) (by kernel_rfl) (A.g 23 rfl) (by exact A.box rfl) rfl)) ?_
        refine .cons (fun E A => A.y 22 (Step.fa (off := 0) (n := 1) (one := true) 0 25 (A.g 2 rfl))) ?_
        refine .cons (fun E A => A.y 22 (Step.load_box (c := cI l.f0) (t := 26) rfl rfl (by exact lt_ok rfl) (by kernel_rfl) (A.g 25 rfl) (by exact A.box rfl) rfl)) ?_
        refine .cons (fun E A => A.y 22 (Step.tb 27 (bitsOk q.f3 l.f0) hb5 (Step.cd (xs := [.tmp 24, .tmp 26]) (ps := [(pS q.f3), (pI l.f0)]) (g := .func 150) false 27 (evs_cons (A.g 24 rfl) (evs_cons (A.g 26 rfl) (rfl))) (.cons (.one (.d _)) (.cons (.one (.d _)) .nil)) (ok_spec_BitsOk q.f3 l.f0 (by assumption) (by first | omega | assumption | (simp only [List.length_append] at *; omega))) (At.freshRows A rfl)))) ?_
        refine .cons (fun E A => OpStep.plain rfl (Step.pick (b := true) (p := (pB true)) (t := 28) rfl rfl (by exact lt_ok rfl) (A.g 22 rfl) (A.g 27 rfl))) ?_
        refine .cons (fun E A => A.mv 28 29) ?_
        refine .cons (fun E A => A.y 29 (Step.fa (off := 4) (n := 1) (one := true) 0 30 (A.g 3 rfl))) ?_
        refine .cons (fun E A => A.y 29 (Step.load_box (c := .d (.bss q.f4)) (t := 31) rfl rfl (by exact lt_ok rfl) (by kernel_rfl) (A.g 30 rfl) (by exact A.box rfl) rfl)) ?_
        refine .cons (fun E A => A.y 29 (Step.len (e := 22) (z := 1) (d := (.bss q.f4)) (t := 32) rfl rfl (by exact lt_ok rfl) (by kernel_rfl) (A.g 31 rfl) rfl)) ?_
        refine .cons (fun E A => A.y 29 (Step.fa (off := 3) (n := 1) (one := true) 0 33 (A.g 3 rfl))) ?_
        refine .cons (fun E A => A.y 29 (Step.load_box (c := cS q.f3) (t := 34) rfl rfl (by exact lt_ok rfl) (by kernel_rfl) (A.g 33 rfl) (by exact A.box rfl) rfl)) ?_
        refine .cons (fun E A => A.y 29 (Step.cd (xs := [.tmp 34]) (ps := [(pS q.f3)]) (g := .func 151) false 35 (evs_cons (A.g 34 rfl) (rfl)) (.cons (.one (.d _)) .nil) (ok_spec_BitsCount q.f3 (by first | assumption | exact fun x hx => by cases hx) (by first | omega | assumption | (simp only [List.length_append] at *; omega) | (simp; done))) (At.freshRows A rfl))) ?_
        refine .cons (fun E A => A.y 29 (Step.tb 36 (decide ((q.f4.length : Int) = ((bitList q.f3).length : Int))) hb7 (Step.bd 36 (A.g 32 rfl) (A.g 35 rfl) (Bin.eql (k := .i64) (a := (q.f4.length : Int)) (b := ((bitList q.f3).length : Int)))))) ?_
        refine .cons (fun E A => OpStep.plain rfl (Step.pick (b := true) (p := (pB false)) (t := 37) rfl rfl (by exact lt_ok rfl) (A.g 29 rfl) (A.g 36 rfl))) ?_
        refine .cons (fun E A => A.mv 37 38) ?_
        refine .cons (fun E A => A.of 38) ?_
        refine .cons (fun E A => A.of 38) ?_
        refine .cons (fun E A => A.of 38) ?_
        refine .cons (fun E A => OpStep.plain rfl (Step.pick (b := false) (p := (pB false)) (t := 42) rfl rfl (by exact lt_ok rfl) (A.g 38 rfl) rfl)) ?_
        refine .cons (fun E A => A.as 42 4) ?_
        exact .nil _ _
       refine TL.nil ?_
       refine T.ret ?_
       refine ⟨[(false, [.d (.bool false)])], (.cons rfl .nil), rfl, [], (RetC.rd' ?_ .nil)⟩ <;> (first | rfl | (congr 1; symm; simp only [qcOk, hashes, List.all_cons, List.all_nil, *, Bool.and_true, Bool.true_and, Bool.and_false, Bool.false_and, decide_true, decide_false, and_true, true_and, and_self, and_false, false_and, Bool.and_self, not_true, not_false, Bool.not_true, Bool.not_false, ge_iff_le, gt_iff_lt, if_true, if_false, Bool.false_eq_true, ite_true, ite_false, reduceIte]; done) | (congr 1; symm; simp_all [qcOk, hashes, List.all_cons, List.all_nil]; done) | (congr 1; symm; simp_all [qcOk, hashes, List.all_cons, List.all_nil]; omega))
     ·
      refine T.draw [⟨5, (.agg [cI l.f0, cI l.f1, cI l.f2, cI l.f3, cI l.f4]), []⟩, ⟨6, (pB true), []⟩, ⟨7, (pB true), []⟩, ⟨8, (.one (.ptr 3 0)), []⟩, ⟨9, (pI q.f0), []⟩, ⟨10, (pB true), []⟩, ⟨11, (pB true), []⟩, ⟨12, (pB true), []⟩, ⟨13, (.one (.ptr 3 1)), []⟩, ⟨14, (pI q.f1), []⟩, ⟨15, (pB true), []⟩, ⟨16, (pB true), []⟩, ⟨17, (pB true), []⟩, ⟨18, (.one (.ptr 3 2)), []⟩, ⟨19, (pS q.f2), []⟩, ⟨20, (pB true), []⟩, ⟨21, (pB true), []⟩, ⟨22, (pB true), []⟩, ⟨23, (.one (.ptr 3 3)), []⟩, ⟨24, (pS q.f3), []⟩, ⟨25, (.one (.ptr 2 0)), []⟩, ⟨26, (pI l.f0), []⟩, ⟨27, (pB false), []⟩, ⟨28, (pB false), []⟩, ⟨29, (pB false), []⟩, ⟨30, (.tup []), []⟩, ⟨31, (.tup []), []⟩, ⟨32, (.tup []), []⟩, ⟨33, (.tup []), []⟩, ⟨34, (.tup []), []⟩, ⟨35, (.tup []), []⟩, ⟨36, (.tup []), []⟩, ⟨37, (pB false), []⟩, ⟨38, (pB false), []⟩, ⟨39, (.tup []), []⟩, ⟨40, (.tup []), []⟩, ⟨41, (.tup []), []⟩, ⟨42, (pB false), []⟩, ⟨4, (pB false), []⟩] (by kernel_rfl) (by kernel_rfl) ?_ ?_
      ·
       refine .cons (fun E A => OpStep.plain rfl (Step.load_box_agg (n := 5) (qs := [cI l.f0, cI l.f1, cI l.f2, cI l.f3, cI l.f4]) (t := 5) rfl rfl (by exact lt_ok rfl) (by kernel_rfl) (A.g 2 rfl) (by exact A.box rfl) rfl rfl)) ?_
       refine .cons (fun E A => OpStep.plain rfl (Step.tb 6 (limOk l) hb1 (Step.cd (xs := [.tmp 5]) (ps := [(.agg [cI l.f0, cI l.f1, cI l.f2, cI l.f3, cI l.f4])]) (g := .func 94) false 6 (evs_cons (A.g 5 rfl) (rfl)) (.cons (.agg (.cons (.d _) (.cons (.d _) (.cons (.d _) (.cons (.d _) (.cons (.d _) .nil)))))) .nil) (ok_spec_LimitsOk l) (At.freshRows A rfl)))) ?_
       refine .cons (fun E A => A.mv 6 7) ?_
       refine .cons (fun E A => A.y 7 (Step.fa (off := 0) (n := 1) (one := true) 0 8 (A.g 3 rfl))) ?_
       refine .cons (fun E A => A.y 7 (Step.load_box (c := cI q.f0) (t := 9) rfl rfl (by exact lt_ok rfl) (by kernel_rfl) (A.g 8 rfl) (by exact A.box rfl) rfl)) ?_
       refine .cons (fun E A => A.y 7 (Step.tb 10 (decide (0 ≤ q.f0 ∧ q.f0 ≤ 1152921504606846975)) hb2 (Step.cd (xs := [.tmp 9]) (ps := [(pI q.f0)]) (g := .func 137) false 10 (evs_cons (A.g 9 rfl) (rfl)) (.cons (.one (.d _)) .nil) (ok_spec_l01Num q.f0) (At.freshRows A rfl)))) ?_
       refine .cons (fun E A => OpStep.plain rfl (Step.pick (b := true) (p := (pB true)) (t := 11) rfl rfl (by exact lt_ok rfl) (A.g 7 rfl) (A.g 10 rfl))) ?_
       refine .cons (fun E A => A.mv 11 12) ?_
       refine .cons (fun E A => A.y 12 (Step.fa (off := 1) (n := 1) (one := true) 0 13 (A.g 3 rfl))) ?_
       refine .cons (fun E A => A.y 12 (Step.load_box (c := cI q.f1) (t := 14) rfl rfl (by exact lt_ok rfl) (by kernel_rfl) (A.g 13 rfl) (by exact A.box rfl) rfl)) ?_
       refine .cons (fun E A => A.y 12 (Step.tb 15 (decide (0 ≤ q.f1 ∧ q.f1 ≤ 1152921504606846975)) hb3 (Step.cd (xs := [.tmp 14]) (ps := [(pI q.f1)]) (g := .func 137) false 15 (evs_cons (A.g 14 rfl) (rfl)) (.cons (.one (.d _)) .nil) (ok_spec_l01Num q.f1) (At.freshRows A rfl)))) ?_
       refine .cons (fun E A => OpStep.plain rfl (Step.pick (b := true) (p := (pB true)) (t := 16) rfl rfl (by exact lt_ok rfl) (A.g 12 rfl) (A.g 15 rfl))) ?_
       refine .cons (fun E A => A.mv 16 17) ?_
       refine .cons (fun E A => A.y 17 (Step.fa (off := 2) (n := 1) (one := true) 0 18 (A.g 3 rfl))) ?_
       refine .cons (fun E A => A.y 17 (Step.load_box (c := cS q.f2) (t := 19) rfl rfl (by exact lt_ok rfl) (by kernel_rfl) (A.g 18 rfl) (by exact A.box rfl) rfl)) ?_
       refine .cons (fun E A => A.y 17 (Step.tb 20 (decide ((q.f2.length : Int) = 32)) hb4 (Step.cd (xs := [.tmp 19]) (ps := [(pS q.f2)]) (g := .func 139) false 20 (evs_cons (A.g 19 rfl) (rfl)) (.cons (.one (.d _)) .nil) (ok_spec_l07Hash q.f2) (At.freshRows A rfl)))) ?_
       refine .cons (fun E A => OpStep.plain rfl (Step.pick (b := true) (p := (pB true)) (t := 21) rfl rfl (by exact lt_ok rfl) (A.g 17 rfl) (A.g 20 rfl))) ?_
       refine .cons (fun E A => A.mv 21 22) ?_
       refine .cons (fun E A => A.y 22 (Step.fa (off := 3) (n := 1) (one := true) 0 23 (A.g 3 rfl))) ?_
       refine .cons (fun E A => A.y 22 (Step.load_box (c := cS q.f3) (t := 24) rfl rfl (by exact lt_ok rfl) (by kernel_rfl) (A.g 23 rfl) (by exact A.box rfl) rfl)) ?_
       refine .cons (fun E A => A.y 22 (Step.fa (off := 0) (n := 1) (one := true) 0 25 (A.g 2 rfl))) ?_
       refine .cons (fun E A => A.y 22 (Step.load_box (c := cI l.f0) (t := 26) rfl rfl (by exact lt_ok rfl) (by kernel_rfl) (A.g 25 rfl) (by exact A.box rfl) rfl)) ?_
       refine .cons (fun E A => A.y 22 (Step.tb 27 (bitsOk q.f3 l.f0) hb5 (Step.cd (xs := [.tmp 24, .tmp 26]) (ps := [(pS q.f3), (pI l.f0)]) (g := .func 150) false 27 (evs_cons (A.g 24 rfl) (evs_cons (A.g 26 rfl) (rfl))) (.cons (.one (.d _)) (.cons (.one (.d _)) .nil)) (ok_spec_BitsOk q.f3 l.f0 (by assumption) (by first | omega | assumption | (simp only [List.length_append] at *; omega))) (At.freshRows A rfl)))) ?_
       refine .cons (fun E A => OpStep.plain rfl (Step.pick (b := true) (p := (pB false)) (t := 28) rfl rfl (by exact lt_ok rfl) (A.g 22 rfl) (A.g 27 rfl))) ?_
       refine .cons (fun E A => A.mv 28 29) ?_
       refine .cons (fun E A => A.of 29) ?_
       refine .cons (fun E A => A.of 29) ?_
       refine .cons (fun E A => A.of 29) ?_
       refine .cons (fun E A => A.of 29) ?_
       refine .cons (fun E A => A.of 29) ?_
       refine .cons (fun E A => A.of 29) ?_
       refine .cons (fun E A => A.of 29) ?_
       refine .cons (fun E A => OpStep.plain rfl (Step.pick (b := false) (p := (pB false)) (t := 37) rfl rfl (by exact lt_ok rfl) (A.g 29 rfl) rfl)) ?_
       refine .cons (fun E A => A.mv 37 38) ?_
       refine .cons (fun E A => A.of 38) ?_
       refine .cons (fun E A => A.of 38) ?_
       refine .cons (fun E A => A.of 38) ?_
       refine .cons (fun E A => OpStep.plain rfl (Step.pick (b := false) (p := (pB false)) (t := 42) rfl rfl (by exact lt_ok rfl) (A.g 38 rfl) rfl)) ?_
       refine .cons (fun E A => A.as 42 4) ?_
       exact .nil _ _
      refine TL.nil ?_
      refine T.ret ?_
      refine ⟨[(false, [.d (.bool false)])], (.cons rfl .nil), rfl, [], (RetC.rd' ?_ .nil)⟩ <;> (first | rfl | (congr 1; symm; simp only [qcOk, hashes, List.all_cons, List.all_nil, *, Bool.and_true, Bool.true_and, Bool.and_false, Bool.false_and, decide_true, decide_false, and_true, true_and, and_self, and_false, false_and, Bool.and_self, not_true, not_false, Bool.not_true, Bool.not_false, ge_iff_le, gt_iff_lt, if_true, if_false, Bool.false_eq_true, ite_true, ite_false, reduceIte]; done) | (congr 1; symm; simp_all [qcOk, hashes, List.all_cons, List.all_nil]; done) | (congr 1; symm; simp_all [qcOk, hashes, List.all_cons, List.all_nil]; omega))
    ·
     refine T.draw [⟨5, (.agg [cI l.f0, cI l.f1, cI l.f2, cI l.f3, cI l.f4]), []⟩, ⟨6, (pB true), []⟩, ⟨7, (pB true), []⟩, ⟨8, (.one (.ptr 3 0)), []⟩, ⟨9, (pI q.f0), []⟩, ⟨10, (pB true), []⟩, ⟨11, (pB true), []⟩, ⟨12, (pB true), []⟩, ⟨13, (.one (.ptr 3 1)), []⟩, ⟨14, (pI q.f1), []⟩, ⟨15, (pB true), []⟩, ⟨16, (pB true), []⟩, ⟨17, (pB true), []⟩, ⟨18, (.one (.ptr 3 2)), []⟩, ⟨19, (pS q.f2), []⟩, ⟨20, (pB false), []⟩, ⟨21, (pB false), []⟩, ⟨22, (pB false), []⟩, ⟨23, (.tup []), []⟩, ⟨24, (.tup []), []⟩, ⟨25, (.tup []), []⟩, ⟨26, (.tup []), []⟩, ⟨27, (.tup []), []⟩, ⟨28, (pB false), []⟩, ⟨29, (pB false), []⟩, ⟨30, (.tup []), []⟩, ⟨31, (.tup []), []⟩, ⟨32, (.tup []), []⟩, ⟨33, (.tup []), []⟩, ⟨34, (.tup []), []⟩, ⟨35, (.tup []), []⟩, ⟨36, (.tup []), []⟩, ⟨37, (pB false), []⟩, ⟨38, (pB false), []⟩, ⟨39, (.tup []), []⟩, ⟨40, (.tup []), []⟩, ⟨41, (.tup []), []⟩, ⟨42, (pB false), []⟩, ⟨4, (pB false), []⟩] (by kernel_rfl) (by kernel_rfl) ?_ ?_
     ·
      refine .cons (fun E A => OpStep.plain rfl (Step.load_box_agg (n := 5) (qs := [cI l.f0, cI l.f1, cI l.f2, cI l.f3, cI l.f4]) (t := 5) rfl rfl (by exact lt_ok rfl) (by kernel_rfl) (A.g 2 rfl) (by exact A.box rfl) rfl rfl)) ?_
      refine .cons (fun E A => OpStep.plain rfl (Step.tb 6 (limOk l) hb1 (Step.cd (xs := [.tmp 5]) (ps := [(.agg [cI l.f0, cI l.f1, cI l.f2, cI l.f3, cI l.f4])]) (g := .func 94) false 6 (evs_cons (A.g 5 rfl) (rfl)) (.cons (.agg (.cons (.d _) (.cons (.d _) (.cons (.d _) (.cons (.d _) (.cons (.d _) .nil)))))) .nil) (ok_spec_LimitsOk l) (At.freshRows A rfl)))) ?_
      refine .cons (fun E A => A.mv 6 7) ?_
      refine .cons (fun E A => A.y 7 (Step.fa (off := 0) (n := 1) (one := true) 0 8 (A.g 3 rfl))) ?_
      refine .cons (fun E A => A.y 7 (Step.load_box (c := cI q.f0) (t := 9) rfl rfl (by exact lt_ok rfl) (by kernel_rfl) (A.g 8 rfl) (by exact A.box rfl) rfl)) ?_
      refine .cons (fun E A => A.y 7 (Step.tb 10 (decide (0 ≤ q.f0 ∧ q.f0 ≤ 1152921504606846975)) hb2 (Step.cd (xs := [.tmp 9]) (ps := [(pI q.f0)]) (g := .func 137) false 10 (evs_cons (A.g 9 rfl) (rfl)) (.cons (.one (.d _)) .nil) (ok_spec_l01Num q.f0) (At.freshRows A rfl)))) ?_
      refine .cons (fun E A => OpStep.plain rfl (Step.pick (b := true) (p := (pB true)) (t := 11) rfl rfl (by exact lt_ok rfl) (A.g 7 rfl) (A.g 10 rfl))) ?_
      refine .cons (fun E A => A.mv 11 12) ?_
      refine .cons (fun E A => A.y 12 (Step.fa (off := 1) (n := 1) (one := true) 0 13 (A.g 3 rfl))) ?_
      refine .cons (fun E A => A.y 12 (Step.load_box (c := cI q.f1) (t := 14) rfl rfl (by exact lt_ok rfl) (by kernel_rfl) (A.g 13 rfl) (by exact A.box rfl) rfl)) ?_
      refine .cons (fun E A => A.y 12 (Step.tb 15 (decide (0 ≤ q.f1 ∧ q.f1 ≤ 1152921504606846975)) hb3 (Step.cd (xs := [.tmp 14]) (ps := [(pI q.f1)]) (g := .func 137) false 15 (evs_cons (A.g 14 rfl) (rfl)) (.cons (.one (.d _)) .nil) (ok_spec_l01Num q.f1) (At.freshRows A rfl)))) ?_
      refine .cons (fun E A => OpStep.plain rfl (Step.pick (b := true) (p := (pB true)) (t := 16) rfl rfl (by exact lt_ok rfl) (A.g 12 rfl) (A.g 15 rfl))) ?_
      refine .cons (fun E A => A.mv 16 17) ?_
      refine .cons (fun E A => A.y 17 (Step.fa (off := 2) (n := 1) (one := true) 0 18 (A.g 3 rfl))) ?_
      refine .cons (fun E A => A.y 17 (Step.load_box (c := cS q.f2) (t := 19) rfl rfl (by exact lt_ok rfl) (by kernel_rfl) (A.g 18 rfl) (by exact A.box rfl) rfl)) ?_
      refine .cons (fun E A => A.y 17 (Step.tb 20 (decide ((q.f2.length : Int) = 32)) hb4 (Step.cd (xs := [.tmp 19]) (ps := [(pS q.f2)]) (g := .func 139) false 20 (evs_cons (A.g 19 rfl) (rfl)) (.cons (.one (.d _)) .nil) (ok_spec_l07Hash q.f2) (At.freshRows A rfl)))) ?_
      refine .cons (fun E A => OpStep.plain rfl (Step.pick (b := true) (p := (pB false)) (t := 21) rfl rfl (by exact lt_ok rfl) (A.g 17 rfl) (A.g 20 rfl))) ?_
      refine .cons (fun E A => A.mv 21 22) ?_
      refine .cons (fun E A => A.of 22) ?_
      refine .cons (fun E A => A.of 22) ?_
      refine .cons (fun E A => A.of 22) ?_
      refine .cons (fun E A => A.of 22) ?_
      refine .cons (fun E A => A.of 22) ?_
      refine .cons (fun E A => OpStep.plain rfl (Step.pick (b := false) (p := (pB false)) (t := 28) rfl rfl (by exact lt_ok rfl) (A.g 22 rfl) rfl)) ?_
      refine .cons (fun E A => A.mv 28 29) ?_
      refine .cons (fun E A => A.of 29) ?_
      refine .cons (fun E A => A.of 29) ?_
      refine .cons (fun E A => A.of 29) ?_
      refine .cons (fun E A => A.of 29) ?_
      refine .cons (fun E A => A.of 29) ?_
      refine .cons (fun E A => A.of 29) ?_
      refine .cons (fun E A => A.of 29) ?_
      refine .cons (fun E A => OpStep.plain rfl (Step.pick (b := false) (p := (pB false)) (t := 37) rfl rfl (by exact lt_ok rfl) (A.g 29 rfl) rfl)) ?_
      refine .cons (fun E A => A.mv 37 38) ?_
      refine .cons (fun E A => A.of 38) ?_
      refine .cons (fun E A => A.of 38) ?_
      refine .cons (fun E A => A.of 38) ?_
      refine .cons (fun E A => OpStep.plain rfl (Step.pick (b := false) (p := (pB false)) (t := 42) rfl rfl (by exact lt_ok rfl) (A.g 38 rfl) rfl)) ?_
      refine .cons (fun E A => A.as 42 4) ?_
      exact .nil _ _
     refine TL.nil ?_
     refine T.ret ?_
     refine ⟨[(false, [.d (.bool false)])], (.cons rfl .nil), rfl, [], (RetC.rd' ?_ .nil)⟩ <;> (first | rfl | (congr 1; symm; simp only [qcOk, hashes, List.all_cons, List.all_nil, *, Bool.and_true, Bool.true_and, Bool.and_false, Bool.false_and, decide_true, decide_false, and_true, true_and, and_self, and_false, false_and, Bool.and_self, not_true, not_false, Bool.not_true, Bool.not_false, ge_iff_le, gt_iff_lt, if_true, if_false, Bool.false_eq_true, ite_true, ite_false, reduceIte]; done) | (congr 1; symm; simp_all [qcOk, hashes, List.all_cons, List.all_nil]; done) | (congr 1; symm; simp_all [qcOk, hashes, List.all_cons, List.all_nil]; omega))
   ·
    refine T.draw [⟨5, (.agg [cI l.f0, cI l.f1, cI l.f2, cI l.f3, cI l.f4]), []⟩, ⟨6, (pB true), []⟩, ⟨7, (pB true), []⟩, ⟨8, (.one (.ptr 3 0)), []⟩, ⟨9, (pI q.f0), []⟩, ⟨10, (pB true), []⟩, ⟨11, (pB true), []⟩, ⟨12, (pB true), []⟩, ⟨13, (.one (.ptr 3 1)), []⟩, ⟨14, (pI q.f1), []⟩, ⟨15, (pB false), []⟩, ⟨16, (pB false), []⟩, ⟨17, (pB false), []⟩, ⟨18, (.tup []), []⟩, ⟨19, (.tup []), []⟩, ⟨20, (.tup []), []⟩, ⟨21, (pB false), []⟩, ⟨22, (pB false), []⟩, ⟨23, (.tup []), []⟩, ⟨24, (.tup []), []⟩, ⟨25, (.tup []), []⟩, ⟨26, (.tup []), []⟩, ⟨27, (.tup []), []⟩, ⟨28, (pB false), []⟩, ⟨29, (pB false), []⟩, ⟨30, (.tup []), []⟩, ⟨31, (.tup []), []⟩, ⟨32, (.tup []), []⟩, ⟨33, (.tup []), []⟩, ⟨34, (.tup []), []⟩, ⟨35, (.tup []), []⟩, ⟨36, (.tup []), []⟩, ⟨37, (pB false), []⟩, ⟨38, (pB false), []⟩, ⟨39, (.tup []), []⟩, ⟨40, (.tup []), []⟩, ⟨41, (.tup []), []⟩, ⟨42, (pB false), []⟩, ⟨4, (pB false), []⟩] (by kernel_rfl) (by kernel_rfl) ?_ ?_
    ·
     refine .cons (fun E A => OpStep.plain rfl (Step.load_box_agg (n := 5) (qs := [cI l.f0, cI l.f1, cI l.f2, cI l.f3, cI l.f4]) (t := 5) rfl rfl (by exact lt_ok rfl) (by kernel_rfl) (A.g 2 rfl) (by exact A.box rfl) rfl rfl)) ?_
     refine .cons (fun E A => OpStep.plain rfl (Step.tb 6 (limOk l) hb1 (Step.cd (xs := [.tmp 5]) (ps := [(.agg [cI l.f0, cI l.f1, cI l.f2, cI l.f3, cI l.f4])]) (g := .func 94) false 6 (evs_cons (A.g 5 rfl) (rfl)) (.cons (.agg (.cons (.d _) (.cons (.d _) (.cons (.d _) (.cons (.d _) (.cons (.d _) .nil)))))) .nil) (ok_spec_LimitsOk l) (At.freshRows A rfl)))) ?_
     refine .cons (fun E A => A.mv 6 7) ?_
     refine .cons (fun E A => A.y 7 (Step.fa (off := 0) (n := 1) (one := true) 0 8 (A.g 3 rfl))) ?_
     refine .cons (fun E A => A.y 7 (Step.load_box (c := cI q.f0) (t := 9) rfl rfl (by exact lt_ok rfl) (by kernel_rfl) (A.g 8 rfl) (by exact A.box rfl) rfl)) ?_
     refine .cons (fun E A => A.y 7 (Step.tb 10 (decide (0 ≤ q.f0 ∧ q.f0 ≤ 1152921504606846975)) hb2 (Step.cd (xs := [.tmp 9]) (ps := [(pI q.f0)]) (g := .func 137) false 10 (evs_cons (A.g 9 rfl) (rfl)) (.cons (.one (.d _)) .nil) (ok_spec_l01Num q.f0) (At.freshRows A rfl)))) ?_
     refine .cons (fun E A => OpStep.plain rfl (Step.pick (b := true) (p := (pB true)) (t := 11) rfl rfl (by exact lt_ok rfl) (A.g 7 rfl) (A.g 10 rfl))) ?_
     refine .cons (fun E A => A.mv 11 12) ?_
     refine .cons (fun E A => A.y 12 (Step.fa (off := 1) (n := 1) (one := true) 0 13 (A.g 3 rfl))) ?_
     refine .cons (fun E A => A.y 12 (Step.load_box (c := cI q.f1) (t := 14) rfl rfl (by exact lt_ok rfl) (by kernel_rfl) (A.g 13 rfl) (by exact A.box rfl) rfl)) ?_
     refine .cons (fun E A => A.y 12 (Step.tb 15 (decide (0 ≤ q.f1 ∧ q.f1 ≤ 1152921504606846975)) hb3 (Step.cd (xs := [.tmp 14]) (ps := [(pI q.f1)]) (g := .func 137) false 15 (evs_cons (A.g 14 rfl) (rfl)) (.cons (.one (.d _)) .nil) (ok_spec_l01Num q.f1) (At.freshRows A rfl)))) ?_
     refine .cons (fun E A => OpStep.plain rfl (Step.pick (b := true) (p := (pB false)) (t := 16) rfl rfl (by exact lt_ok rfl) (A.g 12 rfl) (A.g 15 rfl))) ?_
     refine .cons (fun E A => A.mv 16 17) ?_
     refine .cons (fun E A => A.of 17) ?_
     refine .cons (fun E A => A.of 17) ?_
     refine .cons (fun E A => A.of 17) ?_
     refine .cons (fun E A => OpStep.plain rfl (Step.pick (b := false) (p := (pB false)) (t := 21) rfl rfl (by exact lt_ok rfl) (A.g 17 rfl) rfl)) ?_
     refine .cons (fun E A => A.mv 21 22) ?_
     refine .cons (fun E A => A.of 22) ?_
     refine .cons (fun E A => A.of 22) ?_
     refine .cons (fun E A => A.of 22) ?_
     refine .cons (fun E A => A.of 22) ?_
     refine .cons (fun E A => A.of 22) ?_
     refine .cons (fun E A => OpStep.plain rfl (Step.pick (b := false) (p := (pB false)) (t := 28) rfl rfl (by exact lt_ok rfl) (A.g 22 rfl) rfl)) ?_
     refine .cons (fun E A => A.mv 28 29) ?_
     refine .cons (fun E A => A.of 29) ?_
     refine .cons (fun E A => A.of 29) ?_
     refine .cons (fun E A => A.of 29) ?_
     refine .cons (fun E A => A.of 29) ?_
     refine .cons (fun E A => A.of 29) ?_
     refine .cons (fun E A => A.of 29) ?_
     refine .cons (fun E A => A.of 29) ?_
     refine .cons (fun E A => OpStep.plain rfl (Step.pick (b := false) (p := (pB false)) (t := 37) rfl rfl (by exact lt_ok rfl) (A.g 29 rfl) rfl)) ?_
     refine .cons (fun E A => A.mv 37 38) ?_
     refine .cons (fun E A => A.of 38) ?_
     refine .cons (fun E A => A.of 38) ?_
     refine .cons (fun E A => A.of 38) ?_
     refine .cons (fun E A => OpStep.plain rfl (Step.pick (b := false) (p := (pB false)) (t := 42) rfl rfl (by exact lt_ok rfl) (A.g 38 rfl) rfl)) ?_
     refine .cons (fun E A => A.as 42 4) ?_
     exact .nil _ _
    refine TL.nil ?_
    refine T.ret ?_
    refine ⟨[(false, [.d (.bool false)])], (.cons rfl .nil), rfl, [], (RetC.rd' ?_ .nil)⟩ <;> (first | rfl | (congr 1; symm; simp only [qcOk, hashes, List.all_cons, List.all_nil, *, Bool.and_true, Bool.true_and, Bool.and_false, Bool.false_and, decide_true, decide_false, and_true, true_and, and_self, and_false, false_and, Bool.and_self, not_true, not_false, Bool.not_true, Bool.not_false, ge_iff_le, gt_iff_lt, if_true, if_false, Bool.false_eq_true, ite_true, ite_false, reduceIte]; done) | (congr 1; symm; simp_all [qcOk, hashes, List.all_cons, List.all_nil]; done) | (congr 1; symm; simp_all [qcOk, hashes, List.all_cons, List.all_nil]; omega))
  ·
   refine T.draw [⟨5, (.agg [cI l.f0, cI l.f1, cI l.f2, cI l.f3, cI l.f4]), []⟩, ⟨6, (pB true), []⟩, ⟨7, (pB true), []⟩, ⟨8, (.one (.ptr 3 0)), []⟩, ⟨9, (pI q.f0), []⟩, ⟨10, (pB false), []⟩, ⟨11, (pB false), []⟩, ⟨12, (pB false), []⟩, ⟨13, (.tup []), []⟩, ⟨14, (.tup []), []⟩, ⟨15, (.tup []), []⟩, ⟨16, (pB false), []⟩, ⟨17, (pB false), []⟩, ⟨18, (.tup []), []⟩, ⟨19, (.tup []), []⟩, ⟨20, (.tup []), []⟩, ⟨21, (pB false), []⟩, ⟨22, (pB false), []⟩, ⟨23, (.tup []), []⟩, ⟨24, (.tup []), []⟩, ⟨25, (.tup []), []⟩, ⟨26, (.tup []), []⟩, ⟨27, (.tup []), []⟩, ⟨28, (pB false), []⟩, ⟨29, (pB false), []⟩, ⟨30, (.tup []), []⟩, ⟨31, (.tup []), []⟩, ⟨32, (.tup []), []⟩, ⟨33, (.tup []), []⟩, ⟨34, (.tup []), []⟩, ⟨35, (.tup []), []⟩, ⟨36, (.tup []), []⟩, ⟨37, (pB false), []⟩, ⟨38, (pB false), []⟩, ⟨39, (.tup []), []⟩, ⟨40, (.tup []), []⟩, ⟨41, (.tup []), []⟩, ⟨42, (pB false), []⟩, ⟨4, (pB false), []⟩] (by kernel_rfl) (by kernel_rfl) ?_ ?_
   ·
    refine .cons (fun E A => OpStep.plain rfl (Step.load_box_agg (n := 5) (qs := [cI l.f0, cI l.f1, cI l.f2, cI l.f3, cI l.f4]) (t := 5) rfl rfl (by exact lt_ok rfl) (by kernel_rfl) (A.g 2 rfl) (by exact A.box rfl) rfl rfl)) ?_
    refine .cons (fun E A => OpStep.plain rfl (Step.tb 6 (limOk l) hb1 (Step.cd (xs := [.tmp 5]) (ps := [(.agg [cI l.f0, cI l.f1, cI l.f2, cI l.f3, cI l.f4])]) (g := .func 94) false 6 (evs_cons (A.g 5 rfl) (rfl)) (.cons (.agg (.cons (.d _) (.cons (.d _) (.cons (.d _) (.cons (.d _) (.cons (.d _) .nil)))))) .nil) (ok_spec_LimitsOk l) (At.freshRows A rfl)))) ?_
    refine .cons (fun E A => A.mv 6 7) ?_
    refine .cons (fun E A => A.y 7 (Step.fa (off := 0) (n := 1) (one := true) 0 8 (A.g 3 rfl))) ?_
    refine .cons (fun E A => A.y 7 (Step.load_box (c := cI q.f0) (t := 9) rfl rfl (by exact lt_ok rfl) (by kernel_rfl) (A.g 8 rfl) (by exact A.box rfl) rfl)) ?_
    refine .cons (fun E A => A.y 7 (Step.tb 10 (decide (0 ≤ q.f0 ∧ q.f0 ≤ 1152921504606846975)) hb2 (Step.cd (xs := [.tmp 9]) (ps := [(pI q.f0)]) (g := .func 137) false 10 (evs_cons (A.g 9 rfl) (rfl)) (.cons (.one (.d _)) .nil) (ok_spec_l01Num q.f0) (At.freshRows A rfl)))) ?_
    refine .cons (fun E A => OpStep.plain rfl (Step.pick (b := true) (p := (pB false)) (t := 11) rfl rfl (by exact lt_ok rfl) (A.g 7 rfl) (A.g 10 rfl))) ?_
    refine .cons (fun E A => A.mv 11 12) ?_
    refine .cons (fun E A => A.of 12) ?_
    refine .cons (fun E A => A.of 12) ?_
    refine .cons (fun E A => A.of 12) ?_
    refine .cons (fun E A => OpStep.plain rfl (Step.pick (b := false) (p := (pB false)) (t := 16) rfl rfl (by exact lt_ok rfl) (A.g 12 rfl) rfl)) ?_
    refine .cons (fun E A => A.mv 16 17) ?_
    refine .cons (fun E A => A.of 17) ?_
    refine .cons (fun E A => A.of 17) ?_
    refine .cons (fun E A => A.of 17) ?_
    refine .cons (fun E A => OpStep.plain rfl (Step.pick (b := false) (p := (pB false)) (t := 21) rfl rfl (by exact lt_ok rfl) (A.g 17 rfl) rfl)) ?_
    refine .cons (fun E A => A.mv 21 22) ?_
    refine .cons (fun E A => A.of 22) ?_
    refine .cons (fun E A => A.of 22) ?_
    refine .cons (fun E A => A.of 22) ?_
    refine .cons (fun E A => A.of 22) ?_
    refine .cons (fun E A => A.of 22) ?_
    refine .cons (fun E A => OpStep.plain rfl (Step.pick (b := false) (p := (pB false)) (t := 28) rfl rfl (by exact lt_ok rfl) (A.g 22 rfl) rfl)) ?_
    refine .cons (fun E A => A.mv 28 29) ?_
    refine .cons (fun E A => A.of 29) ?_
    refine .cons (fun E A => A.of 29) ?_
    refine .cons (fun E A => A.of 29) ?_
    refine .cons (fun E A => A.of 29) ?_
    refine .cons (fun E A => A.of 29) ?_
    refine .cons (fun E A => A.of 29) ?_
    refine .cons (fun E A => A.of 29) ?_
    refine .cons (fun E A => OpStep.plain rfl (Step.pick (b := false) (p := (pB false)) (t := 37) rfl rfl (by exact lt_ok rfl) (A.g 29 rfl) rfl)) ?_
    refine .cons (fun E A => A.mv 37 38) ?_
    refine .cons (fun E A => A.of 38) ?_
    refine .cons (fun E A => A.of 38) ?_
    refine .cons (fun E A => A.of 38) ?_
    refine .cons (fun E A => OpStep.plain rfl (Step.pick (b := false) (p := (pB false)) (t := 42) rfl rfl (by exact lt_ok rfl) (A.g 38 rfl) rfl)) ?_
    refine .cons (fun E A => A.as 42 4) ?_
    exact .nil _ _
   refine TL.nil ?_
   refine T.ret ?_
   refine ⟨[(false, [.d (.bool false)])], (.cons rfl .nil), rfl, [], (RetC.rd' ?_ .nil)⟩ <;> (first | rfl | (congr 1; symm; simp only [qcOk, hashes, List.all_cons, List.all_nil, *, Bool.and_true, Bool.true_and, Bool.and_false, Bool.false_and, decide_true, decide_false, and_true, true_and, and_self, and_false, false_and, Bool.and_self, not_true, not_false, Bool.not_true, Bool.not_false, ge_iff_le, gt_iff_lt, if_true, if_false, Bool.false_eq_true, ite_true, ite_false, reduceIte]; done) | (congr 1; symm; simp_all [qcOk, hashes, List.all_cons, List.all_nil]; done) | (congr 1; symm; simp_all [qcOk, hashes, List.all_cons, List.all_nil]; omega))
 ·
  refine T.draw [⟨5, (.agg [cI l.f0, cI l.f1, cI l.f2, cI l.f3, cI l.f4]), []⟩, ⟨6, (pB false), []⟩, ⟨7, (pB false), []⟩, ⟨8, (.tup []), []⟩, ⟨9, (.tup []), []⟩, ⟨10, (.tup []), []⟩, ⟨11, (pB false), []⟩, ⟨12, (pB false), []⟩, ⟨13, (.tup []), []⟩, ⟨14, (.tup []), []⟩, ⟨15, (.tup []), []⟩, ⟨16, (pB false), []⟩, ⟨17, (pB false), []⟩, ⟨18, (.tup []), []⟩, ⟨19, (.tup []), []⟩, ⟨20, (.tup []), []⟩, ⟨21, (pB false), []⟩, ⟨22, (pB false), []⟩, ⟨23, (.tup []), []⟩, ⟨24, (.tup []), []⟩, ⟨25, (.tup []), []⟩, ⟨26, (.tup []), []⟩, ⟨27, (.tup []), []⟩, ⟨28, (pB false), []⟩, ⟨29, (pB false), []⟩, ⟨30, (.tup []), []⟩, ⟨31, (.tup []), []⟩, ⟨32, (.tup []), []⟩, ⟨33, (.tup []), []⟩, ⟨34, (.tup []), []⟩, ⟨35, (.tup []), []⟩, ⟨36, (.tup []), []⟩, ⟨37, (pB false), []⟩, ⟨38, (pB false), []⟩, ⟨39, (.tup []), []⟩, ⟨40, (.tup []), []⟩, ⟨41, (.tup []), []⟩, ⟨42, (pB false), []⟩, ⟨4, (pB false), []⟩] (by kernel_rfl) (by kernel_rfl) ?_ ?_
  ·
   refine .cons (fun E A => OpStep.plain rfl (Step.load_box_agg (n := 5) (qs := [cI l.f0, cI l.f1, cI l.f2, cI l.f3, cI l.f4]) (t := 5) rfl rfl (by exact lt_ok rfl) (by kernel_rfl) (A.g 2 rfl) (by exact A.box rfl) rfl rfl)) ?_
   refine .cons (fun E A => OpStep.plain rfl (Step.tb 6 (limOk l) hb1 (Step.cd (xs := [.tmp 5]) (ps := [(.agg [cI l.f0, cI l.f1, cI l.f2, cI l.f3, cI l.f4])]) (g := .func 94) false 6 (evs_cons (A.g 5 rfl) (rfl)) (.cons (.agg (.cons (.d _) (.cons (.d _) (.cons (.d _) (.cons (.d _) (.cons (.d _) .nil)))))) .nil) (ok_spec_LimitsOk l) (At.freshRows A rfl)))) ?_
   refine .cons (fun E A => A.mv 6 7) ?_
   refine .cons (fun E A => A.of 7) ?_
   refine .cons (fun E A => A.of 7) ?_
   refine .cons (fun E A => A.of 7) ?_
   refine .cons (fun E A => OpStep.plain rfl (Step.pick (b := false) (p := (pB false)) (t := 11) rfl rfl (by exact lt_ok rfl) (A.g 7 rfl) rfl)) ?_
   refine .cons (fun E A => A.mv 11 12) ?_
   refine .cons (fun E A => A.of 12) ?_
   refine .cons (fun E A => A.of 12) ?_
   refine .cons (fun E A => A.of 12) ?_
   refine .cons (fun E A => OpStep.plain rfl (Step.pick (b := false) (p := (pB false)) (t := 16) rfl rfl (by exact lt_ok rfl) (A.g 12 rfl) rfl)) ?_
   refine .cons (fun E A => A.mv 16 17) ?_
   refine .cons (fun E A => A.of 17) ?_
   refine .cons (fun E A => A.of 17) ?_
   refine .cons (fun E A => A.of 17) ?_
   refine .cons (fun E A => OpStep.plain rfl (Step.pick (b := false) (p := (pB false)) (t := 21) rfl rfl (by exact lt_ok rfl) (A.g 17 rfl) rfl)) ?_
   refine .cons (fun E A => A.mv 21 22) ?_
   refine .cons (fun E A => A.of 22) ?_
   refine .cons (fun E A => A.of 22) ?_
   refine .cons (fun E A => A.of 22) ?_
   refine .cons (fun E A => A.of 22) ?_
   refine .cons (fun E A => A.of 22) ?_
   refine .cons (fun E A => OpStep.plain rfl (Step.pick (b := false) (p := (pB false)) (t := 28) rfl rfl (by exact lt_ok rfl) (A.g 22 rfl) rfl)) ?_
   refine .cons (fun E A => A.mv 28 29) ?_
   refine .cons (fun E A => A.of 29) ?_
   refine .cons (fun E A => A.of 29) ?_
   refine .cons (fun E A => A.of 29) ?_
   refine .cons (fun E A => A.of 29) ?_
   refine .cons (fun E A => A.of 29) ?_
   refine .cons (fun E A => A.of 29) ?_
   refine .cons (fun E A => A.of 29) ?_
   refine .cons (fun E A => OpStep.plain rfl (Step.pick (b := false) (p := (pB false)) (t := 37) rfl rfl (by exact lt_ok rfl) (A.g 29 rfl) rfl)) ?_
   refine .cons (fun E A => A.mv 37 38) ?_
   refine .cons (fun E A => A.of 38) ?_
   refine .cons (fun E A => A.of 38) ?_
   refine .cons (fun E A => A.of 38) ?_
   refine .cons (fun E A => OpStep.plain rfl (Step.pick (b := false) (p := (pB false)) (t := 42) rfl rfl (by exact lt_ok rfl) (A.g 38 rfl) rfl)) ?_
   refine .cons (fun E A => A.as 42 4) ?_
   exact .nil _ _
  refine TL.nil ?_
  refine T.ret ?_
  refine ⟨[(false, [.d (.bool false)])], (.cons rfl .nil), rfl, [], (RetC.rd' ?_ .nil)⟩ <;> (first | rfl | (congr 1; symm; simp only [qcOk, hashes, List.all_cons, List.all_nil, *, Bool.and_true, Bool.true_and, Bool.and_false, Bool.false_and, decide_true, decide_false, and_true, true_and, and_self, and_false, false_and, Bool.and_self, not_true, not_false, Bool.not_true, Bool.not_false, ge_iff_le, gt_iff_lt, if_true, if_false, Bool.false_eq_true, ite_true, ite_false, reduceIte]; done) | (congr 1; symm; simp_all [qcOk, hashes, List.all_cons, List.all_nil]; done) | (congr 1; symm; simp_all [qcOk, hashes, List.all_cons, List.all_nil]; omega))
theorem ok_spec_SameBytes (a : List Int) (b : List Int) (h0_ : U8s a) (h1_ : U8s b) : RO Try.prog 153 [.one (.ints .u8 a), .one (.ints .u8 b)] [(false, [.rd (.bool (decide (a = b)))])] := by
 refine RO.intro Try.func153 rfl 10 rfl (le_ok rfl) fun w Z => ?_
 refine T.bnd 0 0 rfl rfl fun hb_0_0 => ?_
 simp only [D.size, List.length_map] at hb_0_0
 refine T.bnd 1 0 rfl rfl fun hb_1_0 => ?_
 simp only [D.size, List.length_map] at hb_1_0
 refine T.seq ?_
 refine T.region ?_
 refine TL.as (pB false) ?_
 refine TL.nil ?_
 refine T.seq ?_
 refine T.region ?_
 refine TL.mv (pS a) ?_
 refine TL.c (Step.toStr (e := 5) (xs := a) rfl rfl (lt_ok rfl) (by kernel_rfl) (by kernel_rfl) (by kernel_rfl) rfl rfl) ?_
 refine TL.mv (pS b) ?_
 refine TL.c (Step.toStr (e := 5) (xs := b) rfl rfl (lt_ok rfl) (by kernel_rfl) (by kernel_rfl) (by kernel_rfl) rfl rfl) ?_
 refine TL.c (Step.bin rfl rfl (lt_ok rfl) rfl rfl Bin.streq) ?_
 refine TL.as (pB ((strOfNums a).toList == (strOfNums b).toList)) ?_
 refine TL.nil ?_
 refine T.ret ?_
 refine ⟨[(false, [.d (.bool ((strOfNums a).toList == (strOfNums b).toList))])], (.cons rfl .nil), rfl, [], (RetC.rd' ?_ .nil)⟩ <;> (exact congrArg D.bool (str_eq h0_ h1_))
theorem ok_spec_VoteSame (a : SVote) (b : SVote) (h0_ : a.ok) (h1_ : b.ok) : RO Try.prog 96 [.agg a.cells, .agg b.cells] [(false, [.rd (.bool (decide (a = b)))])] := by
 refine RO.intro Try.func96 rfl 38 rfl (le_ok rfl) fun w Z => ?_
 obtain ⟨k0_0, k0_1, k0_2, k0_3, k0_4⟩ := h0_
 obtain ⟨k1_0, k1_1, k1_2, k1_3, k1_4⟩ := h1_
 refine T.seq ?_
 refine T.region ?_
 refine TL.c (Step.box (p := (.agg [cI a.f0, cI a.f1, cS a.f2, cI a.f3, cS a.f4])) (ps := [cI a.f0, cI a.f1, cS a.f2, cI a.f3, cS a.f4]) rfl rfl (lt_ok rfl) rfl rfl rfl rfl rfl) ?_
 refine TL.c (Step.box (p := (.agg [cI b.f0, cI b.f1, cS b.f2, cI b.f3, cS b.f4])) (ps := [cI b.f0, cI b.f1, cS b.f2, cI b.f3, cS b.f4]) rfl rfl (lt_ok rfl) rfl rfl rfl rfl rfl) ?_
 refine TL.as (pB false) ?_
 refine TL.nil ?_
 refine T.seq ?_
 refine T.region ?_
 refine TL.c (Step.fieldAddr (q := 0) (off := 0) (n := 1) (one := true) rfl rfl (lt_ok rfl) (by kernel_rfl) (Nat.succ_ne_zero _) rfl) ?_
 refine TL.c (Step.load_box (c := cI a.f0) rfl rfl (lt_ok rfl) (by kernel_rfl) rfl rfl rfl) ?_
 refine TL.c (Step.fieldAddr (q := 0) (off := 0) (n := 1) (one := true) rfl rfl (lt_ok rfl) (by kernel_rfl) (Nat.succ_ne_zero _) rfl) ?_
 refine TL.c (Step.load_box (c := cI b.f0) rfl rfl (lt_ok rfl) (by kernel_rfl) rfl rfl rfl) ?_
 refine TL.c (Step.bin rfl rfl (lt_ok rfl) rfl rfl (Bin.eql (k := .i64) (a := a.f0) (b := b.f0))) ?_
 refine TL.mv (pB (decide (a.f0 = b.f0))) ?_
 rcases Bool.eq_false_or_eq_true (decide (a.f0 = b.f0)) with hb1 | hb1
 ·
  refine TL.known 10 hb1 rfl ?_
  refine TL.gy 10 (Step.fieldAddr (q := 0) (off := 1) (n := 1) (one := true) rfl rfl (lt_ok rfl) (by kernel_rfl) (Nat.succ_ne_zero _) rfl) ?_
  refine TL.gy 10 (Step.load_box (c := cI a.f1) rfl rfl (lt_ok rfl) (by kernel_rfl) rfl rfl rfl) ?_
  refine TL.gy 10 (Step.fieldAddr (q := 0) (off := 1) (n := 1) (one := true) rfl rfl (lt_ok rfl) (by kernel_rfl) (Nat.succ_ne_zero _) rfl) ?_
  refine TL.gy 10 (Step.load_box (c := cI b.f1) rfl rfl (lt_ok rfl) (by kernel_rfl) rfl rfl rfl) ?_
  refine TL.gy 10 (Step.bin rfl rfl (lt_ok rfl) rfl rfl (Bin.eql (k := .i64) (a := a.f1) (b := b.f1))) ?_
  refine TL.pk true (pB (decide (a.f1 = b.f1))) ?_
  refine TL.mv (pB (decide (a.f1 = b.f1))) ?_
  rcases Bool.eq_false_or_eq_true (decide (a.f1 = b.f1)) with hb2 | hb2
  ·
   refine TL.known 17 hb2 rfl ?_
   refine TL.gy 17 (Step.fieldAddr (q := 0) (off := 2) (n := 1) (one := true) rfl rfl (lt_ok rfl) (by kernel_rfl) (Nat.succ_ne_zero _) rfl) ?_
   refine TL.gy 17 (Step.load_box (c := cS a.f2) rfl rfl (lt_ok rfl) (by kernel_rfl) rfl rfl rfl) ?_
   refine TL.gy 17 (Step.fieldAddr (q := 0) (off := 2) (n := 1) (one := true) rfl rfl (lt_ok rfl) (by kernel_rfl) (Nat.succ_ne_zero _) rfl) ?_
   refine TL.gy 17 (Step.load_box (c := cS b.f2) rfl rfl (lt_ok rfl) (by kernel_rfl) rfl rfl rfl) ?_
   refine TL.gy 17 (Step.cl (xs := [.tmp 19, .tmp 21]) (ps := [(pS a.f2), (pS b.f2)]) (g := .func 153) false (.cons (.one (.d _)) (.cons (.one (.d _)) .nil)) (ok_spec_SameBytes a.f2 b.f2 (by first | assumption | exact mem_getD h0_ (by omega) | exact mem_getD h1_ (by omega) | exact m0_ (by omega) | exact m1_ (by omega) | exact (m0_ (by omega)).2.2 | exact (m1_ (by omega)).2.2) (by first | assumption | exact mem_getD h0_ (by omega) | exact mem_getD h1_ (by omega) | exact m0_ (by omega) | exact m1_ (by omega) | exact (m0_ (by omega)).2.2 | exact (m1_ (by omega)).2.2))) ?_
   refine TL.pk true (pB (decide (a.f2 = b.f2))) ?_
   refine TL.mv (pB (decide (a.f2 = b.f2))) ?_
   rcases Bool.eq_false_or_eq_true (decide (a.f2 = b.f2)) with hb3 | hb3
   ·
    refine TL.known 24 hb3 rfl ?_
    refine TL.gy 24 (Step.fieldAddr (q := 0) (off := 3) (n := 1) (one := true) rfl rfl (lt_ok rfl) (by kernel_rfl) (Nat.succ_ne_zero _) rfl) ?_
    refine TL.gy 24 (Step.load_box (c := cI a.f3) rfl rfl (lt_ok rfl) (by kernel_rfl) rfl rfl rfl) ?_
    refine TL.gy 24 (Step.fieldAddr (q := 0) (off := 3) (n := 1) (one := true) rfl rfl (lt_ok rfl) (by kernel_rfl) (Nat.succ_ne_zero _) rfl) ?_
    refine TL.gy 24 (Step.load_box (c := cI b.f3) rfl rfl (lt_ok rfl) (by kernel_rfl) rfl rfl rfl) ?_
    refine TL.gy 24 (Step.bin rfl rfl (lt_ok rfl) rfl rfl (Bin.eql (k := .i64) (a := a.f3) (b := b.f3))) ?_
    refine TL.pk true (pB (decide (a.f3 = b.f3))) ?_
    refine TL.mv (pB (decide (a.f3 = b.f3))) ?_
    rcases Bool.eq_false_or_eq_true (decide (a.f3 = b.f3)) with hb4 | hb4
    ·
     refine TL.known 31 hb4 rfl ?_
     refine TL.gy 31 (Step.fieldAddr (q := 0) (off := 4) (n := 1) (one := true) rfl rfl (lt_ok rfl) (by kernel_rfl) (Nat.succ_ne_zero _) rfl) ?_
     refine TL.gy 31 (Step.load_box (c := cS a.f4) rfl rfl (lt_ok rfl) (by kernel_rfl) rfl rfl rfl) ?_
     refine TL.gy 31 (Step.fieldAddr (q := 0) (off := 4) (n := 1) (one := true) rfl rfl (lt_ok rfl) (by kernel_rfl) (Nat.succ_ne_zero _) rfl) ?_
     refine TL.gy 31 (Step.load_box (c := cS b.f4) rfl rfl (lt_ok rfl) (by kernel_rfl) rfl rfl rfl) ?_
     refine TL.gy 31 (Step.cl (xs := [.tmp 33, .tmp 35]) (ps := [(pS a.f4), (pS b.f4)]) (g := .func 153) false (.cons (.one (.d _)) (.cons (.one (.d _)) .nil)) (ok_spec_SameBytes a.f4 b.f4 (by first | assumption | exact mem_getD h0_ (by omega) | exact mem_getD h1_ (by omega) | exact m0_ (by omega) | exact m1_ (by omega) | exact (m0_ (by omega)).2.2 | exact (m1_ (by omega)).2.2) (by first | assumption | exact mem_getD h0_ (by omega) | exact mem_getD h1_ (by omega) | exact m0_ (by omega) | exact m1_ (by omega) | exact (m0_ (by omega)).2.2 | exact (m1_ (by omega)).2.2))) ?_
     refine TL.pk true (pB (decide (a.f4 = b.f4))) ?_
     refine TL.as (pB (decide (a.f4 = b.f4))) ?_
     refine TL.nil ?_
     refine T.ret ?_
     refine ⟨[(false, [.d (.bool (decide (a.f4 = b.f4)))])], (.cons rfl .nil), rfl, [], (RetC.rd' ?_ .nil)⟩ <;> ((congr 1; symm; first | (apply decide_eq_false; rintro rfl; first | exact absurd rfl ‹¬ _ = _› | exact absurd rfl (of_decide_eq_false (by assumption)) | contradiction | simp_all) | (apply decide_eq_true; apply SVote.ext <;> first | assumption | exact of_decide_eq_true (by assumption) | exact Decidable.not_not.1 (by assumption) | exact take_all hx2 (by omega) hx3 | simp_all) | (apply decide_eq_decide.2; constructor; (rintro rfl; rfl); intro h_; apply SVote.ext <;> first | assumption | exact of_decide_eq_true (by assumption) | exact Decidable.not_not.1 (by assumption) | exact take_all hx2 (by omega) hx3 | simp_all)))
    ·
     refine TL.known 31 hb4 rfl ?_
     refine TL.gf 31 ?_
     refine TL.gf 31 ?_
     refine TL.gf 31 ?_
     refine TL.gf 31 ?_
     refine TL.gf 31 ?_
     refine TL.pk false (pB false) ?_
     refine TL.as (pB false) ?_
     refine TL.nil ?_
     refine T.ret ?_
     refine ⟨[(false, [.d (.bool false)])], (.cons rfl .nil), rfl, [], (RetC.rd' ?_ .nil)⟩ <;> ((congr 1; symm; first | (apply decide_eq_false; rintro rfl; first | exact absurd rfl ‹¬ _ = _› | exact absurd rfl (of_decide_eq_false (by assumption)) | contradiction | simp_all) | (apply decide_eq_true; apply SVote.ext <;> first | assumption | exact of_decide_eq_true (by assumption) | exact Decidable.not_not.1 (by assumption) | exact take_all hx2 (by omega) hx3 | simp_all) | (apply decide_eq_decide.2; constructor; (rintro rfl; rfl); intro h_; apply SVote.ext <;> first | assumption | exact of_decide_eq_true (by assumption) | exact Decidable.not_not.1 (by assumption) | exact take_all hx2 (by omega) hx3 | simp_all)))
   ·
    refine TL.known 24 hb3 rfl ?_
    refine TL.gf 24 ?_
    refine TL.gf 24 ?_
    refine TL.gf 24 ?_
    refine TL.gf 24 ?_
    refine TL.gf 24 ?_
    refine TL.pk false (pB false) ?_
    refine TL.mv (pB false) ?_
    refine TL.gf 31 ?_
    refine TL.gf 31 ?_
    refine TL.gf 31 ?_
    refine TL.gf 31 ?_
    refine TL.gf 31 ?_
    refine TL.pk false (pB false) ?_
    refine TL.as (pB false) ?_
    refine TL.nil ?_
    refine T.ret ?_
    refine ⟨[(false, [.d (.bool false)])], (.cons rfl .nil), rfl, [], (RetC.rd' ?_ .nil)⟩ <;> ((congr 1; symm; first | (apply decide_eq_false; rintro rfl; first | exact absurd rfl ‹¬ _ = _› | exact absurd rfl (of_decide_eq_false (by assumption)) | contradiction | simp_all) | (apply decide_eq_true; apply SVote.ext <;> first | assumption | exact of_decide_eq_true (by assumption) | exact Decidable.not_not.1 (by assumption) | exact take_all hx2 (by omega) hx3 | simp_all) | (apply decide_eq_decide.2; constructor; (rintro rfl; rfl); intro h_; apply SVote.ext <;> first | assumption | exact of_decide_eq_true (by assumption) | exact Decidable.not_not.1 (by assumption) | exact take_all hx2 (by omega) hx3 | simp_all)))
  ·
   refine TL.known 17 hb2 rfl ?_
   refine TL.gf 17 ?_
   refine TL.gf 17 ?_
   refine TL.gf 17 ?_
   refine TL.gf 17 ?_
   refine TL.gf 17 ?_
   refine TL.pk false (pB false) ?_
   refine TL.mv (pB false) ?_
   refine TL.gf 24 ?_
   refine TL.gf 24 ?_
   refine TL.gf 24 ?_
   refine TL.gf 24 ?_
   refine TL.gf 24 ?_
   refine TL.pk false (pB false) ?_
   refine TL.mv (pB false) ?_
   refine TL.gf 31 ?_
   refine TL.gf 31 ?_
   refine TL.gf 31 ?_
   refine TL.gf 31 ?_
   refine TL.gf 31 ?_
   refine TL.pk false (pB false) ?_
   refine TL.as (pB false) ?_
   refine TL.nil ?_
   refine T.ret ?_
   refine ⟨[(false, [.d (.bool false)])], (.cons rfl .nil), rfl, [], (RetC.rd' ?_ .nil)⟩ <;> ((congr 1; symm; first | (apply decide_eq_false; rintro rfl; first | exact absurd rfl ‹¬ _ = _› | exact absurd rfl (of_decide_eq_false (by assumption)) | contradiction | simp_all) | (apply decide_eq_true; apply SVote.ext <;> first | assumption | exact of_decide_eq_true (by assumption) | exact Decidable.not_not.1 (by assumption) | exact take_all hx2 (by omega) hx3 | simp_all) | (apply decide_eq_decide.2; constructor; (rintro rfl; rfl); intro h_; apply SVote.ext <;> first | assumption | exact of_decide_eq_true (by assumption) | exact Decidable.not_not.1 (by assumption) | exact take_all hx2 (by omega) hx3 | simp_all)))
 ·
  refine TL.known 10 hb1 rfl ?_
  refine TL.gf 10 ?_
  refine TL.gf 10 ?_
  refine TL.gf 10 ?_
  refine TL.gf 10 ?_
  refine TL.gf 10 ?_
  refine TL.pk false (pB false) ?_
  refine TL.mv (pB false) ?_
  refine TL.gf 17 ?_
  refine TL.gf 17 ?_
  refine TL.gf 17 ?_
  refine TL.gf 17 ?_
  refine TL.gf 17 ?_
  refine TL.pk false (pB false) ?_
  refine TL.mv (pB false) ?_
  refine TL.gf 24 ?_
  refine TL.gf 24 ?_
  refine TL.gf 24 ?_
  refine TL.gf 24 ?_
  refine TL.gf 24 ?_
  refine TL.pk false (pB false) ?_
  refine TL.mv (pB false) ?_
  refine TL.gf 31 ?_
  refine TL.gf 31 ?_
  refine TL.gf 31 ?_
  refine TL.gf 31 ?_
  refine TL.gf 31 ?_
  refine TL.pk false (pB false) ?_
  refine TL.as (pB false) ?_
  refine TL.nil ?_
  refine T.ret ?_
  refine ⟨[(false, [.d (.bool false)])], (.cons rfl .nil), rfl, [], (RetC.rd' ?_ .nil)⟩ <;> ((congr 1; symm; first | (apply decide_eq_false; rintro rfl; first | exact absurd rfl ‹¬ _ = _› | exact absurd rfl (of_decide_eq_false (by assumption)) | contradiction | simp_all) | (apply decide_eq_true; apply SVote.ext <;> first | assumption | exact of_decide_eq_true (by assumption) | exact Decidable.not_not.1 (by assumption) | exact take_all hx2 (by omega) hx3 | simp_all) | (apply decide_eq_decide.2; constructor; (rintro rfl; rfl); intro h_; apply SVote.ext <;> first | assumption | exact of_decide_eq_true (by assumption) | exact Decidable.not_not.1 (by assumption) | exact take_all hx2 (by omega) hx3 | simp_all)))
end Go.Proofs.Ythaagegnobegjaa.Rf
