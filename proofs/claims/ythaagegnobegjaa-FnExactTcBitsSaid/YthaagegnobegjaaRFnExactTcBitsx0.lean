/- The functions that FnExactTcBits calls, each held to what it answers. Printed by a program of this session; Lean checks it. -/
import Derived.Test.YthaagegnobegjaaProg
import Derived.Test.YthaagegnobegjaaTrFnExactTcBitsb
namespace Go.Proofs.Ythaagegnobegjaa.Rf
open Go.RowKit
set_option linter.unusedVariables false
set_option linter.unnecessarySimpa false
set_option linter.unusedSimpArgs false
set_option maxRecDepth 100000
set_option maxHeartbeats 800000
@[ext] structure SEntry where
  f0 : Int
  f1 : Int
  f2 : List Int
  deriving Inhabited, DecidableEq
def SEntry.cells (x : SEntry) : List D := [(.int .i64 x.f0), (.int .i64 x.f1), (.ints .u8 x.f2)]
theorem SEntry.len (x : SEntry) : x.cells.length = 3 := rfl
def SEntry.sz (x : SEntry) (l : Int) : Int := szThen (szB x.f2 l) fun l0 => l0
def SEntry.sm (x : SEntry) : Prop := (x.f2.length ≤ 1048576)
def SEntry.ok (x : SEntry) : Prop := (I64 x.f0) ∧ (I64 x.f1) ∧ (U8s x.f2)
theorem SEntry.sz_le (x : SEntry) {l : Int} (h : 0 ≤ l) : x.sz l ≤ l := by
  unfold SEntry.sz
  exact szThen_le' (szB_le _ h) h fun l0 h0 => Int.le_refl _
theorem SEntry.sz_sm (x : SEntry) {l : Int} (h0 : 0 ≤ l) (hl : l ≤ 1048576) (h : 0 ≤ x.sz l) : x.sm := by
  unfold SEntry.sz at h
  have ⟨p0, h⟩ := szThen_nn h
  have e0 : (szB x.f2 l) ≤ l := szB_le _ h0
  have s0 := szB_sm p0 hl
  have c0 := Int.le_trans e0 hl
  exact s0
def SEntry.ce (x : SEntry) : Int := 1 + 1 + (x.f2.length : Int)
def SEntry.me (x : SEntry) (k : Int) : SEntry := ⟨k, k + 1, mkB x.f2 ((k + 1) + 1)⟩
theorem SEntry.ce_nn (x : SEntry) : 0 ≤ x.ce := by
  unfold SEntry.ce
  omega
theorem SEntry.ce_le {x : SEntry} (h : x.sm) : x.ce ≤ 1048578 := by
  unfold SEntry.ce
  have p2 : x.f2.length ≤ 1048576 := h
  have e2 := p2
  omega
theorem SEntry.cL_le {xs : List SEntry} (h : xs.length ≤ 1048576 ∧ ∀ y ∈ xs, SEntry.sm y) : cntL SEntry.ce xs ≤ 1099513724928 := by
  have h1 := cntL_le (cnt := SEntry.ce) (n := 1048578) xs fun x hx => SEntry.ce_le (h.2 x hx)
  have h2 := h.1
  omega
@[ext] structure STc where
  f0 : Int
  f1 : List SEntry
  deriving Inhabited, DecidableEq
def STc.cells (x : STc) : List D := [(.int .i64 x.f0), (.sl 3 (x.f1.map SEntry.cells))]
def STc.sz (x : STc) (l : Int) : Int := szThen (szLs SEntry.sz x.f1 l) fun l0 => l0
def STc.sm (x : STc) : Prop := (x.f1.length ≤ 1048576 ∧ ∀ y ∈ x.f1, SEntry.sm y)
def STc.ok (x : STc) : Prop := (I64 x.f0) ∧ (∀ y ∈ x.f1, SEntry.ok y)
theorem STc.sz_le (x : STc) {l : Int} (h : 0 ≤ l) : x.sz l ≤ l := by
  unfold STc.sz
  exact szThen_le' (szLs_le (fun x l h => SEntry.sz_le x h) _ h) h fun l0 h0 => Int.le_refl _
theorem STc.sz_sm (x : STc) {l : Int} (h0 : 0 ≤ l) (hl : l ≤ 1048576) (h : 0 ≤ x.sz l) : x.sm := by
  unfold STc.sz at h
  have ⟨p0, h⟩ := szThen_nn h
  have e0 : (szLs SEntry.sz x.f1 l) ≤ l := szLs_le (fun x l h => SEntry.sz_le x h) _ h0
  have s0 := szLs_sm (p := SEntry.sm) (fun x l h => SEntry.sz_le x h) (fun x l h h0 hl => SEntry.sz_sm x h0 hl h) p0 hl
  have c0 := Int.le_trans e0 hl
  exact s0
def STc.cm (x : STc) : Int := cntL SEntry.ce x.f1
theorem STc.cm_nn (x : STc) : 0 ≤ x.cm := by
  unfold STc.cm
  have n1 := cntL_nonneg SEntry.ce_nn x.f1
  omega
theorem STc.cm_le {x : STc} (h : x.sm) : x.cm ≤ 1099513724928 := by
  unfold STc.cm
  have p1 : x.f1.length ≤ 1048576 ∧ ∀ y ∈ x.f1, SEntry.sm y := h
  have e1 := SEntry.cL_le p1
  omega
@[ext] structure SLimits where
  f0 : Int
  f1 : Int
  f2 : Int
  f3 : Int
  f4 : Int
  deriving Inhabited, DecidableEq
def SLimits.cells (x : SLimits) : List D := [(.int .i64 x.f0), (.int .i64 x.f1), (.int .i64 x.f2), (.int .i64 x.f3), (.int .i64 x.f4)]
def SLimits.ok (x : SLimits) : Prop := (I64 x.f0) ∧ (I64 x.f1) ∧ (I64 x.f2) ∧ (I64 x.f3) ∧ (I64 x.f4)
def limOk (l : SLimits) : Bool := decide (1 ≤ l.f0 ∧ l.f0 ≤ 10) && decide (0 ≤ l.f1 ∧ l.f1 ≤ 40) && decide (0 ≤ l.f2 ∧ l.f2 ≤ 8) && decide (1 ≤ l.f3 ∧ l.f3 ≤ 4000) && decide (3 ≤ l.f4 ∧ l.f4 ≤ 5)
def hashes (l : List (List Int)) : Bool := l.all fun x => decide ((x.length : Int) = 32)
theorem hashes_step {l : List (List Int)} {i : Nat} (hi : i < l.length) (h : hashes (l.take i) = true) (hx : ((l.getD i []).length : Int) = 32) : hashes (l.take (i + 1)) = true := by
  rw [take_succ' (df := []) hi]; simp only [hashes, List.all_append, List.all_cons, List.all_nil, Bool.and_true, Bool.and_eq_true] at h ⊢; exact ⟨h, decide_eq_true hx⟩
theorem hashes_no {l : List (List Int)} {i : Nat} (hi : i < l.length) (hx : ¬ ((l.getD i []).length : Int) = 32) : hashes l = false := by
  cases h : hashes l with
  | false => rfl
  | true =>
    rw [hashes, List.all_eq_true] at h
    have := h (l.getD i []) (by rw [List.getD_eq_getElem?_getD, List.getElem?_eq_getElem hi]; exact List.getElem_mem hi)
    exact absurd (of_decide_eq_true this) hx
def tcEnt (l : SLimits) (t : STc) (i : Nat) : Bool := decide (0 ≤ (t.f1.getD i default).f0 ∧ (t.f1.getD i default).f0 ≤ IntKind.i64.wrap (l.f0 - 1)) && (decide ((i : Int) ≤ 0) || decide ((t.f1.getD ((i : Int) - 1).toNat default).f0 < (t.f1.getD i default).f0)) && decide (0 ≤ (t.f1.getD i default).f1 ∧ (t.f1.getD i default).f1 ≤ IntKind.i64.wrap (t.f0 - 1)) && decide (((t.f1.getD i default).f2.length : Int) = 32)
def tcAll (l : SLimits) (t : STc) (n : Nat) : Bool := (List.range n).all (tcEnt l t)
def tcOk (l : SLimits) (t : STc) : Bool := limOk l && decide (0 ≤ t.f0 ∧ t.f0 ≤ 1152921504606846975) && decide ((t.f1.length : Int) ≤ l.f0) && tcAll l t t.f1.length
theorem tcAll_succ (l : SLimits) (t : STc) (n : Nat) : tcAll l t (n + 1) = (tcAll l t n && tcEnt l t n) := by simp [tcAll, List.range_succ]
theorem tcAll_no {l : SLimits} {t : STc} {i n : Nat} (hi : i < n) (h : tcEnt l t i = false) : tcAll l t n = false := by
  cases hq : tcAll l t n with
  | false => rfl
  | true =>
    rw [tcAll, List.all_eq_true] at hq
    have := hq i (List.mem_range.2 hi)
    rw [h] at this; cases this
theorem tcOk_no {l : SLimits} {t : STc} {i : Nat} (hi : i < t.f1.length) (h : tcEnt l t i = false) : tcOk l t = false := by unfold tcOk; rw [tcAll_no hi h]; simp
theorem tcEnt_no {l : SLimits} {t : STc} {i : Nat} (h : ¬ ((0 ≤ (t.f1.getD i default).f0 ∧ (t.f1.getD i default).f0 ≤ IntKind.i64.wrap (l.f0 - 1)) ∧ ((i : Int) ≤ 0 ∨ (t.f1.getD ((i : Int) - 1).toNat default).f0 < (t.f1.getD i default).f0) ∧ (0 ≤ (t.f1.getD i default).f1 ∧ (t.f1.getD i default).f1 ≤ IntKind.i64.wrap (t.f0 - 1)) ∧ ((t.f1.getD i default).f2.length : Int) = 32)) : tcEnt l t i = false := by
  cases hq : tcEnt l t i with
  | false => rfl
  | true => simp only [tcEnt, Bool.and_eq_true, Bool.or_eq_true, decide_eq_true_eq] at hq; exact absurd ⟨hq.1.1.1, hq.1.1.2, hq.1.2, hq.2⟩ h
theorem tcEnt_yes {l : SLimits} {t : STc} {i : Nat} (h : (0 ≤ (t.f1.getD i default).f0 ∧ (t.f1.getD i default).f0 ≤ IntKind.i64.wrap (l.f0 - 1)) ∧ ((i : Int) ≤ 0 ∨ (t.f1.getD ((i : Int) - 1).toNat default).f0 < (t.f1.getD i default).f0) ∧ (0 ≤ (t.f1.getD i default).f1 ∧ (t.f1.getD i default).f1 ≤ IntKind.i64.wrap (t.f0 - 1)) ∧ ((t.f1.getD i default).f2.length : Int) = 32) : tcEnt l t i = true := by
  simp only [tcEnt, Bool.and_eq_true, Bool.or_eq_true, decide_eq_true_eq]; exact ⟨⟨⟨h.1, h.2.1⟩, h.2.2.1⟩, h.2.2.2⟩
def bitsOk (b : List Int) (n : Int) : Bool := decide (1 ≤ n ∧ n ≤ 10) && decide ((b.length : Int) = bitsSize n) && (bitList b).all (fun x => decide (x < n))
theorem all_no {l : List Int} {n : Int} {i : Nat} (hi : i < l.length) (hx : ¬ l.getD i 0 < n) : l.all (fun x => decide (x < n)) = false := by
  cases h : l.all (fun x => decide (x < n)) with
  | false => rfl
  | true =>
    rw [List.all_eq_true] at h
    have := h (l.getD i 0) (by rw [List.getD_eq_getElem?_getD, List.getElem?_eq_getElem hi]; exact List.getElem_mem hi)
    exact absurd (of_decide_eq_true this) hx
theorem bits_last {b : List Int} {n : Int} (h : 0 < (bitList b).length) : (bitList b).all (fun x => decide (x < n)) = decide ((bitList b).getD (((bitList b).length : Int) - 1).toNat 0 < n) := by
  rw [show (((bitList b).length : Int) - 1).toNat = (bitList b).length - 1 from by omega]
  have h1 := bitsGo_last b n (8 * b.length) 0
  rw [show bitsGo b (8 * b.length) 0 = bitList b from rfl] at h1
  rw [h1, List.getLast?_eq_getElem?, List.getElem?_eq_getElem (by omega), List.getD_eq_getElem?_getD, List.getElem?_eq_getElem (by omega)]
  rfl
def setB (x : Int) (t : Nat) : Int := if x / 2 ^ t % 2 = 1 then x else x + 2 ^ t
def or8 (a b : Int) : Int := IntKind.u8.wrap (BitVec.ofInt IntKind.u8.bits a ||| BitVec.ofInt IntKind.u8.bits b).toNat
def xor8 (a b : Int) : Int := IntKind.u8.wrap (BitVec.ofInt IntKind.u8.bits a ^^^ BitVec.ofInt IntKind.u8.bits b).toNat
def shl8 (a n : Int) : Int := IntKind.u8.wrap (a * 2 ^ (min n.toNat IntKind.u8.bits))
theorem or8_set {x t : Int} (h : 0 ≤ x ∧ x ≤ 255) (ht : 0 ≤ t ∧ t ≤ 7) : or8 x (shl8 1 t) = setB x t.toNat := by
  obtain ⟨n, hn⟩ : ∃ n : Fin 256, x = ((n.val : Nat) : Int) := ⟨⟨x.toNat, by omega⟩, by simp only; omega⟩
  obtain ⟨m, hm⟩ : ∃ m : Fin 8, t = ((m.val : Nat) : Int) := ⟨⟨t.toNat, by omega⟩, by simp only; omega⟩
  subst hn hm; clear h ht; revert m; revert n; decide +kernel
theorem xor8_set {x t : Int} (h : 0 ≤ x ∧ x ≤ 255) (ht : 0 ≤ t ∧ t ≤ 7) (hb : ¬ x / 2 ^ t.toNat % 2 = 1) : xor8 x (shl8 1 t) = setB x t.toNat := by
  obtain ⟨n, hn⟩ : ∃ n : Fin 256, x = ((n.val : Nat) : Int) := ⟨⟨x.toNat, by omega⟩, by simp only; omega⟩
  obtain ⟨m, hm⟩ : ∃ m : Fin 8, t = ((m.val : Nat) : Int) := ⟨⟨t.toNat, by omega⟩, by simp only; omega⟩
  subst hn hm; clear h ht; revert hb; revert m; revert n; decide +kernel
theorem setB_u8 {x : Int} {t : Nat} (h : 0 ≤ x ∧ x ≤ 255) (ht : t < 8) : 0 ≤ setB x t ∧ setB x t ≤ 255 := by
  obtain ⟨n, hn⟩ : ∃ n : Fin 256, x = ((n.val : Nat) : Int) := ⟨⟨x.toNat, by omega⟩, by simp only; omega⟩
  obtain ⟨m, hm⟩ : ∃ m : Fin 8, t = m.val := ⟨⟨t, ht⟩, rfl⟩
  subst hn hm; clear h ht; revert m; revert n; decide +kernel
theorem setB_bit {x : Int} {t s : Nat} (h : 0 ≤ x ∧ x ≤ 255) (ht : t < 8) (hs : s < 8) : (setB x t / 2 ^ s % 2 = 1) ↔ (s = t ∨ x / 2 ^ s % 2 = 1) := by
  obtain ⟨n, hn⟩ : ∃ n : Fin 256, x = ((n.val : Nat) : Int) := ⟨⟨x.toNat, by omega⟩, by simp only; omega⟩
  obtain ⟨m, hm⟩ : ∃ m : Fin 8, t = m.val := ⟨⟨t, ht⟩, rfl⟩
  obtain ⟨k, hk⟩ : ∃ k : Fin 8, s = k.val := ⟨⟨s, hs⟩, rfl⟩
  subst hn hm hk; clear h ht hs; revert k; revert m; revert n; decide +kernel
def putBit (b : List Int) (i : Int) : List Int := b.set (i / 8).toNat (setB (b.getD (i / 8).toNat 0) (i % 8).toNat)
theorem putBit_len (b : List Int) (i : Int) : (putBit b i).length = b.length := by simp [putBit]
theorem putBit_u8 {b : List Int} (h : U8s b) (i : Int) : U8s (putBit b i) := fun x hx => by
  rcases List.mem_or_eq_of_mem_set hx with hx | rfl
  · exact h x hx
  · exact setB_u8 (getD_u8 h _) (by omega)
theorem bitHas_eq (b : List Int) (i : Int) : bitHas b i = decide (0 ≤ i ∧ i / 8 < (b.length : Int) ∧ b.getD (i / 8).toNat 0 / 2 ^ (i % 8).toNat % 2 = 1) := by
  unfold bitHas
  by_cases h0 : 0 ≤ i
  · by_cases h1 : i / 8 < (b.length : Int)
    · have e : rd b (i / 8) = b.getD (i / 8).toNat 0 := by
        have hlt : (i / 8).toNat < b.length := by omega
        have := rd_at (List.getElem?_eq_getElem hlt)
        rw [show (((i / 8).toNat : Nat) : Int) = i / 8 from by omega] at this
        rw [this, List.getD_eq_getElem?_getD, List.getElem?_eq_getElem hlt]; rfl
      rw [e]; simp [h0, h1]
    · simp [h0, h1]
  · simp [h0]
theorem putBit_has {b : List Int} (h : U8s b) {i : Int} (hi : 0 ≤ i ∧ i / 8 < (b.length : Int)) {j : Int} : bitHas (putBit b i) j = true ↔ (j = i ∨ bitHas b j = true) := by
  rw [bitHas_eq, bitHas_eq, decide_eq_true_eq, decide_eq_true_eq, putBit_len]
  by_cases hj : 0 ≤ j ∧ j / 8 < (b.length : Int)
  · by_cases hq : j / 8 = i / 8
    · have e : (putBit b i).getD (j / 8).toNat 0 = setB (b.getD (i / 8).toNat 0) (i % 8).toNat := by
        unfold putBit
        rw [List.getD_eq_getElem?_getD, hq, List.getElem?_set_self (by omega)]; rfl
      rw [e, setB_bit (getD_u8 h _) (by omega) (by omega), hq]
      constructor
      · rintro ⟨_, _, h2 | h2⟩
        · exact .inl (by omega)
        · exact .inr ⟨hj.1, by omega, h2⟩
      · rintro (rfl | ⟨h1, h2, h3⟩)
        · exact ⟨hj.1, hi.2, .inl rfl⟩
        · exact ⟨hj.1, hi.2, .inr h3⟩
    · have e : (putBit b i).getD (j / 8).toNat 0 = b.getD (j / 8).toNat 0 := by
        unfold putBit
        rw [List.getD_eq_getElem?_getD, List.getElem?_set_ne (by omega), List.getD_eq_getElem?_getD]
      rw [e]
      constructor
      · rintro ⟨h1, h2, h3⟩; exact .inr ⟨h1, h2, h3⟩
      · rintro (rfl | ⟨h1, h2, h3⟩)
        · exact absurd rfl hq
        · exact ⟨h1, h2, h3⟩
  · constructor
    · rintro ⟨h1, h2, h3⟩; exact absurd ⟨h1, h2⟩ hj
    · rintro (rfl | ⟨h1, h2, h3⟩)
      · exact absurd hi hj
      · exact absurd ⟨h1, h2⟩ hj
theorem bitsGo_mem (b : List Int) : ∀ (d i : Nat) (x : Int), x ∈ bitsGo b d i ↔ ((i : Int) ≤ x ∧ x < ((i + d : Nat) : Int) ∧ bitHas b x = true)
  | 0, i, x => by simp only [bitsGo, List.not_mem_nil, false_iff]; omega
  | d + 1, i, x => by
    unfold bitsGo
    have ih := bitsGo_mem b d (i + 1) x
    split
    · rename_i hb
      rw [List.mem_cons, ih]
      constructor
      · rintro (rfl | ⟨h1, h2, h3⟩)
        · exact ⟨Int.le_refl _, by omega, hb⟩
        · exact ⟨by omega, by omega, h3⟩
      · rintro ⟨h1, h2, h3⟩
        by_cases hx : x = (i : Int)
        · exact .inl hx
        · exact .inr ⟨by omega, by omega, h3⟩
    · rename_i hb
      rw [ih]
      constructor
      · rintro ⟨h1, h2, h3⟩; exact ⟨by omega, by omega, h3⟩
      · rintro ⟨h1, h2, h3⟩
        refine ⟨?_, by omega, h3⟩
        by_cases hx : x = (i : Int)
        · subst hx; exact absurd h3 hb
        · omega
theorem bitList_mem {b : List Int} {x : Int} : x ∈ bitList b ↔ bitHas b x = true := by
  unfold bitList
  rw [bitsGo_mem]
  constructor
  · exact fun h => h.2.2
  · intro h
    have := h
    rw [bitHas_eq, decide_eq_true_eq] at this
    exact ⟨by omega, by omega, h⟩
theorem bitsOk_iff {b : List Int} {n : Int} : bitsOk b n = true ↔ ((1 ≤ n ∧ n ≤ 10) ∧ (b.length : Int) = bitsSize n ∧ ∀ x, bitHas b x = true → x < n) := by
  simp only [bitsOk, Bool.and_eq_true, decide_eq_true_eq, List.all_eq_true, bitList_mem, and_assoc]
theorem bitsOk_put {b : List Int} {n i : Int} (hu : U8s b) (h : bitsOk b n = true) (hi : 0 ≤ i ∧ i ≤ n - 1) : bitsOk (putBit b i) n = true := by
  obtain ⟨h1, h2, h3⟩ := bitsOk_iff.1 h
  refine bitsOk_iff.2 ⟨h1, by rw [putBit_len]; exact h2, fun x hx => ?_⟩
  have hl : i / 8 < (b.length : Int) := by rw [h2]; unfold bitsSize; rw [if_neg (by omega)]; omega
  rcases (putBit_has hu ⟨hi.1, hl⟩).1 hx with rfl | hx
  · omega
  · exact h3 x hx
def zeros (n : Int) : List Int := List.replicate (bitsSize n).toNat 0
theorem zeros_u8 (n : Int) : U8s (zeros n) := fun x hx => by rw [List.eq_of_mem_replicate hx]; omega
theorem zbits_ok {n : Int} (h : 1 ≤ n ∧ n ≤ 10) : bitsOk (zeros n) n = true := by
  refine bitsOk_iff.2 ⟨h, by unfold zeros bitsSize; rw [if_neg (by omega), List.length_replicate]; omega, fun x hx => ?_⟩
  rw [bitHas_eq, decide_eq_true_eq] at hx
  have e : (zeros n).getD (x / 8).toNat 0 = 0 := by
    unfold zeros
    rw [List.getD_eq_getElem?_getD, List.getElem?_replicate]; split <;> rfl
  rw [e, Int.zero_ediv] at hx
  exact absurd hx.2.2 (by decide)
theorem zeros_len (n : Int) : (zeros n).length = (bitsSize n).toNat := by simp [zeros]
def putBits (n : Int) (l : List Int) : List Int := l.foldl putBit (zeros n)
def signersOk (l : List Int) (n : Int) : Bool := l.all fun i => decide (0 ≤ i ∧ i ≤ n - 1)
theorem signers_step {l : List Int} {n : Int} {i : Nat} (hi : i < l.length) (h : signersOk (l.take i) n = true) (hx : 0 ≤ l.getD i 0 ∧ l.getD i 0 ≤ n - 1) : signersOk (l.take (i + 1)) n = true := by
  rw [take_succ' (df := 0) hi]; simp only [signersOk, List.all_append, List.all_cons, List.all_nil, Bool.and_true, Bool.and_eq_true] at h ⊢; exact ⟨h, decide_eq_true hx⟩
theorem signers_no {l : List Int} {n : Int} {i : Nat} (hi : i < l.length) (hx : ¬ (0 ≤ l.getD i 0 ∧ l.getD i 0 ≤ n - 1)) : signersOk l n = false := by
  cases h : signersOk l n with
  | false => rfl
  | true =>
    rw [signersOk, List.all_eq_true] at h
    have := h (l.getD i 0) (by rw [List.getD_eq_getElem?_getD, List.getElem?_eq_getElem hi]; exact List.getElem_mem hi)
    exact absurd (of_decide_eq_true this) hx
theorem putBits_step (n : Int) {l : List Int} {i : Nat} (hi : i < l.length) : putBits n (l.take (i + 1)) = putBit (putBits n (l.take i)) (l.getD i 0) := by
  unfold putBits; rw [take_succ' (df := 0) hi, List.foldl_append]; rfl
theorem putBits_len (n : Int) (l : List Int) : (putBits n l).length = (bitsSize n).toNat := by
  unfold putBits
  rw [← zeros_len n]
  generalize zeros n = b
  induction l generalizing b with
  | nil => rfl
  | cons i l ih => rw [List.foldl_cons, ih, putBit_len]
theorem putBits_u8 (n : Int) (l : List Int) : U8s (putBits n l) := by
  unfold putBits
  have h := zeros_u8 n
  generalize zeros n = b at h
  induction l generalizing b with
  | nil => exact h
  | cons i l ih => exact ih _ (putBit_u8 h i)
theorem putBits_ok {n : Int} (h : 1 ≤ n ∧ n ≤ 10) {l : List Int} (hs : signersOk l n = true) : bitsOk (putBits n l) n = true := by
  unfold putBits
  have hu := zeros_u8 n
  have hk := zbits_ok h
  generalize zeros n = b at hu hk
  induction l generalizing b with
  | nil => exact hk
  | cons i l ih =>
    simp only [signersOk, List.all_cons, Bool.and_eq_true, decide_eq_true_eq] at hs
    exact ih hs.2 _ (putBit_u8 hu i) (bitsOk_put hu hk hs.1)
def bitsOfOk (l : List Int) (n : Int) : Bool := decide (1 ≤ n ∧ n ≤ 10) && signersOk l n
def bitsOf (l : List Int) (n : Int) : List Int := if bitsOfOk l n = true then putBits n l else []
theorem bitsOf_yes {l : List Int} {n : Int} (h : bitsOfOk l n = true) : bitsOf l n = putBits n l := if_pos h
theorem bitsOf_no {l : List Int} {n : Int} (h : bitsOfOk l n = false) : bitsOf l n = [] := by unfold bitsOf; rw [h]; rfl
theorem bitsOf_u8 (l : List Int) (n : Int) : U8s (bitsOf l n) := by
  unfold bitsOf
  split
  · exact putBits_u8 n l
  · exact fun x hx => by cases hx
theorem bitsOf_len (l : List Int) (n : Int) : (bitsOf l n).length ≤ 2 := by
  unfold bitsOf
  split
  · rename_i h
    simp only [bitsOfOk, Bool.and_eq_true, decide_eq_true_eq] at h
    rw [putBits_len]; unfold bitsSize; rw [if_neg (by omega)]; omega
  · simp
def putBit1 (b : List Int) (n i : Int) : List Int := if bitsOk b n = true ∧ 0 ≤ i ∧ i ≤ n - 1 then putBit b i else []
theorem putBit1_yes {b : List Int} {n i : Int} (h : bitsOk b n = true) (hi : 0 ≤ i ∧ i ≤ n - 1) : putBit1 b n i = putBit b i := if_pos ⟨h, hi⟩
theorem putBit1_no {b : List Int} {n i : Int} (h : ¬ (bitsOk b n = true ∧ 0 ≤ i ∧ i ≤ n - 1)) : putBit1 b n i = [] := if_neg h
theorem putBit1_has {b : List Int} {n i : Int} (h : bitsOk b n = true) (hi : 0 ≤ i ∧ i ≤ n - 1) (hb : bitHas b i = true) : putBit1 b n i = b := by
  rw [putBit1_yes h hi, putBit]
  rw [bitHas_eq, decide_eq_true_eq] at hb
  unfold setB
  rw [if_pos hb.2.2, List.getD_eq_getElem?_getD]
  have hlt : (i / 8).toNat < b.length := by omega
  rw [List.getElem?_eq_getElem hlt, Option.getD_some, List.set_getElem_self]
theorem bitsState_step {n : Int} {l : List Int} {i : Nat} (hi : i < l.length) : putBit1 (bitsOf (l.take i) n) n (l.getD i 0) = bitsOf (l.take (i + 1)) n ∧ bitsOfOk (l.take (i + 1)) n = (bitsOfOk (l.take i) n && (bitsOk (bitsOf (l.take i) n) n && decide (0 ≤ l.getD i 0 ∧ l.getD i 0 ≤ n - 1))) := by
  by_cases hn : 1 ≤ n ∧ n ≤ 10
  · cases hs : signersOk (l.take i) n with
    | true =>
      have h0 : bitsOfOk (l.take i) n = true := by unfold bitsOfOk; rw [hs, decide_eq_true hn]; rfl
      have hk : bitsOk (bitsOf (l.take i) n) n = true := by rw [bitsOf_yes h0]; exact putBits_ok hn hs
      by_cases hx : 0 ≤ l.getD i 0 ∧ l.getD i 0 ≤ n - 1
      · have h1 : bitsOfOk (l.take (i + 1)) n = true := by unfold bitsOfOk; rw [signers_step hi hs hx, decide_eq_true hn]; rfl
        refine ⟨?_, by rw [h1, h0, hk, decide_eq_true hx]; rfl⟩
        rw [putBit1_yes hk hx, bitsOf_yes h0, bitsOf_yes h1, putBits_step n hi]
      · have h1 : bitsOfOk (l.take (i + 1)) n = false := by
          unfold bitsOfOk
          rw [signers_no (i := i) (by simp; omega) (by rw [List.getD_eq_getElem?_getD, List.getElem?_take, if_pos (by omega), ← List.getD_eq_getElem?_getD]; exact hx), Bool.and_false]
        refine ⟨?_, by rw [h1, h0, hk, decide_eq_false hx]; rfl⟩
        rw [putBit1_no (fun h => hx h.2), bitsOf_no h1]
    | false =>
      have h0 : bitsOfOk (l.take i) n = false := by unfold bitsOfOk; rw [hs, Bool.and_false]
      have hs1 : signersOk (l.take (i + 1)) n = false := by
        rw [take_succ' (df := 0) hi]; simp only [signersOk, List.all_append] at hs ⊢; rw [hs]; rfl
      have h1 : bitsOfOk (l.take (i + 1)) n = false := by unfold bitsOfOk; rw [hs1, Bool.and_false]
      have hk : ¬ bitsOk ([] : List Int) n = true := by
        intro h
        have := (bitsOk_iff.1 h).2.1
        unfold bitsSize at this
        rw [if_neg (by omega)] at this
        simp at this
        omega
      rw [bitsOf_no h0, bitsOf_no h1, h0, h1]
      exact ⟨putBit1_no (fun h => hk h.1), rfl⟩
  · have hf : ∀ l, bitsOfOk l n = false := fun l => by unfold bitsOfOk; rw [decide_eq_false hn]; rfl
    rw [bitsOf_no (hf _), bitsOf_no (hf _), hf, hf]
    exact ⟨putBit1_no (fun h => hn (bitsOk_iff.1 h.1).1), rfl⟩
def whos (l : List SEntry) : List Int := l.map SEntry.f0
theorem whos_step {l : List SEntry} {i : Nat} (hi : i < l.length) : whos (l.take (i + 1)) = whos (l.take i) ++ [(l.getD i default).f0] := by
  unfold whos; rw [take_succ' (df := default) hi, List.map_append]; rfl
theorem whos_len (l : List SEntry) (i : Nat) : (whos (l.take i)).length ≤ i := by unfold whos; simp; omega
theorem has_of {x on : Bool} (h : (x != on) = false) (ho : on = true) : x = true := by subst ho; cases x <;> simp_all
theorem no_of {x on : Bool} (h : (x != on) = true) (ho : on = true) : x = false := by subst ho; cases x <;> simp_all
theorem putBit1_new {b : List Int} {n i : Int} (hu : U8s b) (h : bitsOk b n = true) (hi : 0 ≤ i ∧ i ≤ n - 1) (hb : bitHas b i = false) : b.set (i / 8).toNat (xor8 (b.getD (i / 8).toNat 0) (shl8 1 (i % 8))) = putBit1 b n i := by
  obtain ⟨h1, h2, _⟩ := bitsOk_iff.1 h
  have hl : i / 8 < (b.length : Int) := by rw [h2]; unfold bitsSize; rw [if_neg (by omega)]; omega
  rw [putBit1_yes h hi, putBit, xor8_set (getD_u8 hu _) (by omega)]
  intro hx
  rw [bitHas_eq, decide_eq_false_iff_not] at hb
  exact hb ⟨hi.1, hl, hx⟩
theorem or8_step {n : Int} {l : List Int} {i : Nat} (hi : i < l.length) (hx : 0 ≤ l.getD i 0) : (putBits n (l.take i)).set (l.getD i 0 / 8).toNat (or8 ((putBits n (l.take i)).getD (l.getD i 0 / 8).toNat 0) (shl8 1 (l.getD i 0 % 8))) = putBits n (l.take (i + 1)) := by
  rw [or8_set (getD_u8 (putBits_u8 _ _) _) (by omega), putBits_step n hi]; rfl
theorem bitsOfOk_in {l : List Int} {n : Int} (hn : 1 ≤ n ∧ n ≤ 10) (hs : signersOk l n = true) : bitsOfOk l n = true := by unfold bitsOfOk; rw [hs, decide_eq_true hn]; rfl
theorem bitsOfOk_out {l : List Int} {n : Int} (hn : ¬ (1 ≤ n ∧ n ≤ 10)) : bitsOfOk l n = false := by unfold bitsOfOk; rw [decide_eq_false hn]; rfl
theorem bitsOfOk_no {l : List Int} {n : Int} (hs : signersOk l n = false) : bitsOfOk l n = false := by unfold bitsOfOk; rw [hs, Bool.and_false]
theorem bitsOf_nil {n : Int} (hn : 1 ≤ n ∧ n ≤ 10) (l : List Int) : bitsOf [] n = putBits n (l.take 0) := bitsOf_yes (bitsOfOk_in hn rfl)
theorem bitsOf_all {l : List Int} {n : Int} {i : Nat} (hi : l.length ≤ i) : bitsOf (l.take i) n = bitsOf l n ∧ bitsOfOk (l.take i) n = bitsOfOk l n ∧ signersOk (l.take i) n = signersOk l n ∧ putBits n (l.take i) = putBits n l := by rw [List.take_of_length_le hi]; exact ⟨rfl, rfl, rfl, rfl⟩
def tcBits (l : SLimits) (t : STc) : List Int := if tcOk l t = true then bitsOf (whos t.f1) l.f0 else []
theorem tcBits_yes {l : SLimits} {t : STc} (h : tcOk l t = true) : tcBits l t = bitsOf (whos t.f1) l.f0 := if_pos h
theorem tcBits_no {l : SLimits} {t : STc} (h : tcOk l t = false) : tcBits l t = [] := by unfold tcBits; rw [h]; rfl
theorem tcBits_len (l : SLimits) (t : STc) : (tcBits l t).length ≤ 2 := by
  unfold tcBits
  split
  · exact bitsOf_len _ _
  · simp
theorem ok_laws_szByteS (a : List Int) (left : Int) (h0_ : 0 ≤ left) (h1_ : left ≤ 9223372036854775807) : RO Try.prog 76 [.one (.ints .u8 a), .one (.int .i64 left)] [(false, [.rd (.int .i64 (szB a left))])] := by
 refine RO.intro Try.func76 rfl 12 rfl (le_ok rfl) fun w Z => ?_
 refine T.bnd 0 0 rfl rfl fun hb_0_0 => ?_
 simp only [D.size, List.length_map] at hb_0_0
 refine T.seq ?_
 refine T.region ?_
 refine TL.as (pI 0) ?_
 refine TL.nil ?_
 refine T.seq ?_
 refine T.region ?_
 refine TL.mv (pI left) ?_
 refine TL.mv (pS a) ?_
 refine TL.c (Step.len (e := 5) (z := 1) (d := (.ints .u8 a)) rfl rfl (lt_ok rfl) (by kernel_rfl) rfl rfl) ?_
 refine TL.c (Step.bin (r := .int .i64 (left - (a.length : Int))) rfl rfl (lt_ok rfl) rfl rfl (Bin.sub (a := left) (b := (a.length : Int)) (by first | exact wrap_ok (by first | omega | (simp; omega)) (by first | omega | (simp; omega)) | rfl))) ?_
 refine TL.as (pI (left - (a.length : Int))) ?_
 refine TL.nil ?_
 refine T.seq ?_
 refine T.seq ?_
 refine T.region ?_
 refine TL.mv (pI (left - (a.length : Int))) ?_
 refine TL.c (Step.bin rfl rfl (lt_ok rfl) rfl rfl (Bin.lss (k := .i64) (a := (left - (a.length : Int))) (b := 0))) ?_
 refine TL.nil ?_
 refine T.cond (b := decide ((left - (a.length : Int)) < 0)) rfl (fun h1 => ?_) (fun h1 => ?_)
 ·
  replace h1 := of_decide_eq_true h1
  refine T.seq ?_
  refine T.region ?_
  refine TL.as (pI (-1)) ?_
  refine TL.nil ?_
  refine T.ret ?_
  refine ⟨[(false, [cI (-1)])], (.cons rfl .nil), rfl, [], (RetC.rd' ?_ .nil)⟩ <;> ((congr 1; unfold szB; split <;> omega))
 ·
  replace h1 := of_decide_eq_false h1
  refine T.skip ?_
  refine T.seq ?_
  refine T.region ?_
  refine TL.mv (pI (left - (a.length : Int))) ?_
  refine TL.as (pI (left - (a.length : Int))) ?_
  refine TL.nil ?_
  refine T.ret ?_
  refine ⟨[(false, [cI (left - (a.length : Int))])], (.cons rfl .nil), rfl, [], (RetC.rd' ?_ .nil)⟩ <;> ((congr 1; unfold szB; split <;> omega))
theorem ok_laws_szEntry (a : SEntry) (left : Int) (h0_ : 0 ≤ left) (h1_ : left ≤ 9223372036854775807) : RO Try.prog 136 [.agg a.cells, .one (.int .i64 left)] [(false, [.rd (.int .i64 (a.sz left))])] := by
 refine RO.intro Try.func136 rfl 12 rfl (le_ok rfl) fun w Z => ?_
 refine T.seq ?_
 refine T.region ?_
 refine TL.c (Step.box (p := (.agg [cI a.f0, cI a.f1, cS a.f2])) (ps := [cI a.f0, cI a.f1, cS a.f2]) rfl rfl (lt_ok rfl) rfl rfl rfl rfl rfl) ?_
 refine TL.as (pI 0) ?_
 refine TL.nil ?_
 refine T.seq ?_
 refine T.region ?_
 refine TL.c (Step.fieldAddr (q := 0) (off := 2) (n := 1) (one := true) rfl rfl (lt_ok rfl) (by kernel_rfl) (Nat.succ_ne_zero _) rfl) ?_
 refine TL.c (Step.load_box (c := cS a.f2) rfl rfl (lt_ok rfl) (by kernel_rfl) rfl rfl rfl) ?_
 refine TL.mv (pI left) ?_
 refine TL.c (Step.cl (xs := [.tmp 6, .tmp 7]) (ps := [(pS a.f2), (pI left)]) (g := .func 76) false (.cons (.one (.d _)) (.cons (.one (.d _)) .nil)) (ok_laws_szByteS a.f2 left (by omega) (by omega))) ?_
 refine TL.as (pI (szB a.f2 left)) ?_
 refine TL.nil ?_
 refine T.seq ?_
 refine T.seq ?_
 refine T.region ?_
 refine TL.mv (pI (szB a.f2 left)) ?_
 refine TL.c (Step.bin rfl rfl (lt_ok rfl) rfl rfl (Bin.lss (k := .i64) (a := (szB a.f2 left)) (b := 0))) ?_
 refine TL.nil ?_
 refine T.cond (b := decide ((szB a.f2 left) < 0)) rfl (fun h2 => ?_) (fun h2 => ?_)
 ·
  replace h2 := of_decide_eq_true h2
  refine T.seq ?_
  refine T.region ?_
  refine TL.as (pI (-1)) ?_
  refine TL.nil ?_
  refine T.ret ?_
  refine ⟨[(false, [cI (-1)])], (.cons rfl .nil), rfl, [], (RetC.rd' ?_ .nil)⟩ <;> (first | rfl | (congr 1; simp only [SEntry.sz, szThen]; repeat' (split <;> try omega)))
 ·
  replace h2 := of_decide_eq_false h2
  have z1_le : szB a.f2 left ≤ left := szB_le _ (by omega)
  refine T.skip ?_
  refine T.seq ?_
  refine T.region ?_
  refine TL.mv (pI (szB a.f2 left)) ?_
  refine TL.as (pI (szB a.f2 left)) ?_
  refine TL.nil ?_
  refine T.ret ?_
  refine ⟨[(false, [cI (szB a.f2 left)])], (.cons rfl .nil), rfl, [], (RetC.rd' ?_ .nil)⟩ <;> (first | rfl | (congr 1; simp only [SEntry.sz, szThen]; repeat' (split <;> try omega)))
theorem ok_laws_szEntryS (a : List SEntry) (left : Int) (h0_ : 0 ≤ left) (h1_ : left ≤ 9223372036854775807) : RO Try.prog 86 [.one (.sl 3 (a.map SEntry.cells)), .one (.int .i64 left)] [(false, [.rd (.int .i64 (szLs SEntry.sz a left))])] := by
 refine RO.intro Try.func86 rfl 27 rfl (le_ok rfl) fun w Z => ?_
 refine T.bnd 0 0 rfl rfl fun hb_0_0 => ?_
 simp only [D.size, List.length_map] at hb_0_0
 refine T.seq ?_
 refine T.region ?_
 refine TL.as (pI 0) ?_
 refine TL.nil ?_
 refine T.seq ?_
 refine T.region ?_
 refine TL.mv (pI left) ?_
 refine TL.mv (.one (.d (.sl 3 (a.map SEntry.cells)))) ?_
 refine TL.c (Step.len' (e := 162) (z := 3) (d := (.sl 3 (a.map SEntry.cells))) (n := a.length) rfl rfl (lt_ok rfl) (by kernel_rfl) rfl rfl (by simp [D.size])) ?_
 refine TL.c (Step.bin (r := .int .i64 (left - (a.length : Int))) rfl rfl (lt_ok rfl) rfl rfl (Bin.sub (a := left) (b := (a.length : Int)) (by first | exact wrap_ok (by first | omega | (simp; omega)) (by first | omega | (simp; omega)) | rfl))) ?_
 refine TL.as (pI (left - (a.length : Int))) ?_
 refine TL.nil ?_
 refine T.seq ?_
 refine T.seq ?_
 refine T.region ?_
 refine TL.mv (pI (left - (a.length : Int))) ?_
 refine TL.c (Step.bin rfl rfl (lt_ok rfl) rfl rfl (Bin.lss (k := .i64) (a := (left - (a.length : Int))) (b := 0))) ?_
 refine TL.nil ?_
 refine T.cond (b := decide ((left - (a.length : Int)) < 0)) rfl (fun h1 => ?_) (fun h1 => ?_)
 ·
  replace h1 := of_decide_eq_true h1
  refine T.seq ?_
  refine T.region ?_
  refine TL.as (pI (-1)) ?_
  refine TL.nil ?_
  refine T.ret ?_
  refine ⟨[(false, [cI (-1)])], (.cons rfl .nil), rfl, [], (RetC.rd' ?_ .nil)⟩ <;> ((congr 1; first | (rw [← hx4, szL_drop (dflt := default) a i l (by omega), if_pos (by omega)]; done) | (rw [← hx4, List.drop_of_length_le (by omega)]; rfl) | (unfold szLs; rw [if_pos (by omega)]; done)))
 ·
  replace h1 := of_decide_eq_false h1
  refine T.skip ?_
  refine T.seq ?_
  refine T.seq ?_
  refine T.region ?_
  refine TL.as (pI 0) ?_
  refine TL.nil ?_
  refine T.block ?_
  refine T.loop (ι := Nat × Int) (fun xx_ => { tm := [(0, (.one (.d (.sl 3 (a.map SEntry.cells))))), (5, (pI ((xx_.1) : Int))), (1, (pI (xx_.2)))], rows := [], boxes := [] }) (fun xx_ => (xx_.1) ≤ a.length ∧ 0 ≤ (xx_.2) ∧ (xx_.2) ≤ 9223372036854775807 ∧ szL SEntry.sz (a.drop (xx_.1)) (xx_.2) = szLs SEntry.sz a left) (fun xx_ => a.length - (xx_.1)) (0, left - (a.length : Int)) ?_ ?_ ?_
  · refine Env.le_mk ⟨rfl, ?_, ?_, trivial⟩ trivial trivial <;> (first | rfl | (simp; done) | (congr 3; omega))
  · (refine ⟨Nat.zero_le _, by omega, by omega, ?_⟩; unfold szLs; rw [if_neg (by omega), List.drop_zero])
  ·
   intro xx_ hx
   obtain ⟨i, l⟩ := xx_
   try dsimp only at hx ⊢
   obtain ⟨hx1, hx2, hx3, hx4⟩ := hx
   refine T.seq ?_
   refine T.seq ?_
   refine T.region ?_
   refine TL.mv (pI (i : Int)) ?_
   refine TL.mv (.one (.d (.sl 3 (a.map SEntry.cells)))) ?_
   refine TL.c (Step.len' (e := 162) (z := 3) (d := (.sl 3 (a.map SEntry.cells))) (n := a.length) rfl rfl (lt_ok rfl) (by kernel_rfl) rfl rfl (by simp [D.size])) ?_
   refine TL.c (Step.bin rfl rfl (lt_ok rfl) rfl rfl (Bin.lss (k := .i64) (a := (i : Int)) (b := (a.length : Int)))) ?_
   refine TL.nil ?_
   refine T.cond (b := decide ((i : Int) < (a.length : Int))) rfl (fun h2 => ?_) (fun h2 => ?_)
   ·
    replace h2 := of_decide_eq_true h2
    refine T.skip ?_
    refine T.seq ?_
    refine T.block ?_
    refine T.seq ?_
    refine T.region ?_
    refine TL.mv (.one (.d (.sl 3 (a.map SEntry.cells)))) ?_
    refine TL.mv (pI (i : Int)) ?_
    refine TL.c (Step.index (e := 162) (z := 3) (i := (i : Int)) rfl rfl (lt_ok rfl) (by kernel_rfl) rfl rfl rfl (lt_ok rfl) rfl (by first | omega | (simp; omega)) (by simp only [D.size]; first | omega | (simp; omega))) ?_
    refine TL.c (Step.load_agg (n := 3) (cs := [cI (a.getD i default).f0, cI (a.getD i default).f1, cS (a.getD i default).f2]) rfl rfl (lt_ok rfl) (by kernel_rfl) rfl rfl (by simp only [List.range, List.range.loop, List.map_cons, List.map_nil]; rw [cell_map default (by first | omega | (simp; omega)), cell_map default (by first | omega | (simp; omega)), cell_map default (by first | omega | (simp; omega))]; rfl)) ?_
    refine TL.mv (pI l) ?_
    refine TL.c (Step.cl (xs := [.tmp 21, .tmp 22]) (ps := [(.agg [cI (a.getD i default).f0, cI (a.getD i default).f1, cS (a.getD i default).f2]), (pI l)]) (g := .func 136) false (.cons (.agg (.cons (.d _) (.cons (.d _) (.cons (.d _) .nil)))) (.cons (.one (.d _)) .nil)) (ok_laws_szEntry (a.getD i default) l (by omega) (by omega))) ?_
    refine TL.as (pI ((a.getD i default).sz l)) ?_
    refine TL.nil ?_
    refine T.seq ?_
    refine T.region ?_
    refine TL.mv (pI ((a.getD i default).sz l)) ?_
    refine TL.c (Step.bin rfl rfl (lt_ok rfl) rfl rfl (Bin.lss (k := .i64) (a := ((a.getD i default).sz l)) (b := 0))) ?_
    refine TL.nil ?_
    refine T.cond (b := decide (((a.getD i default).sz l) < 0)) rfl (fun h4 => ?_) (fun h4 => ?_)
    ·
     replace h4 := of_decide_eq_true h4
     refine T.seq ?_
     refine T.region ?_
     refine TL.as (pI (-1)) ?_
     refine TL.nil ?_
     refine T.ret ?_
     refine ⟨[(false, [cI (-1)])], (.cons rfl .nil), rfl, [], (RetC.rd' ?_ .nil)⟩ <;> ((congr 1; first | (rw [← hx4, szL_drop (dflt := default) a i l (by omega), if_pos (by omega)]; done) | (rw [← hx4, List.drop_of_length_le (by omega)]; rfl) | (unfold szLs; rw [if_pos (by omega)]; done)))
    ·
     replace h4 := of_decide_eq_false h4
     have z3_le : (a.getD i default).sz l ≤ l := SEntry.sz_le _ (by omega)
     refine T.skip ?_
     refine T.region ?_
     refine TL.mv (pI (i : Int)) ?_
     refine TL.c (Step.bin (r := .int .i64 ((i : Int) + 1)) rfl rfl (lt_ok rfl) rfl rfl (Bin.add (a := (i : Int)) (b := 1) (by first | exact wrap_ok (by first | omega | (simp; omega)) (by first | omega | (simp; omega)) | rfl))) ?_
     refine TL.as (pI ((i : Int) + 1)) ?_
     refine TL.nil ?_
     refine ⟨(i + 1, (SEntry.sz (a.getD i default) l)), by (refine ⟨by omega, by omega, by omega, ?_⟩; rw [← hx4, szL_drop (dflt := default) a i l (by omega), if_neg (by omega)]), by (dsimp only; omega), Env.le_mk ⟨rfl, ?_, ?_, trivial⟩ trivial trivial⟩ <;> (first | rfl | (simp; done) | (congr 3; omega))
   ·
    replace h2 := of_decide_eq_false h2
    refine T.exit ?_
    refine T.seq ?_
    refine T.region ?_
    refine TL.mv (pI l) ?_
    refine TL.as (pI l) ?_
    refine TL.nil ?_
    refine T.ret ?_
    refine ⟨[(false, [cI l])], (.cons rfl .nil), rfl, [], (RetC.rd' ?_ .nil)⟩ <;> ((congr 1; first | (rw [← hx4, szL_drop (dflt := default) a i l (by omega), if_pos (by omega)]; done) | (rw [← hx4, List.drop_of_length_le (by omega)]; rfl) | (unfold szLs; rw [if_pos (by omega)]; done)))
theorem ok_laws_szTc (a : STc) (left : Int) (h0_ : 0 ≤ left) (h1_ : left ≤ 9223372036854775807) : RO Try.prog 24 [.agg a.cells, .one (.int .i64 left)] [(false, [.rd (.int .i64 (a.sz left))])] := by
 refine RO.intro Try.func24 rfl 12 rfl (le_ok rfl) fun w Z => ?_
 refine T.seq ?_
 refine T.region ?_
 refine TL.c (Step.box (p := (.agg [cI a.f0, .d (.sl 3 (a.f1.map SEntry.cells))])) (ps := [cI a.f0, .d (.sl 3 (a.f1.map SEntry.cells))]) rfl rfl (lt_ok rfl) rfl rfl rfl rfl rfl) ?_
 refine TL.as (pI 0) ?_
 refine TL.nil ?_
 refine T.seq ?_
 refine T.region ?_
 refine TL.c (Step.fieldAddr (q := 0) (off := 1) (n := 1) (one := true) rfl rfl (lt_ok rfl) (by kernel_rfl) (Nat.succ_ne_zero _) rfl) ?_
 refine TL.c (Step.load_box (c := .d (.sl 3 (a.f1.map SEntry.cells))) rfl rfl (lt_ok rfl) (by kernel_rfl) rfl rfl rfl) ?_
 refine TL.mv (pI left) ?_
 refine TL.c (Step.cl (xs := [.tmp 6, .tmp 7]) (ps := [(.one (.d (.sl 3 (a.f1.map SEntry.cells)))), (pI left)]) (g := .func 86) false (.cons (.one (.d _)) (.cons (.one (.d _)) .nil)) (ok_laws_szEntryS a.f1 left (by omega) (by omega))) ?_
 refine TL.as (pI (szLs SEntry.sz a.f1 left)) ?_
 refine TL.nil ?_
 refine T.seq ?_
 refine T.seq ?_
 refine T.region ?_
 refine TL.mv (pI (szLs SEntry.sz a.f1 left)) ?_
 refine TL.c (Step.bin rfl rfl (lt_ok rfl) rfl rfl (Bin.lss (k := .i64) (a := (szLs SEntry.sz a.f1 left)) (b := 0))) ?_
 refine TL.nil ?_
 refine T.cond (b := decide ((szLs SEntry.sz a.f1 left) < 0)) rfl (fun h2 => ?_) (fun h2 => ?_)
 ·
  replace h2 := of_decide_eq_true h2
  refine T.seq ?_
  refine T.region ?_
  refine TL.as (pI (-1)) ?_
  refine TL.nil ?_
  refine T.ret ?_
  refine ⟨[(false, [cI (-1)])], (.cons rfl .nil), rfl, [], (RetC.rd' ?_ .nil)⟩ <;> (first | rfl | (congr 1; simp only [STc.sz, szThen]; repeat' (split <;> try omega)))
 ·
  replace h2 := of_decide_eq_false h2
  have z1_le : szLs SEntry.sz a.f1 left ≤ left := szLs_le (fun x l h => SEntry.sz_le x h) _ (by omega)
  refine T.skip ?_
  refine T.seq ?_
  refine T.region ?_
  refine TL.mv (pI (szLs SEntry.sz a.f1 left)) ?_
  refine TL.as (pI (szLs SEntry.sz a.f1 left)) ?_
  refine TL.nil ?_
  refine T.ret ?_
  refine ⟨[(false, [cI (szLs SEntry.sz a.f1 left)])], (.cons rfl .nil), rfl, [], (RetC.rd' ?_ .nil)⟩ <;> (first | rfl | (congr 1; simp only [STc.sz, szThen]; repeat' (split <;> try omega)))
theorem ok_spec_l01In (n : Int) (lo : Int) (hi : Int) : RO Try.prog 138 [.one (.int .i64 n), .one (.int .i64 lo), .one (.int .i64 hi)] [(false, [.rd (.bool (decide (lo ≤ n ∧ n ≤ hi)))])] := by
 refine RO.intro Try.func138 rfl 15 rfl (le_ok rfl) fun w Z => ?_
 refine T.seq ?_
 refine T.region ?_
 refine TL.as (pB false) ?_
 refine TL.nil ?_
 refine T.seq ?_
 refine T.region ?_
 refine TL.mv (pI n) ?_
 refine TL.mv (pI lo) ?_
 refine TL.c (Step.bin rfl rfl (lt_ok rfl) rfl rfl (Bin.geq (k := .i64) (a := n) (b := lo))) ?_
 refine TL.mv (pB (decide (lo ≤ n))) ?_
 rcases Bool.eq_false_or_eq_true (decide (lo ≤ n)) with hb1 | hb1
 ·
  refine TL.known 10 hb1 rfl ?_
  refine TL.gm 10 (pI n) ?_
  refine TL.gm 10 (pI hi) ?_
  refine TL.gy 10 (Step.bin rfl rfl (lt_ok rfl) rfl rfl (Bin.leq (k := .i64) (a := n) (b := hi))) ?_
  refine TL.pk true (pB (decide (n ≤ hi))) ?_
  refine TL.as (pB (decide (n ≤ hi))) ?_
  refine TL.nil ?_
  refine T.ret ?_
  refine ⟨[(false, [.d (.bool (decide (n ≤ hi)))])], (.cons rfl .nil), rfl, [], (RetC.rd' ?_ .nil)⟩ <;> (first | (congr 1; simp_all; done) | (congr 1; simp_all; omega))
 ·
  refine TL.known 10 hb1 rfl ?_
  refine TL.gf 10 ?_
  refine TL.gf 10 ?_
  refine TL.gf 10 ?_
  refine TL.pk false (pB false) ?_
  refine TL.as (pB false) ?_
  refine TL.nil ?_
  refine T.ret ?_
  refine ⟨[(false, [.d (.bool false)])], (.cons rfl .nil), rfl, [], (RetC.rd' ?_ .nil)⟩ <;> (first | (congr 1; simp_all; done) | (congr 1; simp_all; omega))
theorem ok_spec_l02Signers (n : Int) : RO Try.prog 141 [.one (.int .i64 n)] [(false, [.rd (.bool (decide (1 ≤ n ∧ n ≤ 10)))])] := by
 refine RO.intro Try.func141 rfl 5 rfl (le_ok rfl) fun w Z => ?_
 refine T.seq ?_
 refine T.region ?_
 refine TL.as (pB false) ?_
 refine TL.nil ?_
 refine T.seq ?_
 refine T.region ?_
 refine TL.mv (pI n) ?_
 refine TL.c (Step.cl (xs := [.tmp 3, .const (.int .i64 1), .const (.int .i64 10)]) (ps := [(pI n), (pI 1), (pI 10)]) (g := .func 138) false (.cons (.one (.d _)) (.cons (.one (.d _)) (.cons (.one (.d _)) .nil))) (ok_spec_l01In n 1 10)) ?_
 refine TL.as (pB (decide (1 ≤ n ∧ n ≤ 10))) ?_
 refine TL.nil ?_
 refine T.ret ?_
 exact ⟨[(false, [.d (.bool (decide (1 ≤ n ∧ n ≤ 10)))])], (.cons rfl .nil), rfl, [], (RetC.rd' rfl .nil)⟩
theorem ok_spec_LimitsOk (l : SLimits) : RO Try.prog 94 [.agg l.cells] [(false, [.rd (.bool (limOk l))])] := by
 refine RO.intro Try.func94 rfl 26 rfl (le_ok rfl) fun w Z => ?_
 refine T.seq ?_
 refine T.region ?_
 refine TL.c (Step.box (p := (.agg [cI l.f0, cI l.f1, cI l.f2, cI l.f3, cI l.f4])) (ps := [cI l.f0, cI l.f1, cI l.f2, cI l.f3, cI l.f4]) rfl rfl (lt_ok rfl) rfl rfl rfl rfl rfl) ?_
 refine TL.as (pB false) ?_
 refine TL.nil ?_
 refine T.seq ?_
 refine T.region ?_
 refine TL.c (Step.fieldAddr (q := 0) (off := 0) (n := 1) (one := true) rfl rfl (lt_ok rfl) (by kernel_rfl) (Nat.succ_ne_zero _) rfl) ?_
 refine TL.c (Step.load_box (c := cI l.f0) rfl rfl (lt_ok rfl) (by kernel_rfl) rfl rfl rfl) ?_
 refine TL.c (Step.cl (xs := [.tmp 4]) (ps := [(pI l.f0)]) (g := .func 141) false (.cons (.one (.d _)) .nil) (ok_spec_l02Signers l.f0)) ?_
 refine TL.mv (pB (decide (1 ≤ l.f0 ∧ l.f0 ≤ 10))) ?_
 rcases Bool.eq_false_or_eq_true (decide (1 ≤ l.f0 ∧ l.f0 ≤ 10)) with hb1 | hb1
 ·
  refine TL.known 6 hb1 rfl ?_
  refine TL.gy 6 (Step.fieldAddr (q := 0) (off := 1) (n := 1) (one := true) rfl rfl (lt_ok rfl) (by kernel_rfl) (Nat.succ_ne_zero _) rfl) ?_
  refine TL.gy 6 (Step.load_box (c := cI l.f1) rfl rfl (lt_ok rfl) (by kernel_rfl) rfl rfl rfl) ?_
  refine TL.gy 6 (Step.cl (xs := [.tmp 8, .const (.int .i64 0), .const (.int .i64 40)]) (ps := [(pI l.f1), (pI 0), (pI 40)]) (g := .func 138) false (.cons (.one (.d _)) (.cons (.one (.d _)) (.cons (.one (.d _)) .nil))) (ok_spec_l01In l.f1 0 40)) ?_
  refine TL.pk true (pB (decide (0 ≤ l.f1 ∧ l.f1 ≤ 40))) ?_
  refine TL.mv (pB (decide (0 ≤ l.f1 ∧ l.f1 ≤ 40))) ?_
  rcases Bool.eq_false_or_eq_true (decide (0 ≤ l.f1 ∧ l.f1 ≤ 40)) with hb2 | hb2
  ·
   refine TL.known 11 hb2 rfl ?_
   refine TL.gy 11 (Step.fieldAddr (q := 0) (off := 2) (n := 1) (one := true) rfl rfl (lt_ok rfl) (by kernel_rfl) (Nat.succ_ne_zero _) rfl) ?_
   refine TL.gy 11 (Step.load_box (c := cI l.f2) rfl rfl (lt_ok rfl) (by kernel_rfl) rfl rfl rfl) ?_
   refine TL.gy 11 (Step.cl (xs := [.tmp 13, .const (.int .i64 0), .const (.int .i64 8)]) (ps := [(pI l.f2), (pI 0), (pI 8)]) (g := .func 138) false (.cons (.one (.d _)) (.cons (.one (.d _)) (.cons (.one (.d _)) .nil))) (ok_spec_l01In l.f2 0 8)) ?_
   refine TL.pk true (pB (decide (0 ≤ l.f2 ∧ l.f2 ≤ 8))) ?_
   refine TL.mv (pB (decide (0 ≤ l.f2 ∧ l.f2 ≤ 8))) ?_
   rcases Bool.eq_false_or_eq_true (decide (0 ≤ l.f2 ∧ l.f2 ≤ 8)) with hb3 | hb3
   ·
    refine TL.known 16 hb3 rfl ?_
    refine TL.gy 16 (Step.fieldAddr (q := 0) (off := 3) (n := 1) (one := true) rfl rfl (lt_ok rfl) (by kernel_rfl) (Nat.succ_ne_zero _) rfl) ?_
    refine TL.gy 16 (Step.load_box (c := cI l.f3) rfl rfl (lt_ok rfl) (by kernel_rfl) rfl rfl rfl) ?_
    refine TL.gy 16 (Step.cl (xs := [.tmp 18, .const (.int .i64 1), .const (.int .i64 4000)]) (ps := [(pI l.f3), (pI 1), (pI 4000)]) (g := .func 138) false (.cons (.one (.d _)) (.cons (.one (.d _)) (.cons (.one (.d _)) .nil))) (ok_spec_l01In l.f3 1 4000)) ?_
    refine TL.pk true (pB (decide (1 ≤ l.f3 ∧ l.f3 ≤ 4000))) ?_
    refine TL.mv (pB (decide (1 ≤ l.f3 ∧ l.f3 ≤ 4000))) ?_
    rcases Bool.eq_false_or_eq_true (decide (1 ≤ l.f3 ∧ l.f3 ≤ 4000)) with hb4 | hb4
    ·
     refine TL.known 21 hb4 rfl ?_
     refine TL.gy 21 (Step.fieldAddr (q := 0) (off := 4) (n := 1) (one := true) rfl rfl (lt_ok rfl) (by kernel_rfl) (Nat.succ_ne_zero _) rfl) ?_
     refine TL.gy 21 (Step.load_box (c := cI l.f4) rfl rfl (lt_ok rfl) (by kernel_rfl) rfl rfl rfl) ?_
     refine TL.gy 21 (Step.cl (xs := [.tmp 23, .const (.int .i64 3), .const (.int .i64 5)]) (ps := [(pI l.f4), (pI 3), (pI 5)]) (g := .func 138) false (.cons (.one (.d _)) (.cons (.one (.d _)) (.cons (.one (.d _)) .nil))) (ok_spec_l01In l.f4 3 5)) ?_
     refine TL.pk true (pB (decide (3 ≤ l.f4 ∧ l.f4 ≤ 5))) ?_
     refine TL.as (pB (decide (3 ≤ l.f4 ∧ l.f4 ≤ 5))) ?_
     refine TL.nil ?_
     refine T.ret ?_
     refine ⟨[(false, [.d (.bool (decide (3 ≤ l.f4 ∧ l.f4 ≤ 5)))])], (.cons rfl .nil), rfl, [], (RetC.rd' ?_ .nil)⟩ <;> (first | rfl | (congr 1; symm; simp only [limOk, *, Bool.and_true, Bool.true_and, Bool.and_false, Bool.false_and, decide_true, decide_false, and_true, true_and, and_self, and_false, false_and, Bool.and_self, not_true, not_false, Bool.not_true, Bool.not_false, ge_iff_le, gt_iff_lt, if_true, if_false, Bool.false_eq_true, ite_true, ite_false, reduceIte]; done) | (congr 1; symm; simp_all [limOk]; done) | (congr 1; symm; simp_all [limOk]; omega))
    ·
     refine TL.known 21 hb4 rfl ?_
     refine TL.gf 21 ?_
     refine TL.gf 21 ?_
     refine TL.gf 21 ?_
     refine TL.pk false (pB false) ?_
     refine TL.as (pB false) ?_
     refine TL.nil ?_
     refine T.ret ?_
     refine ⟨[(false, [.d (.bool false)])], (.cons rfl .nil), rfl, [], (RetC.rd' ?_ .nil)⟩ <;> (first | rfl | (congr 1; symm; simp only [limOk, *, Bool.and_true, Bool.true_and, Bool.and_false, Bool.false_and, decide_true, decide_false, and_true, true_and, and_self, and_false, false_and, Bool.and_self, not_true, not_false, Bool.not_true, Bool.not_false, ge_iff_le, gt_iff_lt, if_true, if_false, Bool.false_eq_true, ite_true, ite_false, reduceIte]; done) | (congr 1; symm; simp_all [limOk]; done) | (congr 1; symm; simp_all [limOk]; omega))
   ·
    refine TL.known 16 hb3 rfl ?_
    refine TL.gf 16 ?_
    refine TL.gf 16 ?_
    refine TL.gf 16 ?_
    refine TL.pk false (pB false) ?_
    refine TL.mv (pB false) ?_
    refine TL.gf 21 ?_
    refine TL.gf 21 ?_
    refine TL.gf 21 ?_
    refine TL.pk false (pB false) ?_
    refine TL.as (pB false) ?_
    refine TL.nil ?_
    refine T.ret ?_
    refine ⟨[(false, [.d (.bool false)])], (.cons rfl .nil), rfl, [], (RetC.rd' ?_ .nil)⟩ <;> (first | rfl | (congr 1; symm; simp only [limOk, *, Bool.and_true, Bool.true_and, Bool.and_false, Bool.false_and, decide_true, decide_false, and_true, true_and, and_self, and_false, false_and, Bool.and_self, not_true, not_false, Bool.not_true, Bool.not_false, ge_iff_le, gt_iff_lt, if_true, if_false, Bool.false_eq_true, ite_true, ite_false, reduceIte]; done) | (congr 1; symm; simp_all [limOk]; done) | (congr 1; symm; simp_all [limOk]; omega))
  ·
   refine TL.known 11 hb2 rfl ?_
   refine TL.gf 11 ?_
   refine TL.gf 11 ?_
   refine TL.gf 11 ?_
   refine TL.pk false (pB false) ?_
   refine TL.mv (pB false) ?_
   refine TL.gf 16 ?_
   refine TL.gf 16 ?_
   refine TL.gf 16 ?_
   refine TL.pk false (pB false) ?_
   refine TL.mv (pB false) ?_
   refine TL.gf 21 ?_
   refine TL.gf 21 ?_
   refine TL.gf 21 ?_
   refine TL.pk false (pB false) ?_
   refine TL.as (pB false) ?_
   refine TL.nil ?_
   refine T.ret ?_
   refine ⟨[(false, [.d (.bool false)])], (.cons rfl .nil), rfl, [], (RetC.rd' ?_ .nil)⟩ <;> (first | rfl | (congr 1; symm; simp only [limOk, *, Bool.and_true, Bool.true_and, Bool.and_false, Bool.false_and, decide_true, decide_false, and_true, true_and, and_self, and_false, false_and, Bool.and_self, not_true, not_false, Bool.not_true, Bool.not_false, ge_iff_le, gt_iff_lt, if_true, if_false, Bool.false_eq_true, ite_true, ite_false, reduceIte]; done) | (congr 1; symm; simp_all [limOk]; done) | (congr 1; symm; simp_all [limOk]; omega))
 ·
  refine TL.known 6 hb1 rfl ?_
  refine TL.gf 6 ?_
  refine TL.gf 6 ?_
  refine TL.gf 6 ?_
  refine TL.pk false (pB false) ?_
  refine TL.mv (pB false) ?_
  refine TL.gf 11 ?_
  refine TL.gf 11 ?_
  refine TL.gf 11 ?_
  refine TL.pk false (pB false) ?_
  refine TL.mv (pB false) ?_
  refine TL.gf 16 ?_
  refine TL.gf 16 ?_
  refine TL.gf 16 ?_
  refine TL.pk false (pB false) ?_
  refine TL.mv (pB false) ?_
  refine TL.gf 21 ?_
  refine TL.gf 21 ?_
  refine TL.gf 21 ?_
  refine TL.pk false (pB false) ?_
  refine TL.as (pB false) ?_
  refine TL.nil ?_
  refine T.ret ?_
  refine ⟨[(false, [.d (.bool false)])], (.cons rfl .nil), rfl, [], (RetC.rd' ?_ .nil)⟩ <;> (first | rfl | (congr 1; symm; simp only [limOk, *, Bool.and_true, Bool.true_and, Bool.and_false, Bool.false_and, decide_true, decide_false, and_true, true_and, and_self, and_false, false_and, Bool.and_self, not_true, not_false, Bool.not_true, Bool.not_false, ge_iff_le, gt_iff_lt, if_true, if_false, Bool.false_eq_true, ite_true, ite_false, reduceIte]; done) | (congr 1; symm; simp_all [limOk]; done) | (congr 1; symm; simp_all [limOk]; omega))
theorem ok_spec_l01Num (n : Int) : RO Try.prog 137 [.one (.int .i64 n)] [(false, [.rd (.bool (decide (0 ≤ n ∧ n ≤ 1152921504606846975)))])] := by
 refine RO.intro Try.func137 rfl 5 rfl (le_ok rfl) fun w Z => ?_
 refine T.seq ?_
 refine T.region ?_
 refine TL.as (pB false) ?_
 refine TL.nil ?_
 refine T.seq ?_
 refine T.region ?_
 refine TL.mv (pI n) ?_
 refine TL.c (Step.cl (xs := [.tmp 3, .const (.int .i64 0), .const (.int .i64 1152921504606846975)]) (ps := [(pI n), (pI 0), (pI 1152921504606846975)]) (g := .func 138) false (.cons (.one (.d _)) (.cons (.one (.d _)) (.cons (.one (.d _)) .nil))) (ok_spec_l01In n 0 1152921504606846975)) ?_
 refine TL.as (pB (decide (0 ≤ n ∧ n ≤ 1152921504606846975))) ?_
 refine TL.nil ?_
 refine T.ret ?_
 exact ⟨[(false, [.d (.bool (decide (0 ≤ n ∧ n ≤ 1152921504606846975)))])], (.cons rfl .nil), rfl, [], (RetC.rd' rfl .nil)⟩
theorem ok_spec_l07Hash (h : List Int) : RO Try.prog 139 [.one (.ints .u8 h)] [(false, [.rd (.bool (decide ((h.length : Int) = 32)))])] := by
 refine RO.intro Try.func139 rfl 6 rfl (le_ok rfl) fun w Z => ?_
 refine T.bnd 0 0 rfl rfl fun hb_0_0 => ?_
 simp only [D.size, List.length_map] at hb_0_0
 refine T.seq ?_
 refine T.region ?_
 refine TL.as (pB false) ?_
 refine TL.nil ?_
 refine T.seq ?_
 refine T.region ?_
 refine TL.mv (pS h) ?_
 refine TL.c (Step.len (e := 5) (z := 1) (d := (.ints .u8 h)) rfl rfl (lt_ok rfl) (by kernel_rfl) rfl rfl) ?_
 refine TL.c (Step.bin rfl rfl (lt_ok rfl) rfl rfl (Bin.eql (k := .i64) (a := (h.length : Int)) (b := 32))) ?_
 refine TL.as (pB (decide ((h.length : Int) = 32))) ?_
 refine TL.nil ?_
 refine T.ret ?_
 exact ⟨[(false, [.d (.bool (decide ((h.length : Int) = 32)))])], (.cons rfl .nil), rfl, [], (RetC.rd' rfl .nil)⟩
theorem ok_spec_TcOk (l : SLimits) (t : STc) : RO Try.prog 87 [.agg l.cells, .agg t.cells] [(false, [.rd (.bool (tcOk l t))])] := by
 refine RO.intro Try.func87 rfl 74 rfl (le_ok rfl) fun w Z => ?_
 refine T.bnd 1 1 rfl rfl fun hb_1_1 => ?_
 simp only [D.size, List.length_map] at hb_1_1
 have hw_ : 0 ≤ t.f0 → t.f0 ≤ 1152921504606846975 → IntKind.i64.wrap (t.f0 - 1) = t.f0 - 1 := fun h1 h2 => wrap_ok (by omega) (by omega)
 refine T.seq ?_
 refine T.region ?_
 refine TL.c (Step.box (p := (.agg [cI l.f0, cI l.f1, cI l.f2, cI l.f3, cI l.f4])) (ps := [cI l.f0, cI l.f1, cI l.f2, cI l.f3, cI l.f4]) rfl rfl (lt_ok rfl) rfl rfl rfl rfl rfl) ?_
 refine TL.c (Step.box (p := (.agg [cI t.f0, .d (.sl 3 (t.f1.map SEntry.cells))])) (ps := [cI t.f0, .d (.sl 3 (t.f1.map SEntry.cells))]) rfl rfl (lt_ok rfl) rfl rfl rfl rfl rfl) ?_
 refine TL.as (pB false) ?_
 refine TL.nil ?_
 refine T.seq ?_
 refine T.seq ?_
 refine T.region ?_
 refine TL.c (Step.load_box_agg (n := 5) (qs := [cI l.f0, cI l.f1, cI l.f2, cI l.f3, cI l.f4]) rfl rfl (lt_ok rfl) (by kernel_rfl) rfl rfl rfl rfl) ?_
 refine TL.c (Step.cl (xs := [.tmp 7]) (ps := [(.agg [cI l.f0, cI l.f1, cI l.f2, cI l.f3, cI l.f4])]) (g := .func 94) false (.cons (.agg (.cons (.d _) (.cons (.d _) (.cons (.d _) (.cons (.d _) (.cons (.d _) .nil)))))) .nil) (ok_spec_LimitsOk l)) ?_
 refine TL.c (Step.not (b := (limOk l)) rfl rfl (lt_ok rfl) rfl) ?_
 refine TL.mv (pB (!(limOk l))) ?_
 rcases Bool.eq_false_or_eq_true (!(limOk l)) with hb1 | hb1
 ·
  refine TL.known 10 hb1 rfl ?_
  have hb1' := hb1
  replace hb1' : (limOk l) = false := by simpa only [Bool.not_eq_true', Bool.not_eq_false'] using hb1'
  refine TL.gf 10 ?_
  refine TL.gf 10 ?_
  refine TL.gf 10 ?_
  refine TL.gf 10 ?_
  refine TL.pk true (pB true) ?_
  refine TL.mv (pB true) ?_
  refine TL.gf 16 ?_
  refine TL.gf 16 ?_
  refine TL.gf 16 ?_
  refine TL.gf 16 ?_
  refine TL.gf 16 ?_
  refine TL.gf 16 ?_
  refine TL.pk true (pB true) ?_
  refine TL.nil ?_
  refine T.cond (b := true) rfl (fun h2_ => ?_) (fun h2_ => absurd h2_ (by simp))
  refine T.seq ?_
  refine T.region ?_
  refine TL.as (pB false) ?_
  refine TL.nil ?_
  refine T.ret ?_
  refine ⟨[(false, [.d (.bool false)])], (.cons rfl .nil), rfl, [], (RetC.rd' ?_ .nil)⟩ <;> ((congr 1; symm; first | (rw [tcOk_no (i := i) (by omega) (tcEnt_no (by (try simp only [hashes, List.all_cons, List.all_nil, Bool.and_true] at *); (try simp only [decide_eq_true_eq, decide_eq_false_iff_not, Bool.not_eq_true', Bool.not_eq_false'] at *); (try (have hw2_ := hw_ (by omega) (by omega))); omega))]; done) | (unfold tcOk; rw [show tcAll l t t.f1.length = true from by rw [show t.f1.length = i from by omega]; exact hx2, decide_eq_true (p := (t.f1.length : Int) ≤ l.f0) (by omega), decide_eq_true (p := (0 ≤ t.f0 ∧ t.f0 ≤ 1152921504606846975)) (by omega)]; simp only [*, Bool.and_true, Bool.true_and, Bool.and_false, Bool.false_and, decide_true, decide_false, and_true, true_and, and_self, and_false, false_and, Bool.and_self, not_true, not_false, Bool.not_true, Bool.not_false, ge_iff_le, gt_iff_lt, if_true, if_false, Bool.false_eq_true, ite_true, ite_false, reduceIte]; done) | (unfold tcOk; rw [show tcAll l t t.f1.length = true from by rw [show t.f1.length = i from by omega]; exact hx2, decide_eq_true (p := (0 ≤ t.f0 ∧ t.f0 ≤ 1152921504606846975)) (by omega)]; simp only [*, Bool.and_true, Bool.true_and, Bool.and_false, Bool.false_and, decide_true, decide_false, and_true, true_and, and_self, and_false, false_and, Bool.and_self, not_true, not_false, Bool.not_true, Bool.not_false, ge_iff_le, gt_iff_lt, if_true, if_false, Bool.false_eq_true, ite_true, ite_false, reduceIte]; done) | (unfold tcOk; simp only [*, Bool.and_true, Bool.true_and, Bool.and_false, Bool.false_and, decide_true, decide_false, and_true, true_and, and_self, and_false, false_and, Bool.and_self, not_true, not_false, Bool.not_true, Bool.not_false, ge_iff_le, gt_iff_lt, if_true, if_false, Bool.false_eq_true, ite_true, ite_false, reduceIte]; done) | (unfold tcOk; rw [decide_eq_false (p := (t.f1.length : Int) ≤ l.f0) (by omega)]; simp; done)))
 ·
  refine TL.known 10 hb1 rfl ?_
  have hb1' := hb1
  replace hb1' : (limOk l) = true := by simpa only [Bool.not_eq_true', Bool.not_eq_false'] using hb1'
  refine TL.gy 10 (Step.fieldAddr (q := 0) (off := 0) (n := 1) (one := true) rfl rfl (lt_ok rfl) (by kernel_rfl) (Nat.succ_ne_zero _) rfl) ?_
  refine TL.gy 10 (Step.load_box (c := cI t.f0) rfl rfl (lt_ok rfl) (by kernel_rfl) rfl rfl rfl) ?_
  refine TL.gy 10 (Step.cl (xs := [.tmp 12]) (ps := [(pI t.f0)]) (g := .func 137) false (.cons (.one (.d _)) .nil) (ok_spec_l01Num t.f0)) ?_
  refine TL.gy 10 (Step.not (b := (decide (0 ≤ t.f0 ∧ t.f0 ≤ 1152921504606846975))) rfl rfl (lt_ok rfl) rfl) ?_
  refine TL.pk false (pB (!(decide (0 ≤ t.f0 ∧ t.f0 ≤ 1152921504606846975)))) ?_
  refine TL.mv (pB (!(decide (0 ≤ t.f0 ∧ t.f0 ≤ 1152921504606846975)))) ?_
  rcases Bool.eq_false_or_eq_true (!(decide (0 ≤ t.f0 ∧ t.f0 ≤ 1152921504606846975))) with hb3 | hb3
  ·
   refine TL.known 16 hb3 rfl ?_
   have hb3' := hb3
   replace hb3' : (decide (0 ≤ t.f0 ∧ t.f0 ≤ 1152921504606846975)) = false := by simpa only [Bool.not_eq_true', Bool.not_eq_false'] using hb3'
   replace hb3' := of_decide_eq_false hb3'
   refine TL.gf 16 ?_
   refine TL.gf 16 ?_
   refine TL.gf 16 ?_
   refine TL.gf 16 ?_
   refine TL.gf 16 ?_
   refine TL.gf 16 ?_
   refine TL.pk true (pB true) ?_
   refine TL.nil ?_
   refine T.cond (b := true) rfl (fun h4_ => ?_) (fun h4_ => absurd h4_ (by simp))
   refine T.seq ?_
   refine T.region ?_
   refine TL.as (pB false) ?_
   refine TL.nil ?_
   refine T.ret ?_
   refine ⟨[(false, [.d (.bool false)])], (.cons rfl .nil), rfl, [], (RetC.rd' ?_ .nil)⟩ <;> ((congr 1; symm; first | (rw [tcOk_no (i := i) (by omega) (tcEnt_no (by (try simp only [hashes, List.all_cons, List.all_nil, Bool.and_true] at *); (try simp only [decide_eq_true_eq, decide_eq_false_iff_not, Bool.not_eq_true', Bool.not_eq_false'] at *); (try (have hw2_ := hw_ (by omega) (by omega))); omega))]; done) | (unfold tcOk; rw [show tcAll l t t.f1.length = true from by rw [show t.f1.length = i from by omega]; exact hx2, decide_eq_true (p := (t.f1.length : Int) ≤ l.f0) (by omega), decide_eq_true (p := (0 ≤ t.f0 ∧ t.f0 ≤ 1152921504606846975)) (by omega)]; simp only [*, Bool.and_true, Bool.true_and, Bool.and_false, Bool.false_and, decide_true, decide_false, and_true, true_and, and_self, and_false, false_and, Bool.and_self, not_true, not_false, Bool.not_true, Bool.not_false, ge_iff_le, gt_iff_lt, if_true, if_false, Bool.false_eq_true, ite_true, ite_false, reduceIte]; done) | (unfold tcOk; rw [show tcAll l t t.f1.length = true from by rw [show t.f1.length = i from by omega]; exact hx2, decide_eq_true (p := (0 ≤ t.f0 ∧ t.f0 ≤ 1152921504606846975)) (by omega)]; simp only [*, Bool.and_true, Bool.true_and, Bool.and_false, Bool.false_and, decide_true, decide_false, and_true, true_and, and_self, and_false, false_and, Bool.and_self, not_true, not_false, Bool.not_true, Bool.not_false, ge_iff_le, gt_iff_lt, if_true, if_false, Bool.false_eq_true, ite_true, ite_false, reduceIte]; done) | (unfold tcOk; simp only [*, Bool.and_true, Bool.true_and, Bool.and_false, Bool.false_and, decide_true, decide_false, and_true, true_and, and_self, and_false, false_and, Bool.and_self, not_true, not_false, Bool.not_true, Bool.not_false, ge_iff_le, gt_iff_lt, if_true, if_false, Bool.false_eq_true, ite_true, ite_false, reduceIte]; done) | (unfold tcOk; rw [decide_eq_false (p := (t.f1.length : Int) ≤ l.f0) (by omega)]; simp; done)))
  ·
   refine TL.known 16 hb3 rfl ?_
   have hb3' := hb3
   replace hb3' : (decide (0 ≤ t.f0 ∧ t.f0 ≤ 1152921504606846975)) = true := by simpa only [Bool.not_eq_true', Bool.not_eq_false'] using hb3'
   replace hb3' := of_decide_eq_true hb3'
   refine TL.gy 16 (Step.fieldAddr (q := 0) (off := 1) (n := 1) (one := true) rfl rfl (lt_ok rfl) (by kernel_rfl) (Nat.succ_ne_zero _) rfl) ?_
   refine TL.gy 16 (Step.load_box (c := .d (.sl 3 (t.f1.map SEntry.cells))) rfl rfl (lt_ok rfl) (by kernel_rfl) rfl rfl rfl) ?_
   refine TL.gy 16 (Step.len' (e := 121) (z := 3) (d := (.sl 3 (t.f1.map SEntry.cells))) (n := t.f1.length) rfl rfl (lt_ok rfl) (by kernel_rfl) rfl rfl (by simp [D.size])) ?_
   refine TL.gy 16 (Step.fieldAddr (q := 0) (off := 0) (n := 1) (one := true) rfl rfl (lt_ok rfl) (by kernel_rfl) (Nat.succ_ne_zero _) rfl) ?_
   refine TL.gy 16 (Step.load_box (c := cI l.f0) rfl rfl (lt_ok rfl) (by kernel_rfl) rfl rfl rfl) ?_
   refine TL.gy 16 (Step.bin rfl rfl (lt_ok rfl) rfl rfl (Bin.gtr (k := .i64) (a := (t.f1.length : Int)) (b := l.f0))) ?_
   refine TL.pk false (pB (decide (l.f0 < (t.f1.length : Int)))) ?_
   refine TL.nil ?_
   refine T.cond (b := decide (l.f0 < (t.f1.length : Int))) rfl (fun h5 => ?_) (fun h5 => ?_)
   ·
    replace h5 := of_decide_eq_true h5
    refine T.seq ?_
    refine T.region ?_
    refine TL.as (pB false) ?_
    refine TL.nil ?_
    refine T.ret ?_
    refine ⟨[(false, [.d (.bool false)])], (.cons rfl .nil), rfl, [], (RetC.rd' ?_ .nil)⟩ <;> ((congr 1; symm; first | (rw [tcOk_no (i := i) (by omega) (tcEnt_no (by (try simp only [hashes, List.all_cons, List.all_nil, Bool.and_true] at *); (try simp only [decide_eq_true_eq, decide_eq_false_iff_not, Bool.not_eq_true', Bool.not_eq_false'] at *); (try (have hw2_ := hw_ (by omega) (by omega))); omega))]; done) | (unfold tcOk; rw [show tcAll l t t.f1.length = true from by rw [show t.f1.length = i from by omega]; exact hx2, decide_eq_true (p := (t.f1.length : Int) ≤ l.f0) (by omega), decide_eq_true (p := (0 ≤ t.f0 ∧ t.f0 ≤ 1152921504606846975)) (by omega)]; simp only [*, Bool.and_true, Bool.true_and, Bool.and_false, Bool.false_and, decide_true, decide_false, and_true, true_and, and_self, and_false, false_and, Bool.and_self, not_true, not_false, Bool.not_true, Bool.not_false, ge_iff_le, gt_iff_lt, if_true, if_false, Bool.false_eq_true, ite_true, ite_false, reduceIte]; done) | (unfold tcOk; rw [show tcAll l t t.f1.length = true from by rw [show t.f1.length = i from by omega]; exact hx2, decide_eq_true (p := (0 ≤ t.f0 ∧ t.f0 ≤ 1152921504606846975)) (by omega)]; simp only [*, Bool.and_true, Bool.true_and, Bool.and_false, Bool.false_and, decide_true, decide_false, and_true, true_and, and_self, and_false, false_and, Bool.and_self, not_true, not_false, Bool.not_true, Bool.not_false, ge_iff_le, gt_iff_lt, if_true, if_false, Bool.false_eq_true, ite_true, ite_false, reduceIte]; done) | (unfold tcOk; simp only [*, Bool.and_true, Bool.true_and, Bool.and_false, Bool.false_and, decide_true, decide_false, and_true, true_and, and_self, and_false, false_and, Bool.and_self, not_true, not_false, Bool.not_true, Bool.not_false, ge_iff_le, gt_iff_lt, if_true, if_false, Bool.false_eq_true, ite_true, ite_false, reduceIte]; done) | (unfold tcOk; rw [decide_eq_false (p := (t.f1.length : Int) ≤ l.f0) (by omega)]; simp; done)))
   ·
    replace h5 := of_decide_eq_false h5
    refine T.skip ?_
    refine T.seq ?_
    refine T.seq ?_
    refine T.region ?_
    refine TL.c (Step.fieldAddr (q := 0) (off := 1) (n := 1) (one := true) rfl rfl (lt_ok rfl) (by kernel_rfl) (Nat.succ_ne_zero _) rfl) ?_
    refine TL.c (Step.load_box (c := .d (.sl 3 (t.f1.map SEntry.cells))) rfl rfl (lt_ok rfl) (by kernel_rfl) rfl rfl rfl) ?_
    refine TL.c (Step.len' (e := 121) (z := 3) (d := (.sl 3 (t.f1.map SEntry.cells))) (n := t.f1.length) rfl rfl (lt_ok rfl) (by kernel_rfl) rfl rfl (by simp [D.size])) ?_
    refine TL.mv (pI 0) ?_
    refine TL.nil ?_
    refine T.block ?_
    refine T.loop (ι := Nat) (fun xx_ => { tm := [(2, (.one (.ptr 2 0))), (3, (.one (.ptr 3 0))), (25, (.one (.d (.sl 3 (t.f1.map SEntry.cells))))), (26, (pI (t.f1.length : Int))), (27, (pI (xx_ : Int)))], rows := [], boxes := [(2, (44, [cI l.f0, cI l.f1, cI l.f2, cI l.f3, cI l.f4])), (3, (48, [cI t.f0, .d (.sl 3 (t.f1.map SEntry.cells))]))] }) (fun xx_ => xx_ ≤ t.f1.length ∧ tcAll l t xx_ = true) (fun xx_ => t.f1.length - xx_) 0 ?_ ?_ ?_
    · refine Env.le_mk ⟨rfl, rfl, rfl, rfl, ?_, trivial⟩ trivial ⟨rfl, rfl, trivial⟩ <;> (first | rfl | (simp; done) | (congr 3; omega))
    · exact ⟨Nat.zero_le _, rfl⟩
    ·
     intro i hx
     try dsimp only at hx ⊢
     obtain ⟨hx1, hx2⟩ := hx
     refine T.seq ?_
     refine T.region ?_
     refine TL.c (Step.bin rfl rfl (lt_ok rfl) rfl rfl (Bin.lss (k := .i64) (a := (i : Int)) (b := (t.f1.length : Int)))) ?_
     refine TL.nil ?_
     refine T.seq ?_
     refine T.cond (b := decide ((i : Int) < (t.f1.length : Int))) rfl (fun h6 => ?_) (fun h6 => ?_)
     ·
      replace h6 := of_decide_eq_true h6
      refine T.skip ?_
      refine T.seq ?_
      refine T.block ?_
      refine T.seq ?_
      refine T.region ?_
      refine TL.mv (pI (i : Int)) ?_
      refine TL.c (Step.index (e := 121) (z := 3) (i := (i : Int)) rfl rfl (lt_ok rfl) (by kernel_rfl) rfl rfl rfl (lt_ok rfl) rfl (by first | omega | (simp; omega)) (by simp only [D.size]; first | omega | (simp; omega))) ?_
      refine TL.c (Step.load_agg (n := 3) (cs := [cI (t.f1.getD i default).f0, cI (t.f1.getD i default).f1, cS (t.f1.getD i default).f2]) rfl rfl (lt_ok rfl) (by kernel_rfl) rfl rfl (by simp only [List.range, List.range.loop, List.map_cons, List.map_nil]; rw [cell_map default (by first | omega | (simp; omega)), cell_map default (by first | omega | (simp; omega)), cell_map default (by first | omega | (simp; omega))]; rfl)) ?_
      refine TL.c (Step.alloc (cs := [.int .i64 0, .int .i64 0, .slice none 0 0]) (ps := [cI 0, cI 0, .nil]) rfl rfl (lt_ok rfl) (by kernel_rfl) rfl rfl rfl rfl) ?_
      refine TL.as (pI (i : Int)) ?_
      refine TL.c (Step.store_box (n := 3) (p := (.agg [cI (t.f1.getD i default).f0, cI (t.f1.getD i default).f1, cS (t.f1.getD i default).f2])) (qs := [cI (t.f1.getD i default).f0, cI (t.f1.getD i default).f1, cS (t.f1.getD i default).f2]) (ps' := [cI (t.f1.getD i default).f0, cI (t.f1.getD i default).f1, cS (t.f1.getD i default).f2]) rfl rfl (by kernel_rfl) rfl rfl rfl rfl rfl rfl (le_ok rfl) rfl) ?_
      refine TL.nil ?_
      refine T.seq ?_
      rcases Bool.eq_false_or_eq_true (!(decide (0 ≤ (t.f1.getD i default).f0 ∧ (t.f1.getD i default).f0 ≤ (IntKind.i64.wrap (l.f0 - 1))))) with hb7 | hb7
      ·
       have hb7' := hb7
       replace hb7' : (decide (0 ≤ (t.f1.getD i default).f0 ∧ (t.f1.getD i default).f0 ≤ (IntKind.i64.wrap (l.f0 - 1)))) = false := by simpa only [Bool.not_eq_true', Bool.not_eq_false'] using hb7'
       replace hb7' := of_decide_eq_false hb7'
       refine T.draw [⟨32, (.one (.ptr 6 0)), []⟩, ⟨33, (pI (t.f1.getD i default).f0), []⟩, ⟨34, (.one (.ptr 2 0)), []⟩, ⟨35, (pI l.f0), []⟩, ⟨36, (pI (IntKind.i64.wrap (l.f0 - 1))), []⟩, ⟨37, (pB (decide (0 ≤ (t.f1.getD i default).f0 ∧ (t.f1.getD i default).f0 ≤ (IntKind.i64.wrap (l.f0 - 1))))), []⟩, ⟨38, (pB true), []⟩, ⟨39, (pB true), []⟩, ⟨40, (.tup []), []⟩, ⟨41, (.tup []), []⟩, ⟨42, (.tup []), []⟩, ⟨43, (pB true), []⟩, ⟨44, (pB true), []⟩, ⟨45, (.tup []), []⟩, ⟨46, (.tup []), []⟩, ⟨47, (.tup []), []⟩, ⟨48, (.tup []), []⟩, ⟨49, (.tup []), []⟩, ⟨50, (pB true), []⟩, ⟨51, (pB true), []⟩, ⟨52, (.tup []), []⟩, ⟨53, (.tup []), []⟩, ⟨54, (.tup []), []⟩, ⟨55, (.tup []), []⟩, ⟨56, (pB true), []⟩, ⟨57, (pB true), []⟩, ⟨58, (.tup []), []⟩, ⟨59, (.tup []), []⟩, ⟨60, (.tup []), []⟩, ⟨61, (.tup []), []⟩, ⟨62, (.tup []), []⟩, ⟨63, (.tup []), []⟩, ⟨64, (.tup []), []⟩, ⟨65, (.tup []), []⟩, ⟨66, (.tup []), []⟩, ⟨67, (.tup []), []⟩, ⟨68, (.tup []), []⟩, ⟨69, (.tup []), []⟩, ⟨70, (.tup []), []⟩, ⟨71, (.tup []), []⟩, ⟨72, (pB true), []⟩] (by kernel_rfl) (by kernel_rfl) ?_ ?_
       ·
        refine .cons (fun E A => OpStep.plain rfl (Step.fa (off := 0) (n := 1) (one := true) 0 32 (A.g 6 rfl))) ?_
        refine .cons (fun E A => OpStep.plain rfl (Step.load_box (c := cI (t.f1.getD i default).f0) (t := 33) rfl rfl (by exact lt_ok rfl) (by kernel_rfl) (A.g 32 rfl) (by exact A.box rfl) rfl)) ?_
        refine .cons (fun E A => OpStep.plain rfl (Step.fa (off := 0) (n := 1) (one := true) 0 34 (A.g 2 rfl))) ?_
        refine .cons (fun E A => OpStep.plain rfl (Step.load_box (c := cI l.f0) (t := 35) rfl rfl (by exact lt_ok rfl) (by kernel_rfl) (A.g 34 rfl) (by exact A.box rfl) rfl)) ?_
        refine .cons (fun E A => OpStep.plain rfl (Step.bd (r := .int .i64 (IntKind.i64.wrap (l.f0 - 1))) 36 (A.g 35 rfl) rfl (Bin.sub (a := l.f0) (b := 1) (rfl)))) ?_
        refine .cons (fun E A => OpStep.plain rfl (Step.cd (xs := [.tmp 33, .const (.int .i64 0), .tmp 36]) (ps := [(pI (t.f1.getD i default).f0), (pI 0), (pI (IntKind.i64.wrap (l.f0 - 1)))]) (g := .func 138) false 37 (evs_cons (A.g 33 rfl) (evs_cons rfl (evs_cons (A.g 36 rfl) (rfl)))) (.cons (.one (.d _)) (.cons (.one (.d _)) (.cons (.one (.d _)) .nil))) (ok_spec_l01In (t.f1.getD i default).f0 0 (IntKind.i64.wrap (l.f0 - 1))) (At.freshRows A rfl))) ?_
        refine .cons (fun E A => OpStep.plain rfl (Step.tb 38 (!(decide (0 ≤ (t.f1.getD i default).f0 ∧ (t.f1.getD i default).f0 ≤ (IntKind.i64.wrap (l.f0 - 1))))) hb7 (Step.not (b := (decide (0 ≤ (t.f1.getD i default).f0 ∧ (t.f1.getD i default).f0 ≤ (IntKind.i64.wrap (l.f0 - 1))))) (t := 38) rfl rfl (by exact lt_ok rfl) (A.g 37 rfl)))) ?_
        refine .cons (fun E A => A.mv 38 39) ?_
        refine .cons (fun E A => A.of 39) ?_
        refine .cons (fun E A => A.of 39) ?_
        refine .cons (fun E A => A.of 39) ?_
        refine .cons (fun E A => OpStep.plain rfl (Step.pick (b := true) (p := (pB true)) (t := 43) rfl rfl (by exact lt_ok rfl) (A.g 39 rfl) rfl)) ?_
        refine .cons (fun E A => A.mv 43 44) ?_
        refine .cons (fun E A => A.of 44) ?_
        refine .cons (fun E A => A.of 44) ?_
        refine .cons (fun E A => A.of 44) ?_
        refine .cons (fun E A => A.of 44) ?_
        refine .cons (fun E A => A.of 44) ?_
        refine .cons (fun E A => OpStep.plain rfl (Step.pick (b := true) (p := (pB true)) (t := 50) rfl rfl (by exact lt_ok rfl) (A.g 44 rfl) rfl)) ?_
        refine .cons (fun E A => A.mv 50 51) ?_
        refine .cons (fun E A => A.of 51) ?_
        refine .cons (fun E A => A.of 51) ?_
        refine .cons (fun E A => A.of 51) ?_
        refine .cons (fun E A => A.of 51) ?_
        refine .cons (fun E A => OpStep.plain rfl (Step.pick (b := true) (p := (pB true)) (t := 56) rfl rfl (by exact lt_ok rfl) (A.g 51 rfl) rfl)) ?_
        refine .cons (fun E A => A.mv 56 57) ?_
        refine .cons (fun E A => A.of 57) ?_
        refine .cons (fun E A => A.of 57) ?_
        refine .cons (fun E A => A.of 57) ?_
        refine .cons (fun E A => A.ou 60) ?_
        refine .cons (fun E A => A.ou 60) ?_
        refine .cons (fun E A => A.ou 60) ?_
        refine .cons (fun E A => A.ou 60) ?_
        refine .cons (fun E A => A.ou 60) ?_
        refine .cons (fun E A => A.ou 60) ?_
        refine .cons (fun E A => A.ou 60) ?_
        refine .cons (fun E A => A.ou 60) ?_
        refine .cons (fun E A => A.ou 60) ?_
        refine .cons (fun E A => A.ou 60) ?_
        refine .cons (fun E A => A.of 57) ?_
        refine .cons (fun E A => OpStep.plain rfl (Step.pick (b := true) (p := (pB true)) (t := 72) rfl rfl (by exact lt_ok rfl) (A.g 57 rfl) rfl)) ?_
        exact .nil _ _
       refine TL.nil ?_
       refine T.cond (b := true) rfl (fun h8_ => ?_) (fun h8_ => absurd h8_ (by simp))
       refine T.seq ?_
       refine T.region ?_
       refine TL.as (pB false) ?_
       refine TL.nil ?_
       refine T.ret ?_
       refine ⟨[(false, [.d (.bool false)])], (.cons rfl .nil), rfl, [], (RetC.rd' ?_ .nil)⟩ <;> ((congr 1; symm; first | (rw [tcOk_no (i := i) (by omega) (tcEnt_no (by (try simp only [hashes, List.all_cons, List.all_nil, Bool.and_true] at *); (try simp only [decide_eq_true_eq, decide_eq_false_iff_not, Bool.not_eq_true', Bool.not_eq_false'] at *); (try (have hw2_ := hw_ (by omega) (by omega))); omega))]; done) | (unfold tcOk; rw [show tcAll l t t.f1.length = true from by rw [show t.f1.length = i from by omega]; exact hx2, decide_eq_true (p := (t.f1.length : Int) ≤ l.f0) (by omega), decide_eq_true (p := (0 ≤ t.f0 ∧ t.f0 ≤ 1152921504606846975)) (by omega)]; simp only [*, Bool.and_true, Bool.true_and, Bool.and_false, Bool.false_and, decide_true, decide_false, and_true, true_and, and_self, and_false, false_and, Bool.and_self, not_true, not_false, Bool.not_true, Bool.not_false, ge_iff_le, gt_iff_lt, if_true, if_false, Bool.false_eq_true, ite_true, ite_false, reduceIte]; done) | (unfold tcOk; rw [show tcAll l t t.f1.length = true from by rw [show t.f1.length = i from by omega]; exact hx2, decide_eq_true (p := (0 ≤ t.f0 ∧ t.f0 ≤ 1152921504606846975)) (by omega)]; simp only [*, Bool.and_true, Bool.true_and, Bool.and_false, Bool.false_and, decide_true, decide_false, and_true, true_and, and_self, and_false, false_and, Bool.and_self, not_true, not_false, Bool.not_true, Bool.not_false, ge_iff_le, gt_iff_lt, if_true, if_false, Bool.false_eq_true, ite_true, ite_false, reduceIte]; done) | (unfold tcOk; simp only [*, Bool.and_true, Bool.true_and, Bool.and_false, Bool.false_and, decide_true, decide_false, and_true, true_and, and_self, and_false, false_and, Bool.and_self, not_true, not_false, Bool.not_true, Bool.not_false, ge_iff_le, gt_iff_lt, if_true, if_false, Bool.false_eq_true, ite_true, ite_false, reduceIte]; done) | (unfold tcOk; rw [decide_eq_false (p := (t.f1.length : Int) ≤ l.f0) (by omega)]; simp; done)))
      ·
       have hb7' := hb7
       replace hb7' : (decide (0 ≤ (t.f1.getD i default).f0 ∧ (t.f1.getD i default).f0 ≤ (IntKind.i64.wrap (l.f0 - 1)))) = true := by simpa only [Bool.not_eq_true', Bool.not_eq_false'] using hb7'
       replace hb7' := of_decide_eq_true hb7'
       rcases Bool.eq_false_or_eq_true (decide ((t.f1.getD i default).f1 < 0)) with hb9 | hb9
       ·
        have hb9' := hb9
        replace hb9' := of_decide_eq_true hb9'
        refine T.draw [⟨32, (.one (.ptr 6 0)), []⟩, ⟨33, (pI (t.f1.getD i default).f0), []⟩, ⟨34, (.one (.ptr 2 0)), []⟩, ⟨35, (pI l.f0), []⟩, ⟨36, (pI (IntKind.i64.wrap (l.f0 - 1))), []⟩, ⟨37, (pB (decide (0 ≤ (t.f1.getD i default).f0 ∧ (t.f1.getD i default).f0 ≤ (IntKind.i64.wrap (l.f0 - 1))))), []⟩, ⟨38, (pB false), []⟩, ⟨39, (pB false), []⟩, ⟨40, (.one (.ptr 6 1)), []⟩, ⟨41, (pI (t.f1.getD i default).f1), []⟩, ⟨42, (pB true), []⟩, ⟨43, (pB true), []⟩, ⟨44, (pB true), []⟩, ⟨45, (.tup []), []⟩, ⟨46, (.tup []), []⟩, ⟨47, (.tup []), []⟩, ⟨48, (.tup []), []⟩, ⟨49, (.tup []), []⟩, ⟨50, (pB true), []⟩, ⟨51, (pB true), []⟩, ⟨52, (.tup []), []⟩, ⟨53, (.tup []), []⟩, ⟨54, (.tup []), []⟩, ⟨55, (.tup []), []⟩, ⟨56, (pB true), []⟩, ⟨57, (pB true), []⟩, ⟨58, (.tup []), []⟩, ⟨59, (.tup []), []⟩, ⟨60, (.tup []), []⟩, ⟨61, (.tup []), []⟩, ⟨62, (.tup []), []⟩, ⟨63, (.tup []), []⟩, ⟨64, (.tup []), []⟩, ⟨65, (.tup []), []⟩, ⟨66, (.tup []), []⟩, ⟨67, (.tup []), []⟩, ⟨68, (.tup []), []⟩, ⟨69, (.tup []), []⟩, ⟨70, (.tup []), []⟩, ⟨71, (.tup []), []⟩, ⟨72, (pB true), []⟩] (by kernel_rfl) (by kernel_rfl) ?_ ?_
        ·
         refine .cons (fun E A => OpStep.plain rfl (Step.fa (off := 0) (n := 1) (one := true) 0 32 (A.g 6 rfl))) ?_
         refine .cons (fun E A => OpStep.plain rfl (Step.load_box (c := cI (t.f1.getD i default).f0) (t := 33) rfl rfl (by exact lt_ok rfl) (by kernel_rfl) (A.g 32 rfl) (by exact A.box rfl) rfl)) ?_
         refine .cons (fun E A => OpStep.plain rfl (Step.fa (off := 0) (n := 1) (one := true) 0 34 (A.g 2 rfl))) ?_
         refine .cons (fun E A => OpStep.plain rfl (Step.load_box (c := cI l.f0) (t := 35) rfl rfl (by exact lt_ok rfl) (by kernel_rfl) (A.g 34 rfl) (by exact A.box rfl) rfl)) ?_
         refine .cons (fun E A => OpStep.plain rfl (Step.bd (r := .int .i64 (IntKind.i64.wrap (l.f0 - 1))) 36 (A.g 35 rfl) rfl (Bin.sub (a := l.f0) (b := 1) (rfl)))) ?_
         refine .cons (fun E A => OpStep.plain rfl (Step.cd (xs := [.tmp 33, .const (.int .i64 0), .tmp 36]) (ps := [(pI (t.f1.getD i default).f0), (pI 0), (pI (IntKind.i64.wrap (l.f0 - 1)))]) (g := .func 138) false 37 (evs_cons (A.g 33 rfl) (evs_cons rfl (evs_cons (A.g 36 rfl) (rfl)))) (.cons (.one (.d _)) (.cons (.one (.d _)) (.cons (.one (.d _)) .nil))) (ok_spec_l01In (t.f1.getD i default).f0 0 (IntKind.i64.wrap (l.f0 - 1))) (At.freshRows A rfl))) ?_
         refine .cons (fun E A => OpStep.plain rfl (Step.tb 38 (!(decide (0 ≤ (t.f1.getD i default).f0 ∧ (t.f1.getD i default).f0 ≤ (IntKind.i64.wrap (l.f0 - 1))))) hb7 (Step.not (b := (decide (0 ≤ (t.f1.getD i default).f0 ∧ (t.f1.getD i default).f0 ≤ (IntKind.i64.wrap (l.f0 - 1))))) (t := 38) rfl rfl (by exact lt_ok rfl) (A.g 37 rfl)))) ?_
         refine .cons (fun E A => A.mv 38 39) ?_
         refine .cons (fun E A => A.y 39 (Step.fa (off := 1) (n := 1) (one := true) 0 40 (A.g 6 rfl))) ?_
         refine .cons (fun E A => A.y 39 (Step.load_box (c := cI (t.f1.getD i default).f1) (t := 41) rfl rfl (by exact lt_ok rfl) (by kernel_rfl) (A.g 40 rfl) (by exact A.box rfl) rfl)) ?_
         refine .cons (fun E A => A.y 39 (Step.tb 42 (decide ((t.f1.getD i default).f1 < 0)) hb9 (Step.bd 42 (A.g 41 rfl) rfl (Bin.lss (k := .i64) (a := (t.f1.getD i default).f1) (b := 0))))) ?_
         refine .cons (fun E A => OpStep.plain rfl (Step.pick (b := false) (p := (pB true)) (t := 43) rfl rfl (by exact lt_ok rfl) (A.g 39 rfl) (A.g 42 rfl))) ?_
         refine .cons (fun E A => A.mv 43 44) ?_
         refine .cons (fun E A => A.of 44) ?_
         refine .cons (fun E A => A.of 44) ?_
         refine .cons (fun E A => A.of 44) ?_
         refine .cons (fun E A => A.of 44) ?_
         refine .cons (fun E A => A.of 44) ?_
         refine .cons (fun E A => OpStep.plain rfl (Step.pick (b := true) (p := (pB true)) (t := 50) rfl rfl (by exact lt_ok rfl) (A.g 44 rfl) rfl)) ?_
         refine .cons (fun E A => A.mv 50 51) ?_
         refine .cons (fun E A => A.of 51) ?_
         refine .cons (fun E A => A.of 51) ?_
         refine .cons (fun E A => A.of 51) ?_
         refine .cons (fun E A => A.of 51) ?_
         refine .cons (fun E A => OpStep.plain rfl (Step.pick (b := true) (p := (pB true)) (t := 56) rfl rfl (by exact lt_ok rfl) (A.g 51 rfl) rfl)) ?_
         refine .cons (fun E A => A.mv 56 57) ?_
         refine .cons (fun E A => A.of 57) ?_
         refine .cons (fun E A => A.of 57) ?_
         refine .cons (fun E A => A.of 57) ?_
         refine .cons (fun E A => A.ou 60) ?_
         refine .cons (fun E A => A.ou 60) ?_
         refine .cons (fun E A => A.ou 60) ?_
         refine .cons (fun E A => A.ou 60) ?_
         refine .cons (fun E A => A.ou 60) ?_
         refine .cons (fun E A => A.ou 60) ?_
         refine .cons (fun E A => A.ou 60) ?_
         refine .cons (fun E A => A.ou 60) ?_
         refine .cons (fun E A => A.ou 60) ?_
         refine .cons (fun E A => A.ou 60) ?_
         refine .cons (fun E A => A.of 57) ?_
         refine .cons (fun E A => OpStep.plain rfl (Step.pick (b := true) (p := (pB true)) (t := 72) rfl rfl (by exact lt_ok rfl) (A.g 57 rfl) rfl)) ?_
         exact .nil _ _
        refine TL.nil ?_
        refine T.cond (b := true) rfl (fun h10_ => ?_) (fun h10_ => absurd h10_ (by simp))
        refine T.seq ?_
        refine T.region ?_
        refine TL.as (pB false) ?_
        refine TL.nil ?_
        refine T.ret ?_
        refine ⟨[(false, [.d (.bool false)])], (.cons rfl .nil), rfl, [], (RetC.rd' ?_ .nil)⟩ <;> ((congr 1; symm; first | (rw [tcOk_no (i := i) (by omega) (tcEnt_no (by (try simp only [hashes, List.all_cons, List.all_nil, Bool.and_true] at *); (try simp only [decide_eq_true_eq, decide_eq_false_iff_not, Bool.not_eq_true', Bool.not_eq_false'] at *); (try (have hw2_ := hw_ (by omega) (by omega))); omega))]; done) | (unfold tcOk; rw [show tcAll l t t.f1.length = true from by rw [show t.f1.length = i from by omega]; exact hx2, decide_eq_true (p := (t.f1.length : Int) ≤ l.f0) (by omega), decide_eq_true (p := (0 ≤ t.f0 ∧ t.f0 ≤ 1152921504606846975)) (by omega)]; simp only [*, Bool.and_true, Bool.true_and, Bool.and_false, Bool.false_and, decide_true, decide_false, and_true, true_and, and_self, and_false, false_and, Bool.and_self, not_true, not_false, Bool.not_true, Bool.not_false, ge_iff_le, gt_iff_lt, if_true, if_false, Bool.false_eq_true, ite_true, ite_false, reduceIte]; done) | (unfold tcOk; rw [show tcAll l t t.f1.length = true from by rw [show t.f1.length = i from by omega]; exact hx2, decide_eq_true (p := (0 ≤ t.f0 ∧ t.f0 ≤ 1152921504606846975)) (by omega)]; simp only [*, Bool.and_true, Bool.true_and, Bool.and_false, Bool.false_and, decide_true, decide_false, and_true, true_and, and_self, and_false, false_and, Bool.and_self, not_true, not_false, Bool.not_true, Bool.not_false, ge_iff_le, gt_iff_lt, if_true, if_false, Bool.false_eq_true, ite_true, ite_false, reduceIte]; done) | (unfold tcOk; simp only [*, Bool.and_true, Bool.true_and, Bool.and_false, Bool.false_and, decide_true, decide_false, and_true, true_and, and_self, and_false, false_and, Bool.and_self, not_true, not_false, Bool.not_true, Bool.not_false, ge_iff_le, gt_iff_lt, if_true, if_false, Bool.false_eq_true, ite_true, ite_false, reduceIte]; done) | (unfold tcOk; rw [decide_eq_false (p := (t.f1.length : Int) ≤ l.f0) (by omega)]; simp; done)))
       ·
        have hb9' := hb9
        replace hb9' := of_decide_eq_false hb9'
        rcases Bool.eq_false_or_eq_true (decide (t.f0 ≤ (t.f1.getD i default).f1)) with hb11 | hb11
        ·
         have hb11' := hb11
         replace hb11' := of_decide_eq_true hb11'
         refine T.draw [⟨32, (.one (.ptr 6 0)), []⟩, ⟨33, (pI (t.f1.getD i default).f0), []⟩, ⟨34, (.one (.ptr 2 0)), []⟩, ⟨35, (pI l.f0), []⟩, ⟨36, (pI (IntKind.i64.wrap (l.f0 - 1))), []⟩, ⟨37, (pB (decide (0 ≤ (t.f1.getD i default).f0 ∧ (t.f1.getD i default).f0 ≤ (IntKind.i64.wrap (l.f0 - 1))))), []⟩, ⟨38, (pB false), []⟩, ⟨39, (pB false), []⟩, ⟨40, (.one (.ptr 6 1)), []⟩, ⟨41, (pI (t.f1.getD i default).f1), []⟩, ⟨42, (pB false), []⟩, ⟨43, (pB false), []⟩, ⟨44, (pB false), []⟩, ⟨45, (.one (.ptr 6 1)), []⟩, ⟨46, (pI (t.f1.getD i default).f1), []⟩, ⟨47, (.one (.ptr 3 0)), []⟩, ⟨48, (pI t.f0), []⟩, ⟨49, (pB true), []⟩, ⟨50, (pB true), []⟩, ⟨51, (pB true), []⟩, ⟨52, (.tup []), []⟩, ⟨53, (.tup []), []⟩, ⟨54, (.tup []), []⟩, ⟨55, (.tup []), []⟩, ⟨56, (pB true), []⟩, ⟨57, (pB true), []⟩, ⟨58, (.tup []), []⟩, ⟨59, (.tup []), []⟩, ⟨60, (.tup []), []⟩, ⟨61, (.tup []), []⟩, ⟨62, (.tup []), []⟩, ⟨63, (.tup []), []⟩, ⟨64, (.tup []), []⟩, ⟨65, (.tup []), []⟩, ⟨66, (.tup []), []⟩, ⟨67, (.tup []), []⟩, ⟨68, (.tup []), []⟩, ⟨69, (.tup []), []⟩, ⟨70, (.tup []), []⟩, ⟨71, (.tup []), []⟩, ⟨72, (pB true), []⟩] (by kernel_rfl) (by kernel_rfl) ?_ ?_
         ·
          refine .cons (fun E A => OpStep.plain rfl (Step.fa (off := 0) (n := 1) (one := true) 0 32 (A.g 6 rfl))) ?_
          refine .cons (fun E A => OpStep.plain rfl (Step.load_box (c := cI (t.f1.getD i default).f0) (t := 33) rfl rfl (by exact lt_ok rfl) (by kernel_rfl) (A.g 32 rfl) (by exact A.box rfl) rfl)) ?_
          refine .cons (fun E A => OpStep.plain rfl (Step.fa (off := 0) (n := 1) (one := true) 0 34 (A.g 2 rfl))) ?_
          refine .cons (fun E A => OpStep.plain rfl (Step.load_box (c := cI l.f0) (t := 35) rfl rfl (by exact lt_ok rfl) (by kernel_rfl) (A.g 34 rfl) (by exact A.box rfl) rfl)) ?_
          refine .cons (fun E A => OpStep.plain rfl (Step.bd (r := .int .i64 (IntKind.i64.wrap (l.f0 - 1))) 36 (A.g 35 rfl) rfl (Bin.sub (a := l.f0) (b := 1) (rfl)))) ?_
          refine .cons (fun E A => OpStep.plain rfl (Step.cd (xs := [.tmp 33, .const (.int .i64 0), .tmp 36]) (ps := [(pI (t.f1.getD i default).f0), (pI 0), (pI (IntKind.i64.wrap (l.f0 - 1)))]) (g := .func 138) false 37 (evs_cons (A.g 33 rfl) (evs_cons rfl (evs_cons (A.g 36 rfl) (rfl)))) (.cons (.one (.d _)) (.cons (.one (.d _)) (.cons (.one (.d _)) .nil))) (ok_spec_l01In (t.f1.getD i default).f0 0 (IntKind.i64.wrap (l.f0 - 1))) (At.freshRows A rfl))) ?_
          refine .cons (fun E A => OpStep.plain rfl (Step.tb 38 (!(decide (0 ≤ (t.f1.getD i default).f0 ∧ (t.f1.getD i default).f0 ≤ (IntKind.i64.wrap (l.f0 - 1))))) hb7 (Step.not (b := (decide (0 ≤ (t.f1.getD i default).f0 ∧ (t.f1.getD i default).f0 ≤ (IntKind.i64.wrap (l.f0 - 1))))) (t := 38) rfl rfl (by exact lt_ok rfl) (A.g 37 rfl)))) ?_
          refine .cons (fun E A => A.mv 38 39) ?_
          refine .cons (fun E A => A.y 39 (Step.fa (off := 1) (n := 1) (one := true) 0 40 (A.g 6 rfl))) ?_
          refine .cons (fun E A => A.y 39 (Step.load_box (c := cI (t.f1.getD i default).f1) (t := 41) rfl rfl (by exact lt_ok rfl) (by kernel_rfl) (A.g 40 rfl) (by exact A.box rfl) rfl)) ?_
          refine .cons (fun E A => A.y 39 (Step.tb 42 (decide ((t.f1.getD i default).f1 < 0)) hb9 (Step.bd 42 (A.g 41 rfl) rfl (Bin.lss (k := .i64) (a := (t.f1.getD i default).f1) (b := 0))))) ?_
          refine .cons (fun E A => OpStep.plain rfl (Step.pick (b := false) (p := (pB false)) (t := 43) rfl rfl (by exact lt_ok rfl) (A.g 39 rfl) (A.g 42 rfl))) ?_
          refine .cons (fun E A => A.mv 43 44) ?_
          refine .cons (fun E A => A.y 44 (Step.fa (off := 1) (n := 1) (one := true) 0 45 (A.g 6 rfl))) ?_
          refine .cons (fun E A => A.y 44 (Step.load_box (c := cI (t.f1.getD i default).f1) (t := 46) rfl rfl (by exact lt_ok rfl) (by kernel_rfl) (A.g 45 rfl) (by exact A.box rfl) rfl)) ?_
          refine .cons (fun E A => A.y 44 (Step.fa (off := 0) (n := 1) (one := true) 0 47 (A.g 3 rfl))) ?_
          refine .cons (fun E A => A.y 44 (Step.load_box (c := cI t.f0) (t := 48) rfl rfl (by exact lt_ok rfl) (by kernel_rfl) (A.g 47 rfl) (by exact A.box rfl) rfl)) ?_
          refine .cons (fun E A => A.y 44 (Step.tb 49 (decide (t.f0 ≤ (t.f1.getD i default).f1)) hb11 (Step.bd 49 (A.g 46 rfl) (A.g 48 rfl) (Bin.geq (k := .i64) (a := (t.f1.getD i default).f1) (b := t.f0))))) ?_
          refine .cons (fun E A => OpStep.plain rfl (Step.pick (b := false) (p := (pB true)) (t := 50) rfl rfl (by exact lt_ok rfl) (A.g 44 rfl) (A.g 49 rfl))) ?_
          refine .cons (fun E A => A.mv 50 51) ?_
          refine .cons (fun E A => A.of 51) ?_
          refine .cons (fun E A => A.of 51) ?_
          refine .cons (fun E A => A.of 51) ?_
          refine .cons (fun E A => A.of 51) ?_
          refine .cons (fun E A => OpStep.plain rfl (Step.pick (b := true) (p := (pB true)) (t := 56) rfl rfl (by exact lt_ok rfl) (A.g 51 rfl) rfl)) ?_
          refine .cons (fun E A => A.mv 56 57) ?_
          refine .cons (fun E A => A.of 57) ?_
          refine .cons (fun E A => A.of 57) ?_
          refine .cons (fun E A => A.of 57) ?_
          refine .cons (fun E A => A.ou 60) ?_
          refine .cons (fun E A => A.ou 60) ?_
          refine .cons (fun E A => A.ou 60) ?_
          refine .cons (fun E A => A.ou 60) ?_
          refine .cons (fun E A => A.ou 60) ?_
          refine .cons (fun E A => A.ou 60) ?_
          refine .cons (fun E A => A.ou 60) ?_
          refine .cons (fun E A => A.ou 60) ?_
          refine .cons (fun E A => A.ou 60) ?_
          refine .cons (fun E A => A.ou 60) ?_
          refine .cons (fun E A => A.of 57) ?_
          refine .cons (fun E A => OpStep.plain rfl (Step.pick (b := true) (p := (pB true)) (t := 72) rfl rfl (by exact lt_ok rfl) (A.g 57 rfl) rfl)) ?_
          exact .nil _ _
         refine TL.nil ?_
         refine T.cond (b := true) rfl (fun h12_ => ?_) (fun h12_ => absurd h12_ (by simp))
         refine T.seq ?_
         refine T.region ?_
         refine TL.as (pB false) ?_
         refine TL.nil ?_
         refine T.ret ?_
         refine ⟨[(false, [.d (.bool false)])], (.cons rfl .nil), rfl, [], (RetC.rd' ?_ .nil)⟩ <;> ((congr 1; symm; first | (rw [tcOk_no (i := i) (by omega) (tcEnt_no (by (try simp only [hashes, List.all_cons, List.all_nil, Bool.and_true] at *); (try simp only [decide_eq_true_eq, decide_eq_false_iff_not, Bool.not_eq_true', Bool.not_eq_false'] at *); (try (have hw2_ := hw_ (by omega) (by omega))); omega))]; done) | (unfold tcOk; rw [show tcAll l t t.f1.length = true from by rw [show t.f1.length = i from by omega]; exact hx2, decide_eq_true (p := (t.f1.length : Int) ≤ l.f0) (by omega), decide_eq_true (p := (0 ≤ t.f0 ∧ t.f0 ≤ 1152921504606846975)) (by omega)]; simp only [*, Bool.and_true, Bool.true_and, Bool.and_false, Bool.false_and, decide_true, decide_false, and_true, true_and, and_self, and_false, false_and, Bool.and_self, not_true, not_false, Bool.not_true, Bool.not_false, ge_iff_le, gt_iff_lt, if_true, if_false, Bool.false_eq_true, ite_true, ite_false, reduceIte]; done) | (unfold tcOk; rw [show tcAll l t t.f1.length = true from by rw [show t.f1.length = i from by omega]; exact hx2, decide_eq_true (p := (0 ≤ t.f0 ∧ t.f0 ≤ 1152921504606846975)) (by omega)]; simp only [*, Bool.and_true, Bool.true_and, Bool.and_false, Bool.false_and, decide_true, decide_false, and_true, true_and, and_self, and_false, false_and, Bool.and_self, not_true, not_false, Bool.not_true, Bool.not_false, ge_iff_le, gt_iff_lt, if_true, if_false, Bool.false_eq_true, ite_true, ite_false, reduceIte]; done) | (unfold tcOk; simp only [*, Bool.and_true, Bool.true_and, Bool.and_false, Bool.false_and, decide_true, decide_false, and_true, true_and, and_self, and_false, false_and, Bool.and_self, not_true, not_false, Bool.not_true, Bool.not_false, ge_iff_le, gt_iff_lt, if_true, if_false, Bool.false_eq_true, ite_true, ite_false, reduceIte]; done) | (unfold tcOk; rw [decide_eq_false (p := (t.f1.length : Int) ≤ l.f0) (by omega)]; simp; done)))
        ·
         have hb11' := hb11
         replace hb11' := of_decide_eq_false hb11'
         rcases Bool.eq_false_or_eq_true (!(decide (((t.f1.getD i default).f2.length : Int) = 32))) with hb13 | hb13
         ·
          have hb13' := hb13
          replace hb13' : (decide (((t.f1.getD i default).f2.length : Int) = 32)) = false := by simpa only [Bool.not_eq_true', Bool.not_eq_false'] using hb13'
          replace hb13' := of_decide_eq_false hb13'
          refine T.draw [⟨32, (.one (.ptr 6 0)), []⟩, ⟨33, (pI (t.f1.getD i default).f0), []⟩, ⟨34, (.one (.ptr 2 0)), []⟩, ⟨35, (pI l.f0), []⟩, ⟨36, (pI (IntKind.i64.wrap (l.f0 - 1))), []⟩, ⟨37, (pB (decide (0 ≤ (t.f1.getD i default).f0 ∧ (t.f1.getD i default).f0 ≤ (IntKind.i64.wrap (l.f0 - 1))))), []⟩, ⟨38, (pB false), []⟩, ⟨39, (pB false), []⟩, ⟨40, (.one (.ptr 6 1)), []⟩, ⟨41, (pI (t.f1.getD i default).f1), []⟩, ⟨42, (pB false), []⟩, ⟨43, (pB false), []⟩, ⟨44, (pB false), []⟩, ⟨45, (.one (.ptr 6 1)), []⟩, ⟨46, (pI (t.f1.getD i default).f1), []⟩, ⟨47, (.one (.ptr 3 0)), []⟩, ⟨48, (pI t.f0), []⟩, ⟨49, (pB false), []⟩, ⟨50, (pB false), []⟩, ⟨51, (pB false), []⟩, ⟨52, (.one (.ptr 6 2)), []⟩, ⟨53, (pS (t.f1.getD i default).f2), []⟩, ⟨54, (pB (decide (((t.f1.getD i default).f2.length : Int) = 32))), []⟩, ⟨55, (pB true), []⟩, ⟨56, (pB true), []⟩, ⟨57, (pB true), []⟩, ⟨58, (.tup []), []⟩, ⟨59, (.tup []), []⟩, ⟨60, (.tup []), []⟩, ⟨61, (.tup []), []⟩, ⟨62, (.tup []), []⟩, ⟨63, (.tup []), []⟩, ⟨64, (.tup []), []⟩, ⟨65, (.tup []), []⟩, ⟨66, (.tup []), []⟩, ⟨67, (.tup []), []⟩, ⟨68, (.tup []), []⟩, ⟨69, (.tup []), []⟩, ⟨70, (.tup []), []⟩, ⟨71, (.tup []), []⟩, ⟨72, (pB true), []⟩] (by kernel_rfl) (by kernel_rfl) ?_ ?_
          ·
           refine .cons (fun E A => OpStep.plain rfl (Step.fa (off := 0) (n := 1) (one := true) 0 32 (A.g 6 rfl))) ?_
           refine .cons (fun E A => OpStep.plain rfl (Step.load_box (c := cI (t.f1.getD i default).f0) (t := 33) rfl rfl (by exact lt_ok rfl) (by kernel_rfl) (A.g 32 rfl) (by exact A.box rfl) rfl)) ?_
           refine .cons (fun E A => OpStep.plain rfl (Step.fa (off := 0) (n := 1) (one := true) 0 34 (A.g 2 rfl))) ?_
           refine .cons (fun E A => OpStep.plain rfl (Step.load_box (c := cI l.f0) (t := 35) rfl rfl (by exact lt_ok rfl) (by kernel_rfl) (A.g 34 rfl) (by exact A.box rfl) rfl)) ?_
           refine .cons (fun E A => OpStep.plain rfl (Step.bd (r := .int .i64 (IntKind.i64.wrap (l.f0 - 1))) 36 (A.g 35 rfl) rfl (Bin.sub (a := l.f0) (b := 1) (rfl)))) ?_
           refine .cons (fun E A => OpStep.plain rfl (Step.cd (xs := [.tmp 33, .const (.int .i64 0), .tmp 36]) (ps := [(pI (t.f1.getD i default).f0), (pI 0), (pI (IntKind.i64.wrap (l.f0 - 1)))]) (g := .func 138) false 37 (evs_cons (A.g 33 rfl) (evs_cons rfl (evs_cons (A.g 36 rfl) (rfl)))) (.cons (.one (.d _)) (.cons (.one (.d _)) (.cons (.one (.d _)) .nil))) (ok_spec_l01In (t.f1.getD i default).f0 0 (IntKind.i64.wrap (l.f0 - 1))) (At.freshRows A rfl))) ?_
           refine .cons (fun E A => OpStep.plain rfl (Step.tb 38 (!(decide (0 ≤ (t.f1.getD i default).f0 ∧ (t.f1.getD i default).f0 ≤ (IntKind.i64.wrap (l.f0 - 1))))) hb7 (Step.not (b := (decide (0 ≤ (t.f1.getD i default).f0 ∧ (t.f1.getD i default).f0 ≤ (IntKind.i64.wrap (l.f0 - 1))))) (t := 38) rfl rfl (by exact lt_ok rfl) (A.g 37 rfl)))) ?_
           refine .cons (fun E A => A.mv 38 39) ?_
           refine .cons (fun E A => A.y 39 (Step.fa (off := 1) (n := 1) (one := true) 0 40 (A.g 6 rfl))) ?_
           refine .cons (fun E A => A.y 39 (Step.load_box (c := cI (t.f1.getD i default).f1) (t := 41) rfl rfl (by exact lt_ok rfl) (by kernel_rfl) (A.g 40 rfl) (by exact A.box rfl) rfl)) ?_
           refine .cons (fun E A => A.y 39 (Step.tb 42 (decide ((t.f1.getD i default).f1 < 0)) hb9 (Step.bd 42 (A.g 41 rfl) rfl (Bin.lss (k := .i64) (a := (t.f1.getD i default).f1) (b := 0))))) ?_
           refine .cons (fun E A => OpStep.plain rfl (Step.pick (b := false) (p := (pB false)) (t := 43) rfl rfl (by exact lt_ok rfl) (A.g 39 rfl) (A.g 42 rfl))) ?_
           refine .cons (fun E A => A.mv 43 44) ?_
           refine .cons (fun E A => A.y 44 (Step.fa (off := 1) (n := 1) (one := true) 0 45 (A.g 6 rfl))) ?_
           refine .cons (fun E A => A.y 44 (Step.load_box (c := cI (t.f1.getD i default).f1) (t := 46) rfl rfl (by exact lt_ok rfl) (by kernel_rfl) (A.g 45 rfl) (by exact A.box rfl) rfl)) ?_
           refine .cons (fun E A => A.y 44 (Step.fa (off := 0) (n := 1) (one := true) 0 47 (A.g 3 rfl))) ?_
           refine .cons (fun E A => A.y 44 (Step.load_box (c := cI t.f0) (t := 48) rfl rfl (by exact lt_ok rfl) (by kernel_rfl) (A.g 47 rfl) (by exact A.box rfl) rfl)) ?_
           refine .cons (fun E A => A.y 44 (Step.tb 49 (decide (t.f0 ≤ (t.f1.getD i default).f1)) hb11 (Step.bd 49 (A.g 46 rfl) (A.g 48 rfl) (Bin.geq (k := .i64) (a := (t.f1.getD i default).f1) (b := t.f0))))) ?_
           refine .cons (fun E A => OpStep.plain rfl (Step.pick (b := false) (p := (pB false)) (t := 50) rfl rfl (by exact lt_ok rfl) (A.g 44 rfl) (A.g 49 rfl))) ?_
           refine .cons (fun E A => A.mv 50 51) ?_
           refine .cons (fun E A => A.y 51 (Step.fa (off := 2) (n := 1) (one := true) 0 52 (A.g 6 rfl))) ?_
           refine .cons (fun E A => A.y 51 (Step.load_box (c := cS (t.f1.getD i default).f2) (t := 53) rfl rfl (by exact lt_ok rfl) (by kernel_rfl) (A.g 52 rfl) (by exact A.box rfl) rfl)) ?_
           refine .cons (fun E A => A.y 51 (Step.cd (xs := [.tmp 53]) (ps := [(pS (t.f1.getD i default).f2)]) (g := .func 139) false 54 (evs_cons (A.g 53 rfl) (rfl)) (.cons (.one (.d _)) .nil) (ok_spec_l07Hash (t.f1.getD i default).f2) (At.freshRows A rfl))) ?_
           refine .cons (fun E A => A.y 51 (Step.tb 55 (!(decide (((t.f1.getD i default).f2.length : Int) = 32))) hb13 (Step.not (b := (decide (((t.f1.getD i default).f2.length : Int) = 32))) (t := 55) rfl rfl (by exact lt_ok rfl) (A.g 54 rfl)))) ?_
           refine .cons (fun E A => OpStep.plain rfl (Step.pick (b := false) (p := (pB true)) (t := 56) rfl rfl (by exact lt_ok rfl) (A.g 51 rfl) (A.g 55 rfl))) ?_
           refine .cons (fun E A => A.mv 56 57) ?_
           refine .cons (fun E A => A.of 57) ?_
           refine .cons (fun E A => A.of 57) ?_
           refine .cons (fun E A => A.of 57) ?_
           refine .cons (fun E A => A.ou 60) ?_
           refine .cons (fun E A => A.ou 60) ?_
           refine .cons (fun E A => A.ou 60) ?_
           refine .cons (fun E A => A.ou 60) ?_
           refine .cons (fun E A => A.ou 60) ?_
           refine .cons (fun E A => A.ou 60) ?_
           refine .cons (fun E A => A.ou 60) ?_
           refine .cons (fun E A => A.ou 60) ?_
           refine .cons (fun E A => A.ou 60) ?_
           refine .cons (fun E A => A.ou 60) ?_
           refine .cons (fun E A => A.of 57) ?_
           refine .cons (fun E A => OpStep.plain rfl (Step.pick (b := true) (p := (pB true)) (t := 72) rfl rfl (by exact lt_ok rfl) (A.g 57 rfl) rfl)) ?_
           exact .nil _ _
          refine TL.nil ?_
          refine T.cond (b := true) rfl (fun h14_ => ?_) (fun h14_ => absurd h14_ (by simp))
          refine T.seq ?_
          refine T.region ?_
          refine TL.as (pB false) ?_
          refine TL.nil ?_
          refine T.ret ?_
          refine ⟨[(false, [.d (.bool false)])], (.cons rfl .nil), rfl, [], (RetC.rd' ?_ .nil)⟩ <;> ((congr 1; symm; first | (rw [tcOk_no (i := i) (by omega) (tcEnt_no (by (try simp only [hashes, List.all_cons, List.all_nil, Bool.and_true] at *); (try simp only [decide_eq_true_eq, decide_eq_false_iff_not, Bool.not_eq_true', Bool.not_eq_false'] at *); (try (have hw2_ := hw_ (by omega) (by omega))); omega))]; done) | (unfold tcOk; rw [show tcAll l t t.f1.length = true from by rw [show t.f1.length = i from by omega]; exact hx2, decide_eq_true (p := (t.f1.length : Int) ≤ l.f0) (by omega), decide_eq_true (p := (0 ≤ t.f0 ∧ t.f0 ≤ 1152921504606846975)) (by omega)]; simp only [*, Bool.and_true, Bool.true_and, Bool.and_false, Bool.false_and, decide_true, decide_false, and_true, true_and, and_self, and_false, false_and, Bool.and_self, not_true, not_false, Bool.not_true, Bool.not_false, ge_iff_le, gt_iff_lt, if_true, if_false, Bool.false_eq_true, ite_true, ite_false, reduceIte]; done) | (unfold tcOk; rw [show tcAll l t t.f1.length = true from by rw [show t.f1.length = i from by omega]; exact hx2, decide_eq_true (p := (0 ≤ t.f0 ∧ t.f0 ≤ 1152921504606846975)) (by omega)]; simp only [*, Bool.and_true, Bool.true_and, Bool.and_false, Bool.false_and, decide_true, decide_false, and_true, true_and, and_self, and_false, false_and, Bool.and_self, not_true, not_false, Bool.not_true, Bool.not_false, ge_iff_le, gt_iff_lt, if_true, if_false, Bool.false_eq_true, ite_true, ite_false, reduceIte]; done) | (unfold tcOk; simp only [*, Bool.and_true, Bool.true_and, Bool.and_false, Bool.false_and, decide_true, decide_false, and_true, true_and, and_self, and_false, false_and, Bool.and_self, not_true, not_false, Bool.not_true, Bool.not_false, ge_iff_le, gt_iff_lt, if_true, if_false, Bool.false_eq_true, ite_true, ite_false, reduceIte]; done) | (unfold tcOk; rw [decide_eq_false (p := (t.f1.length : Int) ≤ l.f0) (by omega)]; simp; done)))
         ·
          have hb13' := hb13
          replace hb13' : (decide (((t.f1.getD i default).f2.length : Int) = 32)) = true := by simpa only [Bool.not_eq_true', Bool.not_eq_false'] using hb13'
          replace hb13' := of_decide_eq_true hb13'
          rcases Bool.eq_false_or_eq_true (decide (0 < (i : Int))) with hb15 | hb15
          ·
           have hb15' := hb15
           replace hb15' := of_decide_eq_true hb15'
           refine T.draw [⟨32, (.one (.ptr 6 0)), []⟩, ⟨33, (pI (t.f1.getD i default).f0), []⟩, ⟨34, (.one (.ptr 2 0)), []⟩, ⟨35, (pI l.f0), []⟩, ⟨36, (pI (IntKind.i64.wrap (l.f0 - 1))), []⟩, ⟨37, (pB (decide (0 ≤ (t.f1.getD i default).f0 ∧ (t.f1.getD i default).f0 ≤ (IntKind.i64.wrap (l.f0 - 1))))), []⟩, ⟨38, (pB false), []⟩, ⟨39, (pB false), []⟩, ⟨40, (.one (.ptr 6 1)), []⟩, ⟨41, (pI (t.f1.getD i default).f1), []⟩, ⟨42, (pB false), []⟩, ⟨43, (pB false), []⟩, ⟨44, (pB false), []⟩, ⟨45, (.one (.ptr 6 1)), []⟩, ⟨46, (pI (t.f1.getD i default).f1), []⟩, ⟨47, (.one (.ptr 3 0)), []⟩, ⟨48, (pI t.f0), []⟩, ⟨49, (pB false), []⟩, ⟨50, (pB false), []⟩, ⟨51, (pB false), []⟩, ⟨52, (.one (.ptr 6 2)), []⟩, ⟨53, (pS (t.f1.getD i default).f2), []⟩, ⟨54, (pB (decide (((t.f1.getD i default).f2.length : Int) = 32))), []⟩, ⟨55, (pB false), []⟩, ⟨56, (pB false), []⟩, ⟨57, (pB false), []⟩, ⟨58, (pI (i : Int)), []⟩, ⟨59, (pB true), []⟩, ⟨60, (pB true), []⟩, ⟨61, (.one (.ptr 3 1)), []⟩, ⟨62, (.one (.d (.sl 3 (t.f1.map SEntry.cells)))), []⟩, ⟨63, (pI (i : Int)), []⟩, ⟨64, (pI ((i : Int) - 1)), []⟩, ⟨65, (.one (.eptr (.sl 3 (t.f1.map SEntry.cells)) ((i : Int) - 1).toNat 0)), []⟩, ⟨66, (.one (.eptr (.sl 3 (t.f1.map SEntry.cells)) ((i : Int) - 1).toNat 0)), []⟩, ⟨67, (pI (t.f1.getD ((i : Int) - 1).toNat default).f0), []⟩, ⟨68, (.one (.ptr 6 0)), []⟩, ⟨69, (pI (t.f1.getD i default).f0), []⟩, ⟨70, (pB (decide ((t.f1.getD i default).f0 ≤ (t.f1.getD ((i : Int) - 1).toNat default).f0))), []⟩, ⟨71, (pB (decide ((t.f1.getD i default).f0 ≤ (t.f1.getD ((i : Int) - 1).toNat default).f0))), []⟩, ⟨72, (pB (decide ((t.f1.getD i default).f0 ≤ (t.f1.getD ((i : Int) - 1).toNat default).f0))), []⟩] (by kernel_rfl) (by kernel_rfl) ?_ ?_
           ·
            refine .cons (fun E A => OpStep.plain rfl (Step.fa (off := 0) (n := 1) (one := true) 0 32 (A.g 6 rfl))) ?_
            refine .cons (fun E A => OpStep.plain rfl (Step.load_box (c := cI (t.f1.getD i default).f0) (t := 33) rfl rfl (by exact lt_ok rfl) (by kernel_rfl) (A.g 32 rfl) (by exact A.box rfl) rfl)) ?_
            refine .cons (fun E A => OpStep.plain rfl (Step.fa (off := 0) (n := 1) (one := true) 0 34 (A.g 2 rfl))) ?_
            refine .cons (fun E A => OpStep.plain rfl (Step.load_box (c := cI l.f0) (t := 35) rfl rfl (by exact lt_ok rfl) (by kernel_rfl) (A.g 34 rfl) (by exact A.box rfl) rfl)) ?_
            refine .cons (fun E A => OpStep.plain rfl (Step.bd (r := .int .i64 (IntKind.i64.wrap (l.f0 - 1))) 36 (A.g 35 rfl) rfl (Bin.sub (a := l.f0) (b := 1) (rfl)))) ?_
            refine .cons (fun E A => OpStep.plain rfl (Step.cd (xs := [.tmp 33, .const (.int .i64 0), .tmp 36]) (ps := [(pI (t.f1.getD i default).f0), (pI 0), (pI (IntKind.i64.wrap (l.f0 - 1)))]) (g := .func 138) false 37 (evs_cons (A.g 33 rfl) (evs_cons rfl (evs_cons (A.g 36 rfl) (rfl)))) (.cons (.one (.d _)) (.cons (.one (.d _)) (.cons (.one (.d _)) .nil))) (ok_spec_l01In (t.f1.getD i default).f0 0 (IntKind.i64.wrap (l.f0 - 1))) (At.freshRows A rfl))) ?_
            refine .cons (fun E A => OpStep.plain rfl (Step.tb 38 (!(decide (0 ≤ (t.f1.getD i default).f0 ∧ (t.f1.getD i default).f0 ≤ (IntKind.i64.wrap (l.f0 - 1))))) hb7 (Step.not (b := (decide (0 ≤ (t.f1.getD i default).f0 ∧ (t.f1.getD i default).f0 ≤ (IntKind.i64.wrap (l.f0 - 1))))) (t := 38) rfl rfl (by exact lt_ok rfl) (A.g 37 rfl)))) ?_
            refine .cons (fun E A => A.mv 38 39) ?_
            refine .cons (fun E A => A.y 39 (Step.fa (off := 1) (n := 1) (one := true) 0 40 (A.g 6 rfl))) ?_
            refine .cons (fun E A => A.y 39 (Step.load_box (c := cI (t.f1.getD i default).f1) (t := 41) rfl rfl (by exact lt_ok rfl) (by kernel_rfl) (A.g 40 rfl) (by exact A.box rfl) rfl)) ?_
            refine .cons (fun E A => A.y 39 (Step.tb 42 (decide ((t.f1.getD i default).f1 < 0)) hb9 (Step.bd 42 (A.g 41 rfl) rfl (Bin.lss (k := .i64) (a := (t.f1.getD i default).f1) (b := 0))))) ?_
            refine .cons (fun E A => OpStep.plain rfl (Step.pick (b := false) (p := (pB false)) (t := 43) rfl rfl (by exact lt_ok rfl) (A.g 39 rfl) (A.g 42 rfl))) ?_
            refine .cons (fun E A => A.mv 43 44) ?_
            refine .cons (fun E A => A.y 44 (Step.fa (off := 1) (n := 1) (one := true) 0 45 (A.g 6 rfl))) ?_
            refine .cons (fun E A => A.y 44 (Step.load_box (c := cI (t.f1.getD i default).f1) (t := 46) rfl rfl (by exact lt_ok rfl) (by kernel_rfl) (A.g 45 rfl) (by exact A.box rfl) rfl)) ?_
            refine .cons (fun E A => A.y 44 (Step.fa (off := 0) (n := 1) (one := true) 0 47 (A.g 3 rfl))) ?_
            refine .cons (fun E A => A.y 44 (Step.load_box (c := cI t.f0) (t := 48) rfl rfl (by exact lt_ok rfl) (by kernel_rfl) (A.g 47 rfl) (by exact A.box rfl) rfl)) ?_
            refine .cons (fun E A => A.y 44 (Step.tb 49 (decide (t.f0 ≤ (t.f1.getD i default).f1)) hb11 (Step.bd 49 (A.g 46 rfl) (A.g 48 rfl) (Bin.geq (k := .i64) (a := (t.f1.getD i default).f1) (b := t.f0))))) ?_
            refine .cons (fun E A => OpStep.plain rfl (Step.pick (b := false) (p := (pB false)) (t := 50) rfl rfl (by exact lt_ok rfl) (A.g 44 rfl) (A.g 49 rfl))) ?_
            refine .cons (fun E A => A.mv 50 51) ?_
            refine .cons (fun E A => A.y 51 (Step.fa (off := 2) (n := 1) (one := true) 0 52 (A.g 6 rfl))) ?_
            refine .cons (fun E A => A.y 51 (Step.load_box (c := cS (t.f1.getD i default).f2) (t := 53) rfl rfl (by exact lt_ok rfl) (by kernel_rfl) (A.g 52 rfl) (by exact A.box rfl) rfl)) ?_
            refine .cons (fun E A => A.y 51 (Step.cd (xs := [.tmp 53]) (ps := [(pS (t.f1.getD i default).f2)]) (g := .func 139) false 54 (evs_cons (A.g 53 rfl) (rfl)) (.cons (.one (.d _)) .nil) (ok_spec_l07Hash (t.f1.getD i default).f2) (At.freshRows A rfl))) ?_
            refine .cons (fun E A => A.y 51 (Step.tb 55 (!(decide (((t.f1.getD i default).f2.length : Int) = 32))) hb13 (Step.not (b := (decide (((t.f1.getD i default).f2.length : Int) = 32))) (t := 55) rfl rfl (by exact lt_ok rfl) (A.g 54 rfl)))) ?_
            refine .cons (fun E A => OpStep.plain rfl (Step.pick (b := false) (p := (pB false)) (t := 56) rfl rfl (by exact lt_ok rfl) (A.g 51 rfl) (A.g 55 rfl))) ?_
            refine .cons (fun E A => A.mv 56 57) ?_
            refine .cons (fun E A => A.y 57 (Step.move (p := (pI (i : Int))) (t := 58) rfl rfl (by exact lt_ok rfl) (A.g 5 rfl))) ?_
            refine .cons (fun E A => A.y 57 (Step.tb 59 (decide (0 < (i : Int))) hb15 (Step.bd 59 (A.g 58 rfl) rfl (Bin.gtr (k := .i64) (a := (i : Int)) (b := 0))))) ?_
            refine .cons (fun E A => A.y 57 (Step.move (p := (pB true)) (t := 60) rfl rfl (by exact lt_ok rfl) (A.g 59 rfl))) ?_
            refine .cons (fun E A => A.y 60 (Step.fa (off := 1) (n := 1) (one := true) 0 61 (A.g 3 rfl))) ?_
            refine .cons (fun E A => A.y 60 (Step.load_box (c := .d (.sl 3 (t.f1.map SEntry.cells))) (t := 62) rfl rfl (by exact lt_ok rfl) (by kernel_rfl) (A.g 61 rfl) (by exact A.box rfl) rfl)) ?_
            refine .cons (fun E A => A.y 60 (Step.move (p := (pI (i : Int))) (t := 63) rfl rfl (by exact lt_ok rfl) (A.g 5 rfl))) ?_
            refine .cons (fun E A => A.y 60 (Step.bd (r := .int .i64 ((i : Int) - 1)) 64 (A.g 63 rfl) rfl (Bin.sub (a := (i : Int)) (b := 1) (by first | exact wrap_ok (by first | omega | (simp; omega)) (by first | omega | (simp; omega)) | rfl)))) ?_
            refine .cons (fun E A => A.y 60 (Step.index (e := 121) (z := 3) (i := ((i : Int) - 1)) (t := 65) rfl rfl (by exact lt_ok rfl) (by kernel_rfl) (A.g 62 rfl) rfl rfl (lt_ok rfl) (A.g 64 rfl) (by first | omega | (simp; omega)) (by simp only [D.size]; first | omega | (simp; omega)))) ?_
            refine .cons (fun E A => A.y 60 (Step.fieldAddr_e (j := 0) (off := 0) (n := 1) (one := true) (t := 66) rfl rfl (by exact lt_ok rfl) (by kernel_rfl) (Nat.succ_ne_zero _) (A.g 65 rfl) (lt_ok rfl))) ?_
            refine .cons (fun E A => A.y 60 (Step.load (e := (.int .i64 (t.f1.getD ((i : Int) - 1).toNat default).f0)) (t := 67) rfl rfl (by exact lt_ok rfl) (by kernel_rfl) (A.g 66 rfl) ((cell_map default (by first | omega | (simp; omega))).trans rfl))) ?_
            refine .cons (fun E A => A.y 60 (Step.fa (off := 0) (n := 1) (one := true) 0 68 (A.g 6 rfl))) ?_
            refine .cons (fun E A => A.y 60 (Step.load_box (c := cI (t.f1.getD i default).f0) (t := 69) rfl rfl (by exact lt_ok rfl) (by kernel_rfl) (A.g 68 rfl) (by exact A.box rfl) rfl)) ?_
            refine .cons (fun E A => A.y 60 (Step.bd 70 (A.g 67 rfl) (A.g 69 rfl) (Bin.geq (k := .i64) (a := (t.f1.getD ((i : Int) - 1).toNat default).f0) (b := (t.f1.getD i default).f0)))) ?_
            refine .cons (fun E A => A.y 57 (Step.pick (b := true) (p := (pB (decide ((t.f1.getD i default).f0 ≤ (t.f1.getD ((i : Int) - 1).toNat default).f0)))) (t := 71) rfl rfl (by exact lt_ok rfl) (A.g 60 rfl) (A.g 70 rfl))) ?_
            refine .cons (fun E A => OpStep.plain rfl (Step.pick (b := false) (p := (pB (decide ((t.f1.getD i default).f0 ≤ (t.f1.getD ((i : Int) - 1).toNat default).f0)))) (t := 72) rfl rfl (by exact lt_ok rfl) (A.g 57 rfl) (A.g 71 rfl))) ?_
            exact .nil _ _
           refine TL.nil ?_
           refine T.cond (b := decide ((t.f1.getD i default).f0 ≤ (t.f1.getD ((i : Int) - 1).toNat default).f0)) rfl (fun h16 => ?_) (fun h16 => ?_)
           ·
            replace h16 := of_decide_eq_true h16
            refine T.seq ?_
            refine T.region ?_
            refine TL.as (pB false) ?_
            refine TL.nil ?_
            refine T.ret ?_
            refine ⟨[(false, [.d (.bool false)])], (.cons rfl .nil), rfl, [], (RetC.rd' ?_ .nil)⟩ <;> ((congr 1; symm; first | (rw [tcOk_no (i := i) (by omega) (tcEnt_no (by (try simp only [hashes, List.all_cons, List.all_nil, Bool.and_true] at *); (try simp only [decide_eq_true_eq, decide_eq_false_iff_not, Bool.not_eq_true', Bool.not_eq_false'] at *); (try (have hw2_ := hw_ (by omega) (by omega))); omega))]; done) | (unfold tcOk; rw [show tcAll l t t.f1.length = true from by rw [show t.f1.length = i from by omega]; exact hx2, decide_eq_true (p := (t.f1.length : Int) ≤ l.f0) (by omega), decide_eq_true (p := (0 ≤ t.f0 ∧ t.f0 ≤ 1152921504606846975)) (by omega)]; simp only [*, Bool.and_true, Bool.true_and, Bool.and_false, Bool.false_and, decide_true, decide_false, and_true, true_and, and_self, and_false, false_and, Bool.and_self, not_true, not_false, Bool.not_true, Bool.not_false, ge_iff_le, gt_iff_lt, if_true, if_false, Bool.false_eq_true, ite_true, ite_false, reduceIte]; done) | (unfold tcOk; rw [show tcAll l t t.f1.length = true from by rw [show t.f1.length = i from by omega]; exact hx2, decide_eq_true (p := (0 ≤ t.f0 ∧ t.f0 ≤ 1152921504606846975)) (by omega)]; simp only [*, Bool.and_true, Bool.true_and, Bool.and_false, Bool.false_and, decide_true, decide_false, and_true, true_and, and_self, and_false, false_and, Bool.and_self, not_true, not_false, Bool.not_true, Bool.not_false, ge_iff_le, gt_iff_lt, if_true, if_false, Bool.false_eq_true, ite_true, ite_false, reduceIte]; done) | (unfold tcOk; simp only [*, Bool.and_true, Bool.true_and, Bool.and_false, Bool.false_and, decide_true, decide_false, and_true, true_and, and_self, and_false, false_and, Bool.and_self, not_true, not_false, Bool.not_true, Bool.not_false, ge_iff_le, gt_iff_lt, if_true, if_false, Bool.false_eq_true, ite_true, ite_false, reduceIte]; done) | (unfold tcOk; rw [decide_eq_false (p := (t.f1.length : Int) ≤ l.f0) (by omega)]; simp; done)))
           ·
            replace h16 := of_decide_eq_false h16
            refine T.skip ?_
            refine T.region ?_
            refine TL.c (Step.bin (r := .int .i64 ((i : Int) + 1)) rfl rfl (lt_ok rfl) rfl rfl (Bin.add (a := (i : Int)) (b := 1) (by first | exact wrap_ok (by first | omega | (simp; omega)) (by first | omega | (simp; omega)) | rfl))) ?_
            refine TL.mv (pI ((i : Int) + 1)) ?_
            refine TL.nil ?_
            refine ⟨i + 1, by (refine ⟨by omega, ?_⟩; rw [tcAll_succ, hx2, tcEnt_yes (by (try simp only [hashes, List.all_cons, List.all_nil, Bool.and_true] at *); (try simp only [decide_eq_true_eq, decide_eq_false_iff_not, Bool.not_eq_true', Bool.not_eq_false'] at *); (try (have hw2_ := hw_ (by omega) (by omega))); omega)]; rfl), by first | omega | (dsimp only; omega), Env.le_mk ⟨rfl, rfl, rfl, rfl, ?_, trivial⟩ trivial ⟨rfl, rfl, trivial⟩⟩ <;> (first | rfl | (simp; done) | (congr 3; omega))
          ·
           have hb15' := hb15
           replace hb15' := of_decide_eq_false hb15'
           refine T.draw [⟨32, (.one (.ptr 6 0)), []⟩, ⟨33, (pI (t.f1.getD i default).f0), []⟩, ⟨34, (.one (.ptr 2 0)), []⟩, ⟨35, (pI l.f0), []⟩, ⟨36, (pI (IntKind.i64.wrap (l.f0 - 1))), []⟩, ⟨37, (pB (decide (0 ≤ (t.f1.getD i default).f0 ∧ (t.f1.getD i default).f0 ≤ (IntKind.i64.wrap (l.f0 - 1))))), []⟩, ⟨38, (pB false), []⟩, ⟨39, (pB false), []⟩, ⟨40, (.one (.ptr 6 1)), []⟩, ⟨41, (pI (t.f1.getD i default).f1), []⟩, ⟨42, (pB false), []⟩, ⟨43, (pB false), []⟩, ⟨44, (pB false), []⟩, ⟨45, (.one (.ptr 6 1)), []⟩, ⟨46, (pI (t.f1.getD i default).f1), []⟩, ⟨47, (.one (.ptr 3 0)), []⟩, ⟨48, (pI t.f0), []⟩, ⟨49, (pB false), []⟩, ⟨50, (pB false), []⟩, ⟨51, (pB false), []⟩, ⟨52, (.one (.ptr 6 2)), []⟩, ⟨53, (pS (t.f1.getD i default).f2), []⟩, ⟨54, (pB (decide (((t.f1.getD i default).f2.length : Int) = 32))), []⟩, ⟨55, (pB false), []⟩, ⟨56, (pB false), []⟩, ⟨57, (pB false), []⟩, ⟨58, (pI (i : Int)), []⟩, ⟨59, (pB false), []⟩, ⟨60, (pB false), []⟩, ⟨61, (.tup []), []⟩, ⟨62, (.tup []), []⟩, ⟨63, (.tup []), []⟩, ⟨64, (.tup []), []⟩, ⟨65, (.tup []), []⟩, ⟨66, (.tup []), []⟩, ⟨67, (.tup []), []⟩, ⟨68, (.tup []), []⟩, ⟨69, (.tup []), []⟩, ⟨70, (.tup []), []⟩, ⟨71, (pB false), []⟩, ⟨72, (pB false), []⟩] (by kernel_rfl) (by kernel_rfl) ?_ ?_
           ·
            refine .cons (fun E A => OpStep.plain rfl (Step.fa (off := 0) (n := 1) (one := true) 0 32 (A.g 6 rfl))) ?_
            refine .cons (fun E A => OpStep.plain rfl (Step.load_box (c := cI (t.f1.getD i default).f0) (t := 33) rfl rfl (by exact lt_ok rfl) (by kernel_rfl) (A.g 32 rfl) (by exact A.box rfl) rfl)) ?_
            refine .cons (fun E A => OpStep.plain rfl (Step.fa (off := 0) (n := 1) (one := true) 0 34 (A.g 2 rfl))) ?_
            refine .cons (fun E A => OpStep.plain rfl (Step.load_box (c := cI l.f0) (t := 35) rfl rfl (by exact lt_ok rfl) (by kernel_rfl) (A.g 34 rfl) (by exact A.box rfl) rfl)) ?_
            refine .cons (fun E A => OpStep.plain rfl (Step.bd (r := .int .i64 (IntKind.i64.wrap (l.f0 - 1))) 36 (A.g 35 rfl) rfl (Bin.sub (a := l.f0) (b := 1) (rfl)))) ?_
            refine .cons (fun E A => OpStep.plain rfl (Step.cd (xs := [.tmp 33, .const (.int .i64 0), .tmp 36]) (ps := [(pI (t.f1.getD i default).f0), (pI 0), (pI (IntKind.i64.wrap (l.f0 - 1)))]) (g := .func 138) false 37 (evs_cons (A.g 33 rfl) (evs_cons rfl (evs_cons (A.g 36 rfl) (rfl)))) (.cons (.one (.d _)) (.cons (.one (.d _)) (.cons (.one (.d _)) .nil))) (ok_spec_l01In (t.f1.getD i default).f0 0 (IntKind.i64.wrap (l.f0 - 1))) (At.freshRows A rfl))) ?_
            refine .cons (fun E A => OpStep.plain rfl (Step.tb 38 (!(decide (0 ≤ (t.f1.getD i default).f0 ∧ (t.f1.getD i default).f0 ≤ (IntKind.i64.wrap (l.f0 - 1))))) hb7 (Step.not (b := (decide (0 ≤ (t.f1.getD i default).f0 ∧ (t.f1.getD i default).f0 ≤ (IntKind.i64.wrap (l.f0 - 1))))) (t := 38) rfl rfl (by exact lt_ok rfl) (A.g 37 rfl)))) ?_
            refine .cons (fun E A => A.mv 38 39) ?_
            refine .cons (fun E A => A.y 39 (Step.fa (off := 1) (n := 1) (one := true) 0 40 (A.g 6 rfl))) ?_
            refine .cons (fun E A => A.y 39 (Step.load_box (c := cI (t.f1.getD i default).f1) (t := 41) rfl rfl (by exact lt_ok rfl) (by kernel_rfl) (A.g 40 rfl) (by exact A.box rfl) rfl)) ?_
            refine .cons (fun E A => A.y 39 (Step.tb 42 (decide ((t.f1.getD i default).f1 < 0)) hb9 (Step.bd 42 (A.g 41 rfl) rfl (Bin.lss (k := .i64) (a := (t.f1.getD i default).f1) (b := 0))))) ?_
            refine .cons (fun E A => OpStep.plain rfl (Step.pick (b := false) (p := (pB false)) (t := 43) rfl rfl (by exact lt_ok rfl) (A.g 39 rfl) (A.g 42 rfl))) ?_
            refine .cons (fun E A => A.mv 43 44) ?_
            refine .cons (fun E A => A.y 44 (Step.fa (off := 1) (n := 1) (one := true) 0 45 (A.g 6 rfl))) ?_
            refine .cons (fun E A => A.y 44 (Step.load_box (c := cI (t.f1.getD i default).f1) (t := 46) rfl rfl (by exact lt_ok rfl) (by kernel_rfl) (A.g 45 rfl) (by exact A.box rfl) rfl)) ?_
            refine .cons (fun E A => A.y 44 (Step.fa (off := 0) (n := 1) (one := true) 0 47 (A.g 3 rfl))) ?_
            refine .cons (fun E A => A.y 44 (Step.load_box (c := cI t.f0) (t := 48) rfl rfl (by exact lt_ok rfl) (by kernel_rfl) (A.g 47 rfl) (by exact A.box rfl) rfl)) ?_
            refine .cons (fun E A => A.y 44 (Step.tb 49 (decide (t.f0 ≤ (t.f1.getD i default).f1)) hb11 (Step.bd 49 (A.g 46 rfl) (A.g 48 rfl) (Bin.geq (k := .i64) (a := (t.f1.getD i default).f1) (b := t.f0))))) ?_
            refine .cons (fun E A => OpStep.plain rfl (Step.pick (b := false) (p := (pB false)) (t := 50) rfl rfl (by exact lt_ok rfl) (A.g 44 rfl) (A.g 49 rfl))) ?_
            refine .cons (fun E A => A.mv 50 51) ?_
            refine .cons (fun E A => A.y 51 (Step.fa (off := 2) (n := 1) (one := true) 0 52 (A.g 6 rfl))) ?_
            refine .cons (fun E A => A.y 51 (Step.load_box (c := cS (t.f1.getD i default).f2) (t := 53) rfl rfl (by exact lt_ok rfl) (by kernel_rfl) (A.g 52 rfl) (by exact A.box rfl) rfl)) ?_
            refine .cons (fun E A => A.y 51 (Step.cd (xs := [.tmp 53]) (ps := [(pS (t.f1.getD i default).f2)]) (g := .func 139) false 54 (evs_cons (A.g 53 rfl) (rfl)) (.cons (.one (.d _)) .nil) (ok_spec_l07Hash (t.f1.getD i default).f2) (At.freshRows A rfl))) ?_
            refine .cons (fun E A => A.y 51 (Step.tb 55 (!(decide (((t.f1.getD i default).f2.length : Int) = 32))) hb13 (Step.not (b := (decide (((t.f1.getD i default).f2.length : Int) = 32))) (t := 55) rfl rfl (by exact lt_ok rfl) (A.g 54 rfl)))) ?_
            refine .cons (fun E A => OpStep.plain rfl (Step.pick (b := false) (p := (pB false)) (t := 56) rfl rfl (by exact lt_ok rfl) (A.g 51 rfl) (A.g 55 rfl))) ?_
            refine .cons (fun E A => A.mv 56 57) ?_
            refine .cons (fun E A => A.y 57 (Step.move (p := (pI (i : Int))) (t := 58) rfl rfl (by exact lt_ok rfl) (A.g 5 rfl))) ?_
            refine .cons (fun E A => A.y 57 (Step.tb 59 (decide (0 < (i : Int))) hb15 (Step.bd 59 (A.g 58 rfl) rfl (Bin.gtr (k := .i64) (a := (i : Int)) (b := 0))))) ?_
            refine .cons (fun E A => A.y 57 (Step.move (p := (pB false)) (t := 60) rfl rfl (by exact lt_ok rfl) (A.g 59 rfl))) ?_
            refine .cons (fun E A => A.of 60) ?_
            refine .cons (fun E A => A.of 60) ?_
            refine .cons (fun E A => A.of 60) ?_
            refine .cons (fun E A => A.of 60) ?_
            refine .cons (fun E A => A.of 60) ?_
            refine .cons (fun E A => A.of 60) ?_
            refine .cons (fun E A => A.of 60) ?_
            refine .cons (fun E A => A.of 60) ?_
            refine .cons (fun E A => A.of 60) ?_
            refine .cons (fun E A => A.of 60) ?_
            refine .cons (fun E A => A.y 57 (Step.pick (b := false) (p := (pB false)) (t := 71) rfl rfl (by exact lt_ok rfl) (A.g 60 rfl) rfl)) ?_
            refine .cons (fun E A => OpStep.plain rfl (Step.pick (b := false) (p := (pB false)) (t := 72) rfl rfl (by exact lt_ok rfl) (A.g 57 rfl) (A.g 71 rfl))) ?_
            exact .nil _ _
           refine TL.nil ?_
           refine T.cond (b := false) rfl (fun h17_ => absurd h17_ (by simp)) (fun h17_ => ?_)
           refine T.skip ?_
           refine T.region ?_
           refine TL.c (Step.bin (r := .int .i64 ((i : Int) + 1)) rfl rfl (lt_ok rfl) rfl rfl (Bin.add (a := (i : Int)) (b := 1) (by first | exact wrap_ok (by first | omega | (simp; omega)) (by first | omega | (simp; omega)) | rfl))) ?_
           refine TL.mv (pI ((i : Int) + 1)) ?_
           refine TL.nil ?_
           refine ⟨i + 1, by (refine ⟨by omega, ?_⟩; rw [tcAll_succ, hx2, tcEnt_yes (by (try simp only [hashes, List.all_cons, List.all_nil, Bool.and_true] at *); (try simp only [decide_eq_true_eq, decide_eq_false_iff_not, Bool.not_eq_true', Bool.not_eq_false'] at *); (try (have hw2_ := hw_ (by omega) (by omega))); omega)]; rfl), by first | omega | (dsimp only; omega), Env.le_mk ⟨rfl, rfl, rfl, rfl, ?_, trivial⟩ trivial ⟨rfl, rfl, trivial⟩⟩ <;> (first | rfl | (simp; done) | (congr 3; omega))
     ·
      replace h6 := of_decide_eq_false h6
      refine T.exit ?_
      refine T.seq ?_
      refine T.region ?_
      refine TL.as (pB true) ?_
      refine TL.nil ?_
      refine T.ret ?_
      refine ⟨[(false, [.d (.bool true)])], (.cons rfl .nil), rfl, [], (RetC.rd' ?_ .nil)⟩ <;> ((congr 1; symm; first | (rw [tcOk_no (i := i) (by omega) (tcEnt_no (by (try simp only [hashes, List.all_cons, List.all_nil, Bool.and_true] at *); (try simp only [decide_eq_true_eq, decide_eq_false_iff_not, Bool.not_eq_true', Bool.not_eq_false'] at *); (try (have hw2_ := hw_ (by omega) (by omega))); omega))]; done) | (unfold tcOk; rw [show tcAll l t t.f1.length = true from by rw [show t.f1.length = i from by omega]; exact hx2, decide_eq_true (p := (t.f1.length : Int) ≤ l.f0) (by omega), decide_eq_true (p := (0 ≤ t.f0 ∧ t.f0 ≤ 1152921504606846975)) (by omega)]; simp only [*, Bool.and_true, Bool.true_and, Bool.and_false, Bool.false_and, decide_true, decide_false, and_true, true_and, and_self, and_false, false_and, Bool.and_self, not_true, not_false, Bool.not_true, Bool.not_false, ge_iff_le, gt_iff_lt, if_true, if_false, Bool.false_eq_true, ite_true, ite_false, reduceIte]; done) | (unfold tcOk; rw [show tcAll l t t.f1.length = true from by rw [show t.f1.length = i from by omega]; exact hx2, decide_eq_true (p := (0 ≤ t.f0 ∧ t.f0 ≤ 1152921504606846975)) (by omega)]; simp only [*, Bool.and_true, Bool.true_and, Bool.and_false, Bool.false_and, decide_true, decide_false, and_true, true_and, and_self, and_false, false_and, Bool.and_self, not_true, not_false, Bool.not_true, Bool.not_false, ge_iff_le, gt_iff_lt, if_true, if_false, Bool.false_eq_true, ite_true, ite_false, reduceIte]; done) | (unfold tcOk; simp only [*, Bool.and_true, Bool.true_and, Bool.and_false, Bool.false_and, decide_true, decide_false, and_true, true_and, and_self, and_false, false_and, Bool.and_self, not_true, not_false, Bool.not_true, Bool.not_false, ge_iff_le, gt_iff_lt, if_true, if_false, Bool.false_eq_true, ite_true, ite_false, reduceIte]; done) | (unfold tcOk; rw [decide_eq_false (p := (t.f1.length : Int) ≤ l.f0) (by omega)]; simp; done)))
theorem ok_spec_BitsSize (n : Int) (h0_ : n ≤ 9223372036854775807) : RO Try.prog 173 [.one (.int .i64 n)] [(false, [.rd (.int .i64 (bitsSize n))])] := by
 refine RO.intro Try.func173 rfl 9 rfl (le_ok rfl) fun w Z => ?_
 refine T.seq ?_
 refine T.region ?_
 refine TL.as (pI 0) ?_
 refine TL.nil ?_
 refine T.seq ?_
 refine T.seq ?_
 refine T.region ?_
 refine TL.mv (pI n) ?_
 refine TL.c (Step.bin rfl rfl (lt_ok rfl) rfl rfl (Bin.lss (k := .i64) (a := n) (b := 1))) ?_
 refine TL.nil ?_
 refine T.cond (b := decide (n < 1)) rfl (fun h1 => ?_) (fun h1 => ?_)
 ·
  replace h1 := of_decide_eq_true h1
  refine T.seq ?_
  refine T.region ?_
  refine TL.as (pI 0) ?_
  refine TL.nil ?_
  refine T.ret ?_
  refine ⟨[(false, [cI 0])], (.cons rfl .nil), rfl, [], (RetC.rd' ?_ .nil)⟩ <;> ((congr 1; unfold bitsSize; first | rw [if_pos (by omega)] | (rw [if_neg (by omega)]; done) | (rw [if_neg (by omega)]; omega)))
 ·
  replace h1 := of_decide_eq_false h1
  refine T.skip ?_
  refine T.seq ?_
  refine T.region ?_
  refine TL.mv (pI n) ?_
  refine TL.c (Step.bin (r := .int .i64 (n - 1)) rfl rfl (lt_ok rfl) rfl rfl (Bin.sub (a := n) (b := 1) (by first | exact wrap_ok (by first | omega | (simp; omega)) (by first | omega | (simp; omega)) | rfl))) ?_
  refine TL.c (Step.bin (r := .int .i64 ((n - 1) / 8)) rfl rfl (lt_ok rfl) rfl rfl (Bin.quo (k := .i64) (a := (n - 1)) (b := 8) (by decide) (by rw [Int.tdiv_eq_ediv_of_nonneg (by first | omega | (simp; omega))]; exact wrap_ok (by first | omega | (simp; omega)) (by first | omega | (simp; omega))))) ?_
  refine TL.c (Step.bin (r := .int .i64 (((n - 1) / 8) + 1)) rfl rfl (lt_ok rfl) rfl rfl (Bin.add (a := ((n - 1) / 8)) (b := 1) (by first | exact wrap_ok (by first | omega | (simp; omega)) (by first | omega | (simp; omega)) | rfl))) ?_
  refine TL.as (pI (((n - 1) / 8) + 1)) ?_
  refine TL.nil ?_
  refine T.ret ?_
  refine ⟨[(false, [cI (((n - 1) / 8) + 1)])], (.cons rfl .nil), rfl, [], (RetC.rd' ?_ .nil)⟩ <;> ((congr 1; unfold bitsSize; first | rw [if_pos (by omega)] | (rw [if_neg (by omega)]; done) | (rw [if_neg (by omega)]; omega)))
theorem ok_spec_BitsNew (n : Int) (h0_ : n ≤ 9223372036854775807) : RO Try.prog 140 [.one (.int .i64 n)] [(false, [.own 5 (.ints .u8 (bitsOf [] n))])] := by
 refine RO.intro Try.func140 rfl 9 rfl (le_ok rfl) fun w Z => ?_
 have hz_ : (1 ≤ n ∧ n ≤ 10) → bitsSize n = (n - 1) / 8 + 1 := fun h => by unfold bitsSize; rw [if_neg (by omega)]
 refine T.seq ?_
 refine T.region ?_
 refine TL.as (.one (.nil)) ?_
 refine TL.nil ?_
 refine T.seq ?_
 refine T.seq ?_
 refine T.region ?_
 refine TL.mv (pI n) ?_
 refine TL.c (Step.cl (xs := [.tmp 3]) (ps := [(pI n)]) (g := .func 141) false (.cons (.one (.d _)) .nil) (ok_spec_l02Signers n)) ?_
 refine TL.c (Step.not (b := (decide (1 ≤ n ∧ n ≤ 10))) rfl rfl (lt_ok rfl) rfl) ?_
 refine TL.nil ?_
 refine T.cond (b := !(decide (1 ≤ n ∧ n ≤ 10))) rfl (fun h1 => ?_) (fun h1 => ?_)
 ·
  replace h1 : (decide (1 ≤ n ∧ n ≤ 10)) = false := by simpa only [Bool.not_eq_true', Bool.not_eq_false'] using h1
  replace h1 := of_decide_eq_false h1
  refine T.seq ?_
  refine T.region ?_
  refine TL.as (.one (.nil)) ?_
  refine TL.nil ?_
  refine T.ret ?_
  refine ⟨[(false, [.nil])], (.cons rfl .nil), rfl, [], (RetC.nilown' rfl ?_ (by first | exact trivial | exact D.wf_nil _) .nil)⟩ <;> (first | (congr 1; rw [bitsOf_yes (bitsOfOk_in (l := []) (n := n) (by omega) rfl)]; rfl) | (simp only [D.size]; rw [bitsOf_no (bitsOfOk_out (l := []) (n := n) (by omega))]; rfl))
 ·
  replace h1 : (decide (1 ≤ n ∧ n ≤ 10)) = true := by simpa only [Bool.not_eq_true', Bool.not_eq_false'] using h1
  replace h1 := of_decide_eq_true h1
  refine T.skip ?_
  refine T.seq ?_
  refine T.region ?_
  refine TL.mv (pI n) ?_
  refine TL.c (Step.cl (xs := [.tmp 6]) (ps := [(pI n)]) (g := .func 173) false (.cons (.one (.d _)) .nil) (ok_spec_BitsSize n (by first | omega | assumption | (simp only [List.length_append] at *; omega)))) ?_
  refine TL.c (Step.make (e := 5) (z := 1) (by_ := 1) (n := (bitsSize n)) (zs := [.int .u8 0]) (zd := [.int .u8 0]) (d := (.ints .u8 (List.replicate (bitsSize n).toNat 0))) rfl rfl (lt_ok rfl) (by kernel_rfl) (lt_ok rfl) rfl (by first | omega | (have := hz_ (by omega); omega) | (simp; omega)) (by first | omega | (have := hz_ (by omega); omega) | (simp; omega)) (by first | omega | (have := hz_ (by omega); omega) | (simp; omega)) (by kernel_rfl) (.val rfl .nil) rfl (by simp) (by simp [D.flat, List.flatten_replicate_singleton]) (by simp [D.size]) rfl trivial) ?_
  refine TL.as (.one (.row 8 [])) ?_
  refine TL.nil ?_
  refine T.ret ?_
  refine ⟨[(false, [.row 8 []])], (.cons rfl .nil), rfl, [8], (RetC.own' rfl ?_ rfl .nil)⟩ <;> (first | (congr 1; rw [bitsOf_yes (bitsOfOk_in (l := []) (n := n) (by omega) rfl)]; rfl) | (simp only [D.size]; rw [bitsOf_no (bitsOfOk_out (l := []) (n := n) (by omega))]; rfl))
theorem ok_spec_l01Copy (a : List Int) (h0_ : a.length ≤ 17592186044416) : RO Try.prog 79 [.one (.ints .u8 a)] [(false, [.own 5 (.ints .u8 a)])] := by
 refine RO.intro Try.func79 rfl 6 rfl (le_ok rfl) fun w Z => ?_
 refine T.bnd 0 0 rfl rfl fun hb_0_0 => ?_
 simp only [D.size, List.length_map] at hb_0_0
 refine T.seq ?_
 refine T.region ?_
 refine TL.as (.one (.nil)) ?_
 refine TL.nil ?_
 refine T.seq ?_
 refine T.region ?_
 refine TL.c (Step.lit (e := 5) (z := 1) (by_ := 1) (xs := []) (pss := []) (es := []) (ss := []) (d := (.ints .u8 [])) rfl rfl (lt_ok rfl) (by kernel_rfl) rfl rfl .nil (by simp) (le_ok rfl) (le_ok rfl) rfl .nil rfl (by simp) (by simp) rfl trivial rfl rfl) ?_
 refine TL.mv (pS a) ?_
 refine TL.c (Step.append (e := 5) (z := 1) (by_ := 1) (d := (.ints .u8 [])) (dy := (.ints .u8 a)) (d' := (.ints .u8 ([] ++ a))) (ss := []) rfl rfl (lt_ok rfl) (by kernel_rfl) rfl rfl rfl (lt_ok rfl) rfl (.froz rfl (by simp [D.flat, D.val])) (by simp) rfl (by simp only [D.size, List.length_map]; first | omega | (simp only [List.length_append, List.length_cons, List.length_nil]; omega) | (simp; omega) | (simp only [List.length_append] at *; omega)) (by simp only [D.size, List.length_map]; first | omega | (simp only [List.length_append, List.length_cons, List.length_nil]; omega) | (simp; omega) | (simp only [List.length_append] at *; omega)) (by simp)) ?_
 refine TL.as (.one (.row 3 [])) ?_
 refine TL.nil ?_
 refine T.ret ?_
 refine ⟨[(false, [.row 3 []])], (.cons rfl .nil), rfl, [3], (RetC.own' rfl ?_ rfl .nil)⟩ <;> (rfl)
theorem ok_spec_BitsHas (b : List Int) (i : Int) (h0_ : U8s b) (h1_ : b.length ≤ 17592186044416) (h2_ : i ≤ 9223372036854775807) : RO Try.prog 133 [.one (.ints .u8 b), .one (.int .i64 i)] [(false, [.rd (.bool (bitHas b i))])] := by
 refine RO.intro Try.func133 rfl 27 rfl (le_ok rfl) fun w Z => ?_
 refine T.bnd 0 0 rfl rfl fun hb_0_0 => ?_
 simp only [D.size, List.length_map] at hb_0_0
 have hu_ := getD_u8 h0_ (i / 8).toNat
 have hp_ := div_pow_bd hu_.1 hu_.2 (i % 8).toNat
 refine T.seq ?_
 refine T.region ?_
 refine TL.as (pB false) ?_
 refine TL.nil ?_
 refine T.seq ?_
 refine T.region ?_
 refine TL.mv (pI i) ?_
 refine TL.c (Step.bin rfl rfl (lt_ok rfl) rfl rfl (Bin.geq (k := .i64) (a := i) (b := 0))) ?_
 refine TL.mv (pB (decide (0 ≤ i))) ?_
 rcases Bool.eq_false_or_eq_true (decide (0 ≤ i)) with hb1 | hb1
 ·
  refine TL.known 7 hb1 rfl ?_
  have hb1' := hb1
  replace hb1' := of_decide_eq_true hb1'
  refine TL.gm 7 (pI i) ?_
  refine TL.gy 7 (Step.bin (r := .int .i64 (i / 8)) rfl rfl (lt_ok rfl) rfl rfl (Bin.quo (k := .i64) (a := i) (b := 8) (by decide) (by rw [Int.tdiv_eq_ediv_of_nonneg (by first | omega | exact hp_.1 | exact hp_.2 | (simp; omega))]; exact wrap_ok (by first | omega | exact hp_.1 | exact hp_.2 | (simp; omega)) (by first | omega | exact hp_.1 | exact hp_.2 | (simp; omega))))) ?_
  refine TL.gm 7 (pS b) ?_
  refine TL.gy 7 (Step.len (e := 5) (z := 1) (d := (.ints .u8 b)) rfl rfl (lt_ok rfl) (by kernel_rfl) rfl rfl) ?_
  refine TL.gy 7 (Step.bin rfl rfl (lt_ok rfl) rfl rfl (Bin.lss (k := .i64) (a := (i / 8)) (b := (b.length : Int)))) ?_
  refine TL.pk true (pB (decide ((i / 8) < (b.length : Int)))) ?_
  refine TL.mv (pB (decide ((i / 8) < (b.length : Int)))) ?_
  rcases Bool.eq_false_or_eq_true (decide ((i / 8) < (b.length : Int))) with hb2 | hb2
  ·
   refine TL.known 14 hb2 rfl ?_
   have hb2' := hb2
   replace hb2' := of_decide_eq_true hb2'
   refine TL.gm 14 (pS b) ?_
   refine TL.gm 14 (pI i) ?_
   refine TL.gy 14 (Step.bin (r := .int .i64 (i / 8)) rfl rfl (lt_ok rfl) rfl rfl (Bin.quo (k := .i64) (a := i) (b := 8) (by decide) (by rw [Int.tdiv_eq_ediv_of_nonneg (by first | omega | exact hp_.1 | exact hp_.2 | (simp; omega))]; exact wrap_ok (by first | omega | exact hp_.1 | exact hp_.2 | (simp; omega)) (by first | omega | exact hp_.1 | exact hp_.2 | (simp; omega))))) ?_
   refine TL.gy 14 (Step.index (e := 5) (z := 1) (i := (i / 8)) rfl rfl (lt_ok rfl) (by kernel_rfl) rfl rfl rfl (lt_ok rfl) rfl (by first | omega | exact hp_.1 | exact hp_.2 | (simp; omega)) (by simp only [D.size]; first | omega | exact hp_.1 | exact hp_.2 | (simp; omega))) ?_
   refine TL.gy 14 (Step.load (e := (.int .u8 (b.getD (i / 8).toNat 0))) rfl rfl (lt_ok rfl) (by kernel_rfl) rfl rfl) ?_
   refine TL.gy 14 (Step.conv (c := (b.getD (i / 8).toNat 0)) rfl rfl (lt_ok rfl) (by kernel_rfl) (by kernel_rfl) rfl (wrap_ok (by first | omega | exact hp_.1 | exact hp_.2 | (simp; omega)) (by first | omega | exact hp_.1 | exact hp_.2 | (simp; omega)))) ?_
   refine TL.gm 14 (pI i) ?_
   refine TL.gy 14 (Step.bin (r := .int .i64 (i % 8)) rfl rfl (lt_ok rfl) rfl rfl (Bin.rem (k := .i64) (a := i) (b := 8) (by decide) (Int.tmod_eq_emod_of_nonneg (by first | omega | exact hp_.1 | exact hp_.2 | (simp; omega))))) ?_
   refine TL.gy 14 (Step.bin (r := .int .i64 ((b.getD (i / 8).toNat 0) / 2 ^ ((i % 8)).toNat)) rfl rfl (lt_ok rfl) rfl rfl (Bin.shr (k := .i64) (k' := .i64) (a := (b.getD (i / 8).toNat 0)) (b := (i % 8)) (by first | omega | exact hp_.1 | exact hp_.2 | (simp; omega)) (shr_ok (by first | omega | exact hp_.1 | exact hp_.2 | (simp; omega)) (by show _ < ((64 : Nat) : Int); first | omega | exact hp_.1 | exact hp_.2 | (simp; omega))))) ?_
   refine TL.gy 14 (Step.bin (r := .int .i64 (((b.getD (i / 8).toNat 0) / 2 ^ ((i % 8)).toNat) % 2)) rfl rfl (lt_ok rfl) rfl rfl (Bin.rem (k := .i64) (a := ((b.getD (i / 8).toNat 0) / 2 ^ ((i % 8)).toNat)) (b := 2) (by decide) (Int.tmod_eq_emod_of_nonneg (by first | omega | exact hp_.1 | exact hp_.2 | (simp; omega))))) ?_
   refine TL.gy 14 (Step.bin rfl rfl (lt_ok rfl) rfl rfl (Bin.eql (k := .i64) (a := (((b.getD (i / 8).toNat 0) / 2 ^ ((i % 8)).toNat) % 2)) (b := 1))) ?_
   refine TL.pk true (pB (decide ((((b.getD (i / 8).toNat 0) / 2 ^ ((i % 8)).toNat) % 2) = 1))) ?_
   refine TL.as (pB (decide ((((b.getD (i / 8).toNat 0) / 2 ^ ((i % 8)).toNat) % 2) = 1))) ?_
   refine TL.nil ?_
   refine T.ret ?_
   refine ⟨[(false, [.d (.bool (decide ((((b.getD (i / 8).toNat 0) / 2 ^ ((i % 8)).toNat) % 2) = 1)))])], (.cons rfl .nil), rfl, [], (RetC.rd' ?_ .nil)⟩ <;> ((congr 1; symm; unfold bitHas; first | (rw [decide_eq_false (p := 0 ≤ i) (by omega)]; rfl) | (rw [decide_eq_true (p := 0 ≤ i) (by omega), decide_eq_false (p := i / 8 < (b.length : Int)) (by omega)]; rfl) | (rw [decide_eq_true (p := 0 ≤ i) (by omega), decide_eq_true (p := i / 8 < (b.length : Int)) (by omega)]; rfl) | (by_cases hi_ : 0 ≤ i; (rw [decide_eq_true (p := 0 ≤ i) (by omega), decide_eq_false (p := i / 8 < (b.length : Int)) (by omega)]; rfl); (rw [decide_eq_false (p := 0 ≤ i) hi_]; rfl))))
  ·
   refine TL.known 14 hb2 rfl ?_
   have hb2' := hb2
   replace hb2' := of_decide_eq_false hb2'
   refine TL.gf 14 ?_
   refine TL.gf 14 ?_
   refine TL.gf 14 ?_
   refine TL.gf 14 ?_
   refine TL.gf 14 ?_
   refine TL.gf 14 ?_
   refine TL.gf 14 ?_
   refine TL.gf 14 ?_
   refine TL.gf 14 ?_
   refine TL.gf 14 ?_
   refine TL.gf 14 ?_
   refine TL.pk false (pB false) ?_
   refine TL.as (pB false) ?_
   refine TL.nil ?_
   refine T.ret ?_
   refine ⟨[(false, [.d (.bool false)])], (.cons rfl .nil), rfl, [], (RetC.rd' ?_ .nil)⟩ <;> ((congr 1; symm; unfold bitHas; first | (rw [decide_eq_false (p := 0 ≤ i) (by omega)]; rfl) | (rw [decide_eq_true (p := 0 ≤ i) (by omega), decide_eq_false (p := i / 8 < (b.length : Int)) (by omega)]; rfl) | (rw [decide_eq_true (p := 0 ≤ i) (by omega), decide_eq_true (p := i / 8 < (b.length : Int)) (by omega)]; rfl) | (by_cases hi_ : 0 ≤ i; (rw [decide_eq_true (p := 0 ≤ i) (by omega), decide_eq_false (p := i / 8 < (b.length : Int)) (by omega)]; rfl); (rw [decide_eq_false (p := 0 ≤ i) hi_]; rfl))))
 ·
  refine TL.known 7 hb1 rfl ?_
  have hb1' := hb1
  replace hb1' := of_decide_eq_false hb1'
  refine TL.gf 7 ?_
  refine TL.gf 7 ?_
  refine TL.gf 7 ?_
  refine TL.gf 7 ?_
  refine TL.gf 7 ?_
  refine TL.pk false (pB false) ?_
  refine TL.mv (pB false) ?_
  refine TL.gf 14 ?_
  refine TL.gf 14 ?_
  refine TL.gf 14 ?_
  refine TL.gf 14 ?_
  refine TL.gf 14 ?_
  refine TL.gf 14 ?_
  refine TL.gf 14 ?_
  refine TL.gf 14 ?_
  refine TL.gf 14 ?_
  refine TL.gf 14 ?_
  refine TL.gf 14 ?_
  refine TL.pk false (pB false) ?_
  refine TL.as (pB false) ?_
  refine TL.nil ?_
  refine T.ret ?_
  refine ⟨[(false, [.d (.bool false)])], (.cons rfl .nil), rfl, [], (RetC.rd' ?_ .nil)⟩ <;> ((congr 1; symm; unfold bitHas; first | (rw [decide_eq_false (p := 0 ≤ i) (by omega)]; rfl) | (rw [decide_eq_true (p := 0 ≤ i) (by omega), decide_eq_false (p := i / 8 < (b.length : Int)) (by omega)]; rfl) | (rw [decide_eq_true (p := 0 ≤ i) (by omega), decide_eq_true (p := i / 8 < (b.length : Int)) (by omega)]; rfl) | (by_cases hi_ : 0 ≤ i; (rw [decide_eq_true (p := 0 ≤ i) (by omega), decide_eq_false (p := i / 8 < (b.length : Int)) (by omega)]; rfl); (rw [decide_eq_false (p := 0 ≤ i) hi_]; rfl))))
theorem ok_spec_BitsList (b : List Int) (h0_ : U8s b) (h1_ : b.length ≤ 1099511627776) : RO Try.prog 78 [.one (.ints .u8 b)] [(false, [.own 3 (.ints .i64 (bitList b))])] := by
 refine RO.intro Try.func78 rfl 21 rfl (le_ok rfl) fun w Z => ?_
 refine T.bnd 0 0 rfl rfl fun hb_0_0 => ?_
 simp only [D.size, List.length_map] at hb_0_0
 refine T.seq ?_
 refine T.region ?_
 refine TL.as (.one (.nil)) ?_
 refine TL.nil ?_
 refine T.seq ?_
 refine T.region ?_
 refine TL.c (Step.lit (e := 3) (z := 1) (by_ := 8) (xs := []) (pss := []) (es := []) (ss := []) (d := (.ints .i64 [])) rfl rfl (lt_ok rfl) (by kernel_rfl) rfl rfl .nil (by simp) (le_ok rfl) (le_ok rfl) rfl .nil rfl (by simp) (by simp) rfl trivial rfl rfl) ?_
 refine TL.as (.one (.row 5 [])) ?_
 refine TL.nil ?_
 refine T.seq ?_
 refine T.seq ?_
 refine T.region ?_
 refine TL.as (pI 0) ?_
 refine TL.nil ?_
 refine T.block ?_
 refine T.loop (ι := Nat × (List Int)) (fun xx_ => { tm := [(0, (pS b)), (2, (.one (.nil))), (4, (pI ((xx_.1) : Int))), (3, (.one (.row 5 [])))], rows := [(5, (3, (.ints .i64 (xx_.2))))], boxes := [] }) (fun xx_ => (xx_.1) ≤ 8 * b.length ∧ (xx_.2) ++ bitsGo b (8 * b.length - (xx_.1)) (xx_.1) = bitList b ∧ (xx_.2).length ≤ (xx_.1)) (fun xx_ => 8 * b.length - (xx_.1)) (0, []) ?_ ?_ ?_
 · refine Env.le_mk ⟨rfl, rfl, ?_, rfl, trivial⟩ ⟨?_, trivial⟩ trivial <;> (first | rfl | (refine congrArg (fun x => some (_, D.ints .i64 x)) ?_; rfl) | (refine congrArg (fun n => PV.one (.d (.int .i64 n))) ?_; first | omega | (simp; done)))
 · (dsimp only; refine ⟨Nat.zero_le _, rfl, Nat.zero_le _⟩)
 ·
  intro xx_ hx
  obtain ⟨i, o⟩ := xx_
  try dsimp only at hx ⊢
  obtain ⟨hx1, hx2, hx3⟩ := hx
  refine T.seq ?_
  refine T.seq ?_
  refine T.region ?_
  refine TL.mv (pI (i : Int)) ?_
  refine TL.mv (pS b) ?_
  refine TL.c (Step.len (e := 5) (z := 1) (d := (.ints .u8 b)) rfl rfl (lt_ok rfl) (by kernel_rfl) rfl rfl) ?_
  refine TL.c (Step.bin (r := .int .i64 (8 * (b.length : Int))) rfl rfl (lt_ok rfl) rfl rfl (Bin.mul (a := 8) (b := (b.length : Int)) (by first | exact wrap_ok (by first | omega | (simp; omega)) (by first | omega | (simp; omega)) | rfl))) ?_
  refine TL.c (Step.bin rfl rfl (lt_ok rfl) rfl rfl (Bin.lss (k := .i64) (a := (i : Int)) (b := (8 * (b.length : Int))))) ?_
  refine TL.nil ?_
  refine T.cond (b := decide ((i : Int) < (8 * (b.length : Int)))) rfl (fun h1 => ?_) (fun h1 => ?_)
  ·
   replace h1 := of_decide_eq_true h1
   refine T.skip ?_
   refine T.seq ?_
   refine T.block ?_
   refine T.seq ?_
   refine T.region ?_
   refine TL.mv (pS b) ?_
   refine TL.mv (pI (i : Int)) ?_
   refine TL.c (Step.cl (xs := [.tmp 13, .tmp 14]) (ps := [(pS b), (pI (i : Int))]) (g := .func 133) false (.cons (.one (.d _)) (.cons (.one (.d _)) .nil)) (ok_spec_BitsHas b (i : Int) (by assumption) (by first | omega | assumption | (simp only [List.length_append] at *; omega)) (by first | omega | (have := hn_ (by first | assumption | simpa using ‹(!bitsOk b n) = false›); omega)))) ?_
   refine TL.nil ?_
   refine T.cond (b := bitHas b (i : Int)) rfl (fun h2 => ?_) (fun h2 => ?_)
   ·
    refine T.region ?_
    refine TL.mv (.one (.row 5 [])) ?_
    refine TL.mv (pI (i : Int)) ?_
    refine TL.c (Step.lit (e := 3) (z := 1) (by_ := 8) (xs := [.tmp 17]) (pss := [[cI (i : Int)]]) (es := [(.int .i64 (i : Int))]) (ss := []) (d := (.ints .i64 [(i : Int)])) rfl rfl (lt_ok rfl) (by kernel_rfl) rfl rfl (.cons rfl .nil) (by simp) (le_ok rfl) (le_ok rfl) rfl (.val rfl .nil) rfl (by simp) (by simp) rfl trivial rfl rfl) ?_
    refine TL.c (Step.append (e := 3) (z := 1) (by_ := 8) (d := (.ints .i64 o)) (dy := (.ints .i64 [(i : Int)])) (d' := (.ints .i64 (o ++ [(i : Int)]))) (ss := []) rfl rfl (lt_ok rfl) (by kernel_rfl) rfl rfl rfl (lt_ok rfl) rfl (.copy rfl rfl rfl (by simp [D.flat, D.val])) (by simp) rfl (by simp only [D.size, List.length_map]; first | omega | (simp only [List.length_append, List.length_cons, List.length_nil]; omega) | (simp; omega) | (simp only [List.length_append] at *; omega)) (by simp only [D.size, List.length_map]; first | omega | (simp only [List.length_append, List.length_cons, List.length_nil]; omega) | (simp; omega) | (simp only [List.length_append] at *; omega)) (by simp)) ?_
    refine TL.as (.one (.row 5 [])) ?_
    refine TL.nil ?_
    refine T.region ?_
    refine TL.mv (pI (i : Int)) ?_
    refine TL.c (Step.bin (r := .int .i64 ((i : Int) + 1)) rfl rfl (lt_ok rfl) rfl rfl (Bin.add (a := (i : Int)) (b := 1) (by first | exact wrap_ok (by first | omega | (simp; omega)) (by first | omega | (simp; omega)) | rfl))) ?_
    refine TL.as (pI ((i : Int) + 1)) ?_
    refine TL.nil ?_
    refine ⟨(i + 1, o ++ [(i : Int)]), by (refine ⟨by omega, ?_, by simp only [List.length_append, List.length_cons, List.length_nil]; omega⟩; rw [← hx2, bitsGo_next b (n := 8 * b.length) (i := i) (by omega)]; first | (rw [if_pos (by assumption)]; simp only [List.append_assoc]; done) | (rw [if_neg (by simp [*])]; rfl)), by (dsimp only; omega), Env.le_mk ⟨rfl, rfl, ?_, rfl, trivial⟩ ⟨?_, trivial⟩ trivial⟩ <;> (first | rfl | (refine congrArg (fun x => some (_, D.ints .i64 x)) ?_; rfl) | (refine congrArg (fun n => PV.one (.d (.int .i64 n))) ?_; first | omega | (simp; done)))
   ·
    refine T.skip ?_
    refine T.region ?_
    refine TL.mv (pI (i : Int)) ?_
    refine TL.c (Step.bin (r := .int .i64 ((i : Int) + 1)) rfl rfl (lt_ok rfl) rfl rfl (Bin.add (a := (i : Int)) (b := 1) (by first | exact wrap_ok (by first | omega | (simp; omega)) (by first | omega | (simp; omega)) | rfl))) ?_
    refine TL.as (pI ((i : Int) + 1)) ?_
    refine TL.nil ?_
    refine ⟨(i + 1, o), by (refine ⟨by omega, ?_, by simp only [List.length_append, List.length_cons, List.length_nil]; omega⟩; rw [← hx2, bitsGo_next b (n := 8 * b.length) (i := i) (by omega)]; first | (rw [if_pos (by assumption)]; simp only [List.append_assoc]; done) | (rw [if_neg (by simp [*])]; rfl)), by (dsimp only; omega), Env.le_mk ⟨rfl, rfl, ?_, rfl, trivial⟩ ⟨rfl, trivial⟩ trivial⟩ <;> (first | rfl | (refine congrArg (fun x => some (_, D.ints .i64 x)) ?_; rfl) | (refine congrArg (fun n => PV.one (.d (.int .i64 n))) ?_; first | omega | (simp; done)))
  ·
   replace h1 := of_decide_eq_false h1
   refine T.exit ?_
   refine T.seq ?_
   refine T.region ?_
   refine TL.mv (.one (.row 5 [])) ?_
   refine TL.as (.one (.row 5 [])) ?_
   refine TL.nil ?_
   refine T.ret ?_
   refine ⟨[(false, [.row 5 []])], (.cons rfl .nil), rfl, [5], (RetC.own' rfl ?_ rfl .nil)⟩ <;> ((congr 1; rw [← hx2, bitsGo_end b (by omega), List.append_nil]))
theorem ok_spec_BitsOk (b : List Int) (n : Int) (h0_ : U8s b) (h1_ : b.length ≤ 1099511627776) : RO Try.prog 150 [.one (.ints .u8 b), .one (.int .i64 n)] [(false, [.rd (.bool (bitsOk b n))])] := by
 refine RO.intro Try.func150 rfl 31 rfl (le_ok rfl) fun w Z => ?_
 refine T.bnd 0 0 rfl rfl fun hb_0_0 => ?_
 simp only [D.size, List.length_map] at hb_0_0
 refine T.seq ?_
 refine T.region ?_
 refine TL.as (pB false) ?_
 refine TL.nil ?_
 refine T.seq ?_
 refine T.seq ?_
 refine T.region ?_
 refine TL.mv (pI n) ?_
 refine TL.c (Step.cl (xs := [.tmp 6]) (ps := [(pI n)]) (g := .func 141) false (.cons (.one (.d _)) .nil) (ok_spec_l02Signers n)) ?_
 refine TL.c (Step.not (b := (decide (1 ≤ n ∧ n ≤ 10))) rfl rfl (lt_ok rfl) rfl) ?_
 refine TL.mv (pB (!(decide (1 ≤ n ∧ n ≤ 10)))) ?_
 rcases Bool.eq_false_or_eq_true (!(decide (1 ≤ n ∧ n ≤ 10))) with hb1 | hb1
 ·
  refine TL.known 9 hb1 rfl ?_
  have hb1' := hb1
  replace hb1' : (decide (1 ≤ n ∧ n ≤ 10)) = false := by simpa only [Bool.not_eq_true', Bool.not_eq_false'] using hb1'
  replace hb1' := of_decide_eq_false hb1'
  refine TL.gf 9 ?_
  refine TL.gf 9 ?_
  refine TL.gf 9 ?_
  refine TL.gf 9 ?_
  refine TL.gf 9 ?_
  refine TL.pk true (pB true) ?_
  refine TL.nil ?_
  refine T.cond (b := true) rfl (fun h2_ => ?_) (fun h2_ => absurd h2_ (by simp))
  refine T.seq ?_
  refine T.region ?_
  refine TL.as (pB false) ?_
  refine TL.nil ?_
  refine T.ret ?_
  refine ⟨[(false, [.d (.bool false)])], (.cons rfl .nil), rfl, [], (RetC.rd' ?_ .nil)⟩ <;> (first | (congr 1; symm; unfold bitsOk; rw [bits_last (by omega), decide_eq_true (p := (1 ≤ n ∧ n ≤ 10)) (by omega), decide_eq_true (p := ((b.length : Int) = bitsSize n)) (by omega)]; rfl) | (congr 1; symm; simp only [bitsOk, *, Bool.and_true, Bool.true_and, Bool.and_false, Bool.false_and, decide_true, decide_false, and_true, true_and, and_self, and_false, false_and, Bool.and_self, not_true, not_false, Bool.not_true, Bool.not_false, ge_iff_le, gt_iff_lt, if_true, if_false, Bool.false_eq_true, ite_true, ite_false, reduceIte]; done) | (congr 1; symm; unfold bitsOk; rw [decide_eq_false (p := (1 ≤ n ∧ n ≤ 10)) (by omega)]; rfl) | (congr 1; symm; unfold bitsOk; rw [decide_eq_false (p := ((b.length : Int) = bitsSize n)) (by omega)]; simp; done) | (congr 1; symm; unfold bitsOk; rw [all_no (i := i) (by omega) (by omega)]; simp; done) | (congr 1; symm; unfold bitsOk; rw [List.take_of_length_le (by omega)] at hx2; rw [hx2, decide_eq_true (p := (1 ≤ n ∧ n ≤ 10)) (by omega), decide_eq_true (p := ((b.length : Int) = bitsSize n)) (by omega)]; rfl) | (congr 1; unfold bitsOk; rw [bits_last (by omega), decide_eq_true (p := (1 ≤ n ∧ n ≤ 10)) (by omega), decide_eq_true (p := ((b.length : Int) = bitsSize n)) (by omega)]; simp only [Bool.true_and]; rfl) | (congr 1; symm; unfold bitsOk; rw [List.eq_nil_of_length_eq_zero (l := bitList b) (by omega), decide_eq_true (p := (1 ≤ n ∧ n ≤ 10)) (by omega), decide_eq_true (p := ((b.length : Int) = bitsSize n)) (by omega)]; rfl))
 ·
  refine TL.known 9 hb1 rfl ?_
  have hb1' := hb1
  replace hb1' : (decide (1 ≤ n ∧ n ≤ 10)) = true := by simpa only [Bool.not_eq_true', Bool.not_eq_false'] using hb1'
  replace hb1' := of_decide_eq_true hb1'
  refine TL.gm 9 (pS b) ?_
  refine TL.gy 9 (Step.len (e := 5) (z := 1) (d := (.ints .u8 b)) rfl rfl (lt_ok rfl) (by kernel_rfl) rfl rfl) ?_
  refine TL.gm 9 (pI n) ?_
  refine TL.gy 9 (Step.cl (xs := [.tmp 12]) (ps := [(pI n)]) (g := .func 173) false (.cons (.one (.d _)) .nil) (ok_spec_BitsSize n (by first | omega | assumption | (simp only [List.length_append] at *; omega)))) ?_
  refine TL.gy 9 (Step.bin rfl rfl (lt_ok rfl) rfl rfl (Bin.neq (k := .i64) (a := (b.length : Int)) (b := (bitsSize n)))) ?_
  refine TL.pk false (pB (decide ((b.length : Int) ≠ (bitsSize n)))) ?_
  refine TL.nil ?_
  refine T.cond (b := decide ((b.length : Int) ≠ (bitsSize n))) rfl (fun h3 => ?_) (fun h3 => ?_)
  ·
   replace h3 := of_decide_eq_true h3
   refine T.seq ?_
   refine T.region ?_
   refine TL.as (pB false) ?_
   refine TL.nil ?_
   refine T.ret ?_
   refine ⟨[(false, [.d (.bool false)])], (.cons rfl .nil), rfl, [], (RetC.rd' ?_ .nil)⟩ <;> (first | (congr 1; symm; unfold bitsOk; rw [bits_last (by omega), decide_eq_true (p := (1 ≤ n ∧ n ≤ 10)) (by omega), decide_eq_true (p := ((b.length : Int) = bitsSize n)) (by omega)]; rfl) | (congr 1; symm; simp only [bitsOk, *, Bool.and_true, Bool.true_and, Bool.and_false, Bool.false_and, decide_true, decide_false, and_true, true_and, and_self, and_false, false_and, Bool.and_self, not_true, not_false, Bool.not_true, Bool.not_false, ge_iff_le, gt_iff_lt, if_true, if_false, Bool.false_eq_true, ite_true, ite_false, reduceIte]; done) | (congr 1; symm; unfold bitsOk; rw [decide_eq_false (p := (1 ≤ n ∧ n ≤ 10)) (by omega)]; rfl) | (congr 1; symm; unfold bitsOk; rw [decide_eq_false (p := ((b.length : Int) = bitsSize n)) (by omega)]; simp; done) | (congr 1; symm; unfold bitsOk; rw [all_no (i := i) (by omega) (by omega)]; simp; done) | (congr 1; symm; unfold bitsOk; rw [List.take_of_length_le (by omega)] at hx2; rw [hx2, decide_eq_true (p := (1 ≤ n ∧ n ≤ 10)) (by omega), decide_eq_true (p := ((b.length : Int) = bitsSize n)) (by omega)]; rfl) | (congr 1; unfold bitsOk; rw [bits_last (by omega), decide_eq_true (p := (1 ≤ n ∧ n ≤ 10)) (by omega), decide_eq_true (p := ((b.length : Int) = bitsSize n)) (by omega)]; simp only [Bool.true_and]; rfl) | (congr 1; symm; unfold bitsOk; rw [List.eq_nil_of_length_eq_zero (l := bitList b) (by omega), decide_eq_true (p := (1 ≤ n ∧ n ≤ 10)) (by omega), decide_eq_true (p := ((b.length : Int) = bitsSize n)) (by omega)]; rfl))
  ·
   replace h3 := of_decide_eq_false h3
   refine T.skip ?_
   refine T.seq ?_
   refine T.region ?_
   refine TL.mv (pS b) ?_
   have nn4 := bitList_len b
   refine TL.c (Step.cl (xs := [.tmp 16]) (ps := [(pS b)]) (g := .func 78) false (.cons (.one (.d _)) .nil) (ok_spec_BitsList b (by assumption) (by first | omega | assumption | (simp only [List.length_append] at *; omega)))) ?_
   refine TL.as (.one (.row 1017 [])) ?_
   refine TL.nil ?_
   refine T.seq ?_
   refine T.region ?_
   refine TL.mv (.one (.row 1017 [])) ?_
   refine TL.c (Step.len (e := 3) (z := 1) (d := (.ints .i64 (bitList b))) rfl rfl (lt_ok rfl) (by kernel_rfl) rfl rfl) ?_
   refine TL.c (Step.bin rfl rfl (lt_ok rfl) rfl rfl (Bin.eql (k := .i64) (a := ((bitList b).length : Int)) (b := 0))) ?_
   refine TL.mv (pB (decide (((bitList b).length : Int) = 0))) ?_
   rcases Bool.eq_false_or_eq_true (decide (((bitList b).length : Int) = 0)) with hb5 | hb5
   ·
    refine TL.known 21 hb5 rfl ?_
    have hb5' := hb5
    replace hb5' := of_decide_eq_true hb5'
    refine TL.gf 21 ?_
    refine TL.gf 21 ?_
    refine TL.gf 21 ?_
    refine TL.gf 21 ?_
    refine TL.gf 21 ?_
    refine TL.gf 21 ?_
    refine TL.gf 21 ?_
    refine TL.gf 21 ?_
    refine TL.pk true (pB true) ?_
    refine TL.as (pB true) ?_
    refine TL.nil ?_
    refine T.ret ?_
    refine ⟨[(false, [.d (.bool true)])], (.cons rfl .nil), rfl, [], (RetC.rd' ?_ .nil)⟩ <;> (first | (congr 1; symm; unfold bitsOk; rw [bits_last (by omega), decide_eq_true (p := (1 ≤ n ∧ n ≤ 10)) (by omega), decide_eq_true (p := ((b.length : Int) = bitsSize n)) (by omega)]; rfl) | (congr 1; symm; simp only [bitsOk, *, Bool.and_true, Bool.true_and, Bool.and_false, Bool.false_and, decide_true, decide_false, and_true, true_and, and_self, and_false, false_and, Bool.and_self, not_true, not_false, Bool.not_true, Bool.not_false, ge_iff_le, gt_iff_lt, if_true, if_false, Bool.false_eq_true, ite_true, ite_false, reduceIte]; done) | (congr 1; symm; unfold bitsOk; rw [decide_eq_false (p := (1 ≤ n ∧ n ≤ 10)) (by omega)]; rfl) | (congr 1; symm; unfold bitsOk; rw [decide_eq_false (p := ((b.length : Int) = bitsSize n)) (by omega)]; simp; done) | (congr 1; symm; unfold bitsOk; rw [all_no (i := i) (by omega) (by omega)]; simp; done) | (congr 1; symm; unfold bitsOk; rw [List.take_of_length_le (by omega)] at hx2; rw [hx2, decide_eq_true (p := (1 ≤ n ∧ n ≤ 10)) (by omega), decide_eq_true (p := ((b.length : Int) = bitsSize n)) (by omega)]; rfl) | (congr 1; unfold bitsOk; rw [bits_last (by omega), decide_eq_true (p := (1 ≤ n ∧ n ≤ 10)) (by omega), decide_eq_true (p := ((b.length : Int) = bitsSize n)) (by omega)]; simp only [Bool.true_and]; rfl) | (congr 1; symm; unfold bitsOk; rw [List.eq_nil_of_length_eq_zero (l := bitList b) (by omega), decide_eq_true (p := (1 ≤ n ∧ n ≤ 10)) (by omega), decide_eq_true (p := ((b.length : Int) = bitsSize n)) (by omega)]; rfl))
   ·
    refine TL.known 21 hb5 rfl ?_
    have hb5' := hb5
    replace hb5' := of_decide_eq_false hb5'
    refine TL.gm 21 (.one (.row 1017 [])) ?_
    refine TL.gm 21 (.one (.row 1017 [])) ?_
    refine TL.gy 21 (Step.len (e := 3) (z := 1) (d := (.ints .i64 (bitList b))) rfl rfl (lt_ok rfl) (by kernel_rfl) rfl rfl) ?_
    refine TL.gy 21 (Step.bin (r := .int .i64 (((bitList b).length : Int) - 1)) rfl rfl (lt_ok rfl) rfl rfl (Bin.sub (a := ((bitList b).length : Int)) (b := 1) (by first | exact wrap_ok (by first | omega | (simp; omega)) (by first | omega | (simp; omega)) | rfl))) ?_
    refine TL.gy 21 (Step.index_row (e := 3) (z := 1) (i := (((bitList b).length : Int) - 1)) rfl rfl (lt_ok rfl) (by kernel_rfl) rfl rfl rfl rfl (lt_ok rfl) rfl (by first | omega | (simp; omega)) (by simp only [D.at_, D.cell, D.size]; first | omega | (simp; omega))) ?_
    refine TL.gy 21 (Step.load_row (c := cI ((bitList b).getD (((bitList b).length : Int) - 1).toNat 0)) rfl rfl (lt_ok rfl) (by kernel_rfl) rfl rfl rfl) ?_
    refine TL.gm 21 (pI n) ?_
    refine TL.gy 21 (Step.bin rfl rfl (lt_ok rfl) rfl rfl (Bin.lss (k := .i64) (a := ((bitList b).getD (((bitList b).length : Int) - 1).toNat 0)) (b := n))) ?_
    refine TL.pk false (pB (decide (((bitList b).getD (((bitList b).length : Int) - 1).toNat 0) < n))) ?_
    refine TL.as (pB (decide (((bitList b).getD (((bitList b).length : Int) - 1).toNat 0) < n))) ?_
    refine TL.nil ?_
    refine T.ret ?_
    refine ⟨[(false, [.d (.bool (decide (((bitList b).getD (((bitList b).length : Int) - 1).toNat 0) < n)))])], (.cons rfl .nil), rfl, [], (RetC.rd' ?_ .nil)⟩ <;> (first | (congr 1; symm; unfold bitsOk; rw [bits_last (by omega), decide_eq_true (p := (1 ≤ n ∧ n ≤ 10)) (by omega), decide_eq_true (p := ((b.length : Int) = bitsSize n)) (by omega)]; rfl) | (congr 1; symm; simp only [bitsOk, *, Bool.and_true, Bool.true_and, Bool.and_false, Bool.false_and, decide_true, decide_false, and_true, true_and, and_self, and_false, false_and, Bool.and_self, not_true, not_false, Bool.not_true, Bool.not_false, ge_iff_le, gt_iff_lt, if_true, if_false, Bool.false_eq_true, ite_true, ite_false, reduceIte]; done) | (congr 1; symm; unfold bitsOk; rw [decide_eq_false (p := (1 ≤ n ∧ n ≤ 10)) (by omega)]; rfl) | (congr 1; symm; unfold bitsOk; rw [decide_eq_false (p := ((b.length : Int) = bitsSize n)) (by omega)]; simp; done) | (congr 1; symm; unfold bitsOk; rw [all_no (i := i) (by omega) (by omega)]; simp; done) | (congr 1; symm; unfold bitsOk; rw [List.take_of_length_le (by omega)] at hx2; rw [hx2, decide_eq_true (p := (1 ≤ n ∧ n ≤ 10)) (by omega), decide_eq_true (p := ((b.length : Int) = bitsSize n)) (by omega)]; rfl) | (congr 1; unfold bitsOk; rw [bits_last (by omega), decide_eq_true (p := (1 ≤ n ∧ n ≤ 10)) (by omega), decide_eq_true (p := ((b.length : Int) = bitsSize n)) (by omega)]; simp only [Bool.true_and]; rfl) | (congr 1; symm; unfold bitsOk; rw [List.eq_nil_of_length_eq_zero (l := bitList b) (by omega), decide_eq_true (p := (1 ≤ n ∧ n ≤ 10)) (by omega), decide_eq_true (p := ((b.length : Int) = bitsSize n)) (by omega)]; rfl))
theorem ok_spec_BitsSet (b : List Int) (n : Int) (i : Int) (on : Bool) (h0_ : on = true) (h1_ : U8s b) (h2_ : b.length ≤ 2) : RO Try.prog 142 [.one (.ints .u8 b), .one (.int .i64 n), .one (.int .i64 i), .one (.bool on)] [(false, [.own 5 (.ints .u8 (putBit1 b n i))]), (false, [.rd (.bool (bitsOk b n && decide (0 ≤ i ∧ i ≤ n - 1)))])] := by
 refine RO.intro Try.func142 rfl 43 rfl (le_ok rfl) fun w Z => ?_
 refine T.bnd 0 0 rfl rfl fun hb_0_0 => ?_
 simp only [D.size, List.length_map] at hb_0_0
 have hn_ : bitsOk b n = true → (1 ≤ n ∧ n ≤ 10) ∧ (b.length : Int) = (n - 1) / 8 + 1 := fun h => by have h1 := (bitsOk_iff.1 h).1; have h2 := (bitsOk_iff.1 h).2.1; unfold bitsSize at h2; rw [if_neg (by omega)] at h2; exact ⟨h1, h2⟩
 refine T.seq ?_
 refine T.region ?_
 refine TL.as (.one (.nil)) ?_
 refine TL.as (pB false) ?_
 refine TL.nil ?_
 refine T.seq ?_
 refine T.seq ?_
 refine T.region ?_
 refine TL.mv (pS b) ?_
 refine TL.mv (pI n) ?_
 refine TL.c (Step.cl (xs := [.tmp 11, .tmp 12]) (ps := [(pS b), (pI n)]) (g := .func 150) false (.cons (.one (.d _)) (.cons (.one (.d _)) .nil)) (ok_spec_BitsOk b n (by assumption) (by first | omega | assumption | (simp only [List.length_append] at *; omega)))) ?_
 refine TL.c (Step.not (b := (bitsOk b n)) rfl rfl (lt_ok rfl) rfl) ?_
 refine TL.mv (pB (!(bitsOk b n))) ?_
 rcases Bool.eq_false_or_eq_true (!(bitsOk b n)) with hb1 | hb1
 ·
  refine TL.known 15 hb1 rfl ?_
  have hb1' := hb1
  replace hb1' : (bitsOk b n) = false := by simpa only [Bool.not_eq_true', Bool.not_eq_false'] using hb1'
  refine TL.gf 15 ?_
  refine TL.gf 15 ?_
  refine TL.gf 15 ?_
  refine TL.gf 15 ?_
  refine TL.gf 15 ?_
  refine TL.pk true (pB true) ?_
  refine TL.nil ?_
  refine T.cond (b := true) rfl (fun h2_ => ?_) (fun h2_ => absurd h2_ (by simp))
  refine T.seq ?_
  refine T.region ?_
  refine TL.as (.one (.nil)) ?_
  refine TL.as (pB false) ?_
  refine TL.nil ?_
  refine T.ret ?_
  refine ⟨[(false, [.nil]), (false, [.d (.bool false)])], (.cons rfl (.cons rfl .nil)), rfl, [], (RetC.nilown' rfl ?_ (by first | exact trivial | exact D.wf_nil _) (RetC.rd' ?_ .nil))⟩ <;> (first | (congr 1; first | (rw [putBit1_new h1_ (by first | assumption | simpa using ‹(!bitsOk b n) = false›) (by omega) (no_of (by assumption) h0_)]; done) | (rw [putBit1_has (by first | assumption | simpa using ‹(!bitsOk b n) = false›) (by omega) (has_of (by assumption) h0_)]; done)) | (simp only [D.size]; rw [putBit1_no (fun h => by first | (have := h.2; omega) | (have := h.1; simp_all))]; rfl) | (congr 1; symm; first | (simp_all; done) | (simp_all; omega)))
 ·
  refine TL.known 15 hb1 rfl ?_
  have hb1' := hb1
  replace hb1' : (bitsOk b n) = true := by simpa only [Bool.not_eq_true', Bool.not_eq_false'] using hb1'
  refine TL.gm 15 (pI i) ?_
  refine TL.gm 15 (pI n) ?_
  refine TL.gy 15 (Step.bin (r := .int .i64 (n - 1)) rfl rfl (lt_ok rfl) rfl rfl (Bin.sub (a := n) (b := 1) (by first | exact wrap_ok (by first | omega | (have := hn_ (by first | assumption | simpa using ‹(!bitsOk b n) = false›); omega) | (simp; omega)) (by first | omega | (have := hn_ (by first | assumption | simpa using ‹(!bitsOk b n) = false›); omega) | (simp; omega)) | rfl))) ?_
  refine TL.gy 15 (Step.cl (xs := [.tmp 16, .const (.int .i64 0), .tmp 18]) (ps := [(pI i), (pI 0), (pI (n - 1))]) (g := .func 138) false (.cons (.one (.d _)) (.cons (.one (.d _)) (.cons (.one (.d _)) .nil))) (ok_spec_l01In i 0 (n - 1))) ?_
  refine TL.gy 15 (Step.not (b := (decide (0 ≤ i ∧ i ≤ (n - 1)))) rfl rfl (lt_ok rfl) rfl) ?_
  refine TL.pk false (pB (!(decide (0 ≤ i ∧ i ≤ (n - 1))))) ?_
  refine TL.nil ?_
  refine T.cond (b := !(decide (0 ≤ i ∧ i ≤ (n - 1)))) rfl (fun h3 => ?_) (fun h3 => ?_)
  ·
   replace h3 : (decide (0 ≤ i ∧ i ≤ (n - 1))) = false := by simpa only [Bool.not_eq_true', Bool.not_eq_false'] using h3
   replace h3 := of_decide_eq_false h3
   refine T.seq ?_
   refine T.region ?_
   refine TL.as (.one (.nil)) ?_
   refine TL.as (pB false) ?_
   refine TL.nil ?_
   refine T.ret ?_
   refine ⟨[(false, [.nil]), (false, [.d (.bool false)])], (.cons rfl (.cons rfl .nil)), rfl, [], (RetC.nilown' rfl ?_ (by first | exact trivial | exact D.wf_nil _) (RetC.rd' ?_ .nil))⟩ <;> (first | (congr 1; first | (rw [putBit1_new h1_ (by first | assumption | simpa using ‹(!bitsOk b n) = false›) (by omega) (no_of (by assumption) h0_)]; done) | (rw [putBit1_has (by first | assumption | simpa using ‹(!bitsOk b n) = false›) (by omega) (has_of (by assumption) h0_)]; done)) | (simp only [D.size]; rw [putBit1_no (fun h => by first | (have := h.2; omega) | (have := h.1; simp_all))]; rfl) | (congr 1; symm; first | (simp_all; done) | (simp_all; omega)))
  ·
   replace h3 : (decide (0 ≤ i ∧ i ≤ (n - 1))) = true := by simpa only [Bool.not_eq_true', Bool.not_eq_false'] using h3
   replace h3 := of_decide_eq_true h3
   refine T.skip ?_
   refine T.seq ?_
   refine T.region ?_
   refine TL.mv (pS b) ?_
   refine TL.c (Step.cl (xs := [.tmp 22]) (ps := [(pS b)]) (g := .func 79) false (.cons (.one (.d _)) .nil) (ok_spec_l01Copy b (by first | omega | assumption | (simp only [List.length_take, List.length_drop]; omega)))) ?_
   refine TL.as (.one (.row 1023 [])) ?_
   refine TL.nil ?_
   refine T.seq ?_
   refine T.seq ?_
   refine T.region ?_
   refine TL.mv (pS b) ?_
   refine TL.mv (pI i) ?_
   refine TL.c (Step.cl (xs := [.tmp 24, .tmp 25]) (ps := [(pS b), (pI i)]) (g := .func 133) false (.cons (.one (.d _)) (.cons (.one (.d _)) .nil)) (ok_spec_BitsHas b i (by assumption) (by first | omega | assumption | (simp only [List.length_append] at *; omega)) (by first | omega | (have := hn_ (by first | assumption | simpa using ‹(!bitsOk b n) = false›); omega)))) ?_
   refine TL.mv (pB on) ?_
   refine TL.c (Step.bneq (b := (bitHas b i)) (c := on) rfl rfl (lt_ok rfl) (by kernel_rfl) rfl rfl) ?_
   refine TL.nil ?_
   refine T.cond (b := (bitHas b i) != on) rfl (fun h4 => ?_) (fun h4 => ?_)
   ·
    refine T.draw [⟨29, (.one (.row 1023 [])), []⟩, ⟨30, (pI i), []⟩, ⟨31, (pI (i / 8)), []⟩, ⟨32, (.one (.row 1023 [])), []⟩, ⟨33, (pI i), []⟩, ⟨34, (pI (i / 8)), []⟩, ⟨35, (.one (.rptr 1023 [] (i / 8).toNat 0)), []⟩, ⟨36, (.one (.d (.int .u8 (b.getD (i / 8).toNat 0)))), []⟩, ⟨37, (pI i), []⟩, ⟨38, (pI (i % 8)), []⟩, ⟨39, (.one (.d (.int .u8 (shl8 1 (i % 8))))), []⟩, ⟨40, (.one (.d (.int .u8 (xor8 (b.getD (i / 8).toNat 0) (shl8 1 (i % 8)))))), []⟩, ⟨41, (.one (.rptr 1023 [] (i / 8).toNat 0)), []⟩] (by kernel_rfl) (by kernel_rfl) ?_ ?_
    ·
     refine .cons (fun E A => A.mv 10 29) ?_
     refine .cons (fun E A => A.mv 2 30) ?_
     refine .cons (fun E A => OpStep.plain rfl (Step.bd (r := .int .i64 (i / 8)) 31 (A.g 30 rfl) rfl (Bin.quo (k := .i64) (a := i) (b := 8) (by decide) (by rw [Int.tdiv_eq_ediv_of_nonneg (by first | omega | (have := hn_ (by first | assumption | simpa using ‹(!bitsOk b n) = false›); omega) | (simp; omega))]; exact wrap_ok (by first | omega | (have := hn_ (by first | assumption | simpa using ‹(!bitsOk b n) = false›); omega) | (simp; omega)) (by first | omega | (have := hn_ (by first | assumption | simpa using ‹(!bitsOk b n) = false›); omega) | (simp; omega)))))) ?_
     refine .cons (fun E A => A.mv 10 32) ?_
     refine .cons (fun E A => A.mv 2 33) ?_
     refine .cons (fun E A => OpStep.plain rfl (Step.bd (r := .int .i64 (i / 8)) 34 (A.g 33 rfl) rfl (Bin.quo (k := .i64) (a := i) (b := 8) (by decide) (by rw [Int.tdiv_eq_ediv_of_nonneg (by first | omega | (have := hn_ (by first | assumption | simpa using ‹(!bitsOk b n) = false›); omega) | (simp; omega))]; exact wrap_ok (by first | omega | (have := hn_ (by first | assumption | simpa using ‹(!bitsOk b n) = false›); omega) | (simp; omega)) (by first | omega | (have := hn_ (by first | assumption | simpa using ‹(!bitsOk b n) = false›); omega) | (simp; omega)))))) ?_
     refine .cons (fun E A => OpStep.plain rfl (Step.index_row (e := 5) (z := 1) (i := (i / 8)) (t := 35) rfl rfl (by exact lt_ok rfl) (by kernel_rfl) (A.g 32 rfl) (by exact (A.row 1023 (by kernel_rfl)).trans rfl) rfl rfl (lt_ok rfl) (A.g 34 rfl) (by first | omega | (have := hn_ (by first | assumption | simpa using ‹(!bitsOk b n) = false›); omega) | (simp; omega)) (by simp only [D.at_, D.cell, D.size]; first | omega | (have := hn_ (by first | assumption | simpa using ‹(!bitsOk b n) = false›); omega) | (simp; omega)))) ?_
     refine .cons (fun E A => OpStep.plain rfl (Step.load_row (c := .d (.int .u8 (b.getD (i / 8).toNat 0))) (t := 36) rfl rfl (by exact lt_ok rfl) (by kernel_rfl) (A.g 35 rfl) (by exact (A.row 1023 (by kernel_rfl)).trans rfl) rfl)) ?_
     refine .cons (fun E A => A.mv 2 37) ?_
     refine .cons (fun E A => OpStep.plain rfl (Step.bd (r := .int .i64 (i % 8)) 38 (A.g 37 rfl) rfl (Bin.rem (k := .i64) (a := i) (b := 8) (by decide) (Int.tmod_eq_emod_of_nonneg (by first | omega | (have := hn_ (by first | assumption | simpa using ‹(!bitsOk b n) = false›); omega) | (simp; omega)))))) ?_
     refine .cons (fun E A => OpStep.plain rfl (Step.bd (r := .int .u8 (shl8 1 (i % 8))) 39 rfl (A.g 38 rfl) (Bin.shl (k := .u8) (k' := .i64) (a := 1) (b := (i % 8)) (by first | omega | (have := hn_ (by first | assumption | simpa using ‹(!bitsOk b n) = false›); omega) | (simp; omega)) (rfl)))) ?_
     refine .cons (fun E A => OpStep.plain rfl (Step.bd (r := .int .u8 (xor8 (b.getD (i / 8).toNat 0) (shl8 1 (i % 8)))) 40 (A.g 36 rfl) (A.g 39 rfl) (Bin.xor (k := .u8) (a := (b.getD (i / 8).toNat 0)) (b := (shl8 1 (i % 8))) (rfl)))) ?_
     refine .cons (fun E A => OpStep.plain rfl (Step.index_row (e := 5) (z := 1) (i := (i / 8)) (t := 41) rfl rfl (by exact lt_ok rfl) (by kernel_rfl) (A.g 29 rfl) (by exact (A.row 1023 (by kernel_rfl)).trans rfl) rfl rfl (lt_ok rfl) (A.g 31 rfl) (by first | omega | (have := hn_ (by first | assumption | simpa using ‹(!bitsOk b n) = false›); omega) | (simp; omega)) (by simp only [D.at_, D.cell, D.size]; first | omega | (have := hn_ (by first | assumption | simpa using ‹(!bitsOk b n) = false›); omega) | (simp; omega)))) ?_
     exact .nil _ _
    refine TL.c (Step.store_row (n := 1) (p := (.one (.d (.int .u8 (xor8 (b.getD (i / 8).toNat 0) (shl8 1 (i % 8))))))) (ps := [.d (.int .u8 (xor8 (b.getD (i / 8).toNat 0) (shl8 1 (i % 8))))]) (es := [(.int .u8 (xor8 (b.getD (i / 8).toNat 0) (shl8 1 (i % 8))))]) (ss := []) (d1 := (.ints .u8 (b.set (i / 8).toNat (xor8 (b.getD (i / 8).toNat 0) (shl8 1 (i % 8)))))) (d' := (.ints .u8 (b.set (i / 8).toNat (xor8 (b.getD (i / 8).toNat 0) (shl8 1 (i % 8)))))) rfl rfl (by kernel_rfl) rfl rfl rfl rfl rfl rfl (.val rfl .nil) (by simp) (Putd.one rfl trivial rfl (by simp only [D.at_, D.size, List.length_set, upTo_length]; first | omega | (have := hn_ (by first | assumption | simpa using ‹(!bitsOk b n) = false›); omega) | (simp; omega)) (lt_ok rfl)) rfl) ?_
    refine TL.nil ?_
    refine T.seq ?_
    refine T.region ?_
    refine TL.mv (.one (.row 1023 [])) ?_
    refine TL.as (.one (.row 1023 [])) ?_
    refine TL.as (pB true) ?_
    refine TL.nil ?_
    refine T.ret ?_
    refine ⟨[(false, [.row 1023 []]), (false, [.d (.bool true)])], (.cons rfl (.cons rfl .nil)), rfl, [1023], (RetC.own' rfl ?_ rfl (RetC.rd' ?_ .nil))⟩ <;> (first | (congr 1; first | (rw [putBit1_new h1_ (by first | assumption | simpa using ‹(!bitsOk b n) = false›) (by omega) (no_of (by assumption) h0_)]; done) | (rw [putBit1_has (by first | assumption | simpa using ‹(!bitsOk b n) = false›) (by omega) (has_of (by assumption) h0_)]; done)) | (simp only [D.size]; rw [putBit1_no (fun h => by first | (have := h.2; omega) | (have := h.1; simp_all))]; rfl) | (congr 1; symm; first | (simp_all; done) | (simp_all; omega)))
   ·
    refine T.skip ?_
    refine T.seq ?_
    refine T.region ?_
    refine TL.mv (.one (.row 1023 [])) ?_
    refine TL.as (.one (.row 1023 [])) ?_
    refine TL.as (pB true) ?_
    refine TL.nil ?_
    refine T.ret ?_
    refine ⟨[(false, [.row 1023 []]), (false, [.d (.bool true)])], (.cons rfl (.cons rfl .nil)), rfl, [1023], (RetC.own' rfl ?_ rfl (RetC.rd' ?_ .nil))⟩ <;> (first | (congr 1; first | (rw [putBit1_new h1_ (by first | assumption | simpa using ‹(!bitsOk b n) = false›) (by omega) (no_of (by assumption) h0_)]; done) | (rw [putBit1_has (by first | assumption | simpa using ‹(!bitsOk b n) = false›) (by omega) (has_of (by assumption) h0_)]; done)) | (simp only [D.size]; rw [putBit1_no (fun h => by first | (have := h.2; omega) | (have := h.1; simp_all))]; rfl) | (congr 1; symm; first | (simp_all; done) | (simp_all; omega)))
theorem ok_spec_BitsOf (l : List Int) (n : Int) (h0_ : n ≤ 9223372036854775807) : RO Try.prog 88 [.one (.ints .i64 l), .one (.int .i64 n)] [(false, [.own 5 (.ints .u8 (bitsOf l n))]), (false, [.rd (.bool (bitsOfOk l n))])] := by
 refine RO.intro Try.func88 rfl 38 rfl (le_ok rfl) fun w Z => ?_
 refine T.bnd 0 0 rfl rfl fun hb_0_0 => ?_
 simp only [D.size, List.length_map] at hb_0_0
 have hz_ : (1 ≤ n ∧ n ≤ 10) → bitsSize n = (n - 1) / 8 + 1 := fun h => by unfold bitsSize; rw [if_neg (by omega)]
 refine T.seq ?_
 refine T.region ?_
 refine TL.as (.one (.nil)) ?_
 refine TL.as (pB false) ?_
 refine TL.nil ?_
 refine T.seq ?_
 refine T.region ?_
 refine TL.mv (pI n) ?_
 have nn1 := bitsOf_len [] n
 refine TL.c (Step.cl (xs := [.tmp 12]) (ps := [(pI n)]) (g := .func 140) false (.cons (.one (.d _)) .nil) (ok_spec_BitsNew n (by first | omega | assumption | (simp only [List.length_append] at *; omega)))) ?_
 refine TL.as (.one (.row 1013 [])) ?_
 refine TL.ren 1013 600004 rfl (by simp) ?_
 refine TL.nil ?_
 refine T.seq ?_
 refine T.region ?_
 refine TL.mv (pI n) ?_
 refine TL.c (Step.cl (xs := [.tmp 14]) (ps := [(pI n)]) (g := .func 141) false (.cons (.one (.d _)) .nil) (ok_spec_l02Signers n)) ?_
 refine TL.as (pB (decide (1 ≤ n ∧ n ≤ 10))) ?_
 refine TL.nil ?_
 refine T.seq ?_
 refine T.seq ?_
 refine T.region ?_
 refine TL.mv (.one (.d (.ints .i64 l))) ?_
 refine TL.c (Step.len (e := 3) (z := 1) (d := (.ints .i64 l)) rfl rfl (lt_ok rfl) (by kernel_rfl) rfl rfl) ?_
 refine TL.mv (pI 0) ?_
 refine TL.nil ?_
 refine T.block ?_
 refine T.loop (ι := Nat) (fun xx_ => { tm := [(1, (pI n)), (4, (.one (.nil))), (5, (pB false)), (16, (.one (.d (.ints .i64 l)))), (17, (pI (l.length : Int))), (18, (pI (xx_ : Int))), (6, (.one (.row 600004 []))), (7, (pB (bitsOfOk (l.take xx_) n)))], rows := [(600004, (5, (.ints .u8 (bitsOf (l.take xx_) n))))], boxes := [] }) (fun xx_ => xx_ ≤ l.length) (fun xx_ => l.length - xx_) 0 ?_ ?_ ?_
 · refine Env.le_mk ⟨rfl, rfl, rfl, rfl, rfl, ?_, rfl, ?_, trivial⟩ ⟨?_, trivial⟩ trivial <;> (first | (refine congrArg (fun x => some (_, D.ints .u8 x)) ?_; first | exact (bitsState_step (l := l) (n := n) (by omega)).1 | rfl) | rfl | (refine congrArg (fun b => PV.one (.d (.bool b))) ?_; first | (rw [(bitsState_step (l := l) (n := n) (by omega)).2, show bitsOfOk (l.take i) n = _ from by assumption]; rfl) | (simp [bitsOfOk, signersOk]; done)) | (refine congrArg (fun n => PV.one (.d (.int .i64 n))) ?_; first | rfl | omega | (simp; done)))
 · exact Nat.zero_le _
 ·
  intro i hx
  try dsimp only at hx ⊢
  have hu_ := bitsOf_u8 (l.take i) n
  have hl_ := bitsOf_len (l.take i) n
  refine T.seq ?_
  refine T.region ?_
  refine TL.c (Step.bin rfl rfl (lt_ok rfl) rfl rfl (Bin.lss (k := .i64) (a := (i : Int)) (b := (l.length : Int)))) ?_
  refine TL.nil ?_
  refine T.seq ?_
  refine T.cond (b := decide ((i : Int) < (l.length : Int))) rfl (fun h2 => ?_) (fun h2 => ?_)
  ·
   replace h2 := of_decide_eq_true h2
   refine T.skip ?_
   refine T.seq ?_
   refine T.block ?_
   refine T.seq ?_
   refine T.region ?_
   refine TL.c (Step.index (e := 3) (z := 1) (i := (i : Int)) rfl rfl (lt_ok rfl) (by kernel_rfl) rfl rfl rfl (lt_ok rfl) rfl (by first | omega | (simp; omega)) (by simp only [D.size]; first | omega | (simp; omega))) ?_
   refine TL.c (Step.load (e := (.int .i64 (l.getD i 0))) rfl rfl (lt_ok rfl) (by kernel_rfl) rfl rfl) ?_
   refine TL.as (pI (l.getD i 0)) ?_
   refine TL.nil ?_
   refine T.seq ?_
   refine T.region ?_
   refine TL.mv (.one (.row 600004 [])) ?_
   refine TL.mv (pI n) ?_
   refine TL.mv (pI (l.getD i 0)) ?_
   refine TL.c (Step.cl (xs := [.tmp 23, .tmp 24, .tmp 25, .const (.bool true)]) (ps := [(.one (.row 600004 [])), (pI n), (pI (l.getD i 0)), (pB true)]) (g := .func 142) false (.cons (.one (.row rfl rfl rfl rfl)) (.cons (.one (.d _)) (.cons (.one (.d _)) (.cons (.one (.d _)) .nil)))) (ok_spec_BitsSet (bitsOf (l.take i) n) n (l.getD i 0) true (by first | rfl | assumption) (by first | assumption | exact bitsOf_u8 _ _) (by first | omega | exact bitsOf_len _ _))) ?_
   refine TL.mv (.tup [(false, [.row 1026 []]), (false, [.d (.bool (bitsOk (bitsOf (l.take i) n) n && decide (0 ≤ (l.getD i 0) ∧ (l.getD i 0) ≤ n - 1)))])]) ?_
   refine TL.c (Step.extract (p := (.one (.row 1026 []))) rfl rfl (lt_ok rfl) rfl rfl) ?_
   refine TL.c (Step.extract (p := (pB (bitsOk (bitsOf (l.take i) n) n && decide (0 ≤ (l.getD i 0) ∧ (l.getD i 0) ≤ n - 1)))) rfl rfl (lt_ok rfl) rfl rfl) ?_
   refine TL.as (.one (.row 1026 [])) ?_
   refine TL.as (pB (bitsOk (bitsOf (l.take i) n) n && decide (0 ≤ (l.getD i 0) ∧ (l.getD i 0) ≤ n - 1))) ?_
   refine TL.nil ?_
   refine T.seq ?_
   refine T.region ?_
   refine TL.mv (pB (bitsOfOk (l.take i) n)) ?_
   refine TL.mv (pB (bitsOfOk (l.take i) n)) ?_
   rcases Bool.eq_false_or_eq_true (bitsOfOk (l.take i) n) with hb3 | hb3
   ·
    refine TL.known 30 hb3 rfl ?_
    refine TL.gm 30 (pB (bitsOk (bitsOf (l.take i) n) n && decide (0 ≤ (l.getD i 0) ∧ (l.getD i 0) ≤ n - 1))) ?_
    refine TL.pk true (pB (bitsOk (bitsOf (l.take i) n) n && decide (0 ≤ (l.getD i 0) ∧ (l.getD i 0) ≤ n - 1))) ?_
    refine TL.as (pB (bitsOk (bitsOf (l.take i) n) n && decide (0 ≤ (l.getD i 0) ∧ (l.getD i 0) ≤ n - 1))) ?_
    refine TL.nil ?_
    refine T.region ?_
    refine TL.mv (.one (.row 1026 [])) ?_
    refine TL.as (.one (.row 1026 [])) ?_
    refine TL.weaken (Env.drops_le [600004] _) ?_
    refine TL.ren 1026 600004 rfl (by simp) ?_
    refine TL.nil ?_
    refine T.region ?_
    refine TL.c (Step.bin (r := .int .i64 ((i : Int) + 1)) rfl rfl (lt_ok rfl) rfl rfl (Bin.add (a := (i : Int)) (b := 1) (by first | exact wrap_ok (by first | omega | (simp; omega)) (by first | omega | (simp; omega)) | rfl))) ?_
    refine TL.mv (pI ((i : Int) + 1)) ?_
    refine TL.nil ?_
    refine ⟨i + 1, by omega, by first | omega | (dsimp only; omega), Env.le_mk ⟨rfl, rfl, rfl, rfl, rfl, ?_, rfl, ?_, trivial⟩ ⟨?_, trivial⟩ trivial⟩ <;> (first | (refine congrArg (fun x => some (_, D.ints .u8 x)) ?_; first | exact (bitsState_step (l := l) (n := n) (by omega)).1 | rfl) | rfl | (refine congrArg (fun b => PV.one (.d (.bool b))) ?_; first | (rw [(bitsState_step (l := l) (n := n) (by omega)).2, show bitsOfOk (l.take i) n = _ from by assumption]; rfl) | (simp [bitsOfOk, signersOk]; done)) | (refine congrArg (fun n => PV.one (.d (.int .i64 n))) ?_; first | rfl | omega | (simp; done)))
   ·
    refine TL.known 30 hb3 rfl ?_
    refine TL.gf 30 ?_
    refine TL.pk false (pB false) ?_
    refine TL.as (pB false) ?_
    refine TL.nil ?_
    refine T.region ?_
    refine TL.mv (.one (.row 1026 [])) ?_
    refine TL.as (.one (.row 1026 [])) ?_
    refine TL.weaken (Env.drops_le [600004] _) ?_
    refine TL.ren 1026 600004 rfl (by simp) ?_
    refine TL.nil ?_
    refine T.region ?_
    refine TL.c (Step.bin (r := .int .i64 ((i : Int) + 1)) rfl rfl (lt_ok rfl) rfl rfl (Bin.add (a := (i : Int)) (b := 1) (by first | exact wrap_ok (by first | omega | (simp; omega)) (by first | omega | (simp; omega)) | rfl))) ?_
    refine TL.mv (pI ((i : Int) + 1)) ?_
    refine TL.nil ?_
    refine ⟨i + 1, by omega, by first | omega | (dsimp only; omega), Env.le_mk ⟨rfl, rfl, rfl, rfl, rfl, ?_, rfl, ?_, trivial⟩ ⟨?_, trivial⟩ trivial⟩ <;> (first | (refine congrArg (fun x => some (_, D.ints .u8 x)) ?_; first | exact (bitsState_step (l := l) (n := n) (by omega)).1 | rfl) | rfl | (refine congrArg (fun b => PV.one (.d (.bool b))) ?_; first | (rw [(bitsState_step (l := l) (n := n) (by omega)).2, show bitsOfOk (l.take i) n = _ from by assumption]; rfl) | (simp [bitsOfOk, signersOk]; done)) | (refine congrArg (fun n => PV.one (.d (.int .i64 n))) ?_; first | rfl | omega | (simp; done)))
  ·
   replace h2 := of_decide_eq_false h2
   refine T.exit ?_
   refine T.seq ?_
   refine T.seq ?_
   refine T.region ?_
   refine TL.mv (pB (bitsOfOk (l.take i) n)) ?_
   refine TL.c (Step.not (b := (bitsOfOk (l.take i) n)) rfl rfl (lt_ok rfl) rfl) ?_
   refine TL.nil ?_
   refine T.cond (b := !(bitsOfOk (l.take i) n)) rfl (fun h4 => ?_) (fun h4 => ?_)
   ·
    replace h4 : (bitsOfOk (l.take i) n) = false := by simpa only [Bool.not_eq_true', Bool.not_eq_false'] using h4
    refine T.seq ?_
    refine T.region ?_
    refine TL.as (.one (.nil)) ?_
    refine TL.as (pB false) ?_
    refine TL.nil ?_
    refine T.ret ?_
    refine ⟨[(false, [.nil]), (false, [.d (.bool false)])], (.cons rfl (.cons rfl .nil)), rfl, [], (RetC.nilown' rfl ?_ (by first | exact trivial | exact D.wf_nil _) (RetC.rd' ?_ .nil))⟩ <;> (first | (congr 1; first | (rw [(bitsOf_all (l := l) (n := n) (i := i) (by omega)).1]; done) | (rw [← (bitsOf_all (l := l) (n := n) (i := i) (by omega)).2.1]; symm; first | assumption | simpa using ‹(!bitsOfOk (l.take i) n) = _›)) | (simp only [D.size]; rw [← (bitsOf_all (l := l) (n := n) (i := i) (by omega)).1, bitsOf_no (l := l.take i) (by first | assumption | simpa using ‹(!bitsOfOk (l.take i) n) = _›)]; rfl))
   ·
    replace h4 : (bitsOfOk (l.take i) n) = true := by simpa only [Bool.not_eq_true', Bool.not_eq_false'] using h4
    refine T.skip ?_
    refine T.seq ?_
    refine T.region ?_
    refine TL.mv (.one (.row 600004 [])) ?_
    refine TL.as (.one (.row 600004 [])) ?_
    refine TL.as (pB true) ?_
    refine TL.nil ?_
    refine T.ret ?_
    refine ⟨[(false, [.row 600004 []]), (false, [.d (.bool true)])], (.cons rfl (.cons rfl .nil)), rfl, [600004], (RetC.own' rfl ?_ rfl (RetC.rd' ?_ .nil))⟩ <;> (first | (congr 1; first | (rw [(bitsOf_all (l := l) (n := n) (i := i) (by omega)).1]; done) | (rw [← (bitsOf_all (l := l) (n := n) (i := i) (by omega)).2.1]; symm; first | assumption | simpa using ‹(!bitsOfOk (l.take i) n) = _›)) | (simp only [D.size]; rw [← (bitsOf_all (l := l) (n := n) (i := i) (by omega)).1, bitsOf_no (l := l.take i) (by first | assumption | simpa using ‹(!bitsOfOk (l.take i) n) = _›)]; rfl))
theorem ok_spec_TcBits (l : SLimits) (t : STc) (h0_ : t.sm) (h1_ : I64 l.f0) : RO Try.prog 25 [.agg l.cells, .agg t.cells] [(false, [.own 5 (.ints .u8 (tcBits l t))]), (false, [.rd (.bool (tcOk l t && bitsOfOk (whos t.f1) l.f0))])] := by
 refine RO.intro Try.func25 rfl 33 rfl (le_ok rfl) fun w Z => ?_
 refine T.bnd 1 1 rfl rfl fun hb_1_1 => ?_
 simp only [D.size, List.length_map] at hb_1_1
 have s0_ : t.f1.length ≤ 1048576 := h0_.1
 have hi_ := h1_
 unfold I64 at hi_
 refine T.seq ?_
 refine T.region ?_
 refine TL.c (Step.box (p := (.agg [cI l.f0, cI l.f1, cI l.f2, cI l.f3, cI l.f4])) (ps := [cI l.f0, cI l.f1, cI l.f2, cI l.f3, cI l.f4]) rfl rfl (lt_ok rfl) rfl rfl rfl rfl rfl) ?_
 refine TL.c (Step.box (p := (.agg [cI t.f0, .d (.sl 3 (t.f1.map SEntry.cells))])) (ps := [cI t.f0, .d (.sl 3 (t.f1.map SEntry.cells))]) rfl rfl (lt_ok rfl) rfl rfl rfl rfl rfl) ?_
 refine TL.as (.one (.nil)) ?_
 refine TL.as (pB false) ?_
 refine TL.nil ?_
 refine T.seq ?_
 refine T.seq ?_
 refine T.region ?_
 refine TL.c (Step.load_box_agg (n := 5) (qs := [cI l.f0, cI l.f1, cI l.f2, cI l.f3, cI l.f4]) rfl rfl (lt_ok rfl) (by kernel_rfl) rfl rfl rfl rfl) ?_
 refine TL.c (Step.load_box_agg (n := 2) (qs := [cI t.f0, .d (.sl 3 (t.f1.map SEntry.cells))]) rfl rfl (lt_ok rfl) (by kernel_rfl) rfl rfl rfl rfl) ?_
 refine TL.c (Step.cl (xs := [.tmp 9, .tmp 10]) (ps := [(.agg [cI l.f0, cI l.f1, cI l.f2, cI l.f3, cI l.f4]), (.agg [cI t.f0, .d (.sl 3 (t.f1.map SEntry.cells))])]) (g := .func 87) false (.cons (.agg (.cons (.d _) (.cons (.d _) (.cons (.d _) (.cons (.d _) (.cons (.d _) .nil)))))) (.cons (.agg (.cons (.d _) (.cons (.d _) .nil))) .nil)) (ok_spec_TcOk l t)) ?_
 refine TL.c (Step.not (b := (tcOk l t)) rfl rfl (lt_ok rfl) rfl) ?_
 refine TL.nil ?_
 refine T.cond (b := !(tcOk l t)) rfl (fun h1 => ?_) (fun h1 => ?_)
 ·
  replace h1 : (tcOk l t) = false := by simpa only [Bool.not_eq_true', Bool.not_eq_false'] using h1
  refine T.seq ?_
  refine T.region ?_
  refine TL.as (.one (.nil)) ?_
  refine TL.as (pB false) ?_
  refine TL.nil ?_
  refine T.ret ?_
  refine ⟨[(false, [.nil]), (false, [.d (.bool false)])], (.cons rfl (.cons rfl .nil)), rfl, [], (RetC.nilown' rfl ?_ (by first | exact trivial | exact D.wf_nil _) (RetC.rd' ?_ .nil))⟩ <;> (first | (congr 1; rw [tcBits_yes (l := l) (t := t) (by first | assumption | simpa using ‹(!tcOk l t) = false›)]; rw [List.take_of_length_le (l := t.f1) (i := i) (by omega)]; done) | (simp only [D.size]; rw [tcBits_no (l := l) (t := t) (by first | assumption | simpa using ‹(!tcOk l t) = true›)]; rfl) | (congr 1; rw [show tcOk l t = true from by first | assumption | simpa using ‹(!tcOk l t) = false›]; rw [List.take_of_length_le (l := t.f1) (i := i) (by omega)]; rfl) | (congr 1; rw [show tcOk l t = false from by first | assumption | simpa using ‹(!tcOk l t) = true›]; rfl))
 ·
  replace h1 : (tcOk l t) = true := by simpa only [Bool.not_eq_true', Bool.not_eq_false'] using h1
  refine T.skip ?_
  refine T.seq ?_
  refine T.region ?_
  refine TL.c (Step.lit (e := 3) (z := 1) (by_ := 8) (xs := []) (pss := []) (es := []) (ss := []) (d := (.ints .i64 [])) rfl rfl (lt_ok rfl) (by kernel_rfl) rfl rfl .nil (by simp) (le_ok rfl) (le_ok rfl) rfl .nil rfl (by simp) (by simp) rfl trivial rfl rfl) ?_
  refine TL.as (.one (.row 13 [])) ?_
  refine TL.nil ?_
  refine T.seq ?_
  refine T.seq ?_
  refine T.region ?_
  refine TL.c (Step.fieldAddr (q := 0) (off := 1) (n := 1) (one := true) rfl rfl (lt_ok rfl) (by kernel_rfl) (Nat.succ_ne_zero _) rfl) ?_
  refine TL.c (Step.load_box (c := .d (.sl 3 (t.f1.map SEntry.cells))) rfl rfl (lt_ok rfl) (by kernel_rfl) rfl rfl rfl) ?_
  refine TL.c (Step.len' (e := 121) (z := 3) (d := (.sl 3 (t.f1.map SEntry.cells))) (n := t.f1.length) rfl rfl (lt_ok rfl) (by kernel_rfl) rfl rfl (by simp [D.size])) ?_
  refine TL.mv (pI 0) ?_
  refine TL.nil ?_
  refine T.block ?_
  refine T.loop (ι := Nat) (fun xx_ => { tm := [(2, (.one (.ptr 2 0))), (4, (.one (.nil))), (5, (pB false)), (15, (.one (.d (.sl 3 (t.f1.map SEntry.cells))))), (16, (pI (t.f1.length : Int))), (17, (pI (xx_ : Int))), (6, (.one (.row 13 [])))], rows := [(13, (3, (.ints .i64 (whos (t.f1.take xx_)))))], boxes := [(2, (44, [cI l.f0, cI l.f1, cI l.f2, cI l.f3, cI l.f4])), (3, (48, [cI t.f0, .d (.sl 3 (t.f1.map SEntry.cells))]))] }) (fun xx_ => xx_ ≤ t.f1.length) (fun xx_ => t.f1.length - xx_) 0 ?_ ?_ ?_
  · refine Env.le_mk ⟨rfl, rfl, rfl, rfl, rfl, ?_, rfl, trivial⟩ ⟨?_, trivial⟩ ⟨rfl, rfl, trivial⟩ <;> (first | (refine congrArg (fun x => some (_, D.ints .i64 x)) ?_; first | exact (whos_step (by omega)).symm | rfl) | rfl | (refine congrArg (fun n => PV.one (.d (.int .i64 n))) ?_; first | rfl | omega | (simp; done)))
  · exact Nat.zero_le _
  ·
   intro i hx
   try dsimp only at hx ⊢
   have hl_ := whos_len t.f1 i
   refine T.seq ?_
   refine T.region ?_
   refine TL.c (Step.bin rfl rfl (lt_ok rfl) rfl rfl (Bin.lss (k := .i64) (a := (i : Int)) (b := (t.f1.length : Int)))) ?_
   refine TL.nil ?_
   refine T.seq ?_
   refine T.cond (b := decide ((i : Int) < (t.f1.length : Int))) rfl (fun h2 => ?_) (fun h2 => ?_)
   ·
    replace h2 := of_decide_eq_true h2
    refine T.skip ?_
    refine T.seq ?_
    refine T.block ?_
    refine T.seq ?_
    refine T.region ?_
    refine TL.c (Step.index (e := 121) (z := 3) (i := (i : Int)) rfl rfl (lt_ok rfl) (by kernel_rfl) rfl rfl rfl (lt_ok rfl) rfl (by first | omega | (simp; omega)) (by simp only [D.size]; first | omega | (simp; omega))) ?_
    refine TL.c (Step.load_agg (n := 3) (cs := [cI (t.f1.getD i default).f0, cI (t.f1.getD i default).f1, cS (t.f1.getD i default).f2]) rfl rfl (lt_ok rfl) (by kernel_rfl) rfl rfl (by simp only [List.range, List.range.loop, List.map_cons, List.map_nil]; rw [cell_map default (by first | omega | (simp; omega)), cell_map default (by first | omega | (simp; omega)), cell_map default (by first | omega | (simp; omega))]; rfl)) ?_
    refine TL.c (Step.alloc (cs := [.int .i64 0, .int .i64 0, .slice none 0 0]) (ps := [cI 0, cI 0, .nil]) rfl rfl (lt_ok rfl) (by kernel_rfl) rfl rfl rfl rfl) ?_
    refine TL.c (Step.store_box (n := 3) (p := (.agg [cI (t.f1.getD i default).f0, cI (t.f1.getD i default).f1, cS (t.f1.getD i default).f2])) (qs := [cI (t.f1.getD i default).f0, cI (t.f1.getD i default).f1, cS (t.f1.getD i default).f2]) (ps' := [cI (t.f1.getD i default).f0, cI (t.f1.getD i default).f1, cS (t.f1.getD i default).f2]) rfl rfl (by kernel_rfl) rfl rfl rfl rfl rfl rfl (le_ok rfl) rfl) ?_
    refine TL.nil ?_
    refine T.region ?_
    refine TL.mv (.one (.row 13 [])) ?_
    refine TL.c (Step.fieldAddr (q := 0) (off := 0) (n := 1) (one := true) rfl rfl (lt_ok rfl) (by kernel_rfl) (Nat.succ_ne_zero _) rfl) ?_
    refine TL.c (Step.load_box (c := cI (t.f1.getD i default).f0) rfl rfl (lt_ok rfl) (by kernel_rfl) rfl rfl rfl) ?_
    refine TL.c (Step.lit (e := 3) (z := 1) (by_ := 8) (xs := [.tmp 23]) (pss := [[cI (t.f1.getD i default).f0]]) (es := [(.int .i64 (t.f1.getD i default).f0)]) (ss := []) (d := (.ints .i64 [(t.f1.getD i default).f0])) rfl rfl (lt_ok rfl) (by kernel_rfl) rfl rfl (.cons rfl .nil) (by simp) (le_ok rfl) (le_ok rfl) rfl (.val rfl .nil) rfl (by simp) (by simp) rfl trivial rfl rfl) ?_
    refine TL.c (Step.append (e := 3) (z := 1) (by_ := 8) (d := (.ints .i64 (whos (t.f1.take i)))) (dy := (.ints .i64 [(t.f1.getD i default).f0])) (d' := (.ints .i64 ((whos (t.f1.take i)) ++ [(t.f1.getD i default).f0]))) (ss := []) rfl rfl (lt_ok rfl) (by kernel_rfl) rfl rfl rfl (lt_ok rfl) rfl (.copy rfl rfl rfl (by simp [D.flat, D.val])) (by simp) rfl (by simp only [D.size, List.length_map]; first | omega | (simp only [List.length_append, List.length_cons, List.length_nil]; omega) | (simp; omega) | (simp only [List.length_append] at *; omega)) (by simp only [D.size, List.length_map]; first | omega | (simp only [List.length_append, List.length_cons, List.length_nil]; omega) | (simp; omega) | (simp only [List.length_append] at *; omega)) (by simp)) ?_
    refine TL.as (.one (.row 13 [])) ?_
    refine TL.nil ?_
    refine T.region ?_
    refine TL.c (Step.bin (r := .int .i64 ((i : Int) + 1)) rfl rfl (lt_ok rfl) rfl rfl (Bin.add (a := (i : Int)) (b := 1) (by first | exact wrap_ok (by first | omega | (simp; omega)) (by first | omega | (simp; omega)) | rfl))) ?_
    refine TL.mv (pI ((i : Int) + 1)) ?_
    refine TL.nil ?_
    refine ⟨i + 1, by omega, by first | omega | (dsimp only; omega), Env.le_mk ⟨rfl, rfl, rfl, rfl, rfl, ?_, rfl, trivial⟩ ⟨?_, trivial⟩ ⟨rfl, rfl, trivial⟩⟩ <;> (first | (refine congrArg (fun x => some (_, D.ints .i64 x)) ?_; first | exact (whos_step (by omega)).symm | rfl) | rfl | (refine congrArg (fun n => PV.one (.d (.int .i64 n))) ?_; first | rfl | omega | (simp; done)))
   ·
    replace h2 := of_decide_eq_false h2
    refine T.exit ?_
    refine T.seq ?_
    refine T.region ?_
    refine TL.mv (.one (.row 13 [])) ?_
    refine TL.c (Step.fieldAddr (q := 0) (off := 0) (n := 1) (one := true) rfl rfl (lt_ok rfl) (by kernel_rfl) (Nat.succ_ne_zero _) rfl) ?_
    refine TL.c (Step.load_box (c := cI l.f0) rfl rfl (lt_ok rfl) (by kernel_rfl) rfl rfl rfl) ?_
    have nn3 := bitsOf_len (whos (t.f1.take i)) l.f0
    have nn4 := bitsOf_u8 (whos (t.f1.take i)) l.f0
    refine TL.c (Step.cl (xs := [.tmp 27, .tmp 29]) (ps := [(.one (.row 13 [])), (pI l.f0)]) (g := .func 88) false (.cons (.one (.row rfl rfl rfl rfl)) (.cons (.one (.d _)) .nil)) (ok_spec_BitsOf (whos (t.f1.take i)) l.f0 (by first | omega | assumption | (simp only [List.length_append] at *; omega)))) ?_
    refine TL.c (Step.extract (p := (.one (.row 1030 []))) rfl rfl (lt_ok rfl) rfl rfl) ?_
    refine TL.c (Step.extract (p := (pB (bitsOfOk (whos (t.f1.take i)) l.f0))) rfl rfl (lt_ok rfl) rfl rfl) ?_
    refine TL.as (.one (.row 1030 [])) ?_
    refine TL.as (pB (bitsOfOk (whos (t.f1.take i)) l.f0)) ?_
    refine TL.nil ?_
    refine T.ret ?_
    refine ⟨[(false, [.row 1030 []]), (false, [.d (.bool (bitsOfOk (whos (t.f1.take i)) l.f0))])], (.cons rfl (.cons rfl .nil)), rfl, [1030], (RetC.own' rfl ?_ rfl (RetC.rd' ?_ .nil))⟩ <;> (first | (congr 1; rw [tcBits_yes (l := l) (t := t) (by first | assumption | simpa using ‹(!tcOk l t) = false›)]; rw [List.take_of_length_le (l := t.f1) (i := i) (by omega)]; done) | (simp only [D.size]; rw [tcBits_no (l := l) (t := t) (by first | assumption | simpa using ‹(!tcOk l t) = true›)]; rfl) | (congr 1; rw [show tcOk l t = true from by first | assumption | simpa using ‹(!tcOk l t) = false›]; rw [List.take_of_length_le (l := t.f1) (i := i) (by omega)]; rfl) | (congr 1; rw [show tcOk l t = false from by first | assumption | simpa using ‹(!tcOk l t) = true›]; rfl))
theorem ok_laws_toLimits (a : SLimits) : RO Try.prog 26 [.agg a.cells] [(true, [.rd (.int .i64 a.f0), .rd (.int .i64 a.f1), .rd (.int .i64 a.f2), .rd (.int .i64 a.f3), .rd (.int .i64 a.f4)])] := by
 refine RO.intro Try.func26 rfl 20 rfl (le_ok rfl) fun w Z => ?_
 refine T.seq ?_
 refine T.region ?_
 refine TL.c (Step.box (p := (.agg [cI a.f0, cI a.f1, cI a.f2, cI a.f3, cI a.f4])) (ps := [cI a.f0, cI a.f1, cI a.f2, cI a.f3, cI a.f4]) rfl rfl (lt_ok rfl) rfl rfl rfl rfl rfl) ?_
 refine TL.c (Step.alloc (cs := [.int .i64 0, .int .i64 0, .int .i64 0, .int .i64 0, .int .i64 0]) (ps := [cI 0, cI 0, cI 0, cI 0, cI 0]) rfl rfl (lt_ok rfl) (by kernel_rfl) rfl rfl rfl rfl) ?_
 refine TL.nil ?_
 refine T.seq ?_
 refine T.region ?_
 refine TL.c (Step.alloc (cs := [.int .i64 0, .int .i64 0, .int .i64 0, .int .i64 0, .int .i64 0]) (ps := [cI 0, cI 0, cI 0, cI 0, cI 0]) rfl rfl (lt_ok rfl) (by kernel_rfl) rfl rfl rfl rfl) ?_
 refine TL.nil ?_
 refine T.seq ?_
 refine T.region ?_
 refine TL.c (Step.fieldAddr (q := 0) (off := 0) (n := 1) (one := true) rfl rfl (lt_ok rfl) (by kernel_rfl) (Nat.succ_ne_zero _) rfl) ?_
 refine TL.c (Step.load_box (c := cI a.f0) rfl rfl (lt_ok rfl) (by kernel_rfl) rfl rfl rfl) ?_
 refine TL.c (Step.fieldAddr (q := 0) (off := 0) (n := 1) (one := true) rfl rfl (lt_ok rfl) (by kernel_rfl) (Nat.succ_ne_zero _) rfl) ?_
 refine TL.c (Step.store_box (n := 1) (p := (pI a.f0)) (qs := [cI a.f0]) (ps' := [cI a.f0, cI 0, cI 0, cI 0, cI 0]) rfl rfl (by kernel_rfl) rfl rfl rfl rfl rfl rfl (le_ok rfl) rfl) ?_
 refine TL.nil ?_
 refine T.seq ?_
 refine T.region ?_
 refine TL.c (Step.fieldAddr (q := 0) (off := 1) (n := 1) (one := true) rfl rfl (lt_ok rfl) (by kernel_rfl) (Nat.succ_ne_zero _) rfl) ?_
 refine TL.c (Step.load_box (c := cI a.f1) rfl rfl (lt_ok rfl) (by kernel_rfl) rfl rfl rfl) ?_
 refine TL.c (Step.fieldAddr (q := 0) (off := 1) (n := 1) (one := true) rfl rfl (lt_ok rfl) (by kernel_rfl) (Nat.succ_ne_zero _) rfl) ?_
 refine TL.c (Step.store_box (n := 1) (p := (pI a.f1)) (qs := [cI a.f1]) (ps' := [cI a.f0, cI a.f1, cI 0, cI 0, cI 0]) rfl rfl (by kernel_rfl) rfl rfl rfl rfl rfl rfl (le_ok rfl) rfl) ?_
 refine TL.nil ?_
 refine T.seq ?_
 refine T.region ?_
 refine TL.c (Step.fieldAddr (q := 0) (off := 2) (n := 1) (one := true) rfl rfl (lt_ok rfl) (by kernel_rfl) (Nat.succ_ne_zero _) rfl) ?_
 refine TL.c (Step.load_box (c := cI a.f2) rfl rfl (lt_ok rfl) (by kernel_rfl) rfl rfl rfl) ?_
 refine TL.c (Step.fieldAddr (q := 0) (off := 2) (n := 1) (one := true) rfl rfl (lt_ok rfl) (by kernel_rfl) (Nat.succ_ne_zero _) rfl) ?_
 refine TL.c (Step.store_box (n := 1) (p := (pI a.f2)) (qs := [cI a.f2]) (ps' := [cI a.f0, cI a.f1, cI a.f2, cI 0, cI 0]) rfl rfl (by kernel_rfl) rfl rfl rfl rfl rfl rfl (le_ok rfl) rfl) ?_
 refine TL.nil ?_
 refine T.seq ?_
 refine T.region ?_
 refine TL.c (Step.fieldAddr (q := 0) (off := 3) (n := 1) (one := true) rfl rfl (lt_ok rfl) (by kernel_rfl) (Nat.succ_ne_zero _) rfl) ?_
 refine TL.c (Step.load_box (c := cI a.f3) rfl rfl (lt_ok rfl) (by kernel_rfl) rfl rfl rfl) ?_
 refine TL.c (Step.fieldAddr (q := 0) (off := 3) (n := 1) (one := true) rfl rfl (lt_ok rfl) (by kernel_rfl) (Nat.succ_ne_zero _) rfl) ?_
 refine TL.c (Step.store_box (n := 1) (p := (pI a.f3)) (qs := [cI a.f3]) (ps' := [cI a.f0, cI a.f1, cI a.f2, cI a.f3, cI 0]) rfl rfl (by kernel_rfl) rfl rfl rfl rfl rfl rfl (le_ok rfl) rfl) ?_
 refine TL.nil ?_
 refine T.seq ?_
 refine T.region ?_
 refine TL.c (Step.fieldAddr (q := 0) (off := 4) (n := 1) (one := true) rfl rfl (lt_ok rfl) (by kernel_rfl) (Nat.succ_ne_zero _) rfl) ?_
 refine TL.c (Step.load_box (c := cI a.f4) rfl rfl (lt_ok rfl) (by kernel_rfl) rfl rfl rfl) ?_
 refine TL.c (Step.fieldAddr (q := 0) (off := 4) (n := 1) (one := true) rfl rfl (lt_ok rfl) (by kernel_rfl) (Nat.succ_ne_zero _) rfl) ?_
 refine TL.c (Step.store_box (n := 1) (p := (pI a.f4)) (qs := [cI a.f4]) (ps' := [cI a.f0, cI a.f1, cI a.f2, cI a.f3, cI a.f4]) rfl rfl (by kernel_rfl) rfl rfl rfl rfl rfl rfl (le_ok rfl) rfl) ?_
 refine TL.nil ?_
 refine T.seq ?_
 refine T.region ?_
 refine TL.c (Step.load_box_agg (n := 5) (qs := [cI a.f0, cI a.f1, cI a.f2, cI a.f3, cI a.f4]) rfl rfl (lt_ok rfl) (by kernel_rfl) rfl rfl rfl rfl) ?_
 refine TL.c (Step.store_box (n := 5) (p := (.agg [cI a.f0, cI a.f1, cI a.f2, cI a.f3, cI a.f4])) (qs := [cI a.f0, cI a.f1, cI a.f2, cI a.f3, cI a.f4]) (ps' := [cI a.f0, cI a.f1, cI a.f2, cI a.f3, cI a.f4]) rfl rfl (by kernel_rfl) rfl rfl rfl rfl rfl rfl (le_ok rfl) rfl) ?_
 refine TL.nil ?_
 refine T.ret ?_
 exact ⟨[(true, [.d (.int .i64 a.f0), .d (.int .i64 a.f1), .d (.int .i64 a.f2), .d (.int .i64 a.f3), .d (.int .i64 a.f4)])], (.cons rfl .nil), rfl, [], (RetC.rd' rfl (RetC.rd' rfl (RetC.rd' rfl (RetC.rd' rfl (RetC.rd' rfl .nil)))))⟩
theorem ok_laws_toByteS (a : List Int) (h0_ : a.length ≤ 1048576) : RO Try.prog 49 [.one (.ints .u8 a)] [(false, [.own 5 (.ints .u8 a)])] := by
 refine RO.intro Try.func49 rfl 22 rfl (le_ok rfl) fun w Z => ?_
 refine T.bnd 0 0 rfl rfl fun hb_0_0 => ?_
 simp only [D.size, List.length_map] at hb_0_0
 have h0b := h0_
 refine T.seq ?_
 refine T.region ?_
 refine TL.as (.one (.nil)) ?_
 refine TL.nil ?_
 refine T.seq ?_
 refine T.region ?_
 refine TL.mv (pS a) ?_
 refine TL.c (Step.len (e := 5) (z := 1) (d := (.ints .u8 a)) rfl rfl (lt_ok rfl) (by kernel_rfl) rfl rfl) ?_
 refine TL.c (Step.make (e := 5) (z := 1) (by_ := 1) (n := (a.length : Int)) (zs := [.int .u8 0]) (zd := [.int .u8 0]) (d := (.ints .u8 (List.replicate a.length 0))) rfl rfl (lt_ok rfl) (by kernel_rfl) (lt_ok rfl) rfl (by first | omega | (simp; omega)) (by first | omega | (simp; omega)) (by first | omega | (simp; omega)) (by kernel_rfl) (.val rfl .nil) rfl (by simp) (by simp [D.flat, List.flatten_replicate_singleton]) (by simp [D.size]) rfl trivial) ?_
 refine TL.as (.one (.row 7 [])) ?_
 refine TL.nil ?_
 refine T.seq ?_
 refine T.seq ?_
 refine T.region ?_
 refine TL.as (pI 0) ?_
 refine TL.nil ?_
 refine T.block ?_
 refine T.loop (ι := Nat) (fun xx_ => { tm := [(0, (pS a)), (2, (.one (.nil))), (3, (.one (.row 7 []))), (4, (pI (xx_ : Int)))], rows := [(7, (5, (.ints .u8 (a.take xx_ ++ List.replicate (a.length - xx_) 0 : List Int))))], boxes := [] }) (fun xx_ => xx_ ≤ a.length) (fun xx_ => a.length - xx_) 0 ?_ ?_ ?_
 · refine Env.le_mk ⟨rfl, rfl, rfl, ?_, trivial⟩ ⟨?_, trivial⟩ trivial <;> (first | rfl | exact congrArg (fun x => some (5, ((.ints .u8 x) : D))) (fill_set a 0 0 i (by omega)))
 · exact Nat.zero_le _
 ·
  intro i hx
  try dsimp only at hx ⊢
  refine T.seq ?_
  refine T.seq ?_
  refine T.region ?_
  refine TL.mv (pI (i : Int)) ?_
  refine TL.mv (pS a) ?_
  refine TL.c (Step.len (e := 5) (z := 1) (d := (.ints .u8 a)) rfl rfl (lt_ok rfl) (by kernel_rfl) rfl rfl) ?_
  refine TL.c (Step.bin rfl rfl (lt_ok rfl) rfl rfl (Bin.lss (k := .i64) (a := (i : Int)) (b := (a.length : Int)))) ?_
  refine TL.nil ?_
  refine T.cond (b := decide ((i : Int) < (a.length : Int))) rfl (fun h1 => ?_) (fun h1 => ?_)
  ·
   replace h1 := of_decide_eq_true h1
   refine T.skip ?_
   refine T.seq ?_
   refine T.block ?_
   refine T.region ?_
   refine TL.mv (.one (.row 7 [])) ?_
   refine TL.mv (pI (i : Int)) ?_
   refine TL.mv (pS a) ?_
   refine TL.mv (pI (i : Int)) ?_
   refine TL.c (Step.index (e := 5) (z := 1) (i := (i : Int)) rfl rfl (lt_ok rfl) (by kernel_rfl) rfl rfl rfl (lt_ok rfl) rfl (by first | omega | (simp; omega)) (by simp only [D.size]; first | omega | (simp; omega))) ?_
   refine TL.c (Step.load (e := (.int .u8 (a.getD i 0))) rfl rfl (lt_ok rfl) (by kernel_rfl) rfl rfl) ?_
   refine TL.c (Step.index_row (e := 5) (z := 1) (i := (i : Int)) rfl rfl (lt_ok rfl) (by kernel_rfl) rfl rfl rfl rfl (lt_ok rfl) rfl (by first | omega | (simp; omega)) (by simp only [D.at_, D.cell, D.size]; first | omega | (simp; omega))) ?_
   refine TL.c (Step.store_row (n := 1) (p := (.one (.d (.int .u8 (a.getD i 0))))) (ps := [.d (.int .u8 (a.getD i 0))]) (es := [(.int .u8 (a.getD i 0))]) (ss := []) (d1 := (.ints .u8 ((a.take i ++ List.replicate (a.length - i) 0 : List Int).set i (a.getD i 0)))) (d' := (.ints .u8 ((a.take i ++ List.replicate (a.length - i) 0 : List Int).set i (a.getD i 0)))) rfl rfl (by kernel_rfl) rfl rfl rfl rfl rfl rfl (.val rfl .nil) (by simp) (Putd.one rfl trivial rfl (by simp only [D.at_, D.size, List.length_set, upTo_length]; first | omega | (simp; omega)) (lt_ok rfl)) rfl) ?_
   refine TL.nil ?_
   refine T.region ?_
   refine TL.mv (pI (i : Int)) ?_
   refine TL.c (Step.bin (r := .int .i64 ((i : Int) + 1)) rfl rfl (lt_ok rfl) rfl rfl (Bin.add (a := (i : Int)) (b := 1) (by first | exact wrap_ok (by first | omega | (simp; omega)) (by first | omega | (simp; omega)) | rfl))) ?_
   refine TL.as (pI ((i : Int) + 1)) ?_
   refine TL.nil ?_
   refine ⟨i + 1, by omega, by omega, Env.le_mk ⟨rfl, rfl, rfl, ?_, trivial⟩ ⟨?_, trivial⟩ trivial⟩ <;> (first | rfl | exact congrArg (fun x => some (5, ((.ints .u8 x) : D))) (fill_set a 0 0 i (by omega)))
  ·
   replace h1 := of_decide_eq_false h1
   refine T.exit ?_
   refine T.seq ?_
   refine T.region ?_
   refine TL.mv (.one (.row 7 [])) ?_
   refine TL.as (.one (.row 7 [])) ?_
   refine TL.nil ?_
   refine T.ret ?_
   refine ⟨[(false, [.row 7 []])], (.cons rfl .nil), rfl, [7], (RetC.own' rfl ?_ rfl .nil)⟩ <;> (first | rfl | (congr 1; rw [fill_all' _ _ _ (by omega)]) | (rw [fill_all' _ _ _ (by omega)]))
theorem ok_laws_toEntry (a : SEntry) (h0_ : a.sm) : RO Try.prog 143 [.agg a.cells] [(true, [.rd (.int .i64 a.f0), .rd (.int .i64 a.f1), .own 5 (.ints .u8 a.f2)])] := by
 refine RO.intro Try.func143 rfl 15 rfl (le_ok rfl) fun w Z => ?_
 have s0 : a.f2.length ≤ 1048576 := h0_
 refine T.seq ?_
 refine T.region ?_
 refine TL.c (Step.box (p := (.agg [cI a.f0, cI a.f1, cS a.f2])) (ps := [cI a.f0, cI a.f1, cS a.f2]) rfl rfl (lt_ok rfl) rfl rfl rfl rfl rfl) ?_
 refine TL.c (Step.alloc (cs := [.int .i64 0, .int .i64 0, .slice none 0 0]) (ps := [cI 0, cI 0, .nil]) rfl rfl (lt_ok rfl) (by kernel_rfl) rfl rfl rfl rfl) ?_
 refine TL.nil ?_
 refine T.seq ?_
 refine T.region ?_
 refine TL.c (Step.alloc (cs := [.int .i64 0, .int .i64 0, .slice none 0 0]) (ps := [cI 0, cI 0, .nil]) rfl rfl (lt_ok rfl) (by kernel_rfl) rfl rfl rfl rfl) ?_
 refine TL.nil ?_
 refine T.seq ?_
 refine T.region ?_
 refine TL.c (Step.fieldAddr (q := 0) (off := 0) (n := 1) (one := true) rfl rfl (lt_ok rfl) (by kernel_rfl) (Nat.succ_ne_zero _) rfl) ?_
 refine TL.c (Step.load_box (c := cI a.f0) rfl rfl (lt_ok rfl) (by kernel_rfl) rfl rfl rfl) ?_
 refine TL.c (Step.fieldAddr (q := 0) (off := 0) (n := 1) (one := true) rfl rfl (lt_ok rfl) (by kernel_rfl) (Nat.succ_ne_zero _) rfl) ?_
 refine TL.c (Step.store_box (n := 1) (p := (pI a.f0)) (qs := [cI a.f0]) (ps' := [cI a.f0, cI 0, .nil]) rfl rfl (by kernel_rfl) rfl rfl rfl rfl rfl rfl (le_ok rfl) rfl) ?_
 refine TL.nil ?_
 refine T.seq ?_
 refine T.region ?_
 refine TL.c (Step.fieldAddr (q := 0) (off := 1) (n := 1) (one := true) rfl rfl (lt_ok rfl) (by kernel_rfl) (Nat.succ_ne_zero _) rfl) ?_
 refine TL.c (Step.load_box (c := cI a.f1) rfl rfl (lt_ok rfl) (by kernel_rfl) rfl rfl rfl) ?_
 refine TL.c (Step.fieldAddr (q := 0) (off := 1) (n := 1) (one := true) rfl rfl (lt_ok rfl) (by kernel_rfl) (Nat.succ_ne_zero _) rfl) ?_
 refine TL.c (Step.store_box (n := 1) (p := (pI a.f1)) (qs := [cI a.f1]) (ps' := [cI a.f0, cI a.f1, .nil]) rfl rfl (by kernel_rfl) rfl rfl rfl rfl rfl rfl (le_ok rfl) rfl) ?_
 refine TL.nil ?_
 refine T.seq ?_
 refine T.region ?_
 refine TL.c (Step.fieldAddr (q := 0) (off := 2) (n := 1) (one := true) rfl rfl (lt_ok rfl) (by kernel_rfl) (Nat.succ_ne_zero _) rfl) ?_
 refine TL.c (Step.load_box (c := cS a.f2) rfl rfl (lt_ok rfl) (by kernel_rfl) rfl rfl rfl) ?_
 refine TL.c (Step.cl (xs := [.tmp 11]) (ps := [(pS a.f2)]) (g := .func 49) false (.cons (.one (.d _)) .nil) (ok_laws_toByteS a.f2 (by first | omega | assumption | exact mem_getD h0_.2 (by omega)))) ?_
 refine TL.c (Step.fieldAddr (q := 0) (off := 2) (n := 1) (one := true) rfl rfl (lt_ok rfl) (by kernel_rfl) (Nat.succ_ne_zero _) rfl) ?_
 refine TL.c (Step.store_box (n := 1) (p := (.one (.row 1012 []))) (qs := [.row 1012 []]) (ps' := [cI a.f0, cI a.f1, .row 1012 []]) rfl rfl (by kernel_rfl) rfl rfl rfl rfl rfl rfl (le_ok rfl) rfl) ?_
 refine TL.nil ?_
 refine T.seq ?_
 refine T.region ?_
 refine TL.c (Step.load_box_agg (n := 3) (qs := [cI a.f0, cI a.f1, .row 1012 []]) rfl rfl (lt_ok rfl) (by kernel_rfl) rfl rfl rfl rfl) ?_
 refine TL.c (Step.store_box (n := 3) (p := (.agg [cI a.f0, cI a.f1, .row 1012 []])) (qs := [cI a.f0, cI a.f1, .row 1012 []]) (ps' := [cI a.f0, cI a.f1, .row 1012 []]) rfl rfl (by kernel_rfl) rfl rfl rfl rfl rfl rfl (le_ok rfl) rfl) ?_
 refine TL.nil ?_
 refine T.ret ?_
 refine ⟨[(true, [cI a.f0, cI a.f1, .row 1012 []])], (.cons rfl .nil), rfl, [1012], (RetC.rd' rfl (RetC.rd' rfl (RetC.own' rfl ?_ rfl .nil)))⟩ <;> (rfl)
theorem ok_laws_toEntryS (a : List SEntry) (h0_ : a.length ≤ 1048576 ∧ ∀ y ∈ a, SEntry.sm y) : RO Try.prog 89 [.one (.sl 3 (a.map SEntry.cells))] [(false, [.own 121 (.sl 3 (a.map SEntry.cells))])] := by
 refine RO.intro Try.func89 rfl 23 rfl (le_ok rfl) fun w Z => ?_
 refine T.bnd 0 0 rfl rfl fun hb_0_0 => ?_
 simp only [D.size, List.length_map] at hb_0_0
 have h0b := h0_.1
 refine T.seq ?_
 refine T.region ?_
 refine TL.as (.one (.nil)) ?_
 refine TL.nil ?_
 refine T.seq ?_
 refine T.region ?_
 refine TL.mv (.one (.d (.sl 3 (a.map SEntry.cells)))) ?_
 refine TL.c (Step.len' (e := 162) (z := 3) (d := (.sl 3 (a.map SEntry.cells))) (n := a.length) rfl rfl (lt_ok rfl) (by kernel_rfl) rfl rfl (by simp [D.size])) ?_
 refine TL.c (Step.make (e := 121) (z := 3) (by_ := 40) (n := (a.length : Int)) (zs := [.int .i64 0, .int .i64 0, .slice none 0 0]) (zd := [(.int .i64 0), (.int .i64 0), (.ints .u8 [])]) (d := (.sl 3 ((List.replicate a.length default).map SEntry.cells))) rfl rfl (lt_ok rfl) (by kernel_rfl) (lt_ok rfl) rfl (by first | omega | (simp; omega)) (by first | omega | (simp; omega)) (by first | omega | (simp; omega)) (by kernel_rfl) (zeroB_ok _ _ (by kernel_rfl)) rfl (by simp) (by simp only [D.flat, List.map_replicate]; rfl) (by simp [D.size]) rfl (wf_map SEntry.len _)) ?_
 refine TL.as (.one (.row 7 [])) ?_
 refine TL.nil ?_
 refine T.seq ?_
 refine T.seq ?_
 refine T.region ?_
 refine TL.as (pI 0) ?_
 refine TL.nil ?_
 refine T.block ?_
 refine T.loop (ι := Nat) (fun xx_ => { tm := [(0, (.one (.d (.sl 3 (a.map SEntry.cells))))), (2, (.one (.nil))), (3, (.one (.row 7 []))), (4, (pI (xx_ : Int)))], rows := [(7, (121, (.sl 3 ((a.take xx_ ++ List.replicate (a.length - xx_) default : List SEntry).map SEntry.cells))))], boxes := [] }) (fun xx_ => xx_ ≤ a.length) (fun xx_ => a.length - xx_) 0 ?_ ?_ ?_
 · refine Env.le_mk ⟨rfl, rfl, rfl, ?_, trivial⟩ ⟨?_, trivial⟩ trivial <;> (first | rfl | exact congrArg (fun x => some (121, ((.sl 3 (x.map SEntry.cells)) : D))) (fill_set a default default i (by omega)))
 · exact Nat.zero_le _
 ·
  intro i hx
  try dsimp only at hx ⊢
  refine T.seq ?_
  refine T.seq ?_
  refine T.region ?_
  refine TL.mv (pI (i : Int)) ?_
  refine TL.mv (.one (.d (.sl 3 (a.map SEntry.cells)))) ?_
  refine TL.c (Step.len' (e := 162) (z := 3) (d := (.sl 3 (a.map SEntry.cells))) (n := a.length) rfl rfl (lt_ok rfl) (by kernel_rfl) rfl rfl (by simp [D.size])) ?_
  refine TL.c (Step.bin rfl rfl (lt_ok rfl) rfl rfl (Bin.lss (k := .i64) (a := (i : Int)) (b := (a.length : Int)))) ?_
  refine TL.nil ?_
  refine T.cond (b := decide ((i : Int) < (a.length : Int))) rfl (fun h1 => ?_) (fun h1 => ?_)
  ·
   replace h1 := of_decide_eq_true h1
   refine T.skip ?_
   refine T.seq ?_
   refine T.block ?_
   refine T.region ?_
   refine TL.mv (.one (.row 7 [])) ?_
   refine TL.mv (pI (i : Int)) ?_
   refine TL.mv (.one (.d (.sl 3 (a.map SEntry.cells)))) ?_
   refine TL.mv (pI (i : Int)) ?_
   refine TL.c (Step.index (e := 162) (z := 3) (i := (i : Int)) rfl rfl (lt_ok rfl) (by kernel_rfl) rfl rfl rfl (lt_ok rfl) rfl (by first | omega | (simp; omega)) (by simp only [D.size]; first | omega | (simp; omega))) ?_
   refine TL.c (Step.load_agg (n := 3) (cs := [cI (a.getD i default).f0, cI (a.getD i default).f1, cS (a.getD i default).f2]) rfl rfl (lt_ok rfl) (by kernel_rfl) rfl rfl (by simp only [List.range, List.range.loop, List.map_cons, List.map_nil]; rw [cell_map default (by first | omega | (simp; omega)), cell_map default (by first | omega | (simp; omega)), cell_map default (by first | omega | (simp; omega))]; rfl)) ?_
   refine TL.c (Step.cl (xs := [.tmp 19]) (ps := [(.agg [cI (a.getD i default).f0, cI (a.getD i default).f1, cS (a.getD i default).f2])]) (g := .func 143) false (.cons (.agg (.cons (.d _) (.cons (.d _) (.cons (.d _) .nil)))) .nil) (ok_laws_toEntry (a.getD i default) (by first | assumption | exact ⟨‹_›, ‹_›⟩ | (refine mem_getD (p := SEntry.sm) h0_.2 (by omega)) | exact mem_getD h0_.2 (by omega)))) ?_
   refine TL.c (Step.index_row (e := 121) (z := 3) (i := (i : Int)) rfl rfl (lt_ok rfl) (by kernel_rfl) rfl rfl rfl rfl (lt_ok rfl) rfl (by first | omega | (simp; omega)) (by simp only [D.at_, D.cell, D.size]; first | omega | (simp; omega))) ?_
   refine TL.c (Step.store_row (n := 3) (p := (.agg [cI (a.getD i default).f0, cI (a.getD i default).f1, .row 3020 []])) (ps := [cI (a.getD i default).f0, cI (a.getD i default).f1, .row 3020 []]) (es := SEntry.cells (a.getD i default)) (ss := [3020]) (d1 := (.sl 3 (((a.take i ++ List.replicate (a.length - i) default : List SEntry).set i (a.getD i default)).map SEntry.cells))) (d' := (.sl 3 (((a.take i ++ List.replicate (a.length - i) default : List SEntry).set i (a.getD i default)).map SEntry.cells))) rfl rfl (by kernel_rfl) rfl rfl rfl rfl rfl rfl (.val rfl (.val rfl (.row rfl (by simp) .nil))) (by simp) (Putd.enc SEntry.len (xs := (a.take i ++ List.replicate (a.length - i) default : List SEntry)) (by simp; first | omega | (simp; omega)) (a.getD i default)) rfl) ?_
   refine TL.nil ?_
   refine T.region ?_
   refine TL.mv (pI (i : Int)) ?_
   refine TL.c (Step.bin (r := .int .i64 ((i : Int) + 1)) rfl rfl (lt_ok rfl) rfl rfl (Bin.add (a := (i : Int)) (b := 1) (by first | exact wrap_ok (by first | omega | (simp; omega)) (by first | omega | (simp; omega)) | rfl))) ?_
   refine TL.as (pI ((i : Int) + 1)) ?_
   refine TL.nil ?_
   refine ⟨i + 1, by omega, by omega, Env.le_mk ⟨rfl, rfl, rfl, ?_, trivial⟩ ⟨?_, trivial⟩ trivial⟩ <;> (first | rfl | exact congrArg (fun x => some (121, ((.sl 3 (x.map SEntry.cells)) : D))) (fill_set a default default i (by omega)))
  ·
   replace h1 := of_decide_eq_false h1
   refine T.exit ?_
   refine T.seq ?_
   refine T.region ?_
   refine TL.mv (.one (.row 7 [])) ?_
   refine TL.as (.one (.row 7 [])) ?_
   refine TL.nil ?_
   refine T.ret ?_
   refine ⟨[(false, [.row 7 []])], (.cons rfl .nil), rfl, [7], (RetC.own' rfl ?_ rfl .nil)⟩ <;> (first | rfl | (congr 1; rw [fill_all' _ _ _ (by omega)]) | (rw [fill_all' _ _ _ (by omega)]))
theorem ok_laws_toTc (a : STc) (h0_ : a.sm) : RO Try.prog 27 [.agg a.cells] [(true, [.rd (.int .i64 a.f0), .own 121 (.sl 3 (a.f1.map SEntry.cells))])] := by
 refine RO.intro Try.func27 rfl 12 rfl (le_ok rfl) fun w Z => ?_
 have s0 : a.f1.length ≤ 1048576 ∧ ∀ y ∈ a.f1, SEntry.sm y := h0_
 refine T.seq ?_
 refine T.region ?_
 refine TL.c (Step.box (p := (.agg [cI a.f0, .d (.sl 3 (a.f1.map SEntry.cells))])) (ps := [cI a.f0, .d (.sl 3 (a.f1.map SEntry.cells))]) rfl rfl (lt_ok rfl) rfl rfl rfl rfl rfl) ?_
 refine TL.c (Step.alloc (cs := [.int .i64 0, .slice none 0 0]) (ps := [cI 0, .nil]) rfl rfl (lt_ok rfl) (by kernel_rfl) rfl rfl rfl rfl) ?_
 refine TL.nil ?_
 refine T.seq ?_
 refine T.region ?_
 refine TL.c (Step.alloc (cs := [.int .i64 0, .slice none 0 0]) (ps := [cI 0, .nil]) rfl rfl (lt_ok rfl) (by kernel_rfl) rfl rfl rfl rfl) ?_
 refine TL.nil ?_
 refine T.seq ?_
 refine T.region ?_
 refine TL.c (Step.fieldAddr (q := 0) (off := 0) (n := 1) (one := true) rfl rfl (lt_ok rfl) (by kernel_rfl) (Nat.succ_ne_zero _) rfl) ?_
 refine TL.c (Step.load_box (c := cI a.f0) rfl rfl (lt_ok rfl) (by kernel_rfl) rfl rfl rfl) ?_
 refine TL.c (Step.fieldAddr (q := 0) (off := 0) (n := 1) (one := true) rfl rfl (lt_ok rfl) (by kernel_rfl) (Nat.succ_ne_zero _) rfl) ?_
 refine TL.c (Step.store_box (n := 1) (p := (pI a.f0)) (qs := [cI a.f0]) (ps' := [cI a.f0, .nil]) rfl rfl (by kernel_rfl) rfl rfl rfl rfl rfl rfl (le_ok rfl) rfl) ?_
 refine TL.nil ?_
 refine T.seq ?_
 refine T.region ?_
 refine TL.c (Step.fieldAddr (q := 0) (off := 1) (n := 1) (one := true) rfl rfl (lt_ok rfl) (by kernel_rfl) (Nat.succ_ne_zero _) rfl) ?_
 refine TL.c (Step.load_box (c := .d (.sl 3 (a.f1.map SEntry.cells))) rfl rfl (lt_ok rfl) (by kernel_rfl) rfl rfl rfl) ?_
 refine TL.c (Step.cl (xs := [.tmp 8]) (ps := [(.one (.d (.sl 3 (a.f1.map SEntry.cells))))]) (g := .func 89) false (.cons (.one (.d _)) .nil) (ok_laws_toEntryS a.f1 (by first | assumption | exact ⟨‹_›, ‹_›⟩ | exact mem_getD h0_.2 (by omega)))) ?_
 refine TL.c (Step.fieldAddr (q := 0) (off := 1) (n := 1) (one := true) rfl rfl (lt_ok rfl) (by kernel_rfl) (Nat.succ_ne_zero _) rfl) ?_
 refine TL.c (Step.store_box (n := 1) (p := (.one (.row 1009 []))) (qs := [.row 1009 []]) (ps' := [cI a.f0, .row 1009 []]) rfl rfl (by kernel_rfl) rfl rfl rfl rfl rfl rfl (le_ok rfl) rfl) ?_
 refine TL.nil ?_
 refine T.seq ?_
 refine T.region ?_
 refine TL.c (Step.load_box_agg (n := 2) (qs := [cI a.f0, .row 1009 []]) rfl rfl (lt_ok rfl) (by kernel_rfl) rfl rfl rfl rfl) ?_
 refine TL.c (Step.store_box (n := 2) (p := (.agg [cI a.f0, .row 1009 []])) (qs := [cI a.f0, .row 1009 []]) (ps' := [cI a.f0, .row 1009 []]) rfl rfl (by kernel_rfl) rfl rfl rfl rfl rfl rfl (le_ok rfl) rfl) ?_
 refine TL.nil ?_
 refine T.ret ?_
 refine ⟨[(true, [cI a.f0, .row 1009 []])], (.cons rfl .nil), rfl, [1009], (RetC.rd' rfl (RetC.own' rfl ?_ rfl .nil))⟩ <;> (rfl)
theorem ok_impl_within (n : Int) (low : Int) (high : Int) : RO Try.prog 144 [.one (.int .i64 n), .one (.int .i64 low), .one (.int .i64 high)] [(false, [.rd (.bool (decide (low ≤ n ∧ n ≤ high)))])] := by
 refine RO.intro Try.func144 rfl 15 rfl (le_ok rfl) fun w Z => ?_
 refine T.seq ?_
 refine T.region ?_
 refine TL.as (pB false) ?_
 refine TL.nil ?_
 refine T.seq ?_
 refine T.region ?_
 refine TL.mv (pI low) ?_
 refine TL.mv (pI n) ?_
 refine TL.c (Step.bin rfl rfl (lt_ok rfl) rfl rfl (Bin.leq (k := .i64) (a := low) (b := n))) ?_
 refine TL.mv (pB (decide (low ≤ n))) ?_
 rcases Bool.eq_false_or_eq_true (decide (low ≤ n)) with hb1 | hb1
 ·
  refine TL.known 10 hb1 rfl ?_
  refine TL.gm 10 (pI n) ?_
  refine TL.gm 10 (pI high) ?_
  refine TL.gy 10 (Step.bin rfl rfl (lt_ok rfl) rfl rfl (Bin.leq (k := .i64) (a := n) (b := high))) ?_
  refine TL.pk true (pB (decide (n ≤ high))) ?_
  refine TL.as (pB (decide (n ≤ high))) ?_
  refine TL.nil ?_
  refine T.ret ?_
  refine ⟨[(false, [.d (.bool (decide (n ≤ high)))])], (.cons rfl .nil), rfl, [], (RetC.rd' ?_ .nil)⟩ <;> (first | (congr 1; simp_all; done) | (congr 1; simp_all; omega))
 ·
  refine TL.known 10 hb1 rfl ?_
  refine TL.gf 10 ?_
  refine TL.gf 10 ?_
  refine TL.gf 10 ?_
  refine TL.pk false (pB false) ?_
  refine TL.as (pB false) ?_
  refine TL.nil ?_
  refine T.ret ?_
  refine ⟨[(false, [.d (.bool false)])], (.cons rfl .nil), rfl, [], (RetC.rd' ?_ .nil)⟩ <;> (first | (congr 1; simp_all; done) | (congr 1; simp_all; omega))
theorem ok_impl_areHashes (l : List (List Int)) : RO Try.prog 145 [.one (.bss l)] [(false, [.rd (.bool (hashes l))])] := by
 refine RO.intro Try.func145 rfl 15 rfl (le_ok rfl) fun w Z => ?_
 refine T.bnd 0 0 rfl rfl fun hb_0_0 => ?_
 simp only [D.size, List.length_map] at hb_0_0
 refine T.seq ?_
 refine T.region ?_
 refine TL.as (pB false) ?_
 refine TL.nil ?_
 refine T.seq ?_
 refine T.seq ?_
 refine T.region ?_
 refine TL.mv (.one (.d (.bss l))) ?_
 refine TL.c (Step.len (e := 22) (z := 1) (d := (.bss l)) rfl rfl (lt_ok rfl) (by kernel_rfl) rfl rfl) ?_
 refine TL.mv (pI 0) ?_
 refine TL.nil ?_
 refine T.block ?_
 refine T.loop (ι := Nat) (fun xx_ => { tm := [(5, (.one (.d (.bss l)))), (6, (pI (l.length : Int))), (7, (pI (xx_ : Int)))], rows := [], boxes := [] }) (fun xx_ => xx_ ≤ l.length ∧ hashes (l.take xx_) = true) (fun xx_ => l.length - xx_) 0 ?_ ?_ ?_
 · refine Env.le_mk ⟨rfl, rfl, ?_, trivial⟩ trivial trivial <;> (first | rfl | (simp; done) | (congr 3; omega))
 · (refine ⟨Nat.zero_le _, by rw [List.take_zero]; rfl⟩)
 ·
  intro i hx
  try dsimp only at hx ⊢
  obtain ⟨hx1, hx2⟩ := hx
  refine T.seq ?_
  refine T.region ?_
  refine TL.c (Step.bin rfl rfl (lt_ok rfl) rfl rfl (Bin.lss (k := .i64) (a := (i : Int)) (b := (l.length : Int)))) ?_
  refine TL.nil ?_
  refine T.seq ?_
  refine T.cond (b := decide ((i : Int) < (l.length : Int))) rfl (fun h1 => ?_) (fun h1 => ?_)
  ·
   replace h1 := of_decide_eq_true h1
   refine T.skip ?_
   refine T.seq ?_
   refine T.block ?_
   refine T.seq ?_
   refine T.region ?_
   refine TL.c (Step.index (e := 22) (z := 1) (i := (i : Int)) rfl rfl (lt_ok rfl) (by kernel_rfl) rfl rfl rfl (lt_ok rfl) rfl (by first | omega | (simp; omega)) (by simp only [D.size]; first | omega | (simp; omega))) ?_
   refine TL.c (Step.load (e := (.ints .u8 (l.getD i []))) rfl rfl (lt_ok rfl) (by kernel_rfl) rfl rfl) ?_
   refine TL.as (pS (l.getD i [])) ?_
   refine TL.nil ?_
   refine T.seq ?_
   refine T.region ?_
   refine TL.mv (pS (l.getD i [])) ?_
   refine TL.c (Step.len (e := 5) (z := 1) (d := (.ints .u8 (l.getD i []))) rfl rfl (lt_ok rfl) (by kernel_rfl) rfl rfl) ?_
   refine TL.c (Step.bin rfl rfl (lt_ok rfl) rfl rfl (Bin.neq (k := .i64) (a := ((l.getD i []).length : Int)) (b := 32))) ?_
   refine TL.nil ?_
   refine T.cond (b := decide (((l.getD i []).length : Int) ≠ 32)) rfl (fun h2 => ?_) (fun h2 => ?_)
   ·
    replace h2 := of_decide_eq_true h2
    refine T.seq ?_
    refine T.region ?_
    refine TL.as (pB false) ?_
    refine TL.nil ?_
    refine T.ret ?_
    refine ⟨[(false, [.d (.bool false)])], (.cons rfl .nil), rfl, [], (RetC.rd' ?_ .nil)⟩ <;> ((congr 1; symm; first | (exact hashes_no (i := i) (by omega) (by omega)) | (rw [List.take_of_length_le (by omega)] at hx2; exact hx2)))
   ·
    replace h2 := of_decide_eq_false h2
    refine T.skip ?_
    refine T.region ?_
    refine TL.c (Step.bin (r := .int .i64 ((i : Int) + 1)) rfl rfl (lt_ok rfl) rfl rfl (Bin.add (a := (i : Int)) (b := 1) (by first | exact wrap_ok (by first | omega | (simp; omega)) (by first | omega | (simp; omega)) | rfl))) ?_
    refine TL.mv (pI ((i : Int) + 1)) ?_
    refine TL.nil ?_
    refine ⟨i + 1, by (refine ⟨by omega, hashes_step (by omega) hx2 (by omega)⟩), by first | omega | (dsimp only; omega), Env.le_mk ⟨rfl, rfl, ?_, trivial⟩ trivial trivial⟩ <;> (first | rfl | (simp; done) | (congr 3; omega))
  ·
   replace h1 := of_decide_eq_false h1
   refine T.exit ?_
   refine T.seq ?_
   refine T.region ?_
   refine TL.as (pB true) ?_
   refine TL.nil ?_
   refine T.ret ?_
   refine ⟨[(false, [.d (.bool true)])], (.cons rfl .nil), rfl, [], (RetC.rd' ?_ .nil)⟩ <;> ((congr 1; symm; first | (exact hashes_no (i := i) (by omega) (by omega)) | (rw [List.take_of_length_le (by omega)] at hx2; exact hx2)))
theorem ok_impl_LimitsOk (l : SLimits) : RO Try.prog 146 [.agg l.cells] [(false, [.rd (.bool (limOk l))])] := by
 refine RO.intro Try.func146 rfl 26 rfl (le_ok rfl) fun w Z => ?_
 refine T.seq ?_
 refine T.region ?_
 refine TL.c (Step.box (p := (.agg [cI l.f0, cI l.f1, cI l.f2, cI l.f3, cI l.f4])) (ps := [cI l.f0, cI l.f1, cI l.f2, cI l.f3, cI l.f4]) rfl rfl (lt_ok rfl) rfl rfl rfl rfl rfl) ?_
 refine TL.as (pB false) ?_
 refine TL.nil ?_
 refine T.seq ?_
 refine T.region ?_
 refine TL.c (Step.fieldAddr (q := 0) (off := 0) (n := 1) (one := true) rfl rfl (lt_ok rfl) (by kernel_rfl) (Nat.succ_ne_zero _) rfl) ?_
 refine TL.c (Step.load_box (c := cI l.f0) rfl rfl (lt_ok rfl) (by kernel_rfl) rfl rfl rfl) ?_
 refine TL.c (Step.cl (xs := [.tmp 4, .const (.int .i64 1), .const (.int .i64 10)]) (ps := [(pI l.f0), (pI 1), (pI 10)]) (g := .func 144) false (.cons (.one (.d _)) (.cons (.one (.d _)) (.cons (.one (.d _)) .nil))) (ok_impl_within l.f0 1 10)) ?_
 refine TL.mv (pB (decide (1 ≤ l.f0 ∧ l.f0 ≤ 10))) ?_
 rcases Bool.eq_false_or_eq_true (decide (1 ≤ l.f0 ∧ l.f0 ≤ 10)) with hb1 | hb1
 ·
  refine TL.known 6 hb1 rfl ?_
  refine TL.gy 6 (Step.fieldAddr (q := 0) (off := 1) (n := 1) (one := true) rfl rfl (lt_ok rfl) (by kernel_rfl) (Nat.succ_ne_zero _) rfl) ?_
  refine TL.gy 6 (Step.load_box (c := cI l.f1) rfl rfl (lt_ok rfl) (by kernel_rfl) rfl rfl rfl) ?_
  refine TL.gy 6 (Step.cl (xs := [.tmp 8, .const (.int .i64 0), .const (.int .i64 40)]) (ps := [(pI l.f1), (pI 0), (pI 40)]) (g := .func 144) false (.cons (.one (.d _)) (.cons (.one (.d _)) (.cons (.one (.d _)) .nil))) (ok_impl_within l.f1 0 40)) ?_
  refine TL.pk true (pB (decide (0 ≤ l.f1 ∧ l.f1 ≤ 40))) ?_
  refine TL.mv (pB (decide (0 ≤ l.f1 ∧ l.f1 ≤ 40))) ?_
  rcases Bool.eq_false_or_eq_true (decide (0 ≤ l.f1 ∧ l.f1 ≤ 40)) with hb2 | hb2
  ·
   refine TL.known 11 hb2 rfl ?_
   refine TL.gy 11 (Step.fieldAddr (q := 0) (off := 2) (n := 1) (one := true) rfl rfl (lt_ok rfl) (by kernel_rfl) (Nat.succ_ne_zero _) rfl) ?_
   refine TL.gy 11 (Step.load_box (c := cI l.f2) rfl rfl (lt_ok rfl) (by kernel_rfl) rfl rfl rfl) ?_
   refine TL.gy 11 (Step.cl (xs := [.tmp 13, .const (.int .i64 0), .const (.int .i64 8)]) (ps := [(pI l.f2), (pI 0), (pI 8)]) (g := .func 144) false (.cons (.one (.d _)) (.cons (.one (.d _)) (.cons (.one (.d _)) .nil))) (ok_impl_within l.f2 0 8)) ?_
   refine TL.pk true (pB (decide (0 ≤ l.f2 ∧ l.f2 ≤ 8))) ?_
   refine TL.mv (pB (decide (0 ≤ l.f2 ∧ l.f2 ≤ 8))) ?_
   rcases Bool.eq_false_or_eq_true (decide (0 ≤ l.f2 ∧ l.f2 ≤ 8)) with hb3 | hb3
   ·
    refine TL.known 16 hb3 rfl ?_
    refine TL.gy 16 (Step.fieldAddr (q := 0) (off := 3) (n := 1) (one := true) rfl rfl (lt_ok rfl) (by kernel_rfl) (Nat.succ_ne_zero _) rfl) ?_
    refine TL.gy 16 (Step.load_box (c := cI l.f3) rfl rfl (lt_ok rfl) (by kernel_rfl) rfl rfl rfl) ?_
    refine TL.gy 16 (Step.cl (xs := [.tmp 18, .const (.int .i64 1), .const (.int .i64 4000)]) (ps := [(pI l.f3), (pI 1), (pI 4000)]) (g := .func 144) false (.cons (.one (.d _)) (.cons (.one (.d _)) (.cons (.one (.d _)) .nil))) (ok_impl_within l.f3 1 4000)) ?_
    refine TL.pk true (pB (decide (1 ≤ l.f3 ∧ l.f3 ≤ 4000))) ?_
    refine TL.mv (pB (decide (1 ≤ l.f3 ∧ l.f3 ≤ 4000))) ?_
    rcases Bool.eq_false_or_eq_true (decide (1 ≤ l.f3 ∧ l.f3 ≤ 4000)) with hb4 | hb4
    ·
     refine TL.known 21 hb4 rfl ?_
     refine TL.gy 21 (Step.fieldAddr (q := 0) (off := 4) (n := 1) (one := true) rfl rfl (lt_ok rfl) (by kernel_rfl) (Nat.succ_ne_zero _) rfl) ?_
     refine TL.gy 21 (Step.load_box (c := cI l.f4) rfl rfl (lt_ok rfl) (by kernel_rfl) rfl rfl rfl) ?_
     refine TL.gy 21 (Step.cl (xs := [.tmp 23, .const (.int .i64 3), .const (.int .i64 5)]) (ps := [(pI l.f4), (pI 3), (pI 5)]) (g := .func 144) false (.cons (.one (.d _)) (.cons (.one (.d _)) (.cons (.one (.d _)) .nil))) (ok_impl_within l.f4 3 5)) ?_
     refine TL.pk true (pB (decide (3 ≤ l.f4 ∧ l.f4 ≤ 5))) ?_
     refine TL.as (pB (decide (3 ≤ l.f4 ∧ l.f4 ≤ 5))) ?_
     refine TL.nil ?_
     refine T.ret ?_
     refine ⟨[(false, [.d (.bool (decide (3 ≤ l.f4 ∧ l.f4 ≤ 5)))])], (.cons rfl .nil), rfl, [], (RetC.rd' ?_ .nil)⟩ <;> (first | rfl | (congr 1; symm; simp only [limOk, *, Bool.and_true, Bool.true_and, Bool.and_false, Bool.false_and, decide_true, decide_false, and_true, true_and, and_self, and_false, false_and, Bool.and_self, not_true, not_false, Bool.not_true, Bool.not_false, ge_iff_le, gt_iff_lt, if_true, if_false, Bool.false_eq_true, ite_true, ite_false, reduceIte]; done) | (congr 1; symm; simp_all [limOk]; done) | (congr 1; symm; simp_all [limOk]; omega))
    ·
     refine TL.known 21 hb4 rfl ?_
     refine TL.gf 21 ?_
     refine TL.gf 21 ?_
     refine TL.gf 21 ?_
     refine TL.pk false (pB false) ?_
     refine TL.as (pB false) ?_
     refine TL.nil ?_
     refine T.ret ?_
     refine ⟨[(false, [.d (.bool false)])], (.cons rfl .nil), rfl, [], (RetC.rd' ?_ .nil)⟩ <;> (first | rfl | (congr 1; symm; simp only [limOk, *, Bool.and_true, Bool.true_and, Bool.and_false, Bool.false_and, decide_true, decide_false, and_true, true_and, and_self, and_false, false_and, Bool.and_self, not_true, not_false, Bool.not_true, Bool.not_false, ge_iff_le, gt_iff_lt, if_true, if_false, Bool.false_eq_true, ite_true, ite_false, reduceIte]; done) | (congr 1; symm; simp_all [limOk]; done) | (congr 1; symm; simp_all [limOk]; omega))
   ·
    refine TL.known 16 hb3 rfl ?_
    refine TL.gf 16 ?_
    refine TL.gf 16 ?_
    refine TL.gf 16 ?_
    refine TL.pk false (pB false) ?_
    refine TL.mv (pB false) ?_
    refine TL.gf 21 ?_
    refine TL.gf 21 ?_
    refine TL.gf 21 ?_
    refine TL.pk false (pB false) ?_
    refine TL.as (pB false) ?_
    refine TL.nil ?_
    refine T.ret ?_
    refine ⟨[(false, [.d (.bool false)])], (.cons rfl .nil), rfl, [], (RetC.rd' ?_ .nil)⟩ <;> (first | rfl | (congr 1; symm; simp only [limOk, *, Bool.and_true, Bool.true_and, Bool.and_false, Bool.false_and, decide_true, decide_false, and_true, true_and, and_self, and_false, false_and, Bool.and_self, not_true, not_false, Bool.not_true, Bool.not_false, ge_iff_le, gt_iff_lt, if_true, if_false, Bool.false_eq_true, ite_true, ite_false, reduceIte]; done) | (congr 1; symm; simp_all [limOk]; done) | (congr 1; symm; simp_all [limOk]; omega))
  ·
   refine TL.known 11 hb2 rfl ?_
   refine TL.gf 11 ?_
   refine TL.gf 11 ?_
   refine TL.gf 11 ?_
   refine TL.pk false (pB false) ?_
   refine TL.mv (pB false) ?_
   refine TL.gf 16 ?_
   refine TL.gf 16 ?_
   refine TL.gf 16 ?_
   refine TL.pk false (pB false) ?_
   refine TL.mv (pB false) ?_
   refine TL.gf 21 ?_
   refine TL.gf 21 ?_
   refine TL.gf 21 ?_
   refine TL.pk false (pB false) ?_
   refine TL.as (pB false) ?_
   refine TL.nil ?_
   refine T.ret ?_
   refine ⟨[(false, [.d (.bool false)])], (.cons rfl .nil), rfl, [], (RetC.rd' ?_ .nil)⟩ <;> (first | rfl | (congr 1; symm; simp only [limOk, *, Bool.and_true, Bool.true_and, Bool.and_false, Bool.false_and, decide_true, decide_false, and_true, true_and, and_self, and_false, false_and, Bool.and_self, not_true, not_false, Bool.not_true, Bool.not_false, ge_iff_le, gt_iff_lt, if_true, if_false, Bool.false_eq_true, ite_true, ite_false, reduceIte]; done) | (congr 1; symm; simp_all [limOk]; done) | (congr 1; symm; simp_all [limOk]; omega))
 ·
  refine TL.known 6 hb1 rfl ?_
  refine TL.gf 6 ?_
  refine TL.gf 6 ?_
  refine TL.gf 6 ?_
  refine TL.pk false (pB false) ?_
  refine TL.mv (pB false) ?_
  refine TL.gf 11 ?_
  refine TL.gf 11 ?_
  refine TL.gf 11 ?_
  refine TL.pk false (pB false) ?_
  refine TL.mv (pB false) ?_
  refine TL.gf 16 ?_
  refine TL.gf 16 ?_
  refine TL.gf 16 ?_
  refine TL.pk false (pB false) ?_
  refine TL.mv (pB false) ?_
  refine TL.gf 21 ?_
  refine TL.gf 21 ?_
  refine TL.gf 21 ?_
  refine TL.pk false (pB false) ?_
  refine TL.as (pB false) ?_
  refine TL.nil ?_
  refine T.ret ?_
  refine ⟨[(false, [.d (.bool false)])], (.cons rfl .nil), rfl, [], (RetC.rd' ?_ .nil)⟩ <;> (first | rfl | (congr 1; symm; simp only [limOk, *, Bool.and_true, Bool.true_and, Bool.and_false, Bool.false_and, decide_true, decide_false, and_true, true_and, and_self, and_false, false_and, Bool.and_self, not_true, not_false, Bool.not_true, Bool.not_false, ge_iff_le, gt_iff_lt, if_true, if_false, Bool.false_eq_true, ite_true, ite_false, reduceIte]; done) | (congr 1; symm; simp_all [limOk]; done) | (congr 1; symm; simp_all [limOk]; omega))
theorem ok_impl_isNum (n : Int) : RO Try.prog 147 [.one (.int .i64 n)] [(false, [.rd (.bool (decide (0 ≤ n ∧ n ≤ 1152921504606846975)))])] := by
 refine RO.intro Try.func147 rfl 5 rfl (le_ok rfl) fun w Z => ?_
 refine T.seq ?_
 refine T.region ?_
 refine TL.as (pB false) ?_
 refine TL.nil ?_
 refine T.seq ?_
 refine T.region ?_
 refine TL.mv (pI n) ?_
 refine TL.c (Step.cl (xs := [.tmp 3, .const (.int .i64 0), .const (.int .i64 1152921504606846975)]) (ps := [(pI n), (pI 0), (pI 1152921504606846975)]) (g := .func 144) false (.cons (.one (.d _)) (.cons (.one (.d _)) (.cons (.one (.d _)) .nil))) (ok_impl_within n 0 1152921504606846975)) ?_
 refine TL.as (pB (decide (0 ≤ n ∧ n ≤ 1152921504606846975))) ?_
 refine TL.nil ?_
 refine T.ret ?_
 exact ⟨[(false, [.d (.bool (decide (0 ≤ n ∧ n ≤ 1152921504606846975)))])], (.cons rfl .nil), rfl, [], (RetC.rd' rfl .nil)⟩
end Go.Proofs.Ythaagegnobegjaa.Rf
