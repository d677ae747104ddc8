/- What is left of the law FnExactFrame when memory is gone: FnExactFrame's answers over numbers and lists are what the reference's are. Condition: each number is an int, each byte is one. -/
import Derived.Test.YthabpfhhfnibgaaPFnExactFramex4
import Derived.Test.YthabpfhhfnibgaaOwn
import Derived.Test.YthabpfhhfnibgaaLib
set_option linter.unusedVariables false
set_option linter.unusedSimpArgs false
namespace Go.Proofs.Ythabpfhhfnibgaa.PFnExactFrame
open Go.RowKit Go.Proofs.YthabpfhhfnibgaaW.PrintWords Go.Proofs.YthabpfhhfnibgaaW.PrintLast Go.Proofs.Ythabpfhhfnibgaa.Own Go.Proofs.Ythabpfhhfnibgaa.Lib
/-- The one pure statement. -/
def laws_FnExactFrame.Pure_ : Prop := ∀ (a0_0 : Int) (a0_1 : Int) (a0_2 : Int) (a0_3 : Int) (a0_4 : Int) (l1 : (List Int)), I64 a0_0 → I64 a0_1 → I64 a0_2 → I64 a0_3 → I64 a0_4 → (WL U8) l1 → ∃ k, laws_FnExactFrame.f k a0_0 a0_1 a0_2 a0_3 a0_4 l1 = some true

theorem laws_toByteS.ev (l : List Int) (hl : Lim l) : ∃ K : Nat, ∀ k : Nat, K ≤ k → laws_toByteS.f k l = some l := by
  unfold Lim at hl
  have h : ∀ (d i : Nat) (m : List Int), i + d = l.length → m.length = l.length → m.take i = l.take i → ∃ K : Nat, ∀ k : Nat, K ≤ k → laws_toByteS.l0 k l m (i : Int) = some l := by
    intro d
    induction d with
    | zero =>
      intro i m hd h1 h2
      refine ⟨1, fun k hk => ?_⟩
      obtain ⟨n, rfl⟩ : ∃ n, k = n + 1 := ⟨k - 1, by omega⟩
      simp only [laws_toByteS.l0]
      rw [if_neg (by omega)]
      obtain rfl : i = l.length := by omega
      rw [take_all h1 h2]
    | succ d ih =>
      intro i m hd h1 h2
      have hlt : i < l.length := by omega
      have hx : l[i]? = some l[i] := List.getElem?_eq_getElem hlt
      obtain ⟨K, hK⟩ := ih (i + 1) (m.set i l[i]) (by omega) (by simpa using h1) (set_take h1 hx h2)
      refine ⟨K + 1, fun k hk => ?_⟩
      obtain ⟨n, rfl⟩ : ∃ n, k = n + 1 := ⟨k - 1, by omega⟩
      simp only [laws_toByteS.l0]
      rw [if_pos (by omega), if_pos (by omega), if_pos (by omega), rd_at hx, wrap_succ (by omega), Int.toNat_natCast]
      exact hK n (by omega)
  obtain ⟨K, hK⟩ := h l.length 0 (List.replicate l.length 0) (by omega) (by simp) (by simp)
  refine ⟨K, fun k hk => ?_⟩
  unfold laws_toByteS.f
  rw [if_pos (by omega), if_pos (by simp; omega), Int.toNat_natCast]
  exact hK k hk

theorem laws_eqByteS.refl (l : List Int) (hl : l.length ≤ 9223372036854775806) : ∃ K : Nat, ∀ k : Nat, K ≤ k → laws_eqByteS.f k l l = some true := by
  have h : ∀ (d i : Nat), i + d = l.length → ∃ K : Nat, ∀ k : Nat, K ≤ k → laws_eqByteS.l0 k l l (i : Int) = some true := by
    intro d
    induction d with
    | zero =>
      intro i hd
      refine ⟨1, fun k hk => ?_⟩
      obtain ⟨n, rfl⟩ : ∃ n, k = n + 1 := ⟨k - 1, by omega⟩
      simp only [laws_eqByteS.l0]
      rw [if_neg (by omega)]
    | succ d ih =>
      intro i hd
      obtain ⟨K, hK⟩ := ih (i + 1) (by omega)
      refine ⟨K + 1, fun k hk => ?_⟩
      obtain ⟨n, rfl⟩ : ∃ n, k = n + 1 := ⟨k - 1, by omega⟩
      simp only [laws_eqByteS.l0]
      rw [if_pos (by omega), if_pos (by omega), if_pos (by omega), if_pos trivial, wrap_succ (by omega)]
      exact hK n (by omega)
  obtain ⟨K, hK⟩ := h l.length 0 (by omega)
  refine ⟨K, fun k hk => ?_⟩
  unfold laws_eqByteS.f
  rw [if_pos rfl]
  exact hK k hk

theorem laws_markByteS.ev (l : List Int) (m : Int) (hl : l.length ≤ 2147483647) (h0 : 0 ≤ m) (h1 : m ≤ 1152921504606846975) : ∃ K : Nat, ∀ k : Nat, K ≤ k → laws_markByteS.f k l m = some (m + l.length, markGo l.length m) := by
  have h : ∀ (d i : Nat) (xs : List Int), i + d = l.length → xs.length = l.length → xs.take i = (markGo l.length m).take i → ∃ K : Nat, ∀ k : Nat, K ≤ k → laws_markByteS.l0 k xs (m + i) (i : Int) = some (m + l.length, markGo l.length m) := by
    intro d
    induction d with
    | zero =>
      intro i xs hd hx ht
      refine ⟨1, fun k hk => ?_⟩
      obtain ⟨n, rfl⟩ : ∃ n, k = n + 1 := ⟨k - 1, by omega⟩
      obtain rfl : i = l.length := by omega
      have e : xs = markGo l.length m := by
        rw [List.take_of_length_le (by omega), List.take_of_length_le (by rw [markGo_length]; omega)] at ht
        exact ht
      simp only [laws_markByteS.l0]
      rw [if_neg (by omega), e]
    | succ d ih =>
      intro i xs hd hx ht
      obtain ⟨K, hK⟩ := ih (i + 1) (xs.set i ((m + i) % 256)) (by omega) (by rw [List.length_set]; exact hx) (by
        rw [set_take (l := markGo l.length m) (by rw [markGo_length]; exact hx) (markGo_at _ _ _ (by omega)) ht])
      refine ⟨K + 1, fun k hk => ?_⟩
      obtain ⟨n, rfl⟩ : ∃ n, k = n + 1 := ⟨k - 1, by omega⟩
      simp only [laws_markByteS.l0]
      rw [if_pos (by omega), if_pos (by omega), Int.toNat_natCast, wrap_succ (by omega), wrap_id (a := m + i + 1) (by omega) (by omega), show m + (i : Int) + 1 = m + ((i + 1 : Nat) : Int) by omega]
      exact hK n (by omega)
  obtain ⟨K, hK⟩ := h l.length 0 l (by omega) rfl (by simp)
  refine ⟨K, fun k hk => ?_⟩
  have e := hK k hk
  rw [show m + ((0 : Nat) : Int) = m by omega] at e
  unfold laws_markByteS.f
  exact e

theorem laws_heldByteS.ev (N : Nat) (m : Int) (hl : N ≤ 2147483647) (h0 : 0 ≤ m) (h1 : m ≤ 1152921504606846975) : ∃ K : Nat, ∀ k : Nat, K ≤ k → laws_heldByteS.f k (markGo N m) m = some (m + N) := by
  have h : ∀ (d i : Nat), i + d = N → ∃ K : Nat, ∀ k : Nat, K ≤ k → laws_heldByteS.l0 k (markGo N m) (m + i) (i : Int) = some (m + N) := by
    intro d
    induction d with
    | zero =>
      intro i hd
      refine ⟨1, fun k hk => ?_⟩
      obtain ⟨n, rfl⟩ : ∃ n, k = n + 1 := ⟨k - 1, by omega⟩
      obtain rfl : i = N := by omega
      simp only [laws_heldByteS.l0]
      rw [if_neg (by rw [markGo_length]; omega)]
    | succ d ih =>
      intro i hd
      obtain ⟨K, hK⟩ := ih (i + 1) (by omega)
      refine ⟨K + 1, fun k hk => ?_⟩
      obtain ⟨n, rfl⟩ : ∃ n, k = n + 1 := ⟨k - 1, by omega⟩
      simp only [laws_heldByteS.l0]
      rw [if_pos (by rw [markGo_length]; omega), if_pos (by omega), rd_at (markGo_at N m i (by omega)), if_pos rfl, wrap_succ (by omega), wrap_id (a := m + i + 1) (by omega) (by omega), show m + (i : Int) + 1 = m + ((i + 1 : Nat) : Int) by omega]
      exact hK n (by omega)
  obtain ⟨K, hK⟩ := h N 0 (by omega)
  refine ⟨K, fun k hk => ?_⟩
  have e := hK k hk
  rw [show m + ((0 : Nat) : Int) = m by omega] at e
  unfold laws_heldByteS.f
  exact e

theorem spec_l01In.ev (a b c : Int) : spec_l01In.f a b c = some (inR a b c) := by
  unfold spec_l01In.f inR
  by_cases h : a ≥ b
  · rw [if_pos h, decide_eq_true (show b ≤ a from h), Bool.true_and]
  · rw [if_neg h, decide_eq_false (show ¬ b ≤ a from h), Bool.false_and]

theorem spec_l02Signers.ev (a : Int) : spec_l02Signers.f a = some (inR a 1 10) := by unfold spec_l02Signers.f; rw [spec_l01In.ev]; rfl

theorem spec_LimitsOk.eq (a0 a1 a2 a3 a4 : Int) : spec_LimitsOk.f a0 a1 a2 a3 a4 = some (limitsOk a0 a1 a2 a3 a4) := by
  unfold spec_LimitsOk.f limitsOk
  simp only [spec_l01In.ev, spec_l02Signers.ev, Option.bind_some]
  cases inR a0 1 10 <;> cases inR a1 0 40 <;> cases inR a2 0 8 <;> cases inR a3 1 4000 <;> rfl
theorem spec_LimitsOk.ev (a0 a1 a2 a3 a4 : Int) : ∃ K : Nat, ∀ k : Nat, K ≤ k → spec_LimitsOk.f a0 a1 a2 a3 a4 = some (limitsOk a0 a1 a2 a3 a4) := ⟨0, fun _ _ => spec_LimitsOk.eq ..⟩

theorem shl_top : ∀ w : Nat, w ≤ 7 → shl .i64 1 ((8 * w : Nat) : Int) = 256 ^ w := by
  intro w h
  obtain rfl | rfl | rfl | rfl | rfl | rfl | rfl | rfl : w = 0 ∨ w = 1 ∨ w = 2 ∨ w = 3 ∨ w = 4 ∨ w = 5 ∨ w = 6 ∨ w = 7 := by omega
  all_goals decide
theorem lowBytes_succ (w : Nat) (a : Int) : lowBytes (w + 1) a = (a % 256) :: lowBytes w (a / 256) := rfl

theorem spec_l01Copy.ev (l : List Int) (hl : l.length ≤ 70368744177664) : spec_l01Copy.f l = some l := by
  unfold spec_l01Copy.f
  rw [Option.bind_some, if_pos (by simp; omega), List.nil_append]

theorem spec_PutFix.ev (l : List Int) (a : Int) (w : Nat) (hw0 : 1 ≤ w) (hw : w ≤ 7) (ha : 0 ≤ a) (ha2 : a < 256 ^ w) (hb : a ≤ 4294967295) (hl : l.length ≤ 2097152) : ∃ K : Nat, ∀ k : Nat, K ≤ k → spec_PutFix.f k l a (w : Int) = some (l ++ lowBytes w a, true) := by
  have h : ∀ (d i : Nat) (x : Int) (xs : List Int), i + d = w → 0 ≤ x → x ≤ 4294967295 → xs.length ≤ 2097152 + i → ∃ K : Nat, ∀ k : Nat, K ≤ k → spec_PutFix.l0 k x (w : Int) xs (i : Int) = some (xs ++ lowBytes d x, true) := by
    intro d
    induction d with
    | zero =>
      intro i x xs hd h0 h1 hx
      refine ⟨1, fun k hk => ?_⟩
      obtain ⟨n, rfl⟩ : ∃ n, k = n + 1 := ⟨k - 1, by omega⟩
      simp only [spec_PutFix.l0]
      rw [if_neg (by omega), lowBytes, List.append_nil]
    | succ d ih =>
      intro i x xs hd h0 h1 hx
      obtain ⟨K, hK⟩ := ih (i + 1) (x / 256) (xs ++ [x % 256]) (by omega) (by omega) (by omega) (by rw [List.length_append]; simp; omega)
      refine ⟨K + 1, fun k hk => ?_⟩
      obtain ⟨n, rfl⟩ : ∃ n, k = n + 1 := ⟨k - 1, by omega⟩
      simp only [spec_PutFix.l0]
      rw [if_pos (by omega), if_pos (by omega), Int.tdiv_eq_ediv_of_nonneg h0, wrap_id (a := x / 256) (by omega) (by omega), Int.tmod_eq_emod_of_nonneg h0, Int.emod_emod_of_dvd _ (Int.dvd_refl 256), wrap_succ (by omega), hK n (by omega), lowBytes_succ, List.append_assoc]
      rfl
  obtain ⟨K, hK⟩ := h w 0 a l (by omega) ha hb (by omega)
  refine ⟨K + 1, fun k hk => ?_⟩
  obtain ⟨n, rfl⟩ : ∃ n, k = n + 1 := ⟨k - 1, by omega⟩
  have e8 : wrap64 (8 * (w : Int)) = ((8 * w : Nat) : Int) := by rw [wrap_id (by omega) (by omega)]; omega
  unfold spec_PutFix.f spec_l01Top.f
  rw [spec_l01In.ev, Option.bind_some, if_pos (inR_iff.2 ⟨by omega, by omega⟩), if_neg (by omega), e8, if_pos (by omega), Option.bind_some, shl_top w hw, decide_eq_false (show ¬ a ≥ 256 ^ w by omega)]
  simp only [spec_PutFix.j0]
  rw [if_neg Bool.false_ne_true, spec_l01Copy.ev l (by omega), Option.bind_some]
  exact hK n (by omega)

theorem spec_l03Sum.ev (a : Int) : spec_l03Sum.f a = some (inR a 0 4294967295) := by unfold spec_l03Sum.f; rw [spec_l01In.ev]; rfl

theorem spec_l03Turn.ev (c : Int) (h : U32 c) : spec_l03Turn.f c = some (crcTurn c) := by
  obtain ⟨h0, h1⟩ := h
  unfold spec_l03Turn.f crcTurn
  rw [Int.tmod_eq_emod_of_nonneg h0, Int.tdiv_eq_ediv_of_nonneg h0, wrap_id (by omega) (by omega)]
  by_cases c2 : c % 2 = 1
  · rw [if_pos c2, if_pos c2, (xor_i64 (a := c / 2) (b := 3988292384) (by omega) (by omega) (by omega) (by omega)).1]; rfl
  · rw [if_neg c2, if_neg c2]

theorem spec_CrcMore.loops (l : List Int) (hl : l.length ≤ 9223372036854775806) (hb : ∀ x ∈ l, U8 x) : ∀ (d i : Nat) (c : Int), i + d = l.length → U32 c →
    ∃ K : Nat, ∀ k : Nat, K ≤ k → spec_CrcMore.l0 k c l (l.length : Int) (i : Int) = some (Go.bits .xor .i64 (crcGo c (l.drop i)) 4294967295) := by
  intro d
  induction d with
  | zero =>
    intro i c hd hc
    refine ⟨1, fun k hk => ?_⟩
    obtain ⟨n, rfl⟩ : ∃ n, k = n + 1 := ⟨k - 1, by omega⟩
    simp only [spec_CrcMore.l0]
    rw [if_neg (by omega), List.drop_of_length_le (by omega)]
    rfl
  | succ d ih =>
    intro i c hd hc
    have hla : i < l.length := by omega
    have ra : rd l (i : Int) = l[i] := rd_at (List.getElem?_eq_getElem hla)
    have hx : U8 l[i] := hb _ (List.getElem_mem hla)
    have hw : wrap64 (l[i]) = l[i] := by unfold U8 at hx; exact wrap_id (by omega) (by omega)
    have inner : ∀ (e j : Nat) (c : Int), j + e = 8 → U32 c → ∃ K : Nat, ∀ k : Nat, K ≤ k → spec_CrcMore.l1 k c (j : Int) l (l.length : Int) (i : Int) = some (Go.bits .xor .i64 (crcGo (crcTurns e c) (l.drop (i + 1))) 4294967295) := by
      intro e
      induction e with
      | zero =>
        intro j c he hc
        obtain ⟨K, hK⟩ := ih (i + 1) c (by omega) hc
        refine ⟨K + 1, fun k hk => ?_⟩
        obtain ⟨n, rfl⟩ : ∃ n, k = n + 1 := ⟨k - 1, by omega⟩
        simp only [spec_CrcMore.l1]
        rw [if_neg (by omega), wrap_succ (by omega)]
        exact hK n (by omega)
      | succ e ihe =>
        intro j c he hc
        obtain ⟨K, hK⟩ := ihe (j + 1) (crcTurn c) (by omega) (crcTurn_bd hc)
        refine ⟨K + 1, fun k hk => ?_⟩
        obtain ⟨n, rfl⟩ : ∃ n, k = n + 1 := ⟨k - 1, by omega⟩
        simp only [spec_CrcMore.l1]
        rw [if_pos (by omega), spec_l03Turn.ev c hc, Option.bind_some, wrap_succ (by omega)]
        exact hK n (by omega)
    obtain ⟨K, hK⟩ := inner 8 0 (Go.bits .xor .i64 c l[i]) (by omega) (xor_bd hc (U8.u32 hx))
    refine ⟨K + 1, fun k hk => ?_⟩
    obtain ⟨n, rfl⟩ : ∃ n, k = n + 1 := ⟨k - 1, by omega⟩
    simp only [spec_CrcMore.l0]
    rw [if_pos (by omega), if_pos (by omega), if_pos (by omega), ra, hw, List.drop_eq_getElem_cons hla]
    exact hK n (by omega)
theorem spec_CrcMore.zero (l : List Int) (hl : l.length ≤ 9223372036854775806) (hb : ∀ x ∈ l, U8 x) : ∃ K : Nat, ∀ k : Nat, K ≤ k → spec_CrcMore.f k 0 l = some (crc l) := by
  obtain ⟨K, hK⟩ := spec_CrcMore.loops l hl hb l.length 0 (Go.bits .xor .i64 0 4294967295) (by omega) (xor_bd ⟨by decide, by decide⟩ ⟨by decide, by decide⟩)
  refine ⟨K, fun k hk => ?_⟩
  unfold spec_CrcMore.f
  rw [spec_l03Sum.ev, Option.bind_some, if_pos (by decide)]
  exact hK k hk

theorem spec_Crc.ev (l : List Int) (hl : l.length ≤ 9223372036854775806) (hb : ∀ x ∈ l, U8 x) : ∃ K : Nat, ∀ k : Nat, K ≤ k → spec_Crc.f k l = some (crc l) := by
  obtain ⟨K, hK⟩ := spec_CrcMore.zero l hl hb
  exact ⟨K, fun k hk => by unfold spec_Crc.f; rw [hK k hk]; rfl⟩

theorem spec_Frame.ev (a0 a1 a2 a3 a4 : Int) (l : List Int) (hl : Lim l) (hb : ∀ x ∈ l, U8 x) : ∃ K : Nat, ∀ k : Nat, K ≤ k → spec_Frame.f k a0 a1 a2 a3 a4 l = some (frame a0 a1 a2 a3 a4 l) := by
  unfold Lim at hl
  by_cases cL : limitsOk a0 a1 a2 a3 a4 = true
  · by_cases cn : inR (l.length : Int) 1 a3 = true
    · have hn := inR_iff.1 cn
      have h3 := (limits_frame cL).2
      have hc := crc_bd hb
      obtain ⟨K1, e1⟩ := spec_PutFix.ev [181, 70] (l.length : Int) 2 (by omega) (by omega) (by omega) (by omega) (by omega) (by decide)
      obtain ⟨K2, e2⟩ := spec_Crc.ev l (by omega) hb
      obtain ⟨K3, e3⟩ := spec_PutFix.ev ([181, 70] ++ lowBytes 2 (l.length : Int)) (crc l) 4 (by omega) (by omega) hc.1 (by have := hc.2; omega) (by have := hc.2; omega) (by rw [List.length_append, lowBytes_length]; decide)
      refine ⟨K1 + K2 + K3 + 1, fun k hk => ?_⟩
      obtain ⟨n, rfl⟩ : ∃ n, k = n + 1 := ⟨k - 1, by omega⟩
      have e1n := e1 n (by omega)
      have e3n := e3 n (by omega)
      rw [show ((2 : Nat) : Int) = 2 from rfl] at e1n
      rw [show ((4 : Nat) : Int) = 4 from rfl] at e3n
      unfold spec_Frame.f frame
      rw [spec_LimitsOk.eq, Option.bind_some, if_pos cL, if_pos cL, spec_l01In.ev, Option.bind_some, if_pos cn, cn]
      simp only [spec_Frame.j0]
      rw [if_neg (by decide), e1n, Option.bind_some, e2 n (by omega), Option.bind_some, e3n, Option.bind_some, if_pos (by simp only [List.length_append, lowBytes_length, List.length_cons, List.length_nil]; omega)]
    · refine ⟨1, fun k hk => ?_⟩
      obtain ⟨n, rfl⟩ : ∃ n, k = n + 1 := ⟨k - 1, by omega⟩
      unfold spec_Frame.f frame
      rw [spec_LimitsOk.eq, Option.bind_some, if_pos cL, if_pos cL, spec_l01In.ev, Option.bind_some, if_neg cn, Bool.eq_false_iff.2 cn]
      simp only [spec_Frame.j0]
      rw [if_pos (by decide)]
  · refine ⟨1, fun k hk => ?_⟩
    obtain ⟨n, rfl⟩ : ∃ n, k = n + 1 := ⟨k - 1, by omega⟩
    unfold spec_Frame.f frame
    rw [spec_LimitsOk.eq, Option.bind_some, if_neg cL, if_neg cL]
    simp only [spec_Frame.j0]
    rw [if_pos trivial]

theorem impl_within.ev (a b c : Int) : impl_within.f a b c = some (inR a b c) := by
  unfold impl_within.f inR
  by_cases h : b ≤ a
  · rw [if_pos h, decide_eq_true h, Bool.true_and]
  · rw [if_neg h, decide_eq_false h, Bool.false_and]

theorem impl_LimitsOk.eq (a0 a1 a2 a3 a4 : Int) : impl_LimitsOk.f a0 a1 a2 a3 a4 = some (limitsOk a0 a1 a2 a3 a4) := by
  unfold impl_LimitsOk.f limitsOk
  simp only [impl_within.ev, Option.bind_some]
  cases inR a0 1 10 <;> cases inR a1 0 40 <;> cases inR a2 0 8 <;> cases inR a3 1 4000 <;> rfl
theorem impl_LimitsOk.ev (a0 a1 a2 a3 a4 : Int) : ∃ K : Nat, ∀ k : Nat, K ≤ k → impl_LimitsOk.f a0 a1 a2 a3 a4 = some (limitsOk a0 a1 a2 a3 a4) := ⟨0, fun _ _ => impl_LimitsOk.eq ..⟩

theorem impl_copyBytes.ev (l : List Int) (hl : l.length ≤ 70368744177664) : impl_copyBytes.f l = some l := by
  unfold impl_copyBytes.f
  rw [Option.bind_some, if_pos (by simp; omega), List.nil_append]

theorem impl_PutFix.ev (l : List Int) (a : Int) (w : Nat) (hw0 : 1 ≤ w) (hw : w ≤ 7) (ha : 0 ≤ a) (ha2 : a < 256 ^ w) (hb : a ≤ 4294967295) (hl : l.length ≤ 2097152) : ∃ K : Nat, ∀ k : Nat, K ≤ k → impl_PutFix.f k l a (w : Int) = some (l ++ lowBytes w a, true) := by
  have h : ∀ (d i : Nat) (xs : List Int), i + d = w → xs.length ≤ 2097152 + i → ∃ K : Nat, ∀ k : Nat, K ≤ k → impl_PutFix.l0 k a xs (w : Int) (i : Int) = some (xs ++ lowBytes d (a / 256 ^ i), true) := by
    intro d
    induction d with
    | zero =>
      intro i xs hd hx
      refine ⟨1, fun k hk => ?_⟩
      obtain ⟨n, rfl⟩ : ∃ n, k = n + 1 := ⟨k - 1, by omega⟩
      simp only [impl_PutFix.l0]
      rw [if_neg (by omega), lowBytes, List.append_nil]
    | succ d ih =>
      intro i xs hd hx
      obtain ⟨K, hK⟩ := ih (i + 1) (xs ++ [a / 256 ^ i % 256]) (by omega) (by rw [List.length_append]; simp; omega)
      have e8 : wrap64 (8 * (i : Int)) = ((8 * i : Nat) : Int) := by rw [wrap_id (by omega) (by omega)]; omega
      have es : shr .i64 a ((8 * i : Nat) : Int) = a / 256 ^ i := by
        unfold shr
        rw [Int.toNat_natCast, Nat.min_eq_left (by show 8 * i ≤ 64; omega), Int.pow_mul]
        rfl
      have ed : a / 256 ^ i / 256 = a / 256 ^ (i + 1) := by
        rw [Int.pow_succ, Int.ediv_ediv_of_nonneg (by have := pow_ge_one i; omega)]
      refine ⟨K + 1, fun k hk => ?_⟩
      obtain ⟨n, rfl⟩ : ∃ n, k = n + 1 := ⟨k - 1, by omega⟩
      simp only [impl_PutFix.l0]
      rw [if_pos (by omega), e8, if_pos (by omega), if_pos (by omega), es, wrap_succ (by omega), hK n (by omega), lowBytes_succ, List.append_assoc, ed]
      rfl
  obtain ⟨K, hK⟩ := h w 0 l (by omega) (by omega)
  refine ⟨K + 1, fun k hk => ?_⟩
  obtain ⟨n, rfl⟩ : ∃ n, k = n + 1 := ⟨k - 1, by omega⟩
  have e8 : wrap64 (8 * (w : Int)) = ((8 * w : Nat) : Int) := by rw [wrap_id (by omega) (by omega)]; omega
  have e := hK n (by omega)
  rw [Int.pow_zero, Int.ediv_one] at e
  unfold impl_PutFix.f
  rw [impl_within.ev, Option.bind_some, if_pos (inR_iff.2 ⟨by omega, by omega⟩), if_neg (by omega), e8, if_pos (by omega), shl_top w hw, decide_eq_false (show ¬ a ≥ 256 ^ w by omega)]
  simp only [impl_PutFix.j0]
  rw [if_neg Bool.false_ne_true, impl_copyBytes.ev l (by omega), Option.bind_some]
  exact e

theorem impl_isWord.ev (a : Int) : impl_isWord.f a = some (inR a 0 4294967295) := by unfold impl_isWord.f; rw [impl_within.ev]; rfl

theorem impl_steps.ev (c : Int) (hc : U32 c) : ∃ K : Nat, ∀ k : Nat, K ≤ k → impl_steps.f k c = some (crcTurns 8 c) := by
  have h : ∀ (e j : Nat) (c : Int), j + e = 8 → U32 c → ∃ K : Nat, ∀ k : Nat, K ≤ k → impl_steps.l0 k c (j : Int) = some (crcTurns e c) := by
    intro e
    induction e with
    | zero =>
      intro j c he hc
      refine ⟨1, fun k hk => ?_⟩
      obtain ⟨n, rfl⟩ : ∃ n, k = n + 1 := ⟨k - 1, by omega⟩
      simp only [impl_steps.l0]
      rw [if_neg (by omega)]
      rfl
    | succ e ih =>
      intro j c he hc
      obtain ⟨K, hK⟩ := ih (j + 1) (crcTurn c) (by omega) (crcTurn_bd hc)
      have h0 := hc.1
      have h1 := hc.2
      refine ⟨K + 1, fun k hk => ?_⟩
      obtain ⟨n, rfl⟩ : ∃ n, k = n + 1 := ⟨k - 1, by omega⟩
      simp only [impl_steps.l0]
      rw [if_pos (by omega), and_one h0 h1, wrap_succ (by omega)]
      have ht := hK n (by omega)
      unfold crcTurn at ht
      by_cases c2 : c % 2 = 1
      · rw [if_pos c2, (xor_i64 (a := c / 2) (b := 3988292384) (by omega) (by omega) (by omega) (by omega)).1]
        rw [if_pos c2] at ht
        rw [show crcTurns (e + 1) c = crcTurns e (crcTurn c) from rfl, crcTurn, if_pos c2]
        exact ht
      · rw [if_neg c2]
        rw [if_neg c2] at ht
        rw [show crcTurns (e + 1) c = crcTurns e (crcTurn c) from rfl, crcTurn, if_neg c2]
        exact ht
  obtain ⟨K, hK⟩ := h 8 0 c (by omega) hc
  exact ⟨K, fun k hk => by unfold impl_steps.f; exact hK k hk⟩

theorem impl_CrcMore.zero (l : List Int) (hl : l.length ≤ 9223372036854775806) (hb : ∀ x ∈ l, U8 x) : ∃ K : Nat, ∀ k : Nat, K ≤ k → impl_CrcMore.f k 0 l = some (crc l) := by
  have h : ∀ (d i : Nat) (c : Int), i + d = l.length → U32 c → ∃ K : Nat, ∀ k : Nat, K ≤ k → impl_CrcMore.l0 k c l (l.length : Int) (i : Int) = some (Go.bits .xor .i64 (crcGo c (l.drop i)) 4294967295) := by
    intro d
    induction d with
    | zero =>
      intro i c hd hc
      refine ⟨1, fun k hk => ?_⟩
      obtain ⟨n, rfl⟩ : ∃ n, k = n + 1 := ⟨k - 1, by omega⟩
      simp only [impl_CrcMore.l0]
      rw [if_neg (by omega), List.drop_of_length_le (by omega)]
      rfl
    | succ d ih =>
      intro i c hd hc
      have hla : i < l.length := by omega
      have ra : rd l (i : Int) = l[i] := rd_at (List.getElem?_eq_getElem hla)
      have hx : U8 l[i] := hb _ (List.getElem_mem hla)
      have hw : wrap64 (l[i]) = l[i] := by unfold U8 at hx; exact wrap_id (by omega) (by omega)
      obtain ⟨K1, hK1⟩ := impl_steps.ev (Go.bits .xor .i64 c l[i]) (xor_bd hc (U8.u32 hx))
      obtain ⟨K, hK⟩ := ih (i + 1) (crcTurns 8 (Go.bits .xor .i64 c l[i])) (by omega) (crcTurns_bd 8 (xor_bd hc (U8.u32 hx)))
      refine ⟨K + K1 + 1, fun k hk => ?_⟩
      obtain ⟨n, rfl⟩ : ∃ n, k = n + 1 := ⟨k - 1, by omega⟩
      simp only [impl_CrcMore.l0]
      rw [if_pos (by omega), if_pos (by omega), if_pos (by omega), ra, hw, hK1 n (by omega), Option.bind_some, List.drop_eq_getElem_cons hla, wrap_succ (by omega)]
      exact hK n (by omega)
  obtain ⟨K, hK⟩ := h l.length 0 (Go.bits .xor .i64 0 4294967295) (by omega) (xor_bd ⟨by decide, by decide⟩ ⟨by decide, by decide⟩)
  refine ⟨K, fun k hk => ?_⟩
  unfold impl_CrcMore.f
  rw [impl_isWord.ev, Option.bind_some, if_pos (by decide)]
  exact hK k hk

theorem impl_Crc.ev (l : List Int) (hl : l.length ≤ 9223372036854775806) (hb : ∀ x ∈ l, U8 x) : ∃ K : Nat, ∀ k : Nat, K ≤ k → impl_Crc.f k l = some (crc l) := by
  obtain ⟨K, hK⟩ := impl_CrcMore.zero l hl hb
  exact ⟨K, fun k hk => by unfold impl_Crc.f; rw [hK k hk]; rfl⟩

theorem impl_Frame.ev (a0 a1 a2 a3 a4 : Int) (l : List Int) (hl : Lim l) (hb : ∀ x ∈ l, U8 x) : ∃ K : Nat, ∀ k : Nat, K ≤ k → impl_Frame.f k a0 a1 a2 a3 a4 l = some (frame a0 a1 a2 a3 a4 l) := by
  unfold Lim at hl
  by_cases cL : limitsOk a0 a1 a2 a3 a4 = true
  · by_cases cn : inR (l.length : Int) 1 a3 = true
    · have hn := inR_iff.1 cn
      have h3 := (limits_frame cL).2
      have hc := crc_bd hb
      obtain ⟨K1, e1⟩ := impl_PutFix.ev [181, 70] (l.length : Int) 2 (by omega) (by omega) (by omega) (by omega) (by omega) (by decide)
      obtain ⟨K2, e2⟩ := impl_Crc.ev l (by omega) hb
      obtain ⟨K3, e3⟩ := impl_PutFix.ev ([181, 70] ++ lowBytes 2 (l.length : Int)) (crc l) 4 (by omega) (by omega) hc.1 (by have := hc.2; omega) (by have := hc.2; omega) (by rw [List.length_append, lowBytes_length]; decide)
      refine ⟨K1 + K2 + K3 + 1, fun k hk => ?_⟩
      obtain ⟨n, rfl⟩ : ∃ n, k = n + 1 := ⟨k - 1, by omega⟩
      have e1n := e1 n (by omega)
      have e3n := e3 n (by omega)
      rw [show ((2 : Nat) : Int) = 2 from rfl] at e1n
      rw [show ((4 : Nat) : Int) = 4 from rfl] at e3n
      unfold impl_Frame.f frame
      rw [impl_LimitsOk.eq, Option.bind_some, if_pos cL, if_pos cL, impl_within.ev, Option.bind_some, if_pos cn, cn]
      simp only [impl_Frame.j0]
      rw [if_neg (by decide), e1n, Option.bind_some, e2 n (by omega), Option.bind_some, e3n, Option.bind_some, if_pos (by simp only [List.length_append, lowBytes_length, List.length_cons, List.length_nil]; omega)]
    · refine ⟨1, fun k hk => ?_⟩
      obtain ⟨n, rfl⟩ : ∃ n, k = n + 1 := ⟨k - 1, by omega⟩
      unfold impl_Frame.f frame
      rw [impl_LimitsOk.eq, Option.bind_some, if_pos cL, if_pos cL, impl_within.ev, Option.bind_some, if_neg cn, Bool.eq_false_iff.2 cn]
      simp only [impl_Frame.j0]
      rw [if_pos (by decide)]
  · refine ⟨1, fun k hk => ?_⟩
    obtain ⟨n, rfl⟩ : ∃ n, k = n + 1 := ⟨k - 1, by omega⟩
    unfold impl_Frame.f frame
    rw [impl_LimitsOk.eq, Option.bind_some, if_neg cL, if_neg cL]
    simp only [impl_Frame.j0]
    rw [if_pos trivial]

theorem Pure_FnExactFrame : laws_FnExactFrame.Pure_ := by
  intro a0_0 a0_1 a0_2 a0_3 a0_4 l1 wa0_0 wa0_1 wa0_2 wa0_3 wa0_4 wl1
  by_cases cb : (l1.length : Int) > 1048576
  · exact ⟨0, by simp only [laws_FnExactFrame.f, if_pos cb]⟩
  have hl1 : Lim l1 := by unfold Lim; omega
  have hl1' := hl1
  unfold Lim at hl1'
  obtain ⟨Kt, et⟩ := laws_toByteS.ev l1 hl1
  obtain ⟨Ke, ee⟩ := laws_eqByteS.refl l1 (by omega)
  obtain ⟨Ks, es⟩ := spec_Frame.ev a0_0 a0_1 a0_2 a0_3 a0_4 l1 hl1 wl1.2
  obtain ⟨Ki, ei⟩ := impl_Frame.ev a0_0 a0_1 a0_2 a0_3 a0_4 l1 hl1 wl1.2
  have hf := frame_length a0_0 a0_1 a0_2 a0_3 a0_4 l1
  generalize frame a0_0 a0_1 a0_2 a0_3 a0_4 l1 = F at hf es ei
  obtain ⟨g, b⟩ := F
  simp only at hf
  obtain ⟨Kg, eg⟩ := laws_eqByteS.refl g (by omega)
  obtain ⟨Km, em⟩ := laws_markByteS.ev l1 1 (by omega) (by omega) (by omega)
  obtain ⟨Kn, en⟩ := laws_markByteS.ev g 1 (by omega) (by omega) (by omega)
  obtain ⟨Kh, eh⟩ := laws_heldByteS.ev g.length 1 (by omega) (by omega) (by omega)
  obtain ⟨n, hn⟩ : ∃ n, n = Kt + Ke + Ks + Ki + Kg + Km + Kn + Kh := ⟨_, rfl⟩
  have c1 : ¬ (1 + (l1.length : Int)) < 0 := by omega
  have c2 : ¬ (1 + (g.length : Int)) < 0 := by omega
  refine ⟨n + 3, ?_⟩
  simp only [laws_FnExactFrame.f, laws_toLimits.f, if_neg cb, Option.bind_some, et (n + 3) (by omega), es (n + 3) (by omega), ei (n + 3) (by omega), eg (n + 3) (by omega), if_true, bne_self_eq_false]
  simp only [laws_FnExactFrame.j0, Bool.false_eq_true, if_false, et (n + 2) (by omega), ee (n + 2) (by omega), em (n + 2) (by omega), eg (n + 2) (by omega), Option.bind_some, if_true, if_neg c1, bne_self_eq_false]
  simp only [laws_FnExactFrame.j1, Bool.false_eq_true, if_false, en (n + 1) (by omega), eh (n + 1) (by omega), laws_toLimits.f, et (n + 1) (by omega), ei (n + 1) (by omega), eg (n + 1) (by omega), Option.bind_some, if_true, if_neg c2, bne_self_eq_false]
  simp only [laws_FnExactFrame.j2, Bool.false_eq_true, if_false, eh n (by omega), Option.bind_some, if_neg c2, if_true]

end Go.Proofs.Ythabpfhhfnibgaa.PFnExactFrame
