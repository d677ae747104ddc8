/- What is left of the law FnExactBlockSame when memory is gone: FnExactBlockSame's answers over numbers and lists are what the reference's are. Condition: each number is an int, each byte is one. -/
import Derived.Test.YtniapflmmigbjaaPFnExactBlockSamex5
import Derived.Test.YtniapflmmigbjaaOwn
import Derived.Test.YtniapflmmigbjaaLib
set_option linter.unusedVariables false
set_option linter.unusedSimpArgs false
namespace Go.Proofs.Ytniapflmmigbjaa.PFnExactBlockSame
open Go.RowKit Go.Proofs.YtniapflmmigbjaaW.PrintWords Go.Proofs.YtniapflmmigbjaaW.PrintLast Go.Proofs.Ytniapflmmigbjaa.Own Go.Proofs.Ytniapflmmigbjaa.Lib
/-- The one pure statement. -/
def laws_FnExactBlockSame.Pure_ : Prop := ∀ (a0_0 : Int) (a0_1 : Int) (a0_2 : Int) (l0_3 : (List Int)) (l0_4 : (List Int)) (a0_5 : Int) (a0_6 : Int) (l0_7 : (List Int)) (l0_8 : (List Int)) (l0_9 : (List (List Int))) (l0_10 : (List (List Int))) (a1_0 : Int) (a1_1 : Int) (a1_2 : Int) (l1_3 : (List Int)) (l1_4 : (List Int)) (a1_5 : Int) (a1_6 : Int) (l1_7 : (List Int)) (l1_8 : (List Int)) (l1_9 : (List (List Int))) (l1_10 : (List (List Int))), I64 a0_0 → I64 a0_1 → I64 a0_2 → (WL U8) l0_3 → (WL U8) l0_4 → I64 a0_5 → I64 a0_6 → (WL U8) l0_7 → (WL U8) l0_8 → (WL (WL U8)) l0_9 → (WL (WL U8)) l0_10 → I64 a1_0 → I64 a1_1 → I64 a1_2 → (WL U8) l1_3 → (WL U8) l1_4 → I64 a1_5 → I64 a1_6 → (WL U8) l1_7 → (WL U8) l1_8 → (WL (WL U8)) l1_9 → (WL (WL U8)) l1_10 → ∃ k, laws_FnExactBlockSame.f k a0_0 a0_1 a0_2 l0_3 l0_4 a0_5 a0_6 l0_7 l0_8 l0_9 l0_10 a1_0 a1_1 a1_2 l1_3 l1_4 a1_5 a1_6 l1_7 l1_8 l1_9 l1_10 = some true

theorem laws_szByteS.ev (l : List Int) (left : Int) (hl : l.length ≤ 9223372036854775807) (h0 : 0 ≤ left) (h1 : left ≤ 1048576) :
    ∃ r, laws_szByteS.f l left = some r ∧ r ≤ left ∧ (0 ≤ r → Lim l) := by
  unfold laws_szByteS.f Lim
  have hw : wrap64 (left - (l.length : Int)) = left - (l.length : Int) := wrap_id (by omega) (by omega)
  rw [hw]
  by_cases c : left - (l.length : Int) < 0
  · rw [if_pos c]; exact ⟨-1, rfl, by omega, fun h => by omega⟩
  · rw [if_neg c]; exact ⟨_, rfl, by omega, fun _ => by omega⟩

theorem laws_szByteSS.ev_l (l : List (List Int)) (hl : WL Bs l) : ∀ (d i : Nat) (left : Int), i + d = l.length → 0 ≤ left → left ≤ 1048576 →
    ∃ r, (∃ K : Nat, ∀ k : Nat, K ≤ k → laws_szByteSS.l0 k l left (i : Int) = some r) ∧ r ≤ left ∧ (0 ≤ r → ∀ x ∈ l.drop i, Lim x) := by
  intro d
  induction d with
  | zero =>
    intro i left hd h0 h1
    refine ⟨left, ⟨1, fun k hk => ?_⟩, by omega, fun _ x hx => by rw [List.drop_of_length_le (by omega)] at hx; cases hx⟩
    obtain ⟨m, rfl⟩ : ∃ m, k = m + 1 := ⟨k - 1, by omega⟩
    simp only [laws_szByteSS.l0]
    rw [if_neg (by omega)]
  | succ d ih =>
    intro i left hd h0 h1
    have hlt : i < l.length := by omega
    have hx : l[i]? = some l[i] := List.getElem?_eq_getElem hlt
    obtain ⟨r1, e1, b1, f1⟩ := laws_szByteS.ev l[i] left (hl.2 _ (mem_at hx)).1 h0 h1
    have hr : rd_L1 l (i : Int) = l[i] := getD_at hx
    by_cases c : r1 < 0
    · refine ⟨-1, ⟨1, fun k hk => ?_⟩, by omega, fun h => by omega⟩
      obtain ⟨m, rfl⟩ : ∃ m, k = m + 1 := ⟨k - 1, by omega⟩
      simp only [laws_szByteSS.l0]
      rw [if_pos (by omega), if_pos (by omega), hr, e1, Option.bind_some, if_pos c]
    · obtain ⟨r, ⟨K, hK⟩, br, fr⟩ := ih (i + 1) r1 (by omega) (by omega) (by omega)
      refine ⟨r, ⟨K + 1, fun k hk => ?_⟩, by omega, fun h x hx' => ?_⟩
      · obtain ⟨m, rfl⟩ : ∃ m, k = m + 1 := ⟨k - 1, by omega⟩
        simp only [laws_szByteSS.l0]
        rw [if_pos (by omega), if_pos (by omega), hr, e1, Option.bind_some, if_neg c, wrap_succ (by have := hl.1; omega)]
        exact hK m (by omega)
      · rw [List.drop_eq_getElem_cons hlt] at hx'
        rcases List.mem_cons.1 hx' with rfl | hx'
        · exact f1 (by omega)
        · exact fr h x hx'
theorem laws_szByteSS.ev (l : List (List Int)) (left : Int) (hl : WL Bs l) (h0 : 0 ≤ left) (h1 : left ≤ 1048576) :
    ∃ r, (∃ K : Nat, ∀ k : Nat, K ≤ k → laws_szByteSS.f k l left = some r) ∧ r ≤ left ∧ (0 ≤ r → LL Lim l) := by
  have hw : wrap64 (left - (l.length : Int)) = left - (l.length : Int) := wrap_id (by have := hl.1; omega) (by omega)
  by_cases c : left - (l.length : Int) < 0
  · exact ⟨-1, ⟨0, fun k _ => by unfold laws_szByteSS.f; rw [hw, if_pos c]⟩, by omega, fun h => by omega⟩
  · obtain ⟨r, ⟨K, hK⟩, br, fr⟩ := laws_szByteSS.ev_l l hl l.length 0 (left - (l.length : Int)) (by omega) (by omega) (by omega)
    exact ⟨r, ⟨K, fun k hk => by unfold laws_szByteSS.f; rw [hw, if_neg c]; exact hK k hk⟩, by omega, fun h => ⟨by omega, fun x hx => fr h x (by simpa using hx)⟩⟩

theorem laws_szQc.ev (a0 : Int) (a1 : Int) (l2 : (List Int)) (l3 : (List Int)) (l4 : (List (List Int))) (left : Int) (wl2 : (WL U8) l2) (wl3 : (WL U8) l3) (wl4 : (WL (WL U8)) l4) (h0 : 0 ≤ left) (h1 : left ≤ 1048576) :
    ∃ r, (∃ K : Nat, ∀ k : Nat, K ≤ k → laws_szQc.f k a0 a1 l2 l3 l4 left = some r) ∧ r ≤ left ∧ (0 ≤ r → Lim l2 ∧ Lim l3 ∧ LL Lim l4) := by
  obtain ⟨r0, e0, b0, f0⟩ := laws_szByteS.ev l2 left (wl2.1) h0 h1
  by_cases c0 : r0 < 0
  · exact ⟨-1, ⟨0, fun k hk => by simp only [laws_szQc.f, e0, Option.bind_some, if_pos c0]⟩, by omega, fun h => by omega⟩
  obtain ⟨r1, e1, b1, f1⟩ := laws_szByteS.ev l3 r0 (wl3.1) (by omega) (by omega)
  by_cases c1 : r1 < 0
  · exact ⟨-1, ⟨0, fun k hk => by simp only [laws_szQc.f, e0, e1, Option.bind_some, if_neg c0, if_pos c1]⟩, by omega, fun h => by omega⟩
  obtain ⟨r2, ⟨K2, e2⟩, b2, f2⟩ := laws_szByteSS.ev l4 r1 wl4 (by omega) (by omega)
  by_cases c2 : r2 < 0
  · exact ⟨-1, ⟨K2, fun k hk => by simp only [laws_szQc.f, e0, e1, e2 k (by omega), Option.bind_some, if_neg c0, if_neg c1, if_pos c2]⟩, by omega, fun h => by omega⟩
  refine ⟨r2, ⟨K2, fun k hk => by simp only [laws_szQc.f, e0, e1, e2 k (by omega), Option.bind_some, if_neg c0, if_neg c1, if_neg c2]⟩, by omega, fun h => ?_⟩
  exact ⟨f0 (by omega), f1 (by omega), f2 (by omega)⟩
theorem laws_szHead.ev (a0 : Int) (a1 : Int) (a2 : Int) (l3 : (List Int)) (l4 : (List Int)) (a5 : Int) (a6 : Int) (l7 : (List Int)) (l8 : (List Int)) (l9 : (List (List Int))) (left : Int) (wl3 : (WL U8) l3) (wl4 : (WL U8) l4) (wl7 : (WL U8) l7) (wl8 : (WL U8) l8) (wl9 : (WL (WL U8)) l9) (h0 : 0 ≤ left) (h1 : left ≤ 1048576) :
    ∃ r, (∃ K : Nat, ∀ k : Nat, K ≤ k → laws_szHead.f k a0 a1 a2 l3 l4 a5 a6 l7 l8 l9 left = some r) ∧ r ≤ left ∧ (0 ≤ r → Lim l3 ∧ Lim l4 ∧ Lim l7 ∧ Lim l8 ∧ LL Lim l9) := by
  obtain ⟨r0, e0, b0, f0⟩ := laws_szByteS.ev l3 left (wl3.1) h0 h1
  by_cases c0 : r0 < 0
  · exact ⟨-1, ⟨0, fun k hk => by simp only [laws_szHead.f, e0, Option.bind_some, if_pos c0]⟩, by omega, fun h => by omega⟩
  obtain ⟨r1, e1, b1, f1⟩ := laws_szByteS.ev l4 r0 (wl4.1) (by omega) (by omega)
  by_cases c1 : r1 < 0
  · exact ⟨-1, ⟨0, fun k hk => by simp only [laws_szHead.f, e0, e1, Option.bind_some, if_neg c0, if_pos c1]⟩, by omega, fun h => by omega⟩
  obtain ⟨r2, ⟨K2, e2⟩, b2, f2⟩ := laws_szQc.ev a5 a6 l7 l8 l9 r1 wl7 wl8 wl9 (by omega) (by omega)
  by_cases c2 : r2 < 0
  · exact ⟨-1, ⟨K2, fun k hk => by simp only [laws_szHead.f, e0, e1, e2 k (by omega), Option.bind_some, if_neg c0, if_neg c1, if_pos c2]⟩, by omega, fun h => by omega⟩
  refine ⟨r2, ⟨K2, fun k hk => by simp only [laws_szHead.f, e0, e1, e2 k (by omega), Option.bind_some, if_neg c0, if_neg c1, if_neg c2]⟩, by omega, fun h => ?_⟩
  obtain ⟨g2_0, g2_1, g2_2⟩ := f2 (by omega)
  exact ⟨f0 (by omega), f1 (by omega), g2_0, g2_1, g2_2⟩
theorem laws_szBlock.ev (a0 : Int) (a1 : Int) (a2 : Int) (l3 : (List Int)) (l4 : (List Int)) (a5 : Int) (a6 : Int) (l7 : (List Int)) (l8 : (List Int)) (l9 : (List (List Int))) (l10 : (List (List Int))) (left : Int) (wl3 : (WL U8) l3) (wl4 : (WL U8) l4) (wl7 : (WL U8) l7) (wl8 : (WL U8) l8) (wl9 : (WL (WL U8)) l9) (wl10 : (WL (WL U8)) l10) (h0 : 0 ≤ left) (h1 : left ≤ 1048576) :
    ∃ r, (∃ K : Nat, ∀ k : Nat, K ≤ k → laws_szBlock.f k a0 a1 a2 l3 l4 a5 a6 l7 l8 l9 l10 left = some r) ∧ r ≤ left ∧ (0 ≤ r → Lim l3 ∧ Lim l4 ∧ Lim l7 ∧ Lim l8 ∧ LL Lim l9 ∧ LL Lim l10) := by
  obtain ⟨r0, ⟨K0, e0⟩, b0, f0⟩ := laws_szHead.ev a0 a1 a2 l3 l4 a5 a6 l7 l8 l9 left wl3 wl4 wl7 wl8 wl9 h0 h1
  by_cases c0 : r0 < 0
  · exact ⟨-1, ⟨K0, fun k hk => by simp only [laws_szBlock.f, e0 k (by omega), Option.bind_some, if_pos c0]⟩, by omega, fun h => by omega⟩
  obtain ⟨r1, ⟨K1, e1⟩, b1, f1⟩ := laws_szByteSS.ev l10 r0 wl10 (by omega) (by omega)
  by_cases c1 : r1 < 0
  · exact ⟨-1, ⟨K0 + K1, fun k hk => by simp only [laws_szBlock.f, e0 k (by omega), e1 k (by omega), Option.bind_some, if_neg c0, if_pos c1]⟩, by omega, fun h => by omega⟩
  refine ⟨r1, ⟨K0 + K1, fun k hk => by simp only [laws_szBlock.f, e0 k (by omega), e1 k (by omega), Option.bind_some, if_neg c0, if_neg c1]⟩, by omega, fun h => ?_⟩
  obtain ⟨g0_0, g0_1, g0_2, g0_3, g0_4⟩ := f0 (by omega)
  exact ⟨g0_0, g0_1, g0_2, g0_3, g0_4, f1 (by omega)⟩
theorem laws_toByteS.ev (l : List Int) (hl : Lim l) : ∃ K : Nat, ∀ k : Nat, K ≤ k → laws_toByteS.f k l = some l := by
  unfold Lim at hl
  have h : ∀ (d i : Nat) (m : List Int), i + d = l.length → m.length = l.length → m.take i = l.take i → ∃ K : Nat, ∀ k : Nat, K ≤ k → laws_toByteS.l0 k l m (i : Int) = some l := by
    intro d
    induction d with
    | zero =>
      intro i m hd h1 h2
      refine ⟨1, fun k hk => ?_⟩
      obtain ⟨n, rfl⟩ : ∃ n, k = n + 1 := ⟨k - 1, by omega⟩
      simp only [laws_toByteS.l0]
      rw [if_neg (by omega)]
      obtain rfl : i = l.length := by omega
      rw [take_all h1 h2]
    | succ d ih =>
      intro i m hd h1 h2
      have hlt : i < l.length := by omega
      have hx : l[i]? = some l[i] := List.getElem?_eq_getElem hlt
      obtain ⟨K, hK⟩ := ih (i + 1) (m.set i l[i]) (by omega) (by simpa using h1) (set_take h1 hx h2)
      refine ⟨K + 1, fun k hk => ?_⟩
      obtain ⟨n, rfl⟩ : ∃ n, k = n + 1 := ⟨k - 1, by omega⟩
      simp only [laws_toByteS.l0]
      rw [if_pos (by omega), if_pos (by omega), if_pos (by omega), rd_at hx, wrap_succ (by omega), Int.toNat_natCast]
      exact hK n (by omega)
  obtain ⟨K, hK⟩ := h l.length 0 (List.replicate l.length 0) (by omega) (by simp) (by simp)
  refine ⟨K, fun k hk => ?_⟩
  unfold laws_toByteS.f
  rw [if_pos (by omega), if_pos (by simp; omega), Int.toNat_natCast]
  exact hK k hk

theorem laws_toByteSS.ev (l : List (List Int)) (hl : LL Lim l) : ∃ K : Nat, ∀ k : Nat, K ≤ k → laws_toByteSS.f k l = some l := by
  have hl1 := hl.1
  have h : ∀ (d i : Nat) (m : List (List Int)), i + d = l.length → m.length = l.length → m.take i = l.take i → ∃ K : Nat, ∀ k : Nat, K ≤ k → laws_toByteSS.l0 k l m (i : Int) = some l := by
    intro d
    induction d with
    | zero =>
      intro i m hd h1 h2
      refine ⟨1, fun k hk => ?_⟩
      obtain ⟨n, rfl⟩ : ∃ n, k = n + 1 := ⟨k - 1, by omega⟩
      simp only [laws_toByteSS.l0]
      rw [if_neg (by omega)]
      obtain rfl : i = l.length := by omega
      rw [take_all h1 h2]
    | succ d ih =>
      intro i m hd h1 h2
      have hlt : i < l.length := by omega
      have hx : l[i]? = some l[i] := List.getElem?_eq_getElem hlt
      obtain ⟨K0, h0⟩ := laws_toByteS.ev l[i] (hl.2 _ (mem_at hx))
      have hr : rd_L1 l (i : Int) = l[i] := getD_at hx
      obtain ⟨K, hK⟩ := ih (i + 1) (m.set i l[i]) (by omega) (by simpa using h1) (set_take h1 hx h2)
      refine ⟨K0 + K + 1, fun k hk => ?_⟩
      obtain ⟨n, rfl⟩ : ∃ n, k = n + 1 := ⟨k - 1, by omega⟩
      simp only [laws_toByteSS.l0]
      rw [if_pos (by omega), if_pos (by omega), hr, h0 n (by omega), Option.bind_some, if_pos (by omega), wrap_succ (by omega), Int.toNat_natCast]
      exact hK n (by omega)
  obtain ⟨K, hK⟩ := h l.length 0 (List.replicate l.length []) (by omega) (by simp) (by simp)
  refine ⟨K, fun k hk => ?_⟩
  unfold laws_toByteSS.f
  rw [if_pos (by omega), if_pos (by simp; omega), Int.toNat_natCast]
  exact hK k hk

theorem laws_toQc.ev (a0 : Int) (a1 : Int) (l2 : (List Int)) (l3 : (List Int)) (l4 : (List (List Int))) (hl2 : Lim l2) (hl3 : Lim l3) (hl4 : LL Lim l4) : ∃ K : Nat, ∀ k : Nat, K ≤ k → laws_toQc.f k a0 a1 l2 l3 l4 = some (a0, a1, l2, l3, l4) := by
  obtain ⟨K0, e0⟩ := laws_toByteS.ev l2 hl2
  obtain ⟨K1, e1⟩ := laws_toByteS.ev l3 hl3
  obtain ⟨K2, e2⟩ := laws_toByteSS.ev l4 hl4
  exact ⟨K0 + K1 + K2, fun k hk => by simp only [laws_toQc.f, e0 k (by omega), e1 k (by omega), e2 k (by omega), Option.bind_some]⟩
theorem laws_toHead.ev (a0 : Int) (a1 : Int) (a2 : Int) (l3 : (List Int)) (l4 : (List Int)) (a5 : Int) (a6 : Int) (l7 : (List Int)) (l8 : (List Int)) (l9 : (List (List Int))) (hl3 : Lim l3) (hl4 : Lim l4) (hl7 : Lim l7) (hl8 : Lim l8) (hl9 : LL Lim l9) : ∃ K : Nat, ∀ k : Nat, K ≤ k → laws_toHead.f k a0 a1 a2 l3 l4 a5 a6 l7 l8 l9 = some (a0, a1, a2, l3, l4, a5, a6, l7, l8, l9) := by
  obtain ⟨K0, e0⟩ := laws_toByteS.ev l3 hl3
  obtain ⟨K1, e1⟩ := laws_toByteS.ev l4 hl4
  obtain ⟨K2, e2⟩ := laws_toQc.ev a5 a6 l7 l8 l9 hl7 hl8 hl9
  exact ⟨K0 + K1 + K2, fun k hk => by simp only [laws_toHead.f, e0 k (by omega), e1 k (by omega), e2 k (by omega), Option.bind_some]⟩
theorem laws_toBlock.ev (a0 : Int) (a1 : Int) (a2 : Int) (l3 : (List Int)) (l4 : (List Int)) (a5 : Int) (a6 : Int) (l7 : (List Int)) (l8 : (List Int)) (l9 : (List (List Int))) (l10 : (List (List Int))) (hl3 : Lim l3) (hl4 : Lim l4) (hl7 : Lim l7) (hl8 : Lim l8) (hl9 : LL Lim l9) (hl10 : LL Lim l10) : ∃ K : Nat, ∀ k : Nat, K ≤ k → laws_toBlock.f k a0 a1 a2 l3 l4 a5 a6 l7 l8 l9 l10 = some (a0, a1, a2, l3, l4, a5, a6, l7, l8, l9, l10) := by
  obtain ⟨K0, e0⟩ := laws_toHead.ev a0 a1 a2 l3 l4 a5 a6 l7 l8 l9 hl3 hl4 hl7 hl8 hl9
  obtain ⟨K1, e1⟩ := laws_toByteSS.ev l10 hl10
  exact ⟨K0 + K1, fun k hk => by simp only [laws_toBlock.f, e0 k (by omega), e1 k (by omega), Option.bind_some]⟩
theorem laws_eqByteS.refl (l : List Int) (hl : l.length ≤ 9223372036854775806) : ∃ K : Nat, ∀ k : Nat, K ≤ k → laws_eqByteS.f k l l = some true := by
  have h : ∀ (d i : Nat), i + d = l.length → ∃ K : Nat, ∀ k : Nat, K ≤ k → laws_eqByteS.l0 k l l (i : Int) = some true := by
    intro d
    induction d with
    | zero =>
      intro i hd
      refine ⟨1, fun k hk => ?_⟩
      obtain ⟨n, rfl⟩ : ∃ n, k = n + 1 := ⟨k - 1, by omega⟩
      simp only [laws_eqByteS.l0]
      rw [if_neg (by omega)]
    | succ d ih =>
      intro i hd
      obtain ⟨K, hK⟩ := ih (i + 1) (by omega)
      refine ⟨K + 1, fun k hk => ?_⟩
      obtain ⟨n, rfl⟩ : ∃ n, k = n + 1 := ⟨k - 1, by omega⟩
      simp only [laws_eqByteS.l0]
      rw [if_pos (by omega), if_pos (by omega), if_pos (by omega), if_pos trivial, wrap_succ (by omega)]
      exact hK n (by omega)
  obtain ⟨K, hK⟩ := h l.length 0 (by omega)
  refine ⟨K, fun k hk => ?_⟩
  unfold laws_eqByteS.f
  rw [if_pos rfl]
  exact hK k hk

theorem laws_eqByteSS.refl (l : List (List Int)) (hl : l.length ≤ 9223372036854775806) (hx : ∀ x ∈ l, x.length ≤ 9223372036854775806) : ∃ K : Nat, ∀ k : Nat, K ≤ k → laws_eqByteSS.f k l l = some true := by
  have h : ∀ (d i : Nat), i + d = l.length → ∃ K : Nat, ∀ k : Nat, K ≤ k → laws_eqByteSS.l0 k l l (i : Int) = some true := by
    intro d
    induction d with
    | zero =>
      intro i hd
      refine ⟨1, fun k hk => ?_⟩
      obtain ⟨n, rfl⟩ : ∃ n, k = n + 1 := ⟨k - 1, by omega⟩
      simp only [laws_eqByteSS.l0]
      rw [if_neg (by omega)]
    | succ d ih =>
      intro i hd
      have hlt : i < l.length := by omega
      have hg : l[i]? = some l[i] := List.getElem?_eq_getElem hlt
      have hr : rd_L1 l (i : Int) = l[i] := getD_at hg
      obtain ⟨K0, h0⟩ := laws_eqByteS.refl l[i] (hx _ (mem_at hg))
      obtain ⟨K, hK⟩ := ih (i + 1) (by omega)
      refine ⟨K0 + K + 1, fun k hk => ?_⟩
      obtain ⟨n, rfl⟩ : ∃ n, k = n + 1 := ⟨k - 1, by omega⟩
      simp only [laws_eqByteSS.l0]
      rw [if_pos (by omega), if_pos (by omega), if_pos (by omega), hr, h0 n (by omega), Option.bind_some, if_pos (show true = true from rfl), wrap_succ (by omega)]
      exact hK n (by omega)
  obtain ⟨K, hK⟩ := h l.length 0 (by omega)
  refine ⟨K, fun k hk => ?_⟩
  unfold laws_eqByteSS.f
  rw [if_pos rfl]
  exact hK k hk

theorem laws_eqQc.refl (a0 : Int) (a1 : Int) (l2 : (List Int)) (l3 : (List Int)) (l4 : (List (List Int))) (hl2 : Lim l2) (hl3 : Lim l3) (hl4 : LL Lim l4) : ∃ K : Nat, ∀ k : Nat, K ≤ k → laws_eqQc.f k a0 a1 l2 l3 l4 a0 a1 l2 l3 l4 = some true := by
  obtain ⟨K0, e0⟩ := laws_eqByteS.refl l2 (by unfold Lim at hl2; omega)
  obtain ⟨K1, e1⟩ := laws_eqByteS.refl l3 (by unfold Lim at hl3; omega)
  obtain ⟨K2, e2⟩ := laws_eqByteSS.refl l4 (by have := hl4.1; omega) (fun x hx => by have := hl4.2 x hx; unfold Lim at this; omega)
  exact ⟨K0 + K1 + K2, fun k hk => by simp only [laws_eqQc.f, eq_self, if_true, e0 k (by omega), e1 k (by omega), e2 k (by omega), Option.bind_some]⟩
theorem laws_eqHead.refl (a0 : Int) (a1 : Int) (a2 : Int) (l3 : (List Int)) (l4 : (List Int)) (a5 : Int) (a6 : Int) (l7 : (List Int)) (l8 : (List Int)) (l9 : (List (List Int))) (hl3 : Lim l3) (hl4 : Lim l4) (hl7 : Lim l7) (hl8 : Lim l8) (hl9 : LL Lim l9) : ∃ K : Nat, ∀ k : Nat, K ≤ k → laws_eqHead.f k a0 a1 a2 l3 l4 a5 a6 l7 l8 l9 a0 a1 a2 l3 l4 a5 a6 l7 l8 l9 = some true := by
  obtain ⟨K0, e0⟩ := laws_eqByteS.refl l3 (by unfold Lim at hl3; omega)
  obtain ⟨K1, e1⟩ := laws_eqByteS.refl l4 (by unfold Lim at hl4; omega)
  obtain ⟨K2, e2⟩ := laws_eqQc.refl a5 a6 l7 l8 l9 hl7 hl8 hl9
  exact ⟨K0 + K1 + K2, fun k hk => by simp only [laws_eqHead.f, eq_self, if_true, e0 k (by omega), e1 k (by omega), e2 k (by omega), Option.bind_some]⟩
theorem laws_eqBlock.refl (a0 : Int) (a1 : Int) (a2 : Int) (l3 : (List Int)) (l4 : (List Int)) (a5 : Int) (a6 : Int) (l7 : (List Int)) (l8 : (List Int)) (l9 : (List (List Int))) (l10 : (List (List Int))) (hl3 : Lim l3) (hl4 : Lim l4) (hl7 : Lim l7) (hl8 : Lim l8) (hl9 : LL Lim l9) (hl10 : LL Lim l10) : ∃ K : Nat, ∀ k : Nat, K ≤ k → laws_eqBlock.f k a0 a1 a2 l3 l4 a5 a6 l7 l8 l9 l10 a0 a1 a2 l3 l4 a5 a6 l7 l8 l9 l10 = some true := by
  obtain ⟨K0, e0⟩ := laws_eqHead.refl a0 a1 a2 l3 l4 a5 a6 l7 l8 l9 hl3 hl4 hl7 hl8 hl9
  obtain ⟨K1, e1⟩ := laws_eqByteSS.refl l10 (by have := hl10.1; omega) (fun x hx => by have := hl10.2 x hx; unfold Lim at this; omega)
  exact ⟨K0 + K1, fun k hk => by simp only [laws_eqBlock.f, eq_self, if_true, e0 k (by omega), e1 k (by omega), Option.bind_some]⟩
theorem spec_SameBytes.ev (a b : List Int) : spec_SameBytes.f a b = some (sameB a b) := rfl

theorem spec_TreeSame.ev (a b : List (List Int)) (ha : a.length ≤ 9223372036854775806) : ∃ K : Nat, ∀ k : Nat, K ≤ k → spec_TreeSame.f k a b = some (sameL a b) := by
  by_cases c : a.length = b.length
  · have h : ∀ (d i : Nat), i + d = a.length → ∃ K : Nat, ∀ k : Nat, K ≤ k → spec_TreeSame.l0 k a b (a.length : Int) (i : Int) = some (allSame (a.drop i) (b.drop i)) := by
      intro d
      induction d with
      | zero =>
        intro i hd
        refine ⟨1, fun k hk => ?_⟩
        obtain ⟨n, rfl⟩ : ∃ n, k = n + 1 := ⟨k - 1, by omega⟩
        simp only [spec_TreeSame.l0]
        rw [if_neg (by omega), List.drop_of_length_le (by omega)]
        rfl
      | succ d ih =>
        intro i hd
        have hla : i < a.length := by omega
        have hlb : i < b.length := by omega
        have ra : rd_L1 a (i : Int) = a[i] := getD_at (List.getElem?_eq_getElem hla)
        have rb : rd_L1 b (i : Int) = b[i] := getD_at (List.getElem?_eq_getElem hlb)
        obtain ⟨K, hK⟩ := ih (i + 1) (by omega)
        refine ⟨K + 1, fun k hk => ?_⟩
        obtain ⟨n, rfl⟩ : ∃ n, k = n + 1 := ⟨k - 1, by omega⟩
        simp only [spec_TreeSame.l0]
        rw [if_pos (by omega), if_pos (by omega), if_pos (by omega), if_pos (by omega), ra, rb, spec_SameBytes.ev, Option.bind_some, List.drop_eq_getElem_cons hla, List.drop_eq_getElem_cons hlb, wrap_succ (by omega), hK n (by omega)]
        show (if sameB a[i] b[i] = true then some (allSame (a.drop (i + 1)) (b.drop (i + 1))) else some false) = some (sameB a[i] b[i] && allSame (a.drop (i + 1)) (b.drop (i + 1)))
        exact and_if _ _
    obtain ⟨K, hK⟩ := h a.length 0 (by omega)
    refine ⟨K, fun k hk => ?_⟩
    unfold spec_TreeSame.f
    rw [if_pos (by omega), sameL, decide_eq_true c, Bool.true_and]
    simpa using hK k hk
  · refine ⟨0, fun k _ => ?_⟩
    unfold spec_TreeSame.f
    rw [if_neg (by omega), sameL, decide_eq_false c, Bool.false_and]

theorem spec_QcSame.ev (a0 a1 : Int) (l2 l3 : List Int) (l4 : List (List Int)) (b0 b1 : Int) (m2 m3 : List Int) (m4 : List (List Int)) (h4 : LL Lim l4) :
    ∃ K, ∀ k : Nat, K ≤ k → spec_QcSame.f k a0 a1 l2 l3 l4 b0 b1 m2 m3 m4 = some (qcSame a0 a1 l2 l3 l4 b0 b1 m2 m3 m4) := by
  obtain ⟨K, hK⟩ := spec_TreeSame.ev l4 m4 (by have := h4.1; omega)
  refine ⟨K, fun k hk => ?_⟩
  unfold spec_QcSame.f qcSame
  simp only [spec_SameBytes.ev, hK k hk, Option.bind_some]
  by_cases h0 : a0 = b0 <;> by_cases h1 : a1 = b1 <;> cases sameB l2 m2 <;> cases sameB l3 m3 <;> simp [h0, h1]

theorem spec_HeadSame.ev (a0 a1 a2 : Int) (l3 l4 : List Int) (a5 a6 : Int) (l7 l8 : List Int) (l9 : List (List Int)) (b0 b1 b2 : Int) (m3 m4 : List Int) (b5 b6 : Int) (m7 m8 : List Int) (m9 : List (List Int)) (h9 : LL Lim l9) :
    ∃ K : Nat, ∀ k : Nat, K ≤ k → spec_HeadSame.f k a0 a1 a2 l3 l4 a5 a6 l7 l8 l9 b0 b1 b2 m3 m4 b5 b6 m7 m8 m9 = some (headSame a0 a1 a2 l3 l4 a5 a6 l7 l8 l9 b0 b1 b2 m3 m4 b5 b6 m7 m8 m9) := by
  obtain ⟨K, hK⟩ := spec_QcSame.ev a5 a6 l7 l8 l9 b5 b6 m7 m8 m9 h9
  refine ⟨K, fun k hk => ?_⟩
  unfold spec_HeadSame.f headSame
  simp only [spec_SameBytes.ev, hK k hk, Option.bind_some, dec_if, Bool.decide_eq_true]

theorem spec_BlockSame.ev (a0 a1 a2 : Int) (l3 l4 : List Int) (a5 a6 : Int) (l7 l8 : List Int) (l9 l10 : List (List Int)) (b0 b1 b2 : Int) (m3 m4 : List Int) (b5 b6 : Int) (m7 m8 : List Int) (m9 m10 : List (List Int)) (h9 : LL Lim l9) (h10 : LL Lim l10) :
    ∃ K : Nat, ∀ k : Nat, K ≤ k → spec_BlockSame.f k a0 a1 a2 l3 l4 a5 a6 l7 l8 l9 l10 b0 b1 b2 m3 m4 b5 b6 m7 m8 m9 m10 = some (blockSame a0 a1 a2 l3 l4 a5 a6 l7 l8 l9 l10 b0 b1 b2 m3 m4 b5 b6 m7 m8 m9 m10) := by
  obtain ⟨K, hK⟩ := spec_HeadSame.ev a0 a1 a2 l3 l4 a5 a6 l7 l8 l9 b0 b1 b2 m3 m4 b5 b6 m7 m8 m9 h9
  obtain ⟨K2, hK2⟩ := spec_TreeSame.ev l10 m10 (by have := h10.1; omega)
  refine ⟨K + K2, fun k hk => ?_⟩
  unfold spec_BlockSame.f blockSame
  simp only [hK k (by omega), hK2 k (by omega), Option.bind_some, dec_if, Bool.decide_eq_true]

theorem impl_SameBytes.ev (a b : List Int) : impl_SameBytes.f a b = some (sameB a b) := rfl

theorem impl_TreeSame.ev (a b : List (List Int)) (ha : a.length ≤ 9223372036854775806) : ∃ K : Nat, ∀ k : Nat, K ≤ k → impl_TreeSame.f k a b = some (sameL a b) := by
  by_cases c : a.length = b.length
  · have h : ∀ (d i : Nat), i + d = a.length → ∃ K : Nat, ∀ k : Nat, K ≤ k → impl_TreeSame.l0 k a b (a.length : Int) (i : Int) = some (allSame (a.drop i) (b.drop i)) := by
      intro d
      induction d with
      | zero =>
        intro i hd
        refine ⟨1, fun k hk => ?_⟩
        obtain ⟨n, rfl⟩ : ∃ n, k = n + 1 := ⟨k - 1, by omega⟩
        simp only [impl_TreeSame.l0]
        rw [if_neg (by omega), List.drop_of_length_le (by omega)]
        rfl
      | succ d ih =>
        intro i hd
        have hla : i < a.length := by omega
        have hlb : i < b.length := by omega
        have ra : rd_L1 a (i : Int) = a[i] := getD_at (List.getElem?_eq_getElem hla)
        have rb : rd_L1 b (i : Int) = b[i] := getD_at (List.getElem?_eq_getElem hlb)
        obtain ⟨K, hK⟩ := ih (i + 1) (by omega)
        refine ⟨K + 1, fun k hk => ?_⟩
        obtain ⟨n, rfl⟩ : ∃ n, k = n + 1 := ⟨k - 1, by omega⟩
        simp only [impl_TreeSame.l0]
        rw [if_pos (by omega), if_pos (by omega), if_pos (by omega), if_pos (by omega), ra, rb, impl_SameBytes.ev, Option.bind_some, List.drop_eq_getElem_cons hla, List.drop_eq_getElem_cons hlb, wrap_succ (by omega), hK n (by omega)]
        show (if sameB a[i] b[i] = true then some (allSame (a.drop (i + 1)) (b.drop (i + 1))) else some false) = some (sameB a[i] b[i] && allSame (a.drop (i + 1)) (b.drop (i + 1)))
        exact and_if _ _
    obtain ⟨K, hK⟩ := h a.length 0 (by omega)
    refine ⟨K, fun k hk => ?_⟩
    unfold impl_TreeSame.f
    rw [if_pos (by omega), sameL, decide_eq_true c, Bool.true_and]
    simpa using hK k hk
  · refine ⟨0, fun k _ => ?_⟩
    unfold impl_TreeSame.f
    rw [if_neg (by omega), sameL, decide_eq_false c, Bool.false_and]

theorem impl_QcSame.ev (a0 a1 : Int) (l2 l3 : List Int) (l4 : List (List Int)) (b0 b1 : Int) (m2 m3 : List Int) (m4 : List (List Int)) (h4 : LL Lim l4) :
    ∃ K, ∀ k : Nat, K ≤ k → impl_QcSame.f k a0 a1 l2 l3 l4 b0 b1 m2 m3 m4 = some (qcSame a0 a1 l2 l3 l4 b0 b1 m2 m3 m4) := by
  obtain ⟨K, hK⟩ := impl_TreeSame.ev l4 m4 (by have := h4.1; omega)
  refine ⟨K, fun k hk => ?_⟩
  unfold impl_QcSame.f qcSame
  simp only [impl_SameBytes.ev, hK k hk, Option.bind_some]
  by_cases h0 : a0 = b0 <;> by_cases h1 : a1 = b1 <;> cases sameB l2 m2 <;> cases sameB l3 m3 <;> simp [h0, h1]

theorem impl_HeadSame.ev (a0 a1 a2 : Int) (l3 l4 : List Int) (a5 a6 : Int) (l7 l8 : List Int) (l9 : List (List Int)) (b0 b1 b2 : Int) (m3 m4 : List Int) (b5 b6 : Int) (m7 m8 : List Int) (m9 : List (List Int)) (h9 : LL Lim l9) :
    ∃ K : Nat, ∀ k : Nat, K ≤ k → impl_HeadSame.f k a0 a1 a2 l3 l4 a5 a6 l7 l8 l9 b0 b1 b2 m3 m4 b5 b6 m7 m8 m9 = some (headSame a0 a1 a2 l3 l4 a5 a6 l7 l8 l9 b0 b1 b2 m3 m4 b5 b6 m7 m8 m9) := by
  obtain ⟨K, hK⟩ := impl_QcSame.ev a5 a6 l7 l8 l9 b5 b6 m7 m8 m9 h9
  refine ⟨K, fun k hk => ?_⟩
  unfold impl_HeadSame.f headSame
  simp only [impl_SameBytes.ev, hK k hk, Option.bind_some, dec_if, Bool.decide_eq_true]

theorem impl_BlockSame.ev (a0 a1 a2 : Int) (l3 l4 : List Int) (a5 a6 : Int) (l7 l8 : List Int) (l9 l10 : List (List Int)) (b0 b1 b2 : Int) (m3 m4 : List Int) (b5 b6 : Int) (m7 m8 : List Int) (m9 m10 : List (List Int)) (h9 : LL Lim l9) (h10 : LL Lim l10) :
    ∃ K : Nat, ∀ k : Nat, K ≤ k → impl_BlockSame.f k a0 a1 a2 l3 l4 a5 a6 l7 l8 l9 l10 b0 b1 b2 m3 m4 b5 b6 m7 m8 m9 m10 = some (blockSame a0 a1 a2 l3 l4 a5 a6 l7 l8 l9 l10 b0 b1 b2 m3 m4 b5 b6 m7 m8 m9 m10) := by
  obtain ⟨K, hK⟩ := impl_HeadSame.ev a0 a1 a2 l3 l4 a5 a6 l7 l8 l9 b0 b1 b2 m3 m4 b5 b6 m7 m8 m9 h9
  obtain ⟨K2, hK2⟩ := impl_TreeSame.ev l10 m10 (by have := h10.1; omega)
  refine ⟨K + K2, fun k hk => ?_⟩
  unfold impl_BlockSame.f blockSame
  simp only [hK k (by omega), hK2 k (by omega), Option.bind_some, dec_if, Bool.decide_eq_true]

theorem Pure_FnExactBlockSame : laws_FnExactBlockSame.Pure_ := by
  intro a0_0 a0_1 a0_2 l0_3 l0_4 a0_5 a0_6 l0_7 l0_8 l0_9 l0_10 a1_0 a1_1 a1_2 l1_3 l1_4 a1_5 a1_6 l1_7 l1_8 l1_9 l1_10 wa0_0 wa0_1 wa0_2 wl0_3 wl0_4 wa0_5 wa0_6 wl0_7 wl0_8 wl0_9 wl0_10 wa1_0 wa1_1 wa1_2 wl1_3 wl1_4 wa1_5 wa1_6 wl1_7 wl1_8 wl1_9 wl1_10
  obtain ⟨r0, ⟨Kz0, ez0⟩, bz0, fz0⟩ := laws_szBlock.ev a0_0 a0_1 a0_2 l0_3 l0_4 a0_5 a0_6 l0_7 l0_8 l0_9 l0_10 1048576 wl0_3 wl0_4 wl0_7 wl0_8 wl0_9 wl0_10 (by omega) (by omega)
  by_cases cz0 : r0 < 0
  · exact ⟨Kz0, by simp only [laws_FnExactBlockSame.f, ez0 (Kz0) (by omega), Option.bind_some, if_pos cz0]⟩
  obtain ⟨hl0_3, hl0_4, hl0_7, hl0_8, hl0_9, hl0_10⟩ := fz0 (by omega)
  obtain ⟨r1, ⟨Kz1, ez1⟩, bz1, fz1⟩ := laws_szBlock.ev a1_0 a1_1 a1_2 l1_3 l1_4 a1_5 a1_6 l1_7 l1_8 l1_9 l1_10 r0 wl1_3 wl1_4 wl1_7 wl1_8 wl1_9 wl1_10 (by omega) (by omega)
  by_cases cz1 : r1 < 0
  · exact ⟨Kz0 + Kz1, by simp only [laws_FnExactBlockSame.f, ez0 (Kz0 + Kz1) (by omega), ez1 (Kz0 + Kz1) (by omega), Option.bind_some, if_neg cz0, if_pos cz1]⟩
  obtain ⟨hl1_3, hl1_4, hl1_7, hl1_8, hl1_9, hl1_10⟩ := fz1 (by omega)
  obtain ⟨Kt0, et0⟩ := laws_toBlock.ev a0_0 a0_1 a0_2 l0_3 l0_4 a0_5 a0_6 l0_7 l0_8 l0_9 l0_10 hl0_3 hl0_4 hl0_7 hl0_8 hl0_9 hl0_10
  obtain ⟨Ke0, ee0⟩ := laws_eqBlock.refl a0_0 a0_1 a0_2 l0_3 l0_4 a0_5 a0_6 l0_7 l0_8 l0_9 l0_10 hl0_3 hl0_4 hl0_7 hl0_8 hl0_9 hl0_10
  obtain ⟨Kt1, et1⟩ := laws_toBlock.ev a1_0 a1_1 a1_2 l1_3 l1_4 a1_5 a1_6 l1_7 l1_8 l1_9 l1_10 hl1_3 hl1_4 hl1_7 hl1_8 hl1_9 hl1_10
  obtain ⟨Ke1, ee1⟩ := laws_eqBlock.refl a1_0 a1_1 a1_2 l1_3 l1_4 a1_5 a1_6 l1_7 l1_8 l1_9 l1_10 hl1_3 hl1_4 hl1_7 hl1_8 hl1_9 hl1_10
  obtain ⟨Ks, es⟩ := spec_BlockSame.ev a0_0 a0_1 a0_2 l0_3 l0_4 a0_5 a0_6 l0_7 l0_8 l0_9 l0_10 a1_0 a1_1 a1_2 l1_3 l1_4 a1_5 a1_6 l1_7 l1_8 l1_9 l1_10 hl0_9 hl0_10
  obtain ⟨Ki, ei⟩ := impl_BlockSame.ev a0_0 a0_1 a0_2 l0_3 l0_4 a0_5 a0_6 l0_7 l0_8 l0_9 l0_10 a1_0 a1_1 a1_2 l1_3 l1_4 a1_5 a1_6 l1_7 l1_8 l1_9 l1_10 hl0_9 hl0_10
  refine ⟨Kz0 + Kz1 + Kt0 + Ke0 + Kt1 + Ke1 + Ks + Ki + 5, ?_⟩
  simp only [laws_FnExactBlockSame.f, ez0 (Kz0 + Kz1 + Kt0 + Ke0 + Kt1 + Ke1 + Ks + Ki + 5) (by omega), ez1 (Kz0 + Kz1 + Kt0 + Ke0 + Kt1 + Ke1 + Ks + Ki + 5) (by omega), et0 (Kz0 + Kz1 + Kt0 + Ke0 + Kt1 + Ke1 + Ks + Ki + 5) (by omega), ee0 (Kz0 + Kz1 + Kt0 + Ke0 + Kt1 + Ke1 + Ks + Ki + 5) (by omega), et1 (Kz0 + Kz1 + Kt0 + Ke0 + Kt1 + Ke1 + Ks + Ki + 5) (by omega), ee1 (Kz0 + Kz1 + Kt0 + Ke0 + Kt1 + Ke1 + Ks + Ki + 5) (by omega), es (Kz0 + Kz1 + Kt0 + Ke0 + Kt1 + Ke1 + Ks + Ki + 5) (by omega), ei (Kz0 + Kz1 + Kt0 + Ke0 + Kt1 + Ke1 + Ks + Ki + 5) (by omega), Option.bind_some, bne_self_eq_false, eq_self, if_true, if_false, Bool.false_eq_true, if_neg cz0, if_neg cz1]
end Go.Proofs.Ytniapflmmigbjaa.PFnExactBlockSame
