/- What is left of the law FnExactProofOk when memory is gone: FnExactProofOk's answers over numbers and lists are what the reference's are. Condition: each number is an int, each byte is one. -/
import Derived.Test.YtniapflmmigbjaaPFnExactProofOkx10
import Derived.Test.YtniapflmmigbjaaTFnExactProofOkOwn
import Derived.Test.YtniapflmmigbjaaTFnExactProofOkLib
set_option linter.unusedVariables false
set_option linter.unusedSimpArgs false
namespace Go.Proofs.Ytniapflmmigbjaa.PFnExactProofOk
open Go.RowKit Go.Proofs.YtniapflmmigbjaaW.PrintWords Go.Proofs.YtniapflmmigbjaaW.PrintLast Go.Proofs.Ytniapflmmigbjaa.Own Go.Proofs.Ytniapflmmigbjaa.Lib
def W50 (x : S50) : Prop := I64 x.f0 ∧ I64 x.f1 ∧ I64 x.f2 ∧ (WL U8) x.f3 ∧ (WL U8) x.f4 ∧ I64 x.f5.f0 ∧ I64 x.f5.f1 ∧ (WL U8) x.f5.f2 ∧ (WL U8) x.f5.f3 ∧ (WL (WL U8)) x.f5.f4
/-- The one pure statement. -/
def laws_FnExactProofOk.Pure_ : Prop := ∀ (a0_0 : Int) (a0_1 : Int) (a0_2 : Int) (a0_3 : Int) (a0_4 : Int) (l1_0 : (List S50)) (a1_1 : Int) (a1_2 : Int) (l1_3 : (List Int)) (l1_4 : (List Int)) (l1_5 : (List (List Int))), I64 a0_0 → I64 a0_1 → I64 a0_2 → I64 a0_3 → I64 a0_4 → (WL W50) l1_0 → I64 a1_1 → I64 a1_2 → (WL U8) l1_3 → (WL U8) l1_4 → (WL (WL U8)) l1_5 → ∃ k, laws_FnExactProofOk.f k a0_0 a0_1 a0_2 a0_3 a0_4 l1_0 a1_1 a1_2 l1_3 l1_4 l1_5 = some true

theorem laws_szByteS.ev (l : List Int) (left : Int) (hl : l.length ≤ 9223372036854775807) (h0 : 0 ≤ left) (h1 : left ≤ 1048576) :
    ∃ r, laws_szByteS.f l left = some r ∧ r ≤ left ∧ (0 ≤ r → Lim l) := by
  unfold laws_szByteS.f Lim
  have hw : wrap64 (left - (l.length : Int)) = left - (l.length : Int) := wrap_id (by omega) (by omega)
  rw [hw]
  by_cases c : left - (l.length : Int) < 0
  · rw [if_pos c]; exact ⟨-1, rfl, by omega, fun h => by omega⟩
  · rw [if_neg c]; exact ⟨_, rfl, by omega, fun _ => by omega⟩

theorem laws_szByteSS.ev_l (l : List (List Int)) (hl : WL Bs l) : ∀ (d i : Nat) (left : Int), i + d = l.length → 0 ≤ left → left ≤ 1048576 →
    ∃ r, (∃ K : Nat, ∀ k : Nat, K ≤ k → laws_szByteSS.l0 k l left (i : Int) = some r) ∧ r ≤ left ∧ (0 ≤ r → ∀ x ∈ l.drop i, Lim x) := by
  intro d
  induction d with
  | zero =>
    intro i left hd h0 h1
    refine ⟨left, ⟨1, fun k hk => ?_⟩, by omega, fun _ x hx => by rw [List.drop_of_length_le (by omega)] at hx; cases hx⟩
    obtain ⟨m, rfl⟩ : ∃ m, k = m + 1 := ⟨k - 1, by omega⟩
    simp only [laws_szByteSS.l0]
    rw [if_neg (by omega)]
  | succ d ih =>
    intro i left hd h0 h1
    have hlt : i < l.length := by omega
    have hx : l[i]? = some l[i] := List.getElem?_eq_getElem hlt
    obtain ⟨r1, e1, b1, f1⟩ := laws_szByteS.ev l[i] left (hl.2 _ (mem_at hx)).1 h0 h1
    have hr : rd_L1 l (i : Int) = l[i] := getD_at hx
    by_cases c : r1 < 0
    · refine ⟨-1, ⟨1, fun k hk => ?_⟩, by omega, fun h => by omega⟩
      obtain ⟨m, rfl⟩ : ∃ m, k = m + 1 := ⟨k - 1, by omega⟩
      simp only [laws_szByteSS.l0]
      rw [if_pos (by omega), if_pos (by omega), hr, e1, Option.bind_some, if_pos c]
    · obtain ⟨r, ⟨K, hK⟩, br, fr⟩ := ih (i + 1) r1 (by omega) (by omega) (by omega)
      refine ⟨r, ⟨K + 1, fun k hk => ?_⟩, by omega, fun h x hx' => ?_⟩
      · obtain ⟨m, rfl⟩ : ∃ m, k = m + 1 := ⟨k - 1, by omega⟩
        simp only [laws_szByteSS.l0]
        rw [if_pos (by omega), if_pos (by omega), hr, e1, Option.bind_some, if_neg c, wrap_succ (by have := hl.1; omega)]
        exact hK m (by omega)
      · rw [List.drop_eq_getElem_cons hlt] at hx'
        rcases List.mem_cons.1 hx' with rfl | hx'
        · exact f1 (by omega)
        · exact fr h x hx'
theorem laws_szByteSS.ev (l : List (List Int)) (left : Int) (hl : WL Bs l) (h0 : 0 ≤ left) (h1 : left ≤ 1048576) :
    ∃ r, (∃ K : Nat, ∀ k : Nat, K ≤ k → laws_szByteSS.f k l left = some r) ∧ r ≤ left ∧ (0 ≤ r → LL Lim l) := by
  have hw : wrap64 (left - (l.length : Int)) = left - (l.length : Int) := wrap_id (by have := hl.1; omega) (by omega)
  by_cases c : left - (l.length : Int) < 0
  · exact ⟨-1, ⟨0, fun k _ => by unfold laws_szByteSS.f; rw [hw, if_pos c]⟩, by omega, fun h => by omega⟩
  · obtain ⟨r, ⟨K, hK⟩, br, fr⟩ := laws_szByteSS.ev_l l hl l.length 0 (left - (l.length : Int)) (by omega) (by omega) (by omega)
    exact ⟨r, ⟨K, fun k hk => by unfold laws_szByteSS.f; rw [hw, if_neg c]; exact hK k hk⟩, by omega, fun h => ⟨by omega, fun x hx => fr h x (by simpa using hx)⟩⟩

theorem laws_szQc.ev (a0 : Int) (a1 : Int) (l2 : (List Int)) (l3 : (List Int)) (l4 : (List (List Int))) (left : Int) (wl2 : (WL U8) l2) (wl3 : (WL U8) l3) (wl4 : (WL (WL U8)) l4) (h0 : 0 ≤ left) (h1 : left ≤ 1048576) :
    ∃ r, (∃ K : Nat, ∀ k : Nat, K ≤ k → laws_szQc.f k a0 a1 l2 l3 l4 left = some r) ∧ r ≤ left ∧ (0 ≤ r → Lim l2 ∧ Lim l3 ∧ LL Lim l4) := by
  obtain ⟨r0, e0, b0, f0⟩ := laws_szByteS.ev l2 left (wl2.1) h0 h1
  by_cases c0 : r0 < 0
  · exact ⟨-1, ⟨0, fun k hk => by simp only [laws_szQc.f, e0, Option.bind_some, if_pos c0]⟩, by omega, fun h => by omega⟩
  obtain ⟨r1, e1, b1, f1⟩ := laws_szByteS.ev l3 r0 (wl3.1) (by omega) (by omega)
  by_cases c1 : r1 < 0
  · exact ⟨-1, ⟨0, fun k hk => by simp only [laws_szQc.f, e0, e1, Option.bind_some, if_neg c0, if_pos c1]⟩, by omega, fun h => by omega⟩
  obtain ⟨r2, ⟨K2, e2⟩, b2, f2⟩ := laws_szByteSS.ev l4 r1 wl4 (by omega) (by omega)
  by_cases c2 : r2 < 0
  · exact ⟨-1, ⟨K2, fun k hk => by simp only [laws_szQc.f, e0, e1, e2 k (by omega), Option.bind_some, if_neg c0, if_neg c1, if_pos c2]⟩, by omega, fun h => by omega⟩
  refine ⟨r2, ⟨K2, fun k hk => by simp only [laws_szQc.f, e0, e1, e2 k (by omega), Option.bind_some, if_neg c0, if_neg c1, if_neg c2]⟩, by omega, fun h => ?_⟩
  exact ⟨f0 (by omega), f1 (by omega), f2 (by omega)⟩
theorem laws_szHead.ev (a0 : Int) (a1 : Int) (a2 : Int) (l3 : (List Int)) (l4 : (List Int)) (a5 : Int) (a6 : Int) (l7 : (List Int)) (l8 : (List Int)) (l9 : (List (List Int))) (left : Int) (wl3 : (WL U8) l3) (wl4 : (WL U8) l4) (wl7 : (WL U8) l7) (wl8 : (WL U8) l8) (wl9 : (WL (WL U8)) l9) (h0 : 0 ≤ left) (h1 : left ≤ 1048576) :
    ∃ r, (∃ K : Nat, ∀ k : Nat, K ≤ k → laws_szHead.f k a0 a1 a2 l3 l4 a5 a6 l7 l8 l9 left = some r) ∧ r ≤ left ∧ (0 ≤ r → Lim l3 ∧ Lim l4 ∧ Lim l7 ∧ Lim l8 ∧ LL Lim l9) := by
  obtain ⟨r0, e0, b0, f0⟩ := laws_szByteS.ev l3 left (wl3.1) h0 h1
  by_cases c0 : r0 < 0
  · exact ⟨-1, ⟨0, fun k hk => by simp only [laws_szHead.f, e0, Option.bind_some, if_pos c0]⟩, by omega, fun h => by omega⟩
  obtain ⟨r1, e1, b1, f1⟩ := laws_szByteS.ev l4 r0 (wl4.1) (by omega) (by omega)
  by_cases c1 : r1 < 0
  · exact ⟨-1, ⟨0, fun k hk => by simp only [laws_szHead.f, e0, e1, Option.bind_some, if_neg c0, if_pos c1]⟩, by omega, fun h => by omega⟩
  obtain ⟨r2, ⟨K2, e2⟩, b2, f2⟩ := laws_szQc.ev a5 a6 l7 l8 l9 r1 wl7 wl8 wl9 (by omega) (by omega)
  by_cases c2 : r2 < 0
  · exact ⟨-1, ⟨K2, fun k hk => by simp only [laws_szHead.f, e0, e1, e2 k (by omega), Option.bind_some, if_neg c0, if_neg c1, if_pos c2]⟩, by omega, fun h => by omega⟩
  refine ⟨r2, ⟨K2, fun k hk => by simp only [laws_szHead.f, e0, e1, e2 k (by omega), Option.bind_some, if_neg c0, if_neg c1, if_neg c2]⟩, by omega, fun h => ?_⟩
  obtain ⟨g2_0, g2_1, g2_2⟩ := f2 (by omega)
  exact ⟨f0 (by omega), f1 (by omega), g2_0, g2_1, g2_2⟩
def M50 (x : S50) : Prop := Lim x.f3 ∧ Lim x.f4 ∧ Lim x.f5.f2 ∧ Lim x.f5.f3 ∧ LL Lim x.f5.f4
theorem laws_szHeadS.ev_l (l : List S50) (hl : WL W50 l) : ∀ (d i : Nat) (left : Int), i + d = l.length → 0 ≤ left → left ≤ 1048576 →
    ∃ r, (∃ K : Nat, ∀ k : Nat, K ≤ k → laws_szHeadS.l0 k l left (i : Int) = some r) ∧ r ≤ left ∧ (0 ≤ r → ∀ x ∈ l.drop i, M50 x) := by
  intro d
  induction d with
  | zero =>
    intro i left hd h0 h1
    refine ⟨left, ⟨1, fun k hk => ?_⟩, by omega, fun _ x hx => by rw [List.drop_of_length_le (by omega)] at hx; cases hx⟩
    obtain ⟨m, rfl⟩ : ∃ m, k = m + 1 := ⟨k - 1, by omega⟩
    simp only [laws_szHeadS.l0]
    rw [if_neg (by omega)]
  | succ d ih =>
    intro i left hd h0 h1
    have hlt : i < l.length := by omega
    have hx : l[i]? = some l[i] := List.getElem?_eq_getElem hlt
    obtain ⟨q0, q1, q2, q3, q4, q5, q6, q7, q8, q9⟩ : W50 l[i] := hl.2 _ (mem_at hx)
    obtain ⟨r1, ⟨K1, e1⟩, b1, f1⟩ := laws_szHead.ev (l[i].f0) (l[i].f1) (l[i].f2) (l[i].f3) (l[i].f4) (l[i].f5.f0) (l[i].f5.f1) (l[i].f5.f2) (l[i].f5.f3) (l[i].f5.f4) left q3 q4 q7 q8 q9 h0 h1
    have hr : rd_T50 l (i : Int) = l[i] := getD_at hx
    by_cases c : r1 < 0
    · refine ⟨-1, ⟨K1 + 1, fun k hk => ?_⟩, by omega, fun h => by omega⟩
      obtain ⟨m, rfl⟩ : ∃ m, k = m + 1 := ⟨k - 1, by omega⟩
      simp only [laws_szHeadS.l0]
      rw [if_pos (by omega), if_pos (by omega), hr, e1 m (by omega), Option.bind_some, if_pos c]
    · obtain ⟨r, ⟨K, hK⟩, br, fr⟩ := ih (i + 1) r1 (by omega) (by omega) (by omega)
      refine ⟨r, ⟨K1 + K + 1, fun k hk => ?_⟩, by omega, fun h x hx' => ?_⟩
      · obtain ⟨m, rfl⟩ : ∃ m, k = m + 1 := ⟨k - 1, by omega⟩
        simp only [laws_szHeadS.l0]
        rw [if_pos (by omega), if_pos (by omega), hr, e1 m (by omega), Option.bind_some, if_neg c, wrap_succ (by have := hl.1; omega)]
        exact hK m (by omega)
      · rw [List.drop_eq_getElem_cons hlt] at hx'
        rcases List.mem_cons.1 hx' with rfl | hx'
        · exact f1 (by omega)
        · exact fr h x hx'
theorem laws_szHeadS.ev (l : List S50) (left : Int) (hl : WL W50 l) (h0 : 0 ≤ left) (h1 : left ≤ 1048576) :
    ∃ r, (∃ K : Nat, ∀ k : Nat, K ≤ k → laws_szHeadS.f k l left = some r) ∧ r ≤ left ∧ (0 ≤ r → LL M50 l) := by
  have hw : wrap64 (left - (l.length : Int)) = left - (l.length : Int) := wrap_id (by have := hl.1; omega) (by omega)
  by_cases c : left - (l.length : Int) < 0
  · exact ⟨-1, ⟨0, fun k _ => by unfold laws_szHeadS.f; rw [hw, if_pos c]⟩, by omega, fun h => by omega⟩
  · obtain ⟨r, ⟨K, hK⟩, br, fr⟩ := laws_szHeadS.ev_l l hl l.length 0 (left - (l.length : Int)) (by omega) (by omega) (by omega)
    exact ⟨r, ⟨K, fun k hk => by unfold laws_szHeadS.f; rw [hw, if_neg c]; exact hK k hk⟩, by omega, fun h => ⟨by omega, fun x hx => fr h x (by simpa using hx)⟩⟩
theorem laws_szProof.ev (l0 : (List S50)) (a1 : Int) (a2 : Int) (l3 : (List Int)) (l4 : (List Int)) (l5 : (List (List Int))) (left : Int) (wl0 : (WL W50) l0) (wl3 : (WL U8) l3) (wl4 : (WL U8) l4) (wl5 : (WL (WL U8)) l5) (h0 : 0 ≤ left) (h1 : left ≤ 1048576) :
    ∃ r, (∃ K : Nat, ∀ k : Nat, K ≤ k → laws_szProof.f k l0 a1 a2 l3 l4 l5 left = some r) ∧ r ≤ left ∧ (0 ≤ r → LL M50 l0 ∧ Lim l3 ∧ Lim l4 ∧ LL Lim l5) := by
  obtain ⟨r0, ⟨K0, e0⟩, b0, f0⟩ := laws_szHeadS.ev l0 left wl0 h0 h1
  by_cases c0 : r0 < 0
  · exact ⟨-1, ⟨K0, fun k hk => by simp only [laws_szProof.f, e0 k (by omega), Option.bind_some, if_pos c0]⟩, by omega, fun h => by omega⟩
  obtain ⟨r1, ⟨K1, e1⟩, b1, f1⟩ := laws_szQc.ev a1 a2 l3 l4 l5 r0 wl3 wl4 wl5 (by omega) (by omega)
  by_cases c1 : r1 < 0
  · exact ⟨-1, ⟨K0 + K1, fun k hk => by simp only [laws_szProof.f, e0 k (by omega), e1 k (by omega), Option.bind_some, if_neg c0, if_pos c1]⟩, by omega, fun h => by omega⟩
  refine ⟨r1, ⟨K0 + K1, fun k hk => by simp only [laws_szProof.f, e0 k (by omega), e1 k (by omega), Option.bind_some, if_neg c0, if_neg c1]⟩, by omega, fun h => ?_⟩
  obtain ⟨g1_0, g1_1, g1_2⟩ := f1 (by omega)
  exact ⟨f0 (by omega), g1_0, g1_1, g1_2⟩
theorem laws_toByteS.ev (l : List Int) (hl : Lim l) : ∃ K : Nat, ∀ k : Nat, K ≤ k → laws_toByteS.f k l = some l := by
  unfold Lim at hl
  have h : ∀ (d i : Nat) (m : List Int), i + d = l.length → m.length = l.length → m.take i = l.take i → ∃ K : Nat, ∀ k : Nat, K ≤ k → laws_toByteS.l0 k l m (i : Int) = some l := by
    intro d
    induction d with
    | zero =>
      intro i m hd h1 h2
      refine ⟨1, fun k hk => ?_⟩
      obtain ⟨n, rfl⟩ : ∃ n, k = n + 1 := ⟨k - 1, by omega⟩
      simp only [laws_toByteS.l0]
      rw [if_neg (by omega)]
      obtain rfl : i = l.length := by omega
      rw [take_all h1 h2]
    | succ d ih =>
      intro i m hd h1 h2
      have hlt : i < l.length := by omega
      have hx : l[i]? = some l[i] := List.getElem?_eq_getElem hlt
      obtain ⟨K, hK⟩ := ih (i + 1) (m.set i l[i]) (by omega) (by simpa using h1) (set_take h1 hx h2)
      refine ⟨K + 1, fun k hk => ?_⟩
      obtain ⟨n, rfl⟩ : ∃ n, k = n + 1 := ⟨k - 1, by omega⟩
      simp only [laws_toByteS.l0]
      rw [if_pos (by omega), if_pos (by omega), if_pos (by omega), rd_at hx, wrap_succ (by omega), Int.toNat_natCast]
      exact hK n (by omega)
  obtain ⟨K, hK⟩ := h l.length 0 (List.replicate l.length 0) (by omega) (by simp) (by simp)
  refine ⟨K, fun k hk => ?_⟩
  unfold laws_toByteS.f
  rw [if_pos (by omega), if_pos (by simp; omega), Int.toNat_natCast]
  exact hK k hk

theorem laws_toByteSS.ev (l : List (List Int)) (hl : LL Lim l) : ∃ K : Nat, ∀ k : Nat, K ≤ k → laws_toByteSS.f k l = some l := by
  have hl1 := hl.1
  have h : ∀ (d i : Nat) (m : List (List Int)), i + d = l.length → m.length = l.length → m.take i = l.take i → ∃ K : Nat, ∀ k : Nat, K ≤ k → laws_toByteSS.l0 k l m (i : Int) = some l := by
    intro d
    induction d with
    | zero =>
      intro i m hd h1 h2
      refine ⟨1, fun k hk => ?_⟩
      obtain ⟨n, rfl⟩ : ∃ n, k = n + 1 := ⟨k - 1, by omega⟩
      simp only [laws_toByteSS.l0]
      rw [if_neg (by omega)]
      obtain rfl : i = l.length := by omega
      rw [take_all h1 h2]
    | succ d ih =>
      intro i m hd h1 h2
      have hlt : i < l.length := by omega
      have hx : l[i]? = some l[i] := List.getElem?_eq_getElem hlt
      obtain ⟨K0, h0⟩ := laws_toByteS.ev l[i] (hl.2 _ (mem_at hx))
      have hr : rd_L1 l (i : Int) = l[i] := getD_at hx
      obtain ⟨K, hK⟩ := ih (i + 1) (m.set i l[i]) (by omega) (by simpa using h1) (set_take h1 hx h2)
      refine ⟨K0 + K + 1, fun k hk => ?_⟩
      obtain ⟨n, rfl⟩ : ∃ n, k = n + 1 := ⟨k - 1, by omega⟩
      simp only [laws_toByteSS.l0]
      rw [if_pos (by omega), if_pos (by omega), hr, h0 n (by omega), Option.bind_some, if_pos (by omega), wrap_succ (by omega), Int.toNat_natCast]
      exact hK n (by omega)
  obtain ⟨K, hK⟩ := h l.length 0 (List.replicate l.length []) (by omega) (by simp) (by simp)
  refine ⟨K, fun k hk => ?_⟩
  unfold laws_toByteSS.f
  rw [if_pos (by omega), if_pos (by simp; omega), Int.toNat_natCast]
  exact hK k hk

theorem laws_toQc.ev (a0 : Int) (a1 : Int) (l2 : (List Int)) (l3 : (List Int)) (l4 : (List (List Int))) (hl2 : Lim l2) (hl3 : Lim l3) (hl4 : LL Lim l4) : ∃ K : Nat, ∀ k : Nat, K ≤ k → laws_toQc.f k a0 a1 l2 l3 l4 = some (a0, a1, l2, l3, l4) := by
  obtain ⟨K0, e0⟩ := laws_toByteS.ev l2 hl2
  obtain ⟨K1, e1⟩ := laws_toByteS.ev l3 hl3
  obtain ⟨K2, e2⟩ := laws_toByteSS.ev l4 hl4
  exact ⟨K0 + K1 + K2, fun k hk => by simp only [laws_toQc.f, e0 k (by omega), e1 k (by omega), e2 k (by omega), Option.bind_some]⟩
theorem laws_toHead.ev (a0 : Int) (a1 : Int) (a2 : Int) (l3 : (List Int)) (l4 : (List Int)) (a5 : Int) (a6 : Int) (l7 : (List Int)) (l8 : (List Int)) (l9 : (List (List Int))) (hl3 : Lim l3) (hl4 : Lim l4) (hl7 : Lim l7) (hl8 : Lim l8) (hl9 : LL Lim l9) : ∃ K : Nat, ∀ k : Nat, K ≤ k → laws_toHead.f k a0 a1 a2 l3 l4 a5 a6 l7 l8 l9 = some (a0, a1, a2, l3, l4, a5, a6, l7, l8, l9) := by
  obtain ⟨K0, e0⟩ := laws_toByteS.ev l3 hl3
  obtain ⟨K1, e1⟩ := laws_toByteS.ev l4 hl4
  obtain ⟨K2, e2⟩ := laws_toQc.ev a5 a6 l7 l8 l9 hl7 hl8 hl9
  exact ⟨K0 + K1 + K2, fun k hk => by simp only [laws_toHead.f, e0 k (by omega), e1 k (by omega), e2 k (by omega), Option.bind_some]⟩
def M55 (x : S55) : Prop := Lim x.f3 ∧ Lim x.f4 ∧ Lim x.f5.f2 ∧ Lim x.f5.f3 ∧ LL Lim x.f5.f4
def cv50 (x : S50) : S55 := (⟨x.f0, x.f1, x.f2, x.f3, x.f4, (⟨x.f5.f0, x.f5.f1, x.f5.f2, x.f5.f3, x.f5.f4⟩ : S53)⟩ : S55)
theorem M50_cv {x : S50} (h : M50 x) : M55 (cv50 x) := by
  unfold M50 at h
  obtain ⟨h0, h1, h2, h3, h4⟩ := h
  exact ⟨h0, h1, h2, h3, h4⟩
theorem laws_toHeadS.ev (l : List S50) (hl : LL M50 l) : ∃ K : Nat, ∀ k : Nat, K ≤ k → laws_toHeadS.f k l = some (l.map cv50) := by
  have hl1 := hl.1
  have h : ∀ (d i : Nat) (m : List S55), i + d = l.length → m.length = (l.map cv50).length → m.take i = (l.map cv50).take i → ∃ K : Nat, ∀ k : Nat, K ≤ k → laws_toHeadS.l0 k l m (i : Int) = some (l.map cv50) := by
    intro d
    induction d with
    | zero =>
      intro i m hd h1 h2
      refine ⟨1, fun k hk => ?_⟩
      obtain ⟨n, rfl⟩ : ∃ n, k = n + 1 := ⟨k - 1, by omega⟩
      simp only [laws_toHeadS.l0]
      rw [if_neg (by omega)]
      obtain rfl : i = (l.map cv50).length := by rw [List.length_map]; omega
      rw [take_all h1 h2]
    | succ d ih =>
      intro i m hd h1 h2
      have hlt : i < l.length := by omega
      have hx : l[i]? = some l[i] := List.getElem?_eq_getElem hlt
      have hx2 : (l.map cv50)[i]? = some (cv50 l[i]) := by rw [List.getElem?_map, hx]; rfl
      have hml : m.length = l.length := by rw [h1, List.length_map]
      obtain ⟨q3, q4, q7, q8, q9⟩ : M50 l[i] := hl.2 _ (mem_at hx)
      obtain ⟨K0, h0⟩ := laws_toHead.ev (l[i].f0) (l[i].f1) (l[i].f2) (l[i].f3) (l[i].f4) (l[i].f5.f0) (l[i].f5.f1) (l[i].f5.f2) (l[i].f5.f3) (l[i].f5.f4) q3 q4 q7 q8 q9
      have hr : rd_T50 l (i : Int) = l[i] := getD_at hx
      obtain ⟨K, hK⟩ := ih (i + 1) (m.set i (cv50 l[i])) (by omega) (by simpa using h1) (set_take h1 hx2 h2)
      refine ⟨K0 + K + 1, fun k hk => ?_⟩
      obtain ⟨n, rfl⟩ : ∃ n, k = n + 1 := ⟨k - 1, by omega⟩
      simp only [laws_toHeadS.l0]
      rw [if_pos (by omega), if_pos (by omega), hr, h0 n (by omega), Option.bind_some, if_pos (by omega), wrap_succ (by omega), Int.toNat_natCast]
      exact hK n (by omega)
  obtain ⟨K, hK⟩ := h l.length 0 (List.replicate l.length z55) (by omega) (by simp) (by simp)
  refine ⟨K, fun k hk => ?_⟩
  unfold laws_toHeadS.f
  rw [if_pos (by omega), if_pos (by simp; omega), Int.toNat_natCast]
  exact hK k hk
theorem laws_toProof.ev (l0 : (List S50)) (a1 : Int) (a2 : Int) (l3 : (List Int)) (l4 : (List Int)) (l5 : (List (List Int))) (hl0 : LL M50 l0) (hl3 : Lim l3) (hl4 : Lim l4) (hl5 : LL Lim l5) : ∃ K : Nat, ∀ k : Nat, K ≤ k → laws_toProof.f k l0 a1 a2 l3 l4 l5 = some ((l0.map cv50), a1, a2, l3, l4, l5) := by
  obtain ⟨K0, e0⟩ := laws_toHeadS.ev l0 hl0
  obtain ⟨K1, e1⟩ := laws_toQc.ev a1 a2 l3 l4 l5 hl3 hl4 hl5
  exact ⟨K0 + K1, fun k hk => by simp only [laws_toProof.f, e0 k (by omega), e1 k (by omega), Option.bind_some]⟩
theorem laws_eqByteS.refl (l : List Int) (hl : l.length ≤ 9223372036854775806) : ∃ K : Nat, ∀ k : Nat, K ≤ k → laws_eqByteS.f k l l = some true := by
  have h : ∀ (d i : Nat), i + d = l.length → ∃ K : Nat, ∀ k : Nat, K ≤ k → laws_eqByteS.l0 k l l (i : Int) = some true := by
    intro d
    induction d with
    | zero =>
      intro i hd
      refine ⟨1, fun k hk => ?_⟩
      obtain ⟨n, rfl⟩ : ∃ n, k = n + 1 := ⟨k - 1, by omega⟩
      simp only [laws_eqByteS.l0]
      rw [if_neg (by omega)]
    | succ d ih =>
      intro i hd
      obtain ⟨K, hK⟩ := ih (i + 1) (by omega)
      refine ⟨K + 1, fun k hk => ?_⟩
      obtain ⟨n, rfl⟩ : ∃ n, k = n + 1 := ⟨k - 1, by omega⟩
      simp only [laws_eqByteS.l0]
      rw [if_pos (by omega), if_pos (by omega), if_pos (by omega), if_pos trivial, wrap_succ (by omega)]
      exact hK n (by omega)
  obtain ⟨K, hK⟩ := h l.length 0 (by omega)
  refine ⟨K, fun k hk => ?_⟩
  unfold laws_eqByteS.f
  rw [if_pos rfl]
  exact hK k hk

theorem laws_eqByteSS.refl (l : List (List Int)) (hl : l.length ≤ 9223372036854775806) (hx : ∀ x ∈ l, x.length ≤ 9223372036854775806) : ∃ K : Nat, ∀ k : Nat, K ≤ k → laws_eqByteSS.f k l l = some true := by
  have h : ∀ (d i : Nat), i + d = l.length → ∃ K : Nat, ∀ k : Nat, K ≤ k → laws_eqByteSS.l0 k l l (i : Int) = some true := by
    intro d
    induction d with
    | zero =>
      intro i hd
      refine ⟨1, fun k hk => ?_⟩
      obtain ⟨n, rfl⟩ : ∃ n, k = n + 1 := ⟨k - 1, by omega⟩
      simp only [laws_eqByteSS.l0]
      rw [if_neg (by omega)]
    | succ d ih =>
      intro i hd
      have hlt : i < l.length := by omega
      have hg : l[i]? = some l[i] := List.getElem?_eq_getElem hlt
      have hr : rd_L1 l (i : Int) = l[i] := getD_at hg
      obtain ⟨K0, h0⟩ := laws_eqByteS.refl l[i] (hx _ (mem_at hg))
      obtain ⟨K, hK⟩ := ih (i + 1) (by omega)
      refine ⟨K0 + K + 1, fun k hk => ?_⟩
      obtain ⟨n, rfl⟩ : ∃ n, k = n + 1 := ⟨k - 1, by omega⟩
      simp only [laws_eqByteSS.l0]
      rw [if_pos (by omega), if_pos (by omega), if_pos (by omega), hr, h0 n (by omega), Option.bind_some, if_pos (show true = true from rfl), wrap_succ (by omega)]
      exact hK n (by omega)
  obtain ⟨K, hK⟩ := h l.length 0 (by omega)
  refine ⟨K, fun k hk => ?_⟩
  unfold laws_eqByteSS.f
  rw [if_pos rfl]
  exact hK k hk

theorem laws_eqQc.refl (a0 : Int) (a1 : Int) (l2 : (List Int)) (l3 : (List Int)) (l4 : (List (List Int))) (hl2 : Lim l2) (hl3 : Lim l3) (hl4 : LL Lim l4) : ∃ K : Nat, ∀ k : Nat, K ≤ k → laws_eqQc.f k a0 a1 l2 l3 l4 a0 a1 l2 l3 l4 = some true := by
  obtain ⟨K0, e0⟩ := laws_eqByteS.refl l2 (by unfold Lim at hl2; omega)
  obtain ⟨K1, e1⟩ := laws_eqByteS.refl l3 (by unfold Lim at hl3; omega)
  obtain ⟨K2, e2⟩ := laws_eqByteSS.refl l4 (by have := hl4.1; omega) (fun x hx => by have := hl4.2 x hx; unfold Lim at this; omega)
  exact ⟨K0 + K1 + K2, fun k hk => by simp only [laws_eqQc.f, eq_self, if_true, e0 k (by omega), e1 k (by omega), e2 k (by omega), Option.bind_some]⟩
theorem laws_eqHead.refl (a0 : Int) (a1 : Int) (a2 : Int) (l3 : (List Int)) (l4 : (List Int)) (a5 : Int) (a6 : Int) (l7 : (List Int)) (l8 : (List Int)) (l9 : (List (List Int))) (hl3 : Lim l3) (hl4 : Lim l4) (hl7 : Lim l7) (hl8 : Lim l8) (hl9 : LL Lim l9) : ∃ K : Nat, ∀ k : Nat, K ≤ k → laws_eqHead.f k a0 a1 a2 l3 l4 a5 a6 l7 l8 l9 a0 a1 a2 l3 l4 a5 a6 l7 l8 l9 = some true := by
  obtain ⟨K0, e0⟩ := laws_eqByteS.refl l3 (by unfold Lim at hl3; omega)
  obtain ⟨K1, e1⟩ := laws_eqByteS.refl l4 (by unfold Lim at hl4; omega)
  obtain ⟨K2, e2⟩ := laws_eqQc.refl a5 a6 l7 l8 l9 hl7 hl8 hl9
  exact ⟨K0 + K1 + K2, fun k hk => by simp only [laws_eqHead.f, eq_self, if_true, e0 k (by omega), e1 k (by omega), e2 k (by omega), Option.bind_some]⟩
theorem laws_eqHeadS.refl (l : List S55) (hl : LL M55 l) : ∃ K : Nat, ∀ k : Nat, K ≤ k → laws_eqHeadS.f k l l = some true := by
  have hl1 := hl.1
  have h : ∀ (d i : Nat), i + d = l.length → ∃ K : Nat, ∀ k : Nat, K ≤ k → laws_eqHeadS.l0 k l l (i : Int) = some true := by
    intro d
    induction d with
    | zero =>
      intro i hd
      refine ⟨1, fun k hk => ?_⟩
      obtain ⟨n, rfl⟩ : ∃ n, k = n + 1 := ⟨k - 1, by omega⟩
      simp only [laws_eqHeadS.l0]
      rw [if_neg (by omega)]
    | succ d ih =>
      intro i hd
      have hlt : i < l.length := by omega
      have hx : l[i]? = some l[i] := List.getElem?_eq_getElem hlt
      obtain ⟨q3, q4, q7, q8, q9⟩ : M55 l[i] := hl.2 _ (mem_at hx)
      obtain ⟨K0, h0⟩ := laws_eqHead.refl (l[i].f0) (l[i].f1) (l[i].f2) (l[i].f3) (l[i].f4) (l[i].f5.f0) (l[i].f5.f1) (l[i].f5.f2) (l[i].f5.f3) (l[i].f5.f4) q3 q4 q7 q8 q9
      have hr : rd_T55 l (i : Int) = l[i] := getD_at hx
      obtain ⟨K, hK⟩ := ih (i + 1) (by omega)
      refine ⟨K0 + K + 1, fun k hk => ?_⟩
      obtain ⟨n, rfl⟩ : ∃ n, k = n + 1 := ⟨k - 1, by omega⟩
      simp only [laws_eqHeadS.l0]
      rw [if_pos (by omega), if_pos (by omega), if_pos (by omega), hr, h0 n (by omega), Option.bind_some, if_pos (show true = true from rfl), wrap_succ (by omega)]
      exact hK n (by omega)
  obtain ⟨K, hK⟩ := h l.length 0 (by omega)
  refine ⟨K, fun k hk => ?_⟩
  unfold laws_eqHeadS.f
  rw [if_pos rfl]
  exact hK k hk
theorem laws_eqProof.refl (l0 : (List S55)) (a1 : Int) (a2 : Int) (l3 : (List Int)) (l4 : (List Int)) (l5 : (List (List Int))) (hl0 : LL M55 l0) (hl3 : Lim l3) (hl4 : Lim l4) (hl5 : LL Lim l5) : ∃ K : Nat, ∀ k : Nat, K ≤ k → laws_eqProof.f k l0 a1 a2 l3 l4 l5 l0 a1 a2 l3 l4 l5 = some true := by
  obtain ⟨K0, e0⟩ := laws_eqHeadS.refl l0 hl0
  obtain ⟨K1, e1⟩ := laws_eqQc.refl a1 a2 l3 l4 l5 hl3 hl4 hl5
  exact ⟨K0 + K1, fun k hk => by simp only [laws_eqProof.f, eq_self, if_true, e0 k (by omega), e1 k (by omega), Option.bind_some]⟩
/-- A head of a list, right. -/
def headO (a0 a1 a2 a3 a4 : Int) (x : S55) : Bool := headOk a0 a1 a2 a3 a4 x.f0 x.f1 x.f2 x.f3 x.f4 x.f5.f0 x.f5.f1 x.f5.f2 x.f5.f3 x.f5.f4
/-- Does the last head bear the certificate's numbers. -/
def closesB (l : List S55) (b1 b2 : Int) : Bool := decide (b1 = (rd_T55 l ((l.length : Int) - 1)).f0) && decide (b2 = (rd_T55 l ((l.length : Int) - 1)).f1)
def proofOk (a0 a1 a2 a3 a4 : Int) (l : List S55) (b1 b2 : Int) (l3 l4 : List Int) (l5 : List (List Int)) : Bool :=
  limitsOk a0 a1 a2 a3 a4 && (inR (l.length : Int) 3 a4 && (l.all (headO a0 a1 a2 a3 a4) && (qcOk a0 a1 a2 a3 a4 b1 b2 l3 l4 l5 && closesB l b1 b2)))

theorem spec_l01In.ev (a b c : Int) : spec_l01In.f a b c = some (inR a b c) := by
  unfold spec_l01In.f inR
  by_cases h : a ≥ b
  · rw [if_pos h, decide_eq_true (show b ≤ a from h), Bool.true_and]
  · rw [if_neg h, decide_eq_false (show ¬ b ≤ a from h), Bool.false_and]

theorem spec_l02Signers.ev (a : Int) : spec_l02Signers.f a = some (inR a 1 10) := by unfold spec_l02Signers.f; rw [spec_l01In.ev]; rfl

theorem spec_LimitsOk.eq (a0 a1 a2 a3 a4 : Int) : spec_LimitsOk.f a0 a1 a2 a3 a4 = some (limitsOk a0 a1 a2 a3 a4) := by
  unfold spec_LimitsOk.f limitsOk
  simp only [spec_l01In.ev, spec_l02Signers.ev, Option.bind_some]
  cases inR a0 1 10 <;> cases inR a1 0 40 <;> cases inR a2 0 8 <;> cases inR a3 1 4000 <;> rfl
theorem spec_LimitsOk.ev (a0 a1 a2 a3 a4 : Int) : ∃ K : Nat, ∀ k : Nat, K ≤ k → spec_LimitsOk.f a0 a1 a2 a3 a4 = some (limitsOk a0 a1 a2 a3 a4) := ⟨0, fun _ _ => spec_LimitsOk.eq ..⟩

theorem spec_l01Num.ev (a : Int) : spec_l01Num.f a = some (isNum a) := by unfold spec_l01Num.f; rw [spec_l01In.ev]; rfl

theorem spec_l07Hash.ev (l : List Int) : spec_l07Hash.f l = some (isHash l) := by
  unfold spec_l07Hash.f isHash
  by_cases h : l.length = 32
  · rw [decide_eq_true h]; simp [h]
  · rw [decide_eq_false h]; simp; omega

theorem spec_BitsSize.ev (a : Int) (h : I64 a) : spec_BitsSize.f a = some (bitsSize a) := by
  obtain ⟨h0, h1⟩ := h
  unfold spec_BitsSize.f bitsSize
  by_cases c : a < 1
  · rw [if_pos c, if_pos c]
  · rw [if_neg c, if_neg c, wrap_id (a := a - 1) (by omega) (by omega), Int.tdiv_eq_ediv_of_nonneg (by omega), wrap_id (a := (a - 1) / 8) (by omega) (by omega), wrap_id (a := (a - 1) / 8 + 1) (by omega) (by omega)]

theorem spec_BitsHas.ev (l : List Int) (i : Nat) (hl : ∀ x ∈ l, U8 x) (hi : i ≤ 9223372036854775807) : spec_BitsHas.f l (i : Int) = some (bitHas l (i : Int)) := by
  have e1 : wrap64 (Int.tdiv (i : Int) 8) = (i : Int) / 8 := by rw [Int.tdiv_eq_ediv_of_nonneg (by omega)]; exact wrap_id (by omega) (by omega)
  have e2 : Int.tmod (i : Int) 8 = (i : Int) % 8 := Int.tmod_eq_emod_of_nonneg (by omega)
  have hu := rd_u8 hl ((i : Int) / 8)
  have e3 : wrap64 (rd l ((i : Int) / 8)) = rd l ((i : Int) / 8) := wrap_id (by have := hu.1; omega) (by have := hu.2; omega)
  have e4 : shr .i64 (rd l ((i : Int) / 8)) ((i : Int) % 8) = rd l ((i : Int) / 8) / 2 ^ ((i : Int) % 8).toNat := by
    unfold shr; rw [Nat.min_eq_left (by show ((i : Int) % 8).toNat ≤ 64; omega)]
  have hd := div_pow_bd hu.1 hu.2 ((i : Int) % 8).toNat
  unfold spec_BitsHas.f bitHas
  rw [if_pos (by omega), e1, e2, e3, e4, Int.tmod_eq_emod_of_nonneg hd.1, decide_eq_true (show (0 : Int) ≤ (i : Int) by omega), Bool.true_and]
  by_cases c : (i : Int) / 8 < (l.length : Int)
  · rw [if_pos c, if_pos (by omega), if_pos (by omega), decide_eq_true c, Bool.true_and]
    by_cases c2 : rd l ((i : Int) / 8) / 2 ^ ((i : Int) % 8).toNat % 2 = 1
    · rw [c2, decide_eq_true rfl]; rfl
    · rw [decide_eq_false c2]; simpa using c2
  · rw [if_neg c, decide_eq_false c, Bool.false_and]

theorem spec_BitsList.ev (l : List Int) (hl : ∀ x ∈ l, U8 x) (h1 : l.length ≤ 1048576) : ∃ K : Nat, ∀ k : Nat, K ≤ k → spec_BitsList.f k l = some (bitList l) := by
  have h : ∀ (d i : Nat) (xs : List Int), i + d = 8 * l.length → xs.length ≤ i → ∃ K : Nat, ∀ k : Nat, K ≤ k → spec_BitsList.l0 k l xs (i : Int) = some (xs ++ bitsGo l d i) := by
    intro d
    induction d with
    | zero =>
      intro i xs hd hx
      refine ⟨1, fun k hk => ?_⟩
      obtain ⟨n, rfl⟩ : ∃ n, k = n + 1 := ⟨k - 1, by omega⟩
      simp only [spec_BitsList.l0]
      rw [wrap_id (a := 8 * (l.length : Int)) (by omega) (by omega), if_neg (by omega), bitsGo, List.append_nil]
    | succ d ih =>
      intro i xs hd hx
      obtain ⟨K1, e1⟩ := ih (i + 1) xs (by omega) (by omega)
      obtain ⟨K2, e2⟩ := ih (i + 1) (xs ++ [(i : Int)]) (by omega) (by rw [List.length_append]; simp; omega)
      refine ⟨K1 + K2 + 1, fun k hk => ?_⟩
      obtain ⟨n, rfl⟩ : ∃ n, k = n + 1 := ⟨k - 1, by omega⟩
      simp only [spec_BitsList.l0]
      rw [wrap_id (a := 8 * (l.length : Int)) (by omega) (by omega), if_pos (by omega), spec_BitsHas.ev l i hl (by omega), Option.bind_some, wrap_succ (by omega), if_pos (show xs.length < 17592186044416 by omega), e1 n (by omega), e2 n (by omega), bitsGo]
      by_cases c : bitHas l i = true
      · rw [if_pos c, if_pos c, List.append_assoc]; rfl
      · rw [if_neg c, if_neg c]
  obtain ⟨K, hK⟩ := h (8 * l.length) 0 [] (by omega) (Nat.le_refl _)
  refine ⟨K, fun k hk => ?_⟩
  unfold spec_BitsList.f bitList
  simpa using hK k hk

theorem spec_BitsOk.ev (l : List Int) (a : Int) (hl : ∀ x ∈ l, U8 x) (h1 : l.length ≤ 1048576) (ha : I64 a) : ∃ K : Nat, ∀ k : Nat, K ≤ k → spec_BitsOk.f k l a = some (bitsOk l a) := by
  obtain ⟨K, hK⟩ := spec_BitsList.ev l hl h1
  refine ⟨K, fun k hk => ?_⟩
  have hb := bitList_len l
  have hlast := bitsGo_last l a (8 * l.length) 0
  unfold spec_BitsOk.f bitsOk
  rw [spec_l02Signers.ev, Option.bind_some, spec_BitsSize.ev a ha, Option.bind_some, hK k hk, Option.bind_some]
  cases inR a 1 10
  · rfl
  · rw [if_pos (show true = true from rfl), Bool.true_and]
    by_cases c : (l.length : Int) = bitsSize a
    · rw [if_pos c, decide_eq_true c, Bool.true_and]
      by_cases c2 : (bitList l).length = 0
      · rw [if_pos (by omega), List.eq_nil_of_length_eq_zero c2]; rfl
      · rw [if_neg (by omega), wrap_id (by omega) (by omega), if_pos (by omega), if_pos (by omega)]
        exact congrArg some (all_last (xs := bitList l) hlast (by omega))
    · rw [if_neg c, decide_eq_false c, Bool.false_and]

theorem spec_BitsCount.ev (l : List Int) (hl : ∀ x ∈ l, U8 x) (h1 : l.length ≤ 1048576) : ∃ K : Nat, ∀ k : Nat, K ≤ k → spec_BitsCount.f k l = some ((bitList l).length : Int) := by
  obtain ⟨K, hK⟩ := spec_BitsList.ev l hl h1
  exact ⟨K, fun k hk => by unfold spec_BitsCount.f; rw [hK k hk, Option.bind_some]⟩

theorem spec_l08Hashes.ev (l : List (List Int)) (hl : l.length ≤ 9223372036854775806) : ∃ K : Nat, ∀ k : Nat, K ≤ k → spec_l08Hashes.f k l = some (l.all isHash) := by
  have h : ∀ (d i : Nat), i + d = l.length → ∃ K : Nat, ∀ k : Nat, K ≤ k → spec_l08Hashes.l0 k l (l.length : Int) (i : Int) = some ((l.drop i).all isHash) := by
    intro d
    induction d with
    | zero =>
      intro i hd
      refine ⟨1, fun k hk => ?_⟩
      obtain ⟨n, rfl⟩ : ∃ n, k = n + 1 := ⟨k - 1, by omega⟩
      simp only [spec_l08Hashes.l0]
      rw [if_neg (by omega), List.drop_of_length_le (by omega)]
      rfl
    | succ d ih =>
      intro i hd
      have hla : i < l.length := by omega
      have ra : rd_L1 l (i : Int) = l[i] := getD_at (List.getElem?_eq_getElem hla)
      obtain ⟨K, hK⟩ := ih (i + 1) (by omega)
      refine ⟨K + 1, fun k hk => ?_⟩
      obtain ⟨n, rfl⟩ : ∃ n, k = n + 1 := ⟨k - 1, by omega⟩
      simp only [spec_l08Hashes.l0]
      rw [if_pos (by omega), if_pos (by omega), if_pos (by omega), ra, spec_l07Hash.ev, Option.bind_some, List.drop_eq_getElem_cons hla, List.all_cons, wrap_succ (by omega), hK n (by omega)]
      exact and_if _ _
  obtain ⟨K, hK⟩ := h l.length 0 (by omega)
  refine ⟨K, fun k hk => ?_⟩
  unfold spec_l08Hashes.f
  simpa using hK k hk

theorem spec_QcOk.ev (a0 a1 a2 a3 a4 : Int) (b0 b1 : Int) (l2 l3 : List Int) (l4 : List (List Int)) (ha : I64 a0) (h3 : ∀ x ∈ l3, U8 x) (g3 : Lim l3) (g4 : l4.length ≤ 1048576) :
    ∃ K : Nat, ∀ k : Nat, K ≤ k → spec_QcOk.f k a0 a1 a2 a3 a4 b0 b1 l2 l3 l4 = some (qcOk a0 a1 a2 a3 a4 b0 b1 l2 l3 l4) := by
  obtain ⟨K1, e1⟩ := spec_BitsOk.ev l3 a0 h3 g3 ha
  obtain ⟨K2, e2⟩ := spec_BitsCount.ev l3 h3 g3
  obtain ⟨K3, e3⟩ := spec_l08Hashes.ev l4 (by omega)
  refine ⟨K1 + K2 + K3, fun k hk => ?_⟩
  unfold spec_QcOk.f qcOk
  simp only [spec_LimitsOk.eq, spec_l01Num.ev, spec_l07Hash.ev, e1 k (by omega), e2 k (by omega), e3 k (by omega), Option.bind_some]
  cases limitsOk a0 a1 a2 a3 a4 <;> cases isNum b0 <;> cases isNum b1 <;> cases isHash l2 <;> cases bitsOk l3 a0 <;> first | rfl | skip
  by_cases c : l4.length = (bitList l3).length
  · simp [c]
  · simp [c, show ¬ (l4.length : Int) = ((bitList l3).length : Int) by omega]

theorem spec_SameBytes.ev (a b : List Int) : spec_SameBytes.f a b = some (sameB a b) := rfl

theorem spec_l13Fits.ev (b0 b1 b2 : Int) (l3 l4 : List Int) (b5 b6 : Int) (l7 l8 : List Int) (l9 : List (List Int)) : spec_l13Fits.f b0 b1 b2 l3 l4 b5 b6 l7 l8 l9 = some (headFits b0 b1 l3 b5 b6 l7) := by
  unfold spec_l13Fits.f headFits
  simp only [spec_SameBytes.ev, Option.bind_some, dec_if, Bool.decide_eq_true]

theorem spec_HeadOk.ev (a0 a1 a2 a3 a4 b0 b1 b2 : Int) (l3 l4 : List Int) (b5 b6 : Int) (l7 l8 : List Int) (l9 : List (List Int)) (ha : I64 a0) (h8 : ∀ x ∈ l8, U8 x) (g8 : Lim l8) (g9 : l9.length ≤ 1048576) :
    ∃ K : Nat, ∀ k : Nat, K ≤ k → spec_HeadOk.f k a0 a1 a2 a3 a4 b0 b1 b2 l3 l4 b5 b6 l7 l8 l9 = some (headOk a0 a1 a2 a3 a4 b0 b1 b2 l3 l4 b5 b6 l7 l8 l9) := by
  obtain ⟨K1, e1⟩ := spec_QcOk.ev a0 a1 a2 a3 a4 b5 b6 l7 l8 l9 ha h8 g8 g9
  refine ⟨K1, fun k hk => ?_⟩
  unfold spec_HeadOk.f headOk
  simp only [spec_LimitsOk.eq, spec_l01Num.ev, spec_l01In.ev, spec_l07Hash.ev, spec_l13Fits.ev, e1 k hk, Option.bind_some, dec_if, Bool.decide_eq_true]

theorem spec_ProofOk.ev (a0 a1 a2 a3 a4 : Int) (l : List S55) (b1 b2 : Int) (l3 l4 : List Int) (l5 : List (List Int)) (ha : I64 a0) (gl : LL M55 l) (ul : ∀ x ∈ l, ∀ y ∈ x.f5.f3, U8 y) (h4 : ∀ x ∈ l4, U8 x) (g4 : Lim l4) (g5 : l5.length ≤ 1048576) :
    ∃ K : Nat, ∀ k : Nat, K ≤ k → spec_ProofOk.f k a0 a1 a2 a3 a4 l b1 b2 l3 l4 l5 = some (proofOk a0 a1 a2 a3 a4 l b1 b2 l3 l4 l5) := by
  have hl1 := gl.1
  obtain ⟨Kq, hq⟩ := spec_QcOk.ev a0 a1 a2 a3 a4 b1 b2 l3 l4 l5 ha h4 g4 g5
  have hfit : 3 ≤ (l.length : Int) → spec_l16Fits.f l b1 b2 l3 l4 l5 = some (closesB l b1 b2) := by
    intro h3
    unfold spec_l16Fits.f closesB
    rw [wrap_id (a := (l.length : Int) - 1) (by omega) (by omega), if_pos (by omega), if_pos (by omega)]
    by_cases c : b1 = (rd_T55 l ((l.length : Int) - 1)).f0
    · rw [if_pos c, decide_eq_true c, Bool.true_and]; rfl
    · rw [if_neg c, decide_eq_false c, Bool.false_and]
  have h : 3 ≤ (l.length : Int) → ∀ (d i : Nat), i + d = l.length → ∃ K : Nat, ∀ k : Nat, K ≤ k → spec_ProofOk.l0 k l (l.length : Int) (i : Int) a0 a1 a2 a3 a4 l b1 b2 l3 l4 l5 = some ((l.drop i).all (headO a0 a1 a2 a3 a4) && (qcOk a0 a1 a2 a3 a4 b1 b2 l3 l4 l5 && closesB l b1 b2)) := by
    intro h3 d
    induction d with
    | zero =>
      intro i hd
      refine ⟨Kq + 1, fun k hk => ?_⟩
      obtain ⟨n, rfl⟩ : ∃ n, k = n + 1 := ⟨k - 1, by omega⟩
      simp only [spec_ProofOk.l0]
      rw [if_neg (by omega), List.drop_of_length_le (by omega), hq n (by omega), Option.bind_some, hfit h3, Option.bind_some]
      exact and_if _ _
    | succ d ih =>
      intro i hd
      have hla : i < l.length := by omega
      have hm := mem_at (List.getElem?_eq_getElem hla)
      have ra : rd_T55 l (i : Int) = l[i] := getD_at (List.getElem?_eq_getElem hla)
      obtain ⟨K1, hK1⟩ := ih (i + 1) (by omega)
      have hM := (gl.2 _ hm).2.2.2
      obtain ⟨K2, hK2⟩ := spec_HeadOk.ev a0 a1 a2 a3 a4 l[i].f0 l[i].f1 l[i].f2 l[i].f3 l[i].f4 l[i].f5.f0 l[i].f5.f1 l[i].f5.f2 l[i].f5.f3 l[i].f5.f4 ha (ul _ hm) hM.1 hM.2.1
      refine ⟨K1 + K2 + 1, fun k hk => ?_⟩
      obtain ⟨n, rfl⟩ : ∃ n, k = n + 1 := ⟨k - 1, by omega⟩
      simp only [spec_ProofOk.l0]
      rw [if_pos (by omega), if_pos (by omega), if_pos (by omega), ra, hK2 n (by omega), Option.bind_some, wrap_succ (by omega), hK1 n (by omega), List.drop_eq_getElem_cons hla, List.all_cons, Bool.and_assoc]
      exact and_if _ _
  unfold proofOk
  by_cases c : inR (l.length : Int) 3 a4 = true
  · obtain ⟨K, hK⟩ := h (inR_iff.1 c).1 l.length 0 (by omega)
    refine ⟨K + 1, fun k hk => ?_⟩
    obtain ⟨n, rfl⟩ : ∃ n, k = n + 1 := ⟨k - 1, by omega⟩
    have e := hK n (by omega)
    rw [List.drop_zero] at e
    unfold spec_ProofOk.f
    simp only [spec_LimitsOk.eq, spec_l01In.ev, Option.bind_some, spec_ProofOk.j0, c]
    rw [show ((0 : Int)) = ((0 : Nat) : Int) from rfl, e]
    cases limitsOk a0 a1 a2 a3 a4 <;> rfl
  · refine ⟨1, fun k hk => ?_⟩
    obtain ⟨n, rfl⟩ : ∃ n, k = n + 1 := ⟨k - 1, by omega⟩
    unfold spec_ProofOk.f
    simp only [spec_LimitsOk.eq, spec_l01In.ev, Option.bind_some, spec_ProofOk.j0, Bool.eq_false_iff.2 c]
    cases limitsOk a0 a1 a2 a3 a4 <;> rfl

theorem impl_within.ev (a b c : Int) : impl_within.f a b c = some (inR a b c) := by
  unfold impl_within.f inR
  by_cases h : b ≤ a
  · rw [if_pos h, decide_eq_true h, Bool.true_and]
  · rw [if_neg h, decide_eq_false h, Bool.false_and]

theorem impl_isNum.ev (a : Int) : impl_isNum.f a = some (isNum a) := by unfold impl_isNum.f; rw [impl_within.ev]; rfl

theorem impl_areHashes.ev (l : List (List Int)) (hl : l.length ≤ 9223372036854775806) : ∃ K : Nat, ∀ k : Nat, K ≤ k → impl_areHashes.f k l = some (l.all isHash) := by
  have h : ∀ (d i : Nat), i + d = l.length → ∃ K : Nat, ∀ k : Nat, K ≤ k → impl_areHashes.l0 k l (l.length : Int) (i : Int) = some ((l.drop i).all isHash) := by
    intro d
    induction d with
    | zero =>
      intro i hd
      refine ⟨1, fun k hk => ?_⟩
      obtain ⟨n, rfl⟩ : ∃ n, k = n + 1 := ⟨k - 1, by omega⟩
      simp only [impl_areHashes.l0]
      rw [if_neg (by omega), List.drop_of_length_le (by omega)]
      rfl
    | succ d ih =>
      intro i hd
      have hla : i < l.length := by omega
      have ra : rd_L1 l (i : Int) = l[i] := getD_at (List.getElem?_eq_getElem hla)
      obtain ⟨K, hK⟩ := ih (i + 1) (by omega)
      refine ⟨K + 1, fun k hk => ?_⟩
      obtain ⟨n, rfl⟩ : ∃ n, k = n + 1 := ⟨k - 1, by omega⟩
      simp only [impl_areHashes.l0]
      rw [if_pos (by omega), if_pos (by omega), if_pos (by omega), ra, List.drop_eq_getElem_cons hla, List.all_cons, wrap_succ (by omega), hK n (by omega)]
      by_cases c : l[i].length = 32
      · rw [if_pos (by omega), isHash, decide_eq_true c, Bool.true_and]
      · rw [if_neg (by omega), isHash, decide_eq_false c, Bool.false_and]
  obtain ⟨K, hK⟩ := h l.length 0 (by omega)
  refine ⟨K, fun k hk => ?_⟩
  unfold impl_areHashes.f
  simpa using hK k hk

theorem impl_LimitsOk.eq (a0 a1 a2 a3 a4 : Int) : impl_LimitsOk.f a0 a1 a2 a3 a4 = some (limitsOk a0 a1 a2 a3 a4) := by
  unfold impl_LimitsOk.f limitsOk
  simp only [impl_within.ev, Option.bind_some]
  cases inR a0 1 10 <;> cases inR a1 0 40 <;> cases inR a2 0 8 <;> cases inR a3 1 4000 <;> rfl
theorem impl_LimitsOk.ev (a0 a1 a2 a3 a4 : Int) : ∃ K : Nat, ∀ k : Nat, K ≤ k → impl_LimitsOk.f a0 a1 a2 a3 a4 = some (limitsOk a0 a1 a2 a3 a4) := ⟨0, fun _ _ => impl_LimitsOk.eq ..⟩

theorem impl_BitsSize.ev (a : Int) (h : I64 a) : impl_BitsSize.f a = some (bitsSize a) := by
  obtain ⟨h0, h1⟩ := h
  unfold impl_BitsSize.f bitsSize
  by_cases c : a < 1
  · rw [if_pos c, if_pos c]
  · rw [if_neg c, if_neg c, wrap_id (a := a - 1) (by omega) (by omega), Int.tdiv_eq_ediv_of_nonneg (by omega), wrap_id (a := (a - 1) / 8) (by omega) (by omega), wrap_id (a := (a - 1) / 8 + 1) (by omega) (by omega)]

theorem impl_BitsHas.ev (l : List Int) (i : Nat) (hl : ∀ x ∈ l, U8 x) (h1 : l.length ≤ 1152921504606846975) (hi : i ≤ 9223372036854775807) : impl_BitsHas.f l (i : Int) = some (bitHas l (i : Int)) := by
  have e0 : wrap64 (wrap64 (8 * (l.length : Int)) - 1) = 8 * (l.length : Int) - 1 := by rw [wrap_id (a := 8 * (l.length : Int)) (by omega) (by omega)]; exact wrap_id (by omega) (by omega)
  have e1 : wrap64 (Int.tdiv (i : Int) 8) = (i : Int) / 8 := by rw [Int.tdiv_eq_ediv_of_nonneg (by omega)]; exact wrap_id (by omega) (by omega)
  have e2 : Int.tmod (i : Int) 8 = (i : Int) % 8 := Int.tmod_eq_emod_of_nonneg (by omega)
  have hu := rd_u8 hl ((i : Int) / 8)
  have e4 : shr .u8 (rd l ((i : Int) / 8)) ((i : Int) % 8) = rd l ((i : Int) / 8) / 2 ^ ((i : Int) % 8).toNat := by
    unfold shr; rw [Nat.min_eq_left (by show ((i : Int) % 8).toNat ≤ 8; omega)]
  have hd := div_pow_bd hu.1 hu.2 ((i : Int) % 8).toNat
  unfold impl_BitsHas.f bitHas
  rw [impl_within.ev, Option.bind_some, e0, e1, e2, e4, and_one_u8 hd.1 hd.2, decide_eq_true (show (0 : Int) ≤ (i : Int) by omega), Bool.true_and]
  by_cases c : (i : Int) / 8 < (l.length : Int)
  · rw [if_pos (inR_iff.2 ⟨by omega, by omega⟩), if_pos (by omega), if_pos c, if_pos (by omega), decide_eq_true c, Bool.true_and]
    by_cases c2 : rd l ((i : Int) / 8) / 2 ^ ((i : Int) % 8).toNat % 2 = 1
    · rw [c2, decide_eq_true rfl]; rfl
    · rw [decide_eq_false c2]; simpa using c2
  · rw [if_neg (fun h => by have := inR_iff.1 h; omega), decide_eq_false c, Bool.false_and]

theorem impl_BitsList.ev (l : List Int) (hl : ∀ x ∈ l, U8 x) (h1 : l.length ≤ 1048576) : ∃ K : Nat, ∀ k : Nat, K ≤ k → impl_BitsList.f k l = some (bitList l) := by
  have e0 : wrap64 (8 * (l.length : Int)) = 8 * (l.length : Int) := wrap_id (by omega) (by omega)
  have h : ∀ (d i : Nat) (xs : List Int), i + d = 8 * l.length → xs.length ≤ i → ∃ K : Nat, ∀ k : Nat, K ≤ k → impl_BitsList.l0 k l xs (8 * (l.length : Int)) (i : Int) = some (xs ++ bitsGo l d i) := by
    intro d
    induction d with
    | zero =>
      intro i xs hd hx
      refine ⟨1, fun k hk => ?_⟩
      obtain ⟨n, rfl⟩ : ∃ n, k = n + 1 := ⟨k - 1, by omega⟩
      simp only [impl_BitsList.l0]
      rw [if_neg (by omega), bitsGo, List.append_nil]
    | succ d ih =>
      intro i xs hd hx
      obtain ⟨K1, e1⟩ := ih (i + 1) xs (by omega) (by omega)
      obtain ⟨K2, e2⟩ := ih (i + 1) (xs ++ [(i : Int)]) (by omega) (by rw [List.length_append]; simp; omega)
      refine ⟨K1 + K2 + 1, fun k hk => ?_⟩
      obtain ⟨n, rfl⟩ : ∃ n, k = n + 1 := ⟨k - 1, by omega⟩
      simp only [impl_BitsList.l0]
      rw [if_pos (by omega), impl_BitsHas.ev l i hl (by omega) (by omega), Option.bind_some, wrap_succ (by omega), if_pos (show xs.length < 17592186044416 by omega), e1 n (by omega), e2 n (by omega), bitsGo]
      by_cases c : bitHas l i = true
      · rw [if_pos c, if_pos c, List.append_assoc]; rfl
      · rw [if_neg c, if_neg c]
  obtain ⟨K, hK⟩ := h (8 * l.length) 0 [] (by omega) (Nat.le_refl _)
  refine ⟨K, fun k hk => ?_⟩
  unfold impl_BitsList.f bitList
  rw [e0]
  simpa using hK k hk

theorem impl_BitsOk.ev (l : List Int) (a : Int) (hl : ∀ x ∈ l, U8 x) (h1 : l.length ≤ 1048576) (ha : I64 a) : ∃ K : Nat, ∀ k : Nat, K ≤ k → impl_BitsOk.f k l a = some (bitsOk l a) := by
  obtain ⟨K, hK⟩ := impl_BitsList.ev l hl h1
  have hb := bitList_len l
  have h : ∀ (d i : Nat), i + d = (bitList l).length → ∃ K : Nat, ∀ k : Nat, K ≤ k → impl_BitsOk.l0 k a (bitList l) ((bitList l).length : Int) (i : Int) = some (((bitList l).drop i).all (fun x => decide (x < a))) := by
    intro d
    induction d with
    | zero =>
      intro i hd
      refine ⟨1, fun k hk => ?_⟩
      obtain ⟨n, rfl⟩ : ∃ n, k = n + 1 := ⟨k - 1, by omega⟩
      simp only [impl_BitsOk.l0]
      rw [if_neg (by omega), List.drop_of_length_le (by omega)]
      rfl
    | succ d ih =>
      intro i hd
      have hlt : i < (bitList l).length := by omega
      obtain ⟨K, hK⟩ := ih (i + 1) (by omega)
      refine ⟨K + 1, fun k hk => ?_⟩
      obtain ⟨n, rfl⟩ : ∃ n, k = n + 1 := ⟨k - 1, by omega⟩
      simp only [impl_BitsOk.l0]
      rw [if_pos (by omega), if_pos (by omega), if_pos (by omega), rd_at (List.getElem?_eq_getElem hlt), wrap_succ (by omega), hK n (by omega), List.drop_eq_getElem_cons hlt, List.all_cons]
      by_cases c : (bitList l)[i] < a
      · rw [if_neg (by omega), decide_eq_true c, Bool.true_and]
      · rw [if_pos (by omega), decide_eq_false c, Bool.false_and]
  obtain ⟨K2, hK2⟩ := h (bitList l).length 0 (by omega)
  refine ⟨K + K2 + 1, fun k hk => ?_⟩
  obtain ⟨n, rfl⟩ : ∃ n, k = n + 1 := ⟨k - 1, by omega⟩
  have e := hK2 n (by omega)
  rw [List.drop_zero] at e
  unfold impl_BitsOk.f bitsOk
  rw [impl_within.ev, Option.bind_some, impl_BitsSize.ev a ha, Option.bind_some]
  simp only [impl_BitsOk.j0]
  rw [hK n (by omega), Option.bind_some]
  cases inR a 1 10
  · simp
  · rw [if_pos (show true = true from rfl), Bool.true_and]
    by_cases c : (l.length : Int) = bitsSize a
    · rw [if_neg (by simpa using c), decide_eq_true c, Bool.true_and]
      exact e
    · rw [if_pos (by simpa using c), decide_eq_false c, Bool.false_and]

theorem bits_OnesCount8.ev (x : Int) (h : U8 x) : bits_OnesCount8.f x = some (ones x) := by
  obtain ⟨h0, h1⟩ := h
  have key : ∀ i : Fin 256, bits_OnesCount8.f ((i.val : Nat) : Int) = some (ones ((i.val : Nat) : Int)) := by decide +kernel
  have := key ⟨x.toNat, by omega⟩
  rwa [show ((x.toNat : Nat) : Int) = x by omega] at this

theorem impl_BitsCount.ev (l : List Int) (hl : ∀ x ∈ l, U8 x) (h1 : l.length ≤ 1048576) : ∃ K : Nat, ∀ k : Nat, K ≤ k → impl_BitsCount.f k l = some ((bitList l).length : Int) := by
  have h : ∀ (d i : Nat) (c : Int), i + d = l.length → 0 ≤ c → c ≤ 8 * i → ∃ K : Nat, ∀ k : Nat, K ≤ k → impl_BitsCount.l0 k c l (l.length : Int) (i : Int) = some (c + onesSum (l.drop i)) := by
    intro d
    induction d with
    | zero =>
      intro i c hd h0 hc
      refine ⟨1, fun k hk => ?_⟩
      obtain ⟨n, rfl⟩ : ∃ n, k = n + 1 := ⟨k - 1, by omega⟩
      simp only [impl_BitsCount.l0]
      rw [if_neg (by omega), List.drop_of_length_le (by omega)]
      simp [onesSum]
    | succ d ih =>
      intro i c hd h0 hc
      have hlt : i < l.length := by omega
      have hx : l[i]? = some l[i] := List.getElem?_eq_getElem hlt
      have hb := ones_bd l[i]
      obtain ⟨K, hK⟩ := ih (i + 1) (c + ones l[i]) (by omega) (by omega) (by omega)
      refine ⟨K + 1, fun k hk => ?_⟩
      obtain ⟨n, rfl⟩ : ∃ n, k = n + 1 := ⟨k - 1, by omega⟩
      simp only [impl_BitsCount.l0]
      rw [if_pos (by omega), if_pos (by omega), if_pos (by omega), rd_at hx, bits_OnesCount8.ev _ (hl _ (mem_at hx)), Option.bind_some, wrap_id (a := c + ones l[i]) (by omega) (by omega), wrap_succ (by omega), hK n (by omega), List.drop_eq_getElem_cons hlt]
      simp only [onesSum, Int.add_assoc]
  obtain ⟨K, hK⟩ := h l.length 0 0 (by omega) (by omega) (by omega)
  refine ⟨K, fun k hk => ?_⟩
  unfold impl_BitsCount.f
  rw [← onesSum_all]
  simpa using hK k hk

theorem impl_QcOk.ev (a0 a1 a2 a3 a4 : Int) (b0 b1 : Int) (l2 l3 : List Int) (l4 : List (List Int)) (ha : I64 a0) (h3 : ∀ x ∈ l3, U8 x) (g3 : Lim l3) (g4 : l4.length ≤ 1048576) :
    ∃ K : Nat, ∀ k : Nat, K ≤ k → impl_QcOk.f k a0 a1 a2 a3 a4 b0 b1 l2 l3 l4 = some (qcOk a0 a1 a2 a3 a4 b0 b1 l2 l3 l4) := by
  obtain ⟨K1, e1⟩ := impl_BitsOk.ev l3 a0 h3 g3 ha
  obtain ⟨K2, e2⟩ := impl_BitsCount.ev l3 h3 g3
  obtain ⟨K3, e3⟩ := impl_areHashes.ev l4 (by omega)
  obtain ⟨K4, e4⟩ := impl_areHashes.ev [l2] (by simp)
  refine ⟨K1 + K2 + K3 + K4, fun k hk => ?_⟩
  unfold impl_QcOk.f qcOk
  simp only [impl_LimitsOk.eq, impl_isNum.ev, e1 k (by omega), e2 k (by omega), e3 k (by omega), e4 k (by omega), Option.bind_some, List.all_cons, List.all_nil, Bool.and_true]
  cases limitsOk a0 a1 a2 a3 a4 <;> cases isNum b0 <;> cases isNum b1 <;> cases isHash l2 <;> cases bitsOk l3 a0 <;> first | rfl | skip
  by_cases c : l4.length = (bitList l3).length
  · simp [c]
  · simp [c, show ¬ (l4.length : Int) = ((bitList l3).length : Int) by omega]

theorem impl_SameBytes.ev (a b : List Int) : impl_SameBytes.f a b = some (sameB a b) := rfl

theorem impl_Head_matches.ev (b0 b1 b2 : Int) (l3 l4 : List Int) (b5 b6 : Int) (l7 l8 : List Int) (l9 : List (List Int)) : impl_Head_matches.f b0 b1 b2 l3 l4 b5 b6 l7 l8 l9 = some (headFits b0 b1 l3 b5 b6 l7) := by
  unfold impl_Head_matches.f headFits
  simp only [impl_SameBytes.ev, Option.bind_some, dec_if, Bool.decide_eq_true]

theorem impl_HeadOk.ev (a0 a1 a2 a3 a4 b0 b1 b2 : Int) (l3 l4 : List Int) (b5 b6 : Int) (l7 l8 : List Int) (l9 : List (List Int)) (ha : I64 a0) (h8 : ∀ x ∈ l8, U8 x) (g8 : Lim l8) (g9 : l9.length ≤ 1048576) :
    ∃ K : Nat, ∀ k : Nat, K ≤ k → impl_HeadOk.f k a0 a1 a2 a3 a4 b0 b1 b2 l3 l4 b5 b6 l7 l8 l9 = some (headOk a0 a1 a2 a3 a4 b0 b1 b2 l3 l4 b5 b6 l7 l8 l9) := by
  obtain ⟨K1, e1⟩ := impl_QcOk.ev a0 a1 a2 a3 a4 b5 b6 l7 l8 l9 ha h8 g8 g9
  obtain ⟨K2, e2⟩ := impl_areHashes.ev [l3, l4] (by simp)
  refine ⟨K1 + K2, fun k hk => ?_⟩
  unfold impl_HeadOk.f headOk
  simp only [impl_isNum.ev, impl_within.ev, impl_Head_matches.ev, e1 k (by omega), e2 k (by omega), Option.bind_some, dec_if, Bool.decide_eq_true, List.all_cons, List.all_nil, Bool.and_true]
  cases hL : limitsOk a0 a1 a2 a3 a4
  · rw [qcOk_limits hL]; rfl
  · cases qcOk a0 a1 a2 a3 a4 b5 b6 l7 l8 l9 <;> cases isNum b0 <;> cases inR b1 1 1152921504606846975 <;> cases inR b2 0 (wrap64 (a0 - 1)) <;> cases isHash l3 <;> cases isHash l4 <;> rfl

theorem impl_ProofOk.ev (a0 a1 a2 a3 a4 : Int) (l : List S55) (b1 b2 : Int) (l3 l4 : List Int) (l5 : List (List Int)) (ha : I64 a0) (gl : LL M55 l) (ul : ∀ x ∈ l, ∀ y ∈ x.f5.f3, U8 y) (h4 : ∀ x ∈ l4, U8 x) (g4 : Lim l4) (g5 : l5.length ≤ 1048576) :
    ∃ K : Nat, ∀ k : Nat, K ≤ k → impl_ProofOk.f k a0 a1 a2 a3 a4 l b1 b2 l3 l4 l5 = some (proofOk a0 a1 a2 a3 a4 l b1 b2 l3 l4 l5) := by
  have hl1 := gl.1
  obtain ⟨Kq, hq⟩ := impl_QcOk.ev a0 a1 a2 a3 a4 b1 b2 l3 l4 l5 ha h4 g4 g5
  have hfit : 3 ≤ (l.length : Int) → impl_Proof_closes.f l b1 b2 l3 l4 l5 = some (closesB l b1 b2) := by
    intro h3
    unfold impl_Proof_closes.f closesB
    rw [wrap_id (a := (l.length : Int) - 1) (by omega) (by omega), if_pos (by omega), if_pos (by omega)]
    by_cases c : b1 = (rd_T55 l ((l.length : Int) - 1)).f0
    · rw [if_pos c, decide_eq_true c, Bool.true_and]; rfl
    · rw [if_neg c, decide_eq_false c, Bool.false_and]
  have h : ∀ (d i : Nat), i + d = l.length → ∃ K : Nat, ∀ k : Nat, K ≤ k → impl_areHeads.l0 k l (l.length : Int) (i : Int) a0 a1 a2 a3 a4 = some ((l.drop i).all (headO a0 a1 a2 a3 a4)) := by
    intro d
    induction d with
    | zero =>
      intro i hd
      refine ⟨1, fun k hk => ?_⟩
      obtain ⟨n, rfl⟩ : ∃ n, k = n + 1 := ⟨k - 1, by omega⟩
      simp only [impl_areHeads.l0]
      rw [if_neg (by omega), List.drop_of_length_le (by omega)]
      rfl
    | succ d ih =>
      intro i hd
      have hla : i < l.length := by omega
      have hm := mem_at (List.getElem?_eq_getElem hla)
      have ra : rd_T55 l (i : Int) = l[i] := getD_at (List.getElem?_eq_getElem hla)
      obtain ⟨K1, hK1⟩ := ih (i + 1) (by omega)
      have hM := (gl.2 _ hm).2.2.2
      obtain ⟨K2, hK2⟩ := impl_HeadOk.ev a0 a1 a2 a3 a4 l[i].f0 l[i].f1 l[i].f2 l[i].f3 l[i].f4 l[i].f5.f0 l[i].f5.f1 l[i].f5.f2 l[i].f5.f3 l[i].f5.f4 ha (ul _ hm) hM.1 hM.2.1
      refine ⟨K1 + K2 + 1, fun k hk => ?_⟩
      obtain ⟨n, rfl⟩ : ∃ n, k = n + 1 := ⟨k - 1, by omega⟩
      simp only [impl_areHeads.l0]
      rw [if_pos (by omega), if_pos (by omega), if_pos (by omega), ra, hK2 n (by omega), Option.bind_some, wrap_succ (by omega), hK1 n (by omega), List.drop_eq_getElem_cons hla, List.all_cons]
      exact and_if _ _
  obtain ⟨K, hK⟩ := h l.length 0 (by omega)
  refine ⟨K + Kq, fun k hk => ?_⟩
  have e := hK k (by omega)
  rw [List.drop_zero] at e
  unfold impl_ProofOk.f impl_areHeads.f proofOk
  rw [impl_within.ev, Option.bind_some, show ((0 : Int)) = ((0 : Nat) : Int) from rfl, e, Option.bind_some, hq k (by omega), Option.bind_some]
  by_cases c : inR (l.length : Int) 3 a4 = true
  · rw [if_pos c, hfit (inR_iff.1 c).1, Option.bind_some, c]
    cases hL : limitsOk a0 a1 a2 a3 a4
    · rw [qcOk_limits hL]; cases l.all (headO a0 a1 a2 a3 a4) <;> rfl
    · cases l.all (headO a0 a1 a2 a3 a4) <;> cases qcOk a0 a1 a2 a3 a4 b1 b2 l3 l4 l5 <;> rfl
  · rw [if_neg c, Bool.eq_false_iff.2 c, Bool.false_and, Bool.and_false]

theorem Pure_FnExactProofOk : laws_FnExactProofOk.Pure_ := by
  intro a0_0 a0_1 a0_2 a0_3 a0_4 l1_0 a1_1 a1_2 l1_3 l1_4 l1_5 wa0_0 wa0_1 wa0_2 wa0_3 wa0_4 wl1_0 wa1_1 wa1_2 wl1_3 wl1_4 wl1_5
  obtain ⟨r0, ⟨Kz0, ez0⟩, bz0, fz0⟩ := laws_szProof.ev l1_0 a1_1 a1_2 l1_3 l1_4 l1_5 1048576 wl1_0 wl1_3 wl1_4 wl1_5 (by omega) (by omega)
  by_cases cz0 : r0 < 0
  · exact ⟨Kz0, by simp only [laws_FnExactProofOk.f, ez0 (Kz0) (by omega), Option.bind_some, if_pos cz0]⟩
  obtain ⟨hl1_0, hl1_3, hl1_4, hl1_5⟩ := fz0 (by omega)
  obtain ⟨Kt1, et1⟩ := laws_toProof.ev l1_0 a1_1 a1_2 l1_3 l1_4 l1_5 hl1_0 hl1_3 hl1_4 hl1_5
  have il1_0 := LL_map (fun x hx => M50_cv hx) hl1_0
  obtain ⟨Ke1, ee1⟩ := laws_eqProof.refl (l1_0.map cv50) a1_1 a1_2 l1_3 l1_4 l1_5 il1_0 hl1_3 hl1_4 hl1_5
  have u1_0 : ∀ x ∈ l1_0.map cv50, ∀ y ∈ x.f5.f3, U8 y := fun x hx => by obtain ⟨y, hy, rfl⟩ := List.mem_map.1 hx; exact (wl1_0.2 y hy).2.2.2.2.2.2.2.2.1.2
  obtain ⟨Ks, es⟩ := spec_ProofOk.ev a0_0 a0_1 a0_2 a0_3 a0_4 (l1_0.map cv50) a1_1 a1_2 l1_3 l1_4 l1_5 wa0_0 il1_0 u1_0 wl1_4.2 hl1_4 hl1_5.1
  obtain ⟨Ki, ei⟩ := impl_ProofOk.ev a0_0 a0_1 a0_2 a0_3 a0_4 (l1_0.map cv50) a1_1 a1_2 l1_3 l1_4 l1_5 wa0_0 il1_0 u1_0 wl1_4.2 hl1_4 hl1_5.1
  refine ⟨Kz0 + Kt1 + Ke1 + Ks + Ki + 5, ?_⟩
  simp only [laws_FnExactProofOk.f, ez0 (Kz0 + Kt1 + Ke1 + Ks + Ki + 5) (by omega), laws_toLimits.f, et1 (Kz0 + Kt1 + Ke1 + Ks + Ki + 5) (by omega), ee1 (Kz0 + Kt1 + Ke1 + Ks + Ki + 5) (by omega), es (Kz0 + Kt1 + Ke1 + Ks + Ki + 5) (by omega), ei (Kz0 + Kt1 + Ke1 + Ks + Ki + 5) (by omega), Option.bind_some, bne_self_eq_false, eq_self, if_true, if_false, Bool.false_eq_true, if_neg cz0]
end Go.Proofs.Ytniapflmmigbjaa.PFnExactProofOk
