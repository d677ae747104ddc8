/- What is left of the law FnExactVoteSame when memory is gone: FnExactVoteSame's answers over numbers and lists are what the reference's are. Condition: each number is an int, each byte is one. -/
import Derived.Test.YthabpfhhfnibgaaPFnExactVoteSamex2
import Derived.Test.YthabpfhhfnibgaaOwn
import Derived.Test.YthabpfhhfnibgaaLib
set_option linter.unusedVariables false
set_option linter.unusedSimpArgs false
namespace Go.Proofs.Ythabpfhhfnibgaa.PFnExactVoteSame
open Go.RowKit Go.Proofs.YthabpfhhfnibgaaW.PrintWords Go.Proofs.YthabpfhhfnibgaaW.PrintLast Go.Proofs.Ythabpfhhfnibgaa.Own Go.Proofs.Ythabpfhhfnibgaa.Lib
/-- The one pure statement. -/
def laws_FnExactVoteSame.Pure_ : Prop := ∀ (a0_0 : Int) (a0_1 : Int) (l0_2 : (List Int)) (a0_3 : Int) (l0_4 : (List Int)) (a1_0 : Int) (a1_1 : Int) (l1_2 : (List Int)) (a1_3 : Int) (l1_4 : (List Int)), I64 a0_0 → I64 a0_1 → (WL U8) l0_2 → I64 a0_3 → (WL U8) l0_4 → I64 a1_0 → I64 a1_1 → (WL U8) l1_2 → I64 a1_3 → (WL U8) l1_4 → ∃ k, laws_FnExactVoteSame.f k a0_0 a0_1 l0_2 a0_3 l0_4 a1_0 a1_1 l1_2 a1_3 l1_4 = some true

theorem laws_szByteS.ev (l : List Int) (left : Int) (hl : l.length ≤ 9223372036854775807) (h0 : 0 ≤ left) (h1 : left ≤ 1048576) :
    ∃ r, laws_szByteS.f l left = some r ∧ r ≤ left ∧ (0 ≤ r → Lim l) := by
  unfold laws_szByteS.f Lim
  have hw : wrap64 (left - (l.length : Int)) = left - (l.length : Int) := wrap_id (by omega) (by omega)
  rw [hw]
  by_cases c : left - (l.length : Int) < 0
  · rw [if_pos c]; exact ⟨-1, rfl, by omega, fun h => by omega⟩
  · rw [if_neg c]; exact ⟨_, rfl, by omega, fun _ => by omega⟩

theorem laws_szVote.ev (a0 : Int) (a1 : Int) (l2 : (List Int)) (a3 : Int) (l4 : (List Int)) (left : Int) (wl2 : (WL U8) l2) (wl4 : (WL U8) l4) (h0 : 0 ≤ left) (h1 : left ≤ 1048576) :
    ∃ r, (∃ K : Nat, ∀ k : Nat, K ≤ k → laws_szVote.f a0 a1 l2 a3 l4 left = some r) ∧ r ≤ left ∧ (0 ≤ r → Lim l2 ∧ Lim l4) := by
  obtain ⟨r0, e0, b0, f0⟩ := laws_szByteS.ev l2 left (wl2.1) h0 h1
  by_cases c0 : r0 < 0
  · exact ⟨-1, ⟨0, fun k hk => by simp only [laws_szVote.f, e0, Option.bind_some, if_pos c0]⟩, by omega, fun h => by omega⟩
  obtain ⟨r1, e1, b1, f1⟩ := laws_szByteS.ev l4 r0 (wl4.1) (by omega) (by omega)
  by_cases c1 : r1 < 0
  · exact ⟨-1, ⟨0, fun k hk => by simp only [laws_szVote.f, e0, e1, Option.bind_some, if_neg c0, if_pos c1]⟩, by omega, fun h => by omega⟩
  refine ⟨r1, ⟨0, fun k hk => by simp only [laws_szVote.f, e0, e1, Option.bind_some, if_neg c0, if_neg c1]⟩, by omega, fun h => ?_⟩
  exact ⟨f0 (by omega), f1 (by omega)⟩
theorem laws_toByteS.ev (l : List Int) (hl : Lim l) : ∃ K : Nat, ∀ k : Nat, K ≤ k → laws_toByteS.f k l = some l := by
  unfold Lim at hl
  have h : ∀ (d i : Nat) (m : List Int), i + d = l.length → m.length = l.length → m.take i = l.take i → ∃ K : Nat, ∀ k : Nat, K ≤ k → laws_toByteS.l0 k l m (i : Int) = some l := by
    intro d
    induction d with
    | zero =>
      intro i m hd h1 h2
      refine ⟨1, fun k hk => ?_⟩
      obtain ⟨n, rfl⟩ : ∃ n, k = n + 1 := ⟨k - 1, by omega⟩
      simp only [laws_toByteS.l0]
      rw [if_neg (by omega)]
      obtain rfl : i = l.length := by omega
      rw [take_all h1 h2]
    | succ d ih =>
      intro i m hd h1 h2
      have hlt : i < l.length := by omega
      have hx : l[i]? = some l[i] := List.getElem?_eq_getElem hlt
      obtain ⟨K, hK⟩ := ih (i + 1) (m.set i l[i]) (by omega) (by simpa using h1) (set_take h1 hx h2)
      refine ⟨K + 1, fun k hk => ?_⟩
      obtain ⟨n, rfl⟩ : ∃ n, k = n + 1 := ⟨k - 1, by omega⟩
      simp only [laws_toByteS.l0]
      rw [if_pos (by omega), if_pos (by omega), if_pos (by omega), rd_at hx, wrap_succ (by omega), Int.toNat_natCast]
      exact hK n (by omega)
  obtain ⟨K, hK⟩ := h l.length 0 (List.replicate l.length 0) (by omega) (by simp) (by simp)
  refine ⟨K, fun k hk => ?_⟩
  unfold laws_toByteS.f
  rw [if_pos (by omega), if_pos (by simp; omega), Int.toNat_natCast]
  exact hK k hk

theorem laws_toVote.ev (a0 : Int) (a1 : Int) (l2 : (List Int)) (a3 : Int) (l4 : (List Int)) (hl2 : Lim l2) (hl4 : Lim l4) : ∃ K : Nat, ∀ k : Nat, K ≤ k → laws_toVote.f k a0 a1 l2 a3 l4 = some (a0, a1, l2, a3, l4) := by
  obtain ⟨K0, e0⟩ := laws_toByteS.ev l2 hl2
  obtain ⟨K1, e1⟩ := laws_toByteS.ev l4 hl4
  exact ⟨K0 + K1, fun k hk => by simp only [laws_toVote.f, e0 k (by omega), e1 k (by omega), Option.bind_some]⟩
theorem laws_eqByteS.refl (l : List Int) (hl : l.length ≤ 9223372036854775806) : ∃ K : Nat, ∀ k : Nat, K ≤ k → laws_eqByteS.f k l l = some true := by
  have h : ∀ (d i : Nat), i + d = l.length → ∃ K : Nat, ∀ k : Nat, K ≤ k → laws_eqByteS.l0 k l l (i : Int) = some true := by
    intro d
    induction d with
    | zero =>
      intro i hd
      refine ⟨1, fun k hk => ?_⟩
      obtain ⟨n, rfl⟩ : ∃ n, k = n + 1 := ⟨k - 1, by omega⟩
      simp only [laws_eqByteS.l0]
      rw [if_neg (by omega)]
    | succ d ih =>
      intro i hd
      obtain ⟨K, hK⟩ := ih (i + 1) (by omega)
      refine ⟨K + 1, fun k hk => ?_⟩
      obtain ⟨n, rfl⟩ : ∃ n, k = n + 1 := ⟨k - 1, by omega⟩
      simp only [laws_eqByteS.l0]
      rw [if_pos (by omega), if_pos (by omega), if_pos (by omega), if_pos trivial, wrap_succ (by omega)]
      exact hK n (by omega)
  obtain ⟨K, hK⟩ := h l.length 0 (by omega)
  refine ⟨K, fun k hk => ?_⟩
  unfold laws_eqByteS.f
  rw [if_pos rfl]
  exact hK k hk

theorem laws_eqVote.refl (a0 : Int) (a1 : Int) (l2 : (List Int)) (a3 : Int) (l4 : (List Int)) (hl2 : Lim l2) (hl4 : Lim l4) : ∃ K : Nat, ∀ k : Nat, K ≤ k → laws_eqVote.f k a0 a1 l2 a3 l4 a0 a1 l2 a3 l4 = some true := by
  obtain ⟨K0, e0⟩ := laws_eqByteS.refl l2 (by unfold Lim at hl2; omega)
  obtain ⟨K1, e1⟩ := laws_eqByteS.refl l4 (by unfold Lim at hl4; omega)
  exact ⟨K0 + K1, fun k hk => by simp only [laws_eqVote.f, eq_self, if_true, e0 k (by omega), e1 k (by omega), Option.bind_some]⟩
theorem spec_SameBytes.ev (a b : List Int) : spec_SameBytes.f a b = some (sameB a b) := rfl

/-- Two votes, compared. -/
theorem spec_VoteSame.ev (a0 a1 : Int) (l2 : List Int) (a3 : Int) (l4 : List Int) (b0 b1 : Int) (m2 : List Int) (b3 : Int) (m4 : List Int) :
    ∃ K, ∀ k : Nat, K ≤ k → spec_VoteSame.f a0 a1 l2 a3 l4 b0 b1 m2 b3 m4 = some (voteSame a0 a1 l2 a3 l4 b0 b1 m2 b3 m4) := by
  refine ⟨0, fun k _ => ?_⟩
  unfold spec_VoteSame.f voteSame
  simp only [spec_SameBytes.ev, Option.bind_some]
  by_cases h0 : a0 = b0 <;> by_cases h1 : a1 = b1 <;> by_cases h3 : a3 = b3 <;> cases sameB l2 m2 <;> cases sameB l4 m4 <;> simp [h0, h1, h3]

theorem impl_SameBytes.ev (a b : List Int) : impl_SameBytes.f a b = some (sameB a b) := rfl

/-- Two votes, compared. -/
theorem impl_VoteSame.ev (a0 a1 : Int) (l2 : List Int) (a3 : Int) (l4 : List Int) (b0 b1 : Int) (m2 : List Int) (b3 : Int) (m4 : List Int) :
    ∃ K, ∀ k : Nat, K ≤ k → impl_VoteSame.f a0 a1 l2 a3 l4 b0 b1 m2 b3 m4 = some (voteSame a0 a1 l2 a3 l4 b0 b1 m2 b3 m4) := by
  refine ⟨0, fun k _ => ?_⟩
  unfold impl_VoteSame.f voteSame
  simp only [impl_SameBytes.ev, Option.bind_some]
  by_cases h0 : a0 = b0 <;> by_cases h1 : a1 = b1 <;> by_cases h3 : a3 = b3 <;> cases sameB l2 m2 <;> cases sameB l4 m4 <;> simp [h0, h1, h3]

theorem Pure_FnExactVoteSame : laws_FnExactVoteSame.Pure_ := by
  intro a0_0 a0_1 l0_2 a0_3 l0_4 a1_0 a1_1 l1_2 a1_3 l1_4 wa0_0 wa0_1 wl0_2 wa0_3 wl0_4 wa1_0 wa1_1 wl1_2 wa1_3 wl1_4
  obtain ⟨r0, ⟨Kz0, ez0⟩, bz0, fz0⟩ := laws_szVote.ev a0_0 a0_1 l0_2 a0_3 l0_4 1048576 wl0_2 wl0_4 (by omega) (by omega)
  by_cases cz0 : r0 < 0
  · exact ⟨Kz0, by simp only [laws_FnExactVoteSame.f, ez0 (Kz0) (by omega), Option.bind_some, if_pos cz0]⟩
  obtain ⟨hl0_2, hl0_4⟩ := fz0 (by omega)
  obtain ⟨r1, ⟨Kz1, ez1⟩, bz1, fz1⟩ := laws_szVote.ev a1_0 a1_1 l1_2 a1_3 l1_4 r0 wl1_2 wl1_4 (by omega) (by omega)
  by_cases cz1 : r1 < 0
  · exact ⟨Kz0 + Kz1, by simp only [laws_FnExactVoteSame.f, ez0 (Kz0 + Kz1) (by omega), ez1 (Kz0 + Kz1) (by omega), Option.bind_some, if_neg cz0, if_pos cz1]⟩
  obtain ⟨hl1_2, hl1_4⟩ := fz1 (by omega)
  obtain ⟨Kt0, et0⟩ := laws_toVote.ev a0_0 a0_1 l0_2 a0_3 l0_4 hl0_2 hl0_4
  obtain ⟨Ke0, ee0⟩ := laws_eqVote.refl a0_0 a0_1 l0_2 a0_3 l0_4 hl0_2 hl0_4
  obtain ⟨Kt1, et1⟩ := laws_toVote.ev a1_0 a1_1 l1_2 a1_3 l1_4 hl1_2 hl1_4
  obtain ⟨Ke1, ee1⟩ := laws_eqVote.refl a1_0 a1_1 l1_2 a1_3 l1_4 hl1_2 hl1_4
  obtain ⟨Ks, es⟩ := spec_VoteSame.ev a0_0 a0_1 l0_2 a0_3 l0_4 a1_0 a1_1 l1_2 a1_3 l1_4 
  obtain ⟨Ki, ei⟩ := impl_VoteSame.ev a0_0 a0_1 l0_2 a0_3 l0_4 a1_0 a1_1 l1_2 a1_3 l1_4 
  refine ⟨Kz0 + Kz1 + Kt0 + Ke0 + Kt1 + Ke1 + Ks + Ki + 5, ?_⟩
  simp only [laws_FnExactVoteSame.f, ez0 (Kz0 + Kz1 + Kt0 + Ke0 + Kt1 + Ke1 + Ks + Ki + 5) (by omega), ez1 (Kz0 + Kz1 + Kt0 + Ke0 + Kt1 + Ke1 + Ks + Ki + 5) (by omega), et0 (Kz0 + Kz1 + Kt0 + Ke0 + Kt1 + Ke1 + Ks + Ki + 5) (by omega), ee0 (Kz0 + Kz1 + Kt0 + Ke0 + Kt1 + Ke1 + Ks + Ki + 5) (by omega), et1 (Kz0 + Kz1 + Kt0 + Ke0 + Kt1 + Ke1 + Ks + Ki + 5) (by omega), ee1 (Kz0 + Kz1 + Kt0 + Ke0 + Kt1 + Ke1 + Ks + Ki + 5) (by omega), es (Kz0 + Kz1 + Kt0 + Ke0 + Kt1 + Ke1 + Ks + Ki + 5) (by omega), ei (Kz0 + Kz1 + Kt0 + Ke0 + Kt1 + Ke1 + Ks + Ki + 5) (by omega), Option.bind_some, bne_self_eq_false, eq_self, if_true, if_false, Bool.false_eq_true, if_neg cz0, if_neg cz1]
end Go.Proofs.Ythabpfhhfnibgaa.PFnExactVoteSame
