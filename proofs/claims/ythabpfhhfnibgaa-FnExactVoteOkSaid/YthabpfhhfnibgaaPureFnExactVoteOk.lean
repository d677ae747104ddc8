/- What is left of the law FnExactVoteOk when memory is gone: FnExactVoteOk's answers over numbers and lists are what the reference's are. Condition: each number is an int, each byte is one. -/
import Derived.Test.YthabpfhhfnibgaaPFnExactVoteOkx3
import Derived.Test.YthabpfhhfnibgaaOwn
import Derived.Test.YthabpfhhfnibgaaLib
set_option linter.unusedVariables false
set_option linter.unusedSimpArgs false
namespace Go.Proofs.Ythabpfhhfnibgaa.PFnExactVoteOk
open Go.RowKit Go.Proofs.YthabpfhhfnibgaaW.PrintWords Go.Proofs.YthabpfhhfnibgaaW.PrintLast Go.Proofs.Ythabpfhhfnibgaa.Own Go.Proofs.Ythabpfhhfnibgaa.Lib
/-- The one pure statement. -/
def laws_FnExactVoteOk.Pure_ : Prop := ∀ (a0_0 : Int) (a0_1 : Int) (a0_2 : Int) (a0_3 : Int) (a0_4 : Int) (a1_0 : Int) (a1_1 : Int) (l1_2 : (List Int)) (a1_3 : Int) (l1_4 : (List Int)), I64 a0_0 → I64 a0_1 → I64 a0_2 → I64 a0_3 → I64 a0_4 → I64 a1_0 → I64 a1_1 → (WL U8) l1_2 → I64 a1_3 → (WL U8) l1_4 → ∃ k, laws_FnExactVoteOk.f k a0_0 a0_1 a0_2 a0_3 a0_4 a1_0 a1_1 l1_2 a1_3 l1_4 = some true

theorem laws_szByteS.ev (l : List Int) (left : Int) (hl : l.length ≤ 9223372036854775807) (h0 : 0 ≤ left) (h1 : left ≤ 1048576) :
    ∃ r, laws_szByteS.f l left = some r ∧ r ≤ left ∧ (0 ≤ r → Lim l) := by
  unfold laws_szByteS.f Lim
  have hw : wrap64 (left - (l.length : Int)) = left - (l.length : Int) := wrap_id (by omega) (by omega)
  rw [hw]
  by_cases c : left - (l.length : Int) < 0
  · rw [if_pos c]; exact ⟨-1, rfl, by omega, fun h => by omega⟩
  · rw [if_neg c]; exact ⟨_, rfl, by omega, fun _ => by omega⟩

theorem laws_szVote.ev (a0 : Int) (a1 : Int) (l2 : (List Int)) (a3 : Int) (l4 : (List Int)) (left : Int) (wl2 : (WL U8) l2) (wl4 : (WL U8) l4) (h0 : 0 ≤ left) (h1 : left ≤ 1048576) :
    ∃ r, (∃ K : Nat, ∀ k : Nat, K ≤ k → laws_szVote.f a0 a1 l2 a3 l4 left = some r) ∧ r ≤ left ∧ (0 ≤ r → Lim l2 ∧ Lim l4) := by
  obtain ⟨r0, e0, b0, f0⟩ := laws_szByteS.ev l2 left (wl2.1) h0 h1
  by_cases c0 : r0 < 0
  · exact ⟨-1, ⟨0, fun k hk => by simp only [laws_szVote.f, e0, Option.bind_some, if_pos c0]⟩, by omega, fun h => by omega⟩
  obtain ⟨r1, e1, b1, f1⟩ := laws_szByteS.ev l4 r0 (wl4.1) (by omega) (by omega)
  by_cases c1 : r1 < 0
  · exact ⟨-1, ⟨0, fun k hk => by simp only [laws_szVote.f, e0, e1, Option.bind_some, if_neg c0, if_pos c1]⟩, by omega, fun h => by omega⟩
  refine ⟨r1, ⟨0, fun k hk => by simp only [laws_szVote.f, e0, e1, Option.bind_some, if_neg c0, if_neg c1]⟩, by omega, fun h => ?_⟩
  exact ⟨f0 (by omega), f1 (by omega)⟩
theorem laws_toByteS.ev (l : List Int) (hl : Lim l) : ∃ K : Nat, ∀ k : Nat, K ≤ k → laws_toByteS.f k l = some l := by
  unfold Lim at hl
  have h : ∀ (d i : Nat) (m : List Int), i + d = l.length → m.length = l.length → m.take i = l.take i → ∃ K : Nat, ∀ k : Nat, K ≤ k → laws_toByteS.l0 k l m (i : Int) = some l := by
    intro d
    induction d with
    | zero =>
      intro i m hd h1 h2
      refine ⟨1, fun k hk => ?_⟩
      obtain ⟨n, rfl⟩ : ∃ n, k = n + 1 := ⟨k - 1, by omega⟩
      simp only [laws_toByteS.l0]
      rw [if_neg (by omega)]
      obtain rfl : i = l.length := by omega
      rw [take_all h1 h2]
    | succ d ih =>
      intro i m hd h1 h2
      have hlt : i < l.length := by omega
      have hx : l[i]? = some l[i] := List.getElem?_eq_getElem hlt
      obtain ⟨K, hK⟩ := ih (i + 1) (m.set i l[i]) (by omega) (by simpa using h1) (set_take h1 hx h2)
      refine ⟨K + 1, fun k hk => ?_⟩
      obtain ⟨n, rfl⟩ : ∃ n, k = n + 1 := ⟨k - 1, by omega⟩
      simp only [laws_toByteS.l0]
      rw [if_pos (by omega), if_pos (by omega), if_pos (by omega), rd_at hx, wrap_succ (by omega), Int.toNat_natCast]
      exact hK n (by omega)
  obtain ⟨K, hK⟩ := h l.length 0 (List.replicate l.length 0) (by omega) (by simp) (by simp)
  refine ⟨K, fun k hk => ?_⟩
  unfold laws_toByteS.f
  rw [if_pos (by omega), if_pos (by simp; omega), Int.toNat_natCast]
  exact hK k hk

theorem laws_toVote.ev (a0 : Int) (a1 : Int) (l2 : (List Int)) (a3 : Int) (l4 : (List Int)) (hl2 : Lim l2) (hl4 : Lim l4) : ∃ K : Nat, ∀ k : Nat, K ≤ k → laws_toVote.f k a0 a1 l2 a3 l4 = some (a0, a1, l2, a3, l4) := by
  obtain ⟨K0, e0⟩ := laws_toByteS.ev l2 hl2
  obtain ⟨K1, e1⟩ := laws_toByteS.ev l4 hl4
  exact ⟨K0 + K1, fun k hk => by simp only [laws_toVote.f, e0 k (by omega), e1 k (by omega), Option.bind_some]⟩
theorem laws_eqByteS.refl (l : List Int) (hl : l.length ≤ 9223372036854775806) : ∃ K : Nat, ∀ k : Nat, K ≤ k → laws_eqByteS.f k l l = some true := by
  have h : ∀ (d i : Nat), i + d = l.length → ∃ K : Nat, ∀ k : Nat, K ≤ k → laws_eqByteS.l0 k l l (i : Int) = some true := by
    intro d
    induction d with
    | zero =>
      intro i hd
      refine ⟨1, fun k hk => ?_⟩
      obtain ⟨n, rfl⟩ : ∃ n, k = n + 1 := ⟨k - 1, by omega⟩
      simp only [laws_eqByteS.l0]
      rw [if_neg (by omega)]
    | succ d ih =>
      intro i hd
      obtain ⟨K, hK⟩ := ih (i + 1) (by omega)
      refine ⟨K + 1, fun k hk => ?_⟩
      obtain ⟨n, rfl⟩ : ∃ n, k = n + 1 := ⟨k - 1, by omega⟩
      simp only [laws_eqByteS.l0]
      rw [if_pos (by omega), if_pos (by omega), if_pos (by omega), if_pos trivial, wrap_succ (by omega)]
      exact hK n (by omega)
  obtain ⟨K, hK⟩ := h l.length 0 (by omega)
  refine ⟨K, fun k hk => ?_⟩
  unfold laws_eqByteS.f
  rw [if_pos rfl]
  exact hK k hk

theorem laws_eqVote.refl (a0 : Int) (a1 : Int) (l2 : (List Int)) (a3 : Int) (l4 : (List Int)) (hl2 : Lim l2) (hl4 : Lim l4) : ∃ K : Nat, ∀ k : Nat, K ≤ k → laws_eqVote.f k a0 a1 l2 a3 l4 a0 a1 l2 a3 l4 = some true := by
  obtain ⟨K0, e0⟩ := laws_eqByteS.refl l2 (by unfold Lim at hl2; omega)
  obtain ⟨K1, e1⟩ := laws_eqByteS.refl l4 (by unfold Lim at hl4; omega)
  exact ⟨K0 + K1, fun k hk => by simp only [laws_eqVote.f, eq_self, if_true, e0 k (by omega), e1 k (by omega), Option.bind_some]⟩
theorem spec_l01In.ev (a b c : Int) : spec_l01In.f a b c = some (inR a b c) := by
  unfold spec_l01In.f inR
  by_cases h : a ≥ b
  · rw [if_pos h, decide_eq_true (show b ≤ a from h), Bool.true_and]
  · rw [if_neg h, decide_eq_false (show ¬ b ≤ a from h), Bool.false_and]

theorem spec_l02Signers.ev (a : Int) : spec_l02Signers.f a = some (inR a 1 10) := by unfold spec_l02Signers.f; rw [spec_l01In.ev]; rfl

theorem spec_LimitsOk.eq (a0 a1 a2 a3 a4 : Int) : spec_LimitsOk.f a0 a1 a2 a3 a4 = some (limitsOk a0 a1 a2 a3 a4) := by
  unfold spec_LimitsOk.f limitsOk
  simp only [spec_l01In.ev, spec_l02Signers.ev, Option.bind_some]
  cases inR a0 1 10 <;> cases inR a1 0 40 <;> cases inR a2 0 8 <;> cases inR a3 1 4000 <;> rfl
theorem spec_LimitsOk.ev (a0 a1 a2 a3 a4 : Int) : ∃ K : Nat, ∀ k : Nat, K ≤ k → spec_LimitsOk.f a0 a1 a2 a3 a4 = some (limitsOk a0 a1 a2 a3 a4) := ⟨0, fun _ _ => spec_LimitsOk.eq ..⟩

theorem spec_l01Num.ev (a : Int) : spec_l01Num.f a = some (isNum a) := by unfold spec_l01Num.f; rw [spec_l01In.ev]; rfl

theorem spec_l07Hash.ev (l : List Int) : spec_l07Hash.f l = some (isHash l) := by
  unfold spec_l07Hash.f isHash
  by_cases h : l.length = 32
  · rw [decide_eq_true h]; simp [h]
  · rw [decide_eq_false h]; simp; omega

theorem spec_VoteOk.ev (a0 a1 a2 a3 a4 : Int) (b0 b1 : Int) (l2 : List Int) (b3 : Int) (l4 : List Int) :
    ∃ K : Nat, ∀ k : Nat, K ≤ k → spec_VoteOk.f a0 a1 a2 a3 a4 b0 b1 l2 b3 l4 = some (voteOk a0 a1 a2 a3 a4 b0 b1 l2 b3 l4) := by
  refine ⟨0, fun k _ => ?_⟩
  unfold spec_VoteOk.f voteOk
  simp only [spec_LimitsOk.eq, spec_l01Num.ev, spec_l07Hash.ev, spec_l01In.ev, Option.bind_some]
  cases limitsOk a0 a1 a2 a3 a4 <;> cases isNum b0 <;> cases isNum b1 <;> cases isHash l2 <;> cases isHash l4 <;> rfl

theorem impl_within.ev (a b c : Int) : impl_within.f a b c = some (inR a b c) := by
  unfold impl_within.f inR
  by_cases h : b ≤ a
  · rw [if_pos h, decide_eq_true h, Bool.true_and]
  · rw [if_neg h, decide_eq_false h, Bool.false_and]

theorem impl_LimitsOk.eq (a0 a1 a2 a3 a4 : Int) : impl_LimitsOk.f a0 a1 a2 a3 a4 = some (limitsOk a0 a1 a2 a3 a4) := by
  unfold impl_LimitsOk.f limitsOk
  simp only [impl_within.ev, Option.bind_some]
  cases inR a0 1 10 <;> cases inR a1 0 40 <;> cases inR a2 0 8 <;> cases inR a3 1 4000 <;> rfl
theorem impl_LimitsOk.ev (a0 a1 a2 a3 a4 : Int) : ∃ K : Nat, ∀ k : Nat, K ≤ k → impl_LimitsOk.f a0 a1 a2 a3 a4 = some (limitsOk a0 a1 a2 a3 a4) := ⟨0, fun _ _ => impl_LimitsOk.eq ..⟩

theorem impl_isNum.ev (a : Int) : impl_isNum.f a = some (isNum a) := by unfold impl_isNum.f; rw [impl_within.ev]; rfl

theorem impl_areHashes.ev (l : List (List Int)) (hl : l.length ≤ 9223372036854775806) : ∃ K : Nat, ∀ k : Nat, K ≤ k → impl_areHashes.f k l = some (l.all isHash) := by
  have h : ∀ (d i : Nat), i + d = l.length → ∃ K : Nat, ∀ k : Nat, K ≤ k → impl_areHashes.l0 k l (l.length : Int) (i : Int) = some ((l.drop i).all isHash) := by
    intro d
    induction d with
    | zero =>
      intro i hd
      refine ⟨1, fun k hk => ?_⟩
      obtain ⟨n, rfl⟩ : ∃ n, k = n + 1 := ⟨k - 1, by omega⟩
      simp only [impl_areHashes.l0]
      rw [if_neg (by omega), List.drop_of_length_le (by omega)]
      rfl
    | succ d ih =>
      intro i hd
      have hla : i < l.length := by omega
      have ra : rd_L1 l (i : Int) = l[i] := getD_at (List.getElem?_eq_getElem hla)
      obtain ⟨K, hK⟩ := ih (i + 1) (by omega)
      refine ⟨K + 1, fun k hk => ?_⟩
      obtain ⟨n, rfl⟩ : ∃ n, k = n + 1 := ⟨k - 1, by omega⟩
      simp only [impl_areHashes.l0]
      rw [if_pos (by omega), if_pos (by omega), if_pos (by omega), ra, List.drop_eq_getElem_cons hla, List.all_cons, wrap_succ (by omega), hK n (by omega)]
      by_cases c : l[i].length = 32
      · rw [if_pos (by omega), isHash, decide_eq_true c, Bool.true_and]
      · rw [if_neg (by omega), isHash, decide_eq_false c, Bool.false_and]
  obtain ⟨K, hK⟩ := h l.length 0 (by omega)
  refine ⟨K, fun k hk => ?_⟩
  unfold impl_areHashes.f
  simpa using hK k hk

theorem impl_VoteOk.ev (a0 a1 a2 a3 a4 : Int) (b0 b1 : Int) (l2 : List Int) (b3 : Int) (l4 : List Int) :
    ∃ K : Nat, ∀ k : Nat, K ≤ k → impl_VoteOk.f k a0 a1 a2 a3 a4 b0 b1 l2 b3 l4 = some (voteOk a0 a1 a2 a3 a4 b0 b1 l2 b3 l4) := by
  obtain ⟨K, hK⟩ := impl_areHashes.ev [l2, l4] (by simp)
  refine ⟨K, fun k hk => ?_⟩
  unfold impl_VoteOk.f voteOk
  simp only [impl_LimitsOk.eq, impl_isNum.ev, hK k hk, impl_within.ev, Option.bind_some, List.all_cons, List.all_nil, Bool.and_true]
  cases limitsOk a0 a1 a2 a3 a4 <;> cases isNum b0 <;> cases isNum b1 <;> cases isHash l2 <;> cases isHash l4 <;> rfl

theorem Pure_FnExactVoteOk : laws_FnExactVoteOk.Pure_ := by
  intro a0_0 a0_1 a0_2 a0_3 a0_4 a1_0 a1_1 l1_2 a1_3 l1_4 wa0_0 wa0_1 wa0_2 wa0_3 wa0_4 wa1_0 wa1_1 wl1_2 wa1_3 wl1_4
  obtain ⟨r0, ⟨Kz0, ez0⟩, bz0, fz0⟩ := laws_szVote.ev a1_0 a1_1 l1_2 a1_3 l1_4 1048576 wl1_2 wl1_4 (by omega) (by omega)
  by_cases cz0 : r0 < 0
  · exact ⟨Kz0, by simp only [laws_FnExactVoteOk.f, ez0 (Kz0) (by omega), Option.bind_some, if_pos cz0]⟩
  obtain ⟨hl1_2, hl1_4⟩ := fz0 (by omega)
  obtain ⟨Kt1, et1⟩ := laws_toVote.ev a1_0 a1_1 l1_2 a1_3 l1_4 hl1_2 hl1_4
  obtain ⟨Ke1, ee1⟩ := laws_eqVote.refl a1_0 a1_1 l1_2 a1_3 l1_4 hl1_2 hl1_4
  obtain ⟨Ks, es⟩ := spec_VoteOk.ev a0_0 a0_1 a0_2 a0_3 a0_4 a1_0 a1_1 l1_2 a1_3 l1_4 
  obtain ⟨Ki, ei⟩ := impl_VoteOk.ev a0_0 a0_1 a0_2 a0_3 a0_4 a1_0 a1_1 l1_2 a1_3 l1_4 
  refine ⟨Kz0 + Kt1 + Ke1 + Ks + Ki + 5, ?_⟩
  simp only [laws_FnExactVoteOk.f, ez0 (Kz0 + Kt1 + Ke1 + Ks + Ki + 5) (by omega), laws_toLimits.f, et1 (Kz0 + Kt1 + Ke1 + Ks + Ki + 5) (by omega), ee1 (Kz0 + Kt1 + Ke1 + Ks + Ki + 5) (by omega), es (Kz0 + Kt1 + Ke1 + Ks + Ki + 5) (by omega), ei (Kz0 + Kt1 + Ke1 + Ks + Ki + 5) (by omega), Option.bind_some, bne_self_eq_false, eq_self, if_true, if_false, Bool.false_eq_true, if_neg cz0]
end Go.Proofs.Ythabpfhhfnibgaa.PFnExactVoteOk
