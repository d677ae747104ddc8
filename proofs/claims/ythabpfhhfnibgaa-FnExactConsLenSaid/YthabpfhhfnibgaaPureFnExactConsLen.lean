/- What is left of the law FnExactConsLen when memory is gone: FnExactConsLen's answers over numbers and lists are what the reference's are. Condition: each number is an int, each byte is one. -/
import Derived.Test.YthabpfhhfnibgaaPFnExactConsLenx1
import Derived.Test.YthabpfhhfnibgaaOwn
import Derived.Test.YthabpfhhfnibgaaLib
set_option linter.unusedVariables false
set_option linter.unusedSimpArgs false
namespace Go.Proofs.Ythabpfhhfnibgaa.PFnExactConsLen
open Go.RowKit Go.Proofs.YthabpfhhfnibgaaW.PrintWords Go.Proofs.YthabpfhhfnibgaaW.PrintLast Go.Proofs.Ythabpfhhfnibgaa.Own Go.Proofs.Ythabpfhhfnibgaa.Lib
/-- The one pure statement. -/
def laws_FnExactConsLen.Pure_ : Prop := ∀ (a0 : Int) (a1 : Int), I64 a0 → I64 a1 → ∃ k, laws_FnExactConsLen.f k a0 a1 = some true

theorem spec_l01In.ev (a b c : Int) : spec_l01In.f a b c = some (inR a b c) := by
  unfold spec_l01In.f inR
  by_cases h : a ≥ b
  · rw [if_pos h, decide_eq_true (show b ≤ a from h), Bool.true_and]
  · rw [if_neg h, decide_eq_false (show ¬ b ≤ a from h), Bool.false_and]

theorem spec_l09In.ev (m n : Int) : spec_l09In.f m n = some (areSizes m n) := by
  unfold spec_l09In.f areSizes
  rw [spec_l01In.ev]
  by_cases h : n ≤ 1048576
  · rw [if_pos h, decide_eq_true h, Bool.and_true]; rfl
  · rw [if_neg h, decide_eq_false h, Bool.and_false]

/-- The greatest power of two below n: what the doubling loop comes to. -/
theorem spec_SplitAt.ev (n : Int) (hn : 2 ≤ n) (hm : n ≤ 1048576) : ∃ K : Nat, ∀ k : Nat, K ≤ k → spec_SplitAt.f k n = some (splitAt n) := by
  have h : ∀ (d : Nat) (x : Int), 1 ≤ x → x < n → n - x ≤ d → ∃ K : Nat, ∀ k : Nat, K ≤ k → spec_SplitAt.l0 k n x = some (splitGo d n x) := by
    intro d
    induction d with
    | zero => intro x h1 h2 h3; omega
    | succ d ih =>
      intro x h1 h2 h3
      have e1 : wrap64 (n - x) = n - x := wrap_id (by omega) (by omega)
      have e2 : wrap64 (x * 2) = 2 * x := by rw [wrap_id (by omega) (by omega)]; omega
      have e3 : wrap64 (2 * x) = 2 * x := wrap_id (by omega) (by omega)
      by_cases c : x < n - x
      · obtain ⟨K, hK⟩ := ih (2 * x) (by omega) (by omega) (by omega)
        refine ⟨K + 1, fun k hk => ?_⟩
        obtain ⟨m, rfl⟩ : ∃ m, k = m + 1 := ⟨k - 1, by omega⟩
        simp only [spec_SplitAt.l0, e1]
        rw [if_pos c, splitGo, if_pos c]
        first | rw [e2, hK m (by omega)] | rw [e3, hK m (by omega)]
      · refine ⟨1, fun k hk => ?_⟩
        obtain ⟨m, rfl⟩ : ∃ m, k = m + 1 := ⟨k - 1, by omega⟩
        simp only [spec_SplitAt.l0, e1]
        rw [if_neg c, splitGo, if_neg c]
  obtain ⟨K, hK⟩ := h n.toNat 1 (by omega) (by omega) (by omega)
  refine ⟨K, fun k hk => ?_⟩
  unfold spec_SplitAt.f splitAt
  rw [if_neg (by omega)]
  exact hK k hk

theorem spec_l09Len.ev : ∀ (d : Nat) (m n : Int) (b : Bool), n ≤ d → 1 ≤ m → m ≤ n → n ≤ 1048576 → ∃ K : Nat, ∀ k : Nat, K ≤ k → spec_l09Len.f k m n b = some (consLen d m n b) := by
  intro d
  induction d with
  | zero => intro m n b h1 h2 h3; omega
  | succ d ih =>
    intro m n b h1 h2 h3 h4
    by_cases c : m = n
    · refine ⟨1, fun k hk => ?_⟩
      obtain ⟨j, rfl⟩ : ∃ j, k = j + 1 := ⟨k - 1, by omega⟩
      simp only [spec_l09Len.f]
      rw [if_pos c, consLen, if_pos c]
      cases b <;> rfl
    · obtain ⟨K1, hK1⟩ := spec_SplitAt.ev n (by omega) h4
      have hs := splitAt_bd n (by omega)
      by_cases c2 : m ≤ splitAt n
      · obtain ⟨K2, hK2⟩ := ih m (splitAt n) b (by omega) h2 c2 (by omega)
        have hb := consLen_bd d m (splitAt n) b
        have hc := consLen_le d m (splitAt n) b h2 c2
        refine ⟨K1 + K2 + 1, fun k hk => ?_⟩
        obtain ⟨j, rfl⟩ : ∃ j, k = j + 1 := ⟨k - 1, by omega⟩
        simp only [spec_l09Len.f]
        rw [if_neg c, hK1 j (by omega), Option.bind_some, if_pos c2, hK2 j (by omega), Option.bind_some, consLen, if_neg c, if_pos c2]
        rw [wrap_id (by omega) (by omega)]
      · obtain ⟨K2, hK2⟩ := ih (m - splitAt n) (n - splitAt n) false (by omega) (by omega) (by omega) (by omega)
        have hb := consLen_bd d (m - splitAt n) (n - splitAt n) false
        have hc := consLen_le d (m - splitAt n) (n - splitAt n) false (by omega) (by omega)
        refine ⟨K1 + K2 + 1, fun k hk => ?_⟩
        obtain ⟨j, rfl⟩ : ∃ j, k = j + 1 := ⟨k - 1, by omega⟩
        simp only [spec_l09Len.f]
        rw [if_neg c, hK1 j (by omega), Option.bind_some, if_neg c2, wrap_id (a := m - splitAt n) (by omega) (by omega), wrap_id (a := n - splitAt n) (by omega) (by omega), hK2 j (by omega), Option.bind_some, consLen, if_neg c, if_neg c2]
        rw [wrap_id (by omega) (by omega)]

theorem spec_ConsLen.ev (m n : Int) : ∃ K : Nat, ∀ k : Nat, K ≤ k → spec_ConsLen.f k m n = some (consLenTop m n) := by
  by_cases c : areSizes m n = true
  · obtain ⟨c1, c2, c3⟩ := areSizes_iff.1 c
    obtain ⟨K, hK⟩ := spec_l09Len.ev n.toNat m n true (by omega) c1 c2 c3
    refine ⟨K, fun k hk => ?_⟩
    unfold spec_ConsLen.f consLenTop
    rw [spec_l09In.ev, Option.bind_some, if_pos c, hK k hk, if_pos c]
    rfl
  · refine ⟨0, fun k _ => ?_⟩
    unfold spec_ConsLen.f consLenTop
    rw [spec_l09In.ev, Option.bind_some, if_neg c, if_neg c]

theorem impl_within.ev (a b c : Int) : impl_within.f a b c = some (inR a b c) := by
  unfold impl_within.f inR
  by_cases h : b ≤ a
  · rw [if_pos h, decide_eq_true h, Bool.true_and]
  · rw [if_neg h, decide_eq_false h, Bool.false_and]

theorem impl_areSizes.ev (m n : Int) : impl_areSizes.f m n = some (areSizes m n) := by
  unfold impl_areSizes.f areSizes
  rw [impl_within.ev, Option.bind_some]
  exact and_if _ _

/-- The greatest power of two below n: what the doubling loop comes to. -/
theorem impl_SplitAt.ev (n : Int) (hn : 2 ≤ n) (hm : n ≤ 1048576) : ∃ K : Nat, ∀ k : Nat, K ≤ k → impl_SplitAt.f k n = some (splitAt n) := by
  have h : ∀ (d : Nat) (x : Int), 1 ≤ x → x < n → n - x ≤ d → ∃ K : Nat, ∀ k : Nat, K ≤ k → impl_SplitAt.l0 k n x = some (splitGo d n x) := by
    intro d
    induction d with
    | zero => intro x h1 h2 h3; omega
    | succ d ih =>
      intro x h1 h2 h3
      have e1 : wrap64 (n - x) = n - x := wrap_id (by omega) (by omega)
      have e2 : wrap64 (x * 2) = 2 * x := by rw [wrap_id (by omega) (by omega)]; omega
      have e3 : wrap64 (2 * x) = 2 * x := wrap_id (by omega) (by omega)
      by_cases c : x < n - x
      · obtain ⟨K, hK⟩ := ih (2 * x) (by omega) (by omega) (by omega)
        refine ⟨K + 1, fun k hk => ?_⟩
        obtain ⟨m, rfl⟩ : ∃ m, k = m + 1 := ⟨k - 1, by omega⟩
        simp only [impl_SplitAt.l0, e1]
        rw [if_pos c, splitGo, if_pos c]
        first | rw [e2, hK m (by omega)] | rw [e3, hK m (by omega)]
      · refine ⟨1, fun k hk => ?_⟩
        obtain ⟨m, rfl⟩ : ∃ m, k = m + 1 := ⟨k - 1, by omega⟩
        simp only [impl_SplitAt.l0, e1]
        rw [if_neg c, splitGo, if_neg c]
  obtain ⟨K, hK⟩ := h n.toNat 1 (by omega) (by omega) (by omega)
  refine ⟨K, fun k hk => ?_⟩
  unfold impl_SplitAt.f splitAt
  rw [if_neg (by omega)]
  exact hK k hk

theorem impl_consLen.ev : ∀ (d : Nat) (m n : Int) (b : Bool), n ≤ d → 1 ≤ m → m ≤ n → n ≤ 1048576 → ∃ K : Nat, ∀ k : Nat, K ≤ k → impl_consLen.f k m n b = some (consLen d m n b) := by
  intro d
  induction d with
  | zero => intro m n b h1 h2 h3; omega
  | succ d ih =>
    intro m n b h1 h2 h3 h4
    by_cases c : m = n
    · refine ⟨1, fun k hk => ?_⟩
      obtain ⟨j, rfl⟩ : ∃ j, k = j + 1 := ⟨k - 1, by omega⟩
      simp only [impl_consLen.f]
      rw [if_pos c, consLen, if_pos c]
      cases b <;> rfl
    · obtain ⟨K1, hK1⟩ := impl_SplitAt.ev n (by omega) h4
      have hs := splitAt_bd n (by omega)
      by_cases c2 : m ≤ splitAt n
      · obtain ⟨K2, hK2⟩ := ih m (splitAt n) b (by omega) h2 c2 (by omega)
        have hb := consLen_bd d m (splitAt n) b
        have hc := consLen_le d m (splitAt n) b h2 c2
        refine ⟨K1 + K2 + 1, fun k hk => ?_⟩
        obtain ⟨j, rfl⟩ : ∃ j, k = j + 1 := ⟨k - 1, by omega⟩
        simp only [impl_consLen.f]
        rw [if_neg c, hK1 j (by omega), Option.bind_some, if_pos c2, hK2 j (by omega), Option.bind_some, consLen, if_neg c, if_pos c2]
        rw [wrap_id (by omega) (by omega)]
      · obtain ⟨K2, hK2⟩ := ih (m - splitAt n) (n - splitAt n) false (by omega) (by omega) (by omega) (by omega)
        have hb := consLen_bd d (m - splitAt n) (n - splitAt n) false
        have hc := consLen_le d (m - splitAt n) (n - splitAt n) false (by omega) (by omega)
        refine ⟨K1 + K2 + 1, fun k hk => ?_⟩
        obtain ⟨j, rfl⟩ : ∃ j, k = j + 1 := ⟨k - 1, by omega⟩
        simp only [impl_consLen.f]
        rw [if_neg c, hK1 j (by omega), Option.bind_some, if_neg c2, wrap_id (a := m - splitAt n) (by omega) (by omega), wrap_id (a := n - splitAt n) (by omega) (by omega), hK2 j (by omega), Option.bind_some, consLen, if_neg c, if_neg c2]
        rw [wrap_id (by omega) (by omega)]

theorem impl_ConsLen.ev (m n : Int) : ∃ K : Nat, ∀ k : Nat, K ≤ k → impl_ConsLen.f k m n = some (consLenTop m n) := by
  by_cases c : areSizes m n = true
  · obtain ⟨c1, c2, c3⟩ := areSizes_iff.1 c
    obtain ⟨K, hK⟩ := impl_consLen.ev n.toNat m n true (by omega) c1 c2 c3
    refine ⟨K, fun k hk => ?_⟩
    unfold impl_ConsLen.f consLenTop
    rw [impl_areSizes.ev, Option.bind_some, if_pos c, hK k hk, if_pos c]
    rfl
  · refine ⟨0, fun k _ => ?_⟩
    unfold impl_ConsLen.f consLenTop
    rw [impl_areSizes.ev, Option.bind_some, if_neg c, if_neg c]

theorem Pure_FnExactConsLen : laws_FnExactConsLen.Pure_ := by
  intro a0 a1 wa0 wa1
  obtain ⟨Ks, es⟩ := spec_ConsLen.ev a0 a1 
  obtain ⟨Ki, ei⟩ := impl_ConsLen.ev a0 a1 
  refine ⟨Ks + Ki + 5, ?_⟩
  simp only [laws_FnExactConsLen.f, es (Ks + Ki + 5) (by omega), ei (Ks + Ki + 5) (by omega), Option.bind_some, bne_self_eq_false, eq_self, if_true, if_false, Bool.false_eq_true]
end Go.Proofs.Ythabpfhhfnibgaa.PFnExactConsLen
