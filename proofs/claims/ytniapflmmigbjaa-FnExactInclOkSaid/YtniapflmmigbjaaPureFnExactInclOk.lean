/- What is left of the law FnExactInclOk when memory is gone: FnExactInclOk's answers over numbers and lists are what the reference's are. Condition: each number is an int, each byte is one. -/
import Derived.Test.YtniapflmmigbjaaPFnExactInclOkx6
import Derived.Test.YtniapflmmigbjaaOwn
import Derived.Test.YtniapflmmigbjaaLib
set_option linter.unusedVariables false
set_option linter.unusedSimpArgs false
namespace Go.Proofs.Ytniapflmmigbjaa.PFnExactInclOk
open Go.RowKit Go.Proofs.YtniapflmmigbjaaW.PrintWords Go.Proofs.YtniapflmmigbjaaW.PrintLast Go.Proofs.Ytniapflmmigbjaa.Own Go.Proofs.Ytniapflmmigbjaa.Lib
/-- The one pure statement. -/
def laws_FnExactInclOk.Pure_ : Prop := ∀ (a0_0 : Int) (a0_1 : Int) (a0_2 : Int) (a0_3 : Int) (a0_4 : Int) (a1_0 : Int) (a1_1 : Int) (a1_2 : Int) (l1_3 : (List Int)) (l1_4 : (List (List Int))), I64 a0_0 → I64 a0_1 → I64 a0_2 → I64 a0_3 → I64 a0_4 → I64 a1_0 → I64 a1_1 → I64 a1_2 → (WL U8) l1_3 → (WL (WL U8)) l1_4 → ∃ k, laws_FnExactInclOk.f k a0_0 a0_1 a0_2 a0_3 a0_4 a1_0 a1_1 a1_2 l1_3 l1_4 = some true

theorem laws_szByteS.ev (l : List Int) (left : Int) (hl : l.length ≤ 9223372036854775807) (h0 : 0 ≤ left) (h1 : left ≤ 1048576) :
    ∃ r, laws_szByteS.f l left = some r ∧ r ≤ left ∧ (0 ≤ r → Lim l) := by
  unfold laws_szByteS.f Lim
  have hw : wrap64 (left - (l.length : Int)) = left - (l.length : Int) := wrap_id (by omega) (by omega)
  rw [hw]
  by_cases c : left - (l.length : Int) < 0
  · rw [if_pos c]; exact ⟨-1, rfl, by omega, fun h => by omega⟩
  · rw [if_neg c]; exact ⟨_, rfl, by omega, fun _ => by omega⟩

theorem laws_szByteSS.ev_l (l : List (List Int)) (hl : WL Bs l) : ∀ (d i : Nat) (left : Int), i + d = l.length → 0 ≤ left → left ≤ 1048576 →
    ∃ r, (∃ K : Nat, ∀ k : Nat, K ≤ k → laws_szByteSS.l0 k l left (i : Int) = some r) ∧ r ≤ left ∧ (0 ≤ r → ∀ x ∈ l.drop i, Lim x) := by
  intro d
  induction d with
  | zero =>
    intro i left hd h0 h1
    refine ⟨left, ⟨1, fun k hk => ?_⟩, by omega, fun _ x hx => by rw [List.drop_of_length_le (by omega)] at hx; cases hx⟩
    obtain ⟨m, rfl⟩ : ∃ m, k = m + 1 := ⟨k - 1, by omega⟩
    simp only [laws_szByteSS.l0]
    rw [if_neg (by omega)]
  | succ d ih =>
    intro i left hd h0 h1
    have hlt : i < l.length := by omega
    have hx : l[i]? = some l[i] := List.getElem?_eq_getElem hlt
    obtain ⟨r1, e1, b1, f1⟩ := laws_szByteS.ev l[i] left (hl.2 _ (mem_at hx)).1 h0 h1
    have hr : rd_L1 l (i : Int) = l[i] := getD_at hx
    by_cases c : r1 < 0
    · refine ⟨-1, ⟨1, fun k hk => ?_⟩, by omega, fun h => by omega⟩
      obtain ⟨m, rfl⟩ : ∃ m, k = m + 1 := ⟨k - 1, by omega⟩
      simp only [laws_szByteSS.l0]
      rw [if_pos (by omega), if_pos (by omega), hr, e1, Option.bind_some, if_pos c]
    · obtain ⟨r, ⟨K, hK⟩, br, fr⟩ := ih (i + 1) r1 (by omega) (by omega) (by omega)
      refine ⟨r, ⟨K + 1, fun k hk => ?_⟩, by omega, fun h x hx' => ?_⟩
      · obtain ⟨m, rfl⟩ : ∃ m, k = m + 1 := ⟨k - 1, by omega⟩
        simp only [laws_szByteSS.l0]
        rw [if_pos (by omega), if_pos (by omega), hr, e1, Option.bind_some, if_neg c, wrap_succ (by have := hl.1; omega)]
        exact hK m (by omega)
      · rw [List.drop_eq_getElem_cons hlt] at hx'
        rcases List.mem_cons.1 hx' with rfl | hx'
        · exact f1 (by omega)
        · exact fr h x hx'
theorem laws_szByteSS.ev (l : List (List Int)) (left : Int) (hl : WL Bs l) (h0 : 0 ≤ left) (h1 : left ≤ 1048576) :
    ∃ r, (∃ K : Nat, ∀ k : Nat, K ≤ k → laws_szByteSS.f k l left = some r) ∧ r ≤ left ∧ (0 ≤ r → LL Lim l) := by
  have hw : wrap64 (left - (l.length : Int)) = left - (l.length : Int) := wrap_id (by have := hl.1; omega) (by omega)
  by_cases c : left - (l.length : Int) < 0
  · exact ⟨-1, ⟨0, fun k _ => by unfold laws_szByteSS.f; rw [hw, if_pos c]⟩, by omega, fun h => by omega⟩
  · obtain ⟨r, ⟨K, hK⟩, br, fr⟩ := laws_szByteSS.ev_l l hl l.length 0 (left - (l.length : Int)) (by omega) (by omega) (by omega)
    exact ⟨r, ⟨K, fun k hk => by unfold laws_szByteSS.f; rw [hw, if_neg c]; exact hK k hk⟩, by omega, fun h => ⟨by omega, fun x hx => fr h x (by simpa using hx)⟩⟩

theorem laws_szIncl.ev (a0 : Int) (a1 : Int) (a2 : Int) (l3 : (List Int)) (l4 : (List (List Int))) (left : Int) (wl3 : (WL U8) l3) (wl4 : (WL (WL U8)) l4) (h0 : 0 ≤ left) (h1 : left ≤ 1048576) :
    ∃ r, (∃ K : Nat, ∀ k : Nat, K ≤ k → laws_szIncl.f k a0 a1 a2 l3 l4 left = some r) ∧ r ≤ left ∧ (0 ≤ r → Lim l3 ∧ LL Lim l4) := by
  obtain ⟨r0, e0, b0, f0⟩ := laws_szByteS.ev l3 left (wl3.1) h0 h1
  by_cases c0 : r0 < 0
  · exact ⟨-1, ⟨0, fun k hk => by simp only [laws_szIncl.f, e0, Option.bind_some, if_pos c0]⟩, by omega, fun h => by omega⟩
  obtain ⟨r1, ⟨K1, e1⟩, b1, f1⟩ := laws_szByteSS.ev l4 r0 wl4 (by omega) (by omega)
  by_cases c1 : r1 < 0
  · exact ⟨-1, ⟨K1, fun k hk => by simp only [laws_szIncl.f, e0, e1 k (by omega), Option.bind_some, if_neg c0, if_pos c1]⟩, by omega, fun h => by omega⟩
  refine ⟨r1, ⟨K1, fun k hk => by simp only [laws_szIncl.f, e0, e1 k (by omega), Option.bind_some, if_neg c0, if_neg c1]⟩, by omega, fun h => ?_⟩
  exact ⟨f0 (by omega), f1 (by omega)⟩
theorem laws_toByteS.ev (l : List Int) (hl : Lim l) : ∃ K : Nat, ∀ k : Nat, K ≤ k → laws_toByteS.f k l = some l := by
  unfold Lim at hl
  have h : ∀ (d i : Nat) (m : List Int), i + d = l.length → m.length = l.length → m.take i = l.take i → ∃ K : Nat, ∀ k : Nat, K ≤ k → laws_toByteS.l0 k l m (i : Int) = some l := by
    intro d
    induction d with
    | zero =>
      intro i m hd h1 h2
      refine ⟨1, fun k hk => ?_⟩
      obtain ⟨n, rfl⟩ : ∃ n, k = n + 1 := ⟨k - 1, by omega⟩
      simp only [laws_toByteS.l0]
      rw [if_neg (by omega)]
      obtain rfl : i = l.length := by omega
      rw [take_all h1 h2]
    | succ d ih =>
      intro i m hd h1 h2
      have hlt : i < l.length := by omega
      have hx : l[i]? = some l[i] := List.getElem?_eq_getElem hlt
      obtain ⟨K, hK⟩ := ih (i + 1) (m.set i l[i]) (by omega) (by simpa using h1) (set_take h1 hx h2)
      refine ⟨K + 1, fun k hk => ?_⟩
      obtain ⟨n, rfl⟩ : ∃ n, k = n + 1 := ⟨k - 1, by omega⟩
      simp only [laws_toByteS.l0]
      rw [if_pos (by omega), if_pos (by omega), if_pos (by omega), rd_at hx, wrap_succ (by omega), Int.toNat_natCast]
      exact hK n (by omega)
  obtain ⟨K, hK⟩ := h l.length 0 (List.replicate l.length 0) (by omega) (by simp) (by simp)
  refine ⟨K, fun k hk => ?_⟩
  unfold laws_toByteS.f
  rw [if_pos (by omega), if_pos (by simp; omega), Int.toNat_natCast]
  exact hK k hk

theorem laws_toByteSS.ev (l : List (List Int)) (hl : LL Lim l) : ∃ K : Nat, ∀ k : Nat, K ≤ k → laws_toByteSS.f k l = some l := by
  have hl1 := hl.1
  have h : ∀ (d i : Nat) (m : List (List Int)), i + d = l.length → m.length = l.length → m.take i = l.take i → ∃ K : Nat, ∀ k : Nat, K ≤ k → laws_toByteSS.l0 k l m (i : Int) = some l := by
    intro d
    induction d with
    | zero =>
      intro i m hd h1 h2
      refine ⟨1, fun k hk => ?_⟩
      obtain ⟨n, rfl⟩ : ∃ n, k = n + 1 := ⟨k - 1, by omega⟩
      simp only [laws_toByteSS.l0]
      rw [if_neg (by omega)]
      obtain rfl : i = l.length := by omega
      rw [take_all h1 h2]
    | succ d ih =>
      intro i m hd h1 h2
      have hlt : i < l.length := by omega
      have hx : l[i]? = some l[i] := List.getElem?_eq_getElem hlt
      obtain ⟨K0, h0⟩ := laws_toByteS.ev l[i] (hl.2 _ (mem_at hx))
      have hr : rd_L1 l (i : Int) = l[i] := getD_at hx
      obtain ⟨K, hK⟩ := ih (i + 1) (m.set i l[i]) (by omega) (by simpa using h1) (set_take h1 hx h2)
      refine ⟨K0 + K + 1, fun k hk => ?_⟩
      obtain ⟨n, rfl⟩ : ∃ n, k = n + 1 := ⟨k - 1, by omega⟩
      simp only [laws_toByteSS.l0]
      rw [if_pos (by omega), if_pos (by omega), hr, h0 n (by omega), Option.bind_some, if_pos (by omega), wrap_succ (by omega), Int.toNat_natCast]
      exact hK n (by omega)
  obtain ⟨K, hK⟩ := h l.length 0 (List.replicate l.length []) (by omega) (by simp) (by simp)
  refine ⟨K, fun k hk => ?_⟩
  unfold laws_toByteSS.f
  rw [if_pos (by omega), if_pos (by simp; omega), Int.toNat_natCast]
  exact hK k hk

theorem laws_toIncl.ev (a0 : Int) (a1 : Int) (a2 : Int) (l3 : (List Int)) (l4 : (List (List Int))) (hl3 : Lim l3) (hl4 : LL Lim l4) : ∃ K : Nat, ∀ k : Nat, K ≤ k → laws_toIncl.f k a0 a1 a2 l3 l4 = some (a0, a1, a2, l3, l4) := by
  obtain ⟨K0, e0⟩ := laws_toByteS.ev l3 hl3
  obtain ⟨K1, e1⟩ := laws_toByteSS.ev l4 hl4
  exact ⟨K0 + K1, fun k hk => by simp only [laws_toIncl.f, e0 k (by omega), e1 k (by omega), Option.bind_some]⟩
theorem laws_eqByteS.refl (l : List Int) (hl : l.length ≤ 9223372036854775806) : ∃ K : Nat, ∀ k : Nat, K ≤ k → laws_eqByteS.f k l l = some true := by
  have h : ∀ (d i : Nat), i + d = l.length → ∃ K : Nat, ∀ k : Nat, K ≤ k → laws_eqByteS.l0 k l l (i : Int) = some true := by
    intro d
    induction d with
    | zero =>
      intro i hd
      refine ⟨1, fun k hk => ?_⟩
      obtain ⟨n, rfl⟩ : ∃ n, k = n + 1 := ⟨k - 1, by omega⟩
      simp only [laws_eqByteS.l0]
      rw [if_neg (by omega)]
    | succ d ih =>
      intro i hd
      obtain ⟨K, hK⟩ := ih (i + 1) (by omega)
      refine ⟨K + 1, fun k hk => ?_⟩
      obtain ⟨n, rfl⟩ : ∃ n, k = n + 1 := ⟨k - 1, by omega⟩
      simp only [laws_eqByteS.l0]
      rw [if_pos (by omega), if_pos (by omega), if_pos (by omega), if_pos trivial, wrap_succ (by omega)]
      exact hK n (by omega)
  obtain ⟨K, hK⟩ := h l.length 0 (by omega)
  refine ⟨K, fun k hk => ?_⟩
  unfold laws_eqByteS.f
  rw [if_pos rfl]
  exact hK k hk

theorem laws_eqByteSS.refl (l : List (List Int)) (hl : l.length ≤ 9223372036854775806) (hx : ∀ x ∈ l, x.length ≤ 9223372036854775806) : ∃ K : Nat, ∀ k : Nat, K ≤ k → laws_eqByteSS.f k l l = some true := by
  have h : ∀ (d i : Nat), i + d = l.length → ∃ K : Nat, ∀ k : Nat, K ≤ k → laws_eqByteSS.l0 k l l (i : Int) = some true := by
    intro d
    induction d with
    | zero =>
      intro i hd
      refine ⟨1, fun k hk => ?_⟩
      obtain ⟨n, rfl⟩ : ∃ n, k = n + 1 := ⟨k - 1, by omega⟩
      simp only [laws_eqByteSS.l0]
      rw [if_neg (by omega)]
    | succ d ih =>
      intro i hd
      have hlt : i < l.length := by omega
      have hg : l[i]? = some l[i] := List.getElem?_eq_getElem hlt
      have hr : rd_L1 l (i : Int) = l[i] := getD_at hg
      obtain ⟨K0, h0⟩ := laws_eqByteS.refl l[i] (hx _ (mem_at hg))
      obtain ⟨K, hK⟩ := ih (i + 1) (by omega)
      refine ⟨K0 + K + 1, fun k hk => ?_⟩
      obtain ⟨n, rfl⟩ : ∃ n, k = n + 1 := ⟨k - 1, by omega⟩
      simp only [laws_eqByteSS.l0]
      rw [if_pos (by omega), if_pos (by omega), if_pos (by omega), hr, h0 n (by omega), Option.bind_some, if_pos (show true = true from rfl), wrap_succ (by omega)]
      exact hK n (by omega)
  obtain ⟨K, hK⟩ := h l.length 0 (by omega)
  refine ⟨K, fun k hk => ?_⟩
  unfold laws_eqByteSS.f
  rw [if_pos rfl]
  exact hK k hk

theorem laws_eqIncl.refl (a0 : Int) (a1 : Int) (a2 : Int) (l3 : (List Int)) (l4 : (List (List Int))) (hl3 : Lim l3) (hl4 : LL Lim l4) : ∃ K : Nat, ∀ k : Nat, K ≤ k → laws_eqIncl.f k a0 a1 a2 l3 l4 a0 a1 a2 l3 l4 = some true := by
  obtain ⟨K0, e0⟩ := laws_eqByteS.refl l3 (by unfold Lim at hl3; omega)
  obtain ⟨K1, e1⟩ := laws_eqByteSS.refl l4 (by have := hl4.1; omega) (fun x hx => by have := hl4.2 x hx; unfold Lim at this; omega)
  exact ⟨K0 + K1, fun k hk => by simp only [laws_eqIncl.f, eq_self, if_true, e0 k (by omega), e1 k (by omega), Option.bind_some]⟩
theorem spec_l01In.ev (a b c : Int) : spec_l01In.f a b c = some (inR a b c) := by
  unfold spec_l01In.f inR
  by_cases h : a ≥ b
  · rw [if_pos h, decide_eq_true (show b ≤ a from h), Bool.true_and]
  · rw [if_neg h, decide_eq_false (show ¬ b ≤ a from h), Bool.false_and]

theorem spec_l02Signers.ev (a : Int) : spec_l02Signers.f a = some (inR a 1 10) := by unfold spec_l02Signers.f; rw [spec_l01In.ev]; rfl

theorem spec_LimitsOk.eq (a0 a1 a2 a3 a4 : Int) : spec_LimitsOk.f a0 a1 a2 a3 a4 = some (limitsOk a0 a1 a2 a3 a4) := by
  unfold spec_LimitsOk.f limitsOk
  simp only [spec_l01In.ev, spec_l02Signers.ev, Option.bind_some]
  cases inR a0 1 10 <;> cases inR a1 0 40 <;> cases inR a2 0 8 <;> cases inR a3 1 4000 <;> rfl
theorem spec_LimitsOk.ev (a0 a1 a2 a3 a4 : Int) : ∃ K : Nat, ∀ k : Nat, K ≤ k → spec_LimitsOk.f a0 a1 a2 a3 a4 = some (limitsOk a0 a1 a2 a3 a4) := ⟨0, fun _ _ => spec_LimitsOk.eq ..⟩

theorem spec_l01Num.ev (a : Int) : spec_l01Num.f a = some (isNum a) := by unfold spec_l01Num.f; rw [spec_l01In.ev]; rfl

theorem spec_l08In.ev (a b : Int) : spec_l08In.f a b = some (inR b 1 1048576 && inR a 0 (wrap64 (b - 1))) := by
  unfold spec_l08In.f
  simp only [spec_l01In.ev, Option.bind_some, dec_if, Bool.decide_eq_true]

/-- The greatest power of two below n: what the doubling loop comes to. -/
theorem spec_SplitAt.ev (n : Int) (hn : 2 ≤ n) (hm : n ≤ 1048576) : ∃ K : Nat, ∀ k : Nat, K ≤ k → spec_SplitAt.f k n = some (splitAt n) := by
  have h : ∀ (d : Nat) (x : Int), 1 ≤ x → x < n → n - x ≤ d → ∃ K : Nat, ∀ k : Nat, K ≤ k → spec_SplitAt.l0 k n x = some (splitGo d n x) := by
    intro d
    induction d with
    | zero => intro x h1 h2 h3; omega
    | succ d ih =>
      intro x h1 h2 h3
      have e1 : wrap64 (n - x) = n - x := wrap_id (by omega) (by omega)
      have e2 : wrap64 (x * 2) = 2 * x := by rw [wrap_id (by omega) (by omega)]; omega
      have e3 : wrap64 (2 * x) = 2 * x := wrap_id (by omega) (by omega)
      by_cases c : x < n - x
      · obtain ⟨K, hK⟩ := ih (2 * x) (by omega) (by omega) (by omega)
        refine ⟨K + 1, fun k hk => ?_⟩
        obtain ⟨m, rfl⟩ : ∃ m, k = m + 1 := ⟨k - 1, by omega⟩
        simp only [spec_SplitAt.l0, e1]
        rw [if_pos c, splitGo, if_pos c]
        first | rw [e2, hK m (by omega)] | rw [e3, hK m (by omega)]
      · refine ⟨1, fun k hk => ?_⟩
        obtain ⟨m, rfl⟩ : ∃ m, k = m + 1 := ⟨k - 1, by omega⟩
        simp only [spec_SplitAt.l0, e1]
        rw [if_neg c, splitGo, if_neg c]
  obtain ⟨K, hK⟩ := h n.toNat 1 (by omega) (by omega) (by omega)
  refine ⟨K, fun k hk => ?_⟩
  unfold spec_SplitAt.f splitAt
  rw [if_neg (by omega)]
  exact hK k hk

theorem spec_PathLen.ev_in : ∀ (d : Nat) (i n : Int), n ≤ d → 1 ≤ n → n ≤ 1048576 → 0 ≤ i → i < n → ∃ K : Nat, ∀ k : Nat, K ≤ k → spec_PathLen.f k i n = some (pathLen d i n) := by
  intro d
  induction d with
  | zero => intro i n h1 h2; omega
  | succ d ih =>
    intro i n h1 h2 h3 h4 h5
    have hin : (inR n 1 1048576 && inR i 0 (wrap64 (n - 1))) = true := by rw [inR_iff.2 ⟨h2, h3⟩, wrap_id (by omega) (by omega), inR_iff.2 ⟨h4, by omega⟩]; rfl
    by_cases c : n = 1
    · refine ⟨2, fun k hk => ?_⟩
      obtain ⟨j, rfl⟩ : ∃ j, k = j + 2 := ⟨k - 2, by omega⟩
      simp only [spec_PathLen.f, spec_PathLen.j0]
      rw [spec_l08In.ev, Option.bind_some, if_pos hin, if_pos (by simpa using c), pathLen, if_pos (by omega)]
    · obtain ⟨K1, hK1⟩ := spec_SplitAt.ev n (by omega) h3
      have hs := splitAt_bd n (by omega)
      by_cases c2 : i < splitAt n
      · obtain ⟨K2, hK2⟩ := ih i (splitAt n) (by omega) (by omega) (by omega) h4 c2
        have hb := pathLen_le d i (splitAt n) (by omega) h4 c2
        have hb0 := pathLen_bd d i (splitAt n)
        refine ⟨K1 + K2 + 2, fun k hk => ?_⟩
        obtain ⟨j, rfl⟩ : ∃ j, k = j + 2 := ⟨k - 2, by omega⟩
        simp only [spec_PathLen.f, spec_PathLen.j0]
        rw [spec_l08In.ev, Option.bind_some, if_pos hin, if_neg (by simpa using c), hK1 j (by omega), Option.bind_some, if_pos c2, hK2 j (by omega), Option.bind_some, pathLen, if_neg (by omega), if_pos c2, wrap_id (by omega) (by omega)]
      · obtain ⟨K2, hK2⟩ := ih (i - splitAt n) (n - splitAt n) (by omega) (by omega) (by omega) (by omega) (by omega)
        have hb := pathLen_le d (i - splitAt n) (n - splitAt n) (by omega) (by omega) (by omega)
        have hb0 := pathLen_bd d (i - splitAt n) (n - splitAt n)
        refine ⟨K1 + K2 + 2, fun k hk => ?_⟩
        obtain ⟨j, rfl⟩ : ∃ j, k = j + 2 := ⟨k - 2, by omega⟩
        simp only [spec_PathLen.f, spec_PathLen.j0]
        rw [spec_l08In.ev, Option.bind_some, if_pos hin, if_neg (by simpa using c), hK1 j (by omega), Option.bind_some, if_neg c2, wrap_id (a := i - splitAt n) (by omega) (by omega), wrap_id (a := n - splitAt n) (by omega) (by omega), hK2 j (by omega), Option.bind_some, pathLen, if_neg (by omega), if_neg c2, wrap_id (by omega) (by omega)]
theorem spec_PathLen.ev (i n : Int) : ∃ K : Nat, ∀ k : Nat, K ≤ k → spec_PathLen.f k i n = some (pathLenTop i n) := by
  unfold pathLenTop
  by_cases c : inR n 2 1048576 = true
  · have c' := inR_iff.1 c
    rw [if_pos c]
    by_cases c2 : inR i 0 (n - 1) = true
    · have c2' := inR_iff.1 c2
      rw [if_pos c2]
      exact spec_PathLen.ev_in n.toNat i n (by omega) (by omega) (by omega) (by omega) (by omega)
    · rw [if_neg c2]
      refine ⟨2, fun k hk => ?_⟩
      obtain ⟨j, rfl⟩ : ∃ j, k = j + 2 := ⟨k - 2, by omega⟩
      simp only [spec_PathLen.f, spec_PathLen.j0]
      rw [spec_l08In.ev, Option.bind_some, wrap_id (by omega) (by omega), if_neg (by rw [Bool.eq_false_iff.2 c2, Bool.and_false]; exact Bool.false_ne_true), if_pos trivial]
  · rw [if_neg c]
    refine ⟨2, fun k hk => ?_⟩
    obtain ⟨j, rfl⟩ : ∃ j, k = j + 2 := ⟨k - 2, by omega⟩
    simp only [spec_PathLen.f, spec_PathLen.j0]
    rw [spec_l08In.ev, Option.bind_some]
    by_cases c3 : n = 1
    · rw [if_pos (show (n == 1) = true by simpa using c3), if_pos trivial]; split <;> rfl
    · rw [if_neg (by
        intro h
        rw [Bool.and_eq_true] at h
        have h1 := inR_iff.1 h.1
        exact c (inR_iff.2 ⟨by omega, by omega⟩)), if_pos trivial]

theorem spec_l07Hash.ev (l : List Int) : spec_l07Hash.f l = some (isHash l) := by
  unfold spec_l07Hash.f isHash
  by_cases h : l.length = 32
  · rw [decide_eq_true h]; simp [h]
  · rw [decide_eq_false h]; simp; omega

theorem spec_l08Hashes.ev (l : List (List Int)) (hl : l.length ≤ 9223372036854775806) : ∃ K : Nat, ∀ k : Nat, K ≤ k → spec_l08Hashes.f k l = some (l.all isHash) := by
  have h : ∀ (d i : Nat), i + d = l.length → ∃ K : Nat, ∀ k : Nat, K ≤ k → spec_l08Hashes.l0 k l (l.length : Int) (i : Int) = some ((l.drop i).all isHash) := by
    intro d
    induction d with
    | zero =>
      intro i hd
      refine ⟨1, fun k hk => ?_⟩
      obtain ⟨n, rfl⟩ : ∃ n, k = n + 1 := ⟨k - 1, by omega⟩
      simp only [spec_l08Hashes.l0]
      rw [if_neg (by omega), List.drop_of_length_le (by omega)]
      rfl
    | succ d ih =>
      intro i hd
      have hla : i < l.length := by omega
      have ra : rd_L1 l (i : Int) = l[i] := getD_at (List.getElem?_eq_getElem hla)
      obtain ⟨K, hK⟩ := ih (i + 1) (by omega)
      refine ⟨K + 1, fun k hk => ?_⟩
      obtain ⟨n, rfl⟩ : ∃ n, k = n + 1 := ⟨k - 1, by omega⟩
      simp only [spec_l08Hashes.l0]
      rw [if_pos (by omega), if_pos (by omega), if_pos (by omega), ra, spec_l07Hash.ev, Option.bind_some, List.drop_eq_getElem_cons hla, List.all_cons, wrap_succ (by omega), hK n (by omega)]
      exact and_if _ _
  obtain ⟨K, hK⟩ := h l.length 0 (by omega)
  refine ⟨K, fun k hk => ?_⟩
  unfold spec_l08Hashes.f
  simpa using hK k hk

theorem spec_InclOk.ev (a0 a1 a2 a3 a4 b0 b1 b2 : Int) (l3 : List Int) (l4 : List (List Int)) (g4 : LL Lim l4) :
    ∃ K : Nat, ∀ k : Nat, K ≤ k → spec_InclOk.f k a0 a1 a2 a3 a4 b0 b1 b2 l3 l4 = some (inclOk a0 a1 a2 a3 a4 b0 b1 b2 l3 l4) := by
  obtain ⟨K1, e1⟩ := spec_PathLen.ev b2 b1
  obtain ⟨K3, e3⟩ := spec_l08Hashes.ev l4 (by have := g4.1; omega)
  refine ⟨K1 + K3, fun k hk => ?_⟩
  unfold spec_InclOk.f inclOk
  simp only [spec_LimitsOk.eq, spec_l01Num.ev, spec_l01In.ev, e1 k (by omega), e3 k (by omega), Option.bind_some, dec_if, Bool.decide_eq_true]

theorem impl_within.ev (a b c : Int) : impl_within.f a b c = some (inR a b c) := by
  unfold impl_within.f inR
  by_cases h : b ≤ a
  · rw [if_pos h, decide_eq_true h, Bool.true_and]
  · rw [if_neg h, decide_eq_false h, Bool.false_and]

theorem impl_LimitsOk.eq (a0 a1 a2 a3 a4 : Int) : impl_LimitsOk.f a0 a1 a2 a3 a4 = some (limitsOk a0 a1 a2 a3 a4) := by
  unfold impl_LimitsOk.f limitsOk
  simp only [impl_within.ev, Option.bind_some]
  cases inR a0 1 10 <;> cases inR a1 0 40 <;> cases inR a2 0 8 <;> cases inR a3 1 4000 <;> rfl
theorem impl_LimitsOk.ev (a0 a1 a2 a3 a4 : Int) : ∃ K : Nat, ∀ k : Nat, K ≤ k → impl_LimitsOk.f a0 a1 a2 a3 a4 = some (limitsOk a0 a1 a2 a3 a4) := ⟨0, fun _ _ => impl_LimitsOk.eq ..⟩

theorem impl_isNum.ev (a : Int) : impl_isNum.f a = some (isNum a) := by unfold impl_isNum.f; rw [impl_within.ev]; rfl

/-- The greatest power of two below n: what the doubling loop comes to. -/
theorem impl_SplitAt.ev (n : Int) (hn : 2 ≤ n) (hm : n ≤ 1048576) : ∃ K : Nat, ∀ k : Nat, K ≤ k → impl_SplitAt.f k n = some (splitAt n) := by
  have h : ∀ (d : Nat) (x : Int), 1 ≤ x → x < n → n - x ≤ d → ∃ K : Nat, ∀ k : Nat, K ≤ k → impl_SplitAt.l0 k n x = some (splitGo d n x) := by
    intro d
    induction d with
    | zero => intro x h1 h2 h3; omega
    | succ d ih =>
      intro x h1 h2 h3
      have e1 : wrap64 (n - x) = n - x := wrap_id (by omega) (by omega)
      have e2 : wrap64 (x * 2) = 2 * x := by rw [wrap_id (by omega) (by omega)]; omega
      have e3 : wrap64 (2 * x) = 2 * x := wrap_id (by omega) (by omega)
      by_cases c : x < n - x
      · obtain ⟨K, hK⟩ := ih (2 * x) (by omega) (by omega) (by omega)
        refine ⟨K + 1, fun k hk => ?_⟩
        obtain ⟨m, rfl⟩ : ∃ m, k = m + 1 := ⟨k - 1, by omega⟩
        simp only [impl_SplitAt.l0, e1]
        rw [if_pos c, splitGo, if_pos c]
        first | rw [e2, hK m (by omega)] | rw [e3, hK m (by omega)]
      · refine ⟨1, fun k hk => ?_⟩
        obtain ⟨m, rfl⟩ : ∃ m, k = m + 1 := ⟨k - 1, by omega⟩
        simp only [impl_SplitAt.l0, e1]
        rw [if_neg c, splitGo, if_neg c]
  obtain ⟨K, hK⟩ := h n.toNat 1 (by omega) (by omega) (by omega)
  refine ⟨K, fun k hk => ?_⟩
  unfold impl_SplitAt.f splitAt
  rw [if_neg (by omega)]
  exact hK k hk

theorem impl_PathLen.ev_in : ∀ (d : Nat) (i n : Int), n ≤ d → 1 ≤ n → n ≤ 1048576 → 0 ≤ i → i < n → ∃ K : Nat, ∀ k : Nat, K ≤ k → impl_PathLen.f k i n = some (pathLen d i n) := by
  intro d
  induction d with
  | zero => intro i n h1 h2; omega
  | succ d ih =>
    intro i n h1 h2 h3 h4 h5
    by_cases c : n < 2
    · refine ⟨2, fun k hk => ?_⟩
      obtain ⟨j, rfl⟩ : ∃ j, k = j + 2 := ⟨k - 2, by omega⟩
      simp only [impl_PathLen.f, impl_PathLen.j0]
      rw [if_pos c, if_pos trivial, pathLen, if_pos c]
    · have hin : inR i 0 (wrap64 (n - 1)) = true := by rw [wrap_id (by omega) (by omega)]; exact inR_iff.2 ⟨h4, by omega⟩
      obtain ⟨K1, hK1⟩ := impl_SplitAt.ev n (by omega) h3
      have hs := splitAt_bd n (by omega)
      by_cases c2 : i < splitAt n
      · obtain ⟨K2, hK2⟩ := ih i (splitAt n) (by omega) (by omega) (by omega) h4 c2
        have hb := pathLen_le d i (splitAt n) (by omega) h4 c2
        have hb0 := pathLen_bd d i (splitAt n)
        refine ⟨K1 + K2 + 2, fun k hk => ?_⟩
        obtain ⟨j, rfl⟩ : ∃ j, k = j + 2 := ⟨k - 2, by omega⟩
        simp only [impl_PathLen.f, impl_PathLen.j0]
        rw [if_neg c, if_neg (by omega), impl_within.ev, Option.bind_some, hin, if_neg (by simp), hK1 j (by omega), Option.bind_some, if_pos c2, hK2 j (by omega), Option.bind_some, pathLen, if_neg c, if_pos c2, wrap_id (by omega) (by omega)]
      · obtain ⟨K2, hK2⟩ := ih (i - splitAt n) (n - splitAt n) (by omega) (by omega) (by omega) (by omega) (by omega)
        have hb := pathLen_le d (i - splitAt n) (n - splitAt n) (by omega) (by omega) (by omega)
        have hb0 := pathLen_bd d (i - splitAt n) (n - splitAt n)
        refine ⟨K1 + K2 + 2, fun k hk => ?_⟩
        obtain ⟨j, rfl⟩ : ∃ j, k = j + 2 := ⟨k - 2, by omega⟩
        simp only [impl_PathLen.f, impl_PathLen.j0]
        rw [if_neg c, if_neg (by omega), impl_within.ev, Option.bind_some, hin, if_neg (by simp), hK1 j (by omega), Option.bind_some, if_neg c2, wrap_id (a := i - splitAt n) (by omega) (by omega), wrap_id (a := n - splitAt n) (by omega) (by omega), hK2 j (by omega), Option.bind_some, pathLen, if_neg c, if_neg c2, wrap_id (by omega) (by omega)]
theorem impl_PathLen.ev (i n : Int) : ∃ K : Nat, ∀ k : Nat, K ≤ k → impl_PathLen.f k i n = some (pathLenTop i n) := by
  unfold pathLenTop
  by_cases c : inR n 2 1048576 = true
  · have c' := inR_iff.1 c
    rw [if_pos c]
    by_cases c2 : inR i 0 (n - 1) = true
    · have c2' := inR_iff.1 c2
      rw [if_pos c2]
      exact impl_PathLen.ev_in n.toNat i n (by omega) (by omega) (by omega) (by omega) (by omega)
    · rw [if_neg c2]
      refine ⟨2, fun k hk => ?_⟩
      obtain ⟨j, rfl⟩ : ∃ j, k = j + 2 := ⟨k - 2, by omega⟩
      simp only [impl_PathLen.f, impl_PathLen.j0]
      rw [if_neg (by omega), if_neg (by omega), impl_within.ev, Option.bind_some, wrap_id (by omega) (by omega), Bool.eq_false_iff.2 c2, if_pos (by rfl)]
  · rw [if_neg c]
    refine ⟨2, fun k hk => ?_⟩
    obtain ⟨j, rfl⟩ : ∃ j, k = j + 2 := ⟨k - 2, by omega⟩
    simp only [impl_PathLen.f, impl_PathLen.j0]
    by_cases c3 : n < 2
    · rw [if_pos c3, if_pos trivial]
    · rw [if_neg c3, if_pos (by
        have h1 : ¬ (2 ≤ n ∧ n ≤ 1048576) := fun h => c (inR_iff.2 h)
        omega), if_pos trivial]

theorem impl_areHashes.ev (l : List (List Int)) (hl : l.length ≤ 9223372036854775806) : ∃ K : Nat, ∀ k : Nat, K ≤ k → impl_areHashes.f k l = some (l.all isHash) := by
  have h : ∀ (d i : Nat), i + d = l.length → ∃ K : Nat, ∀ k : Nat, K ≤ k → impl_areHashes.l0 k l (l.length : Int) (i : Int) = some ((l.drop i).all isHash) := by
    intro d
    induction d with
    | zero =>
      intro i hd
      refine ⟨1, fun k hk => ?_⟩
      obtain ⟨n, rfl⟩ : ∃ n, k = n + 1 := ⟨k - 1, by omega⟩
      simp only [impl_areHashes.l0]
      rw [if_neg (by omega), List.drop_of_length_le (by omega)]
      rfl
    | succ d ih =>
      intro i hd
      have hla : i < l.length := by omega
      have ra : rd_L1 l (i : Int) = l[i] := getD_at (List.getElem?_eq_getElem hla)
      obtain ⟨K, hK⟩ := ih (i + 1) (by omega)
      refine ⟨K + 1, fun k hk => ?_⟩
      obtain ⟨n, rfl⟩ : ∃ n, k = n + 1 := ⟨k - 1, by omega⟩
      simp only [impl_areHashes.l0]
      rw [if_pos (by omega), if_pos (by omega), if_pos (by omega), ra, List.drop_eq_getElem_cons hla, List.all_cons, wrap_succ (by omega), hK n (by omega)]
      by_cases c : l[i].length = 32
      · rw [if_pos (by omega), isHash, decide_eq_true c, Bool.true_and]
      · rw [if_neg (by omega), isHash, decide_eq_false c, Bool.false_and]
  obtain ⟨K, hK⟩ := h l.length 0 (by omega)
  refine ⟨K, fun k hk => ?_⟩
  unfold impl_areHashes.f
  simpa using hK k hk

theorem impl_InclOk.ev (a0 a1 a2 a3 a4 b0 b1 b2 : Int) (l3 : List Int) (l4 : List (List Int)) (g4 : LL Lim l4) :
    ∃ K : Nat, ∀ k : Nat, K ≤ k → impl_InclOk.f k a0 a1 a2 a3 a4 b0 b1 b2 l3 l4 = some (inclOk a0 a1 a2 a3 a4 b0 b1 b2 l3 l4) := by
  obtain ⟨K1, e1⟩ := impl_PathLen.ev b2 b1
  obtain ⟨K3, e3⟩ := impl_areHashes.ev l4 (by have := g4.1; omega)
  refine ⟨K1 + K3, fun k hk => ?_⟩
  unfold impl_InclOk.f inclOk
  simp only [impl_LimitsOk.eq, impl_isNum.ev, impl_within.ev, e1 k (by omega), e3 k (by omega), Option.bind_some, dec_if, Bool.decide_eq_true]

theorem Pure_FnExactInclOk : laws_FnExactInclOk.Pure_ := by
  intro a0_0 a0_1 a0_2 a0_3 a0_4 a1_0 a1_1 a1_2 l1_3 l1_4 wa0_0 wa0_1 wa0_2 wa0_3 wa0_4 wa1_0 wa1_1 wa1_2 wl1_3 wl1_4
  obtain ⟨r0, ⟨Kz0, ez0⟩, bz0, fz0⟩ := laws_szIncl.ev a1_0 a1_1 a1_2 l1_3 l1_4 1048576 wl1_3 wl1_4 (by omega) (by omega)
  by_cases cz0 : r0 < 0
  · exact ⟨Kz0, by simp only [laws_FnExactInclOk.f, ez0 (Kz0) (by omega), Option.bind_some, if_pos cz0]⟩
  obtain ⟨hl1_3, hl1_4⟩ := fz0 (by omega)
  obtain ⟨Kt1, et1⟩ := laws_toIncl.ev a1_0 a1_1 a1_2 l1_3 l1_4 hl1_3 hl1_4
  obtain ⟨Ke1, ee1⟩ := laws_eqIncl.refl a1_0 a1_1 a1_2 l1_3 l1_4 hl1_3 hl1_4
  obtain ⟨Ks, es⟩ := spec_InclOk.ev a0_0 a0_1 a0_2 a0_3 a0_4 a1_0 a1_1 a1_2 l1_3 l1_4 hl1_4
  obtain ⟨Ki, ei⟩ := impl_InclOk.ev a0_0 a0_1 a0_2 a0_3 a0_4 a1_0 a1_1 a1_2 l1_3 l1_4 hl1_4
  refine ⟨Kz0 + Kt1 + Ke1 + Ks + Ki + 5, ?_⟩
  simp only [laws_FnExactInclOk.f, ez0 (Kz0 + Kt1 + Ke1 + Ks + Ki + 5) (by omega), laws_toLimits.f, et1 (Kz0 + Kt1 + Ke1 + Ks + Ki + 5) (by omega), ee1 (Kz0 + Kt1 + Ke1 + Ks + Ki + 5) (by omega), es (Kz0 + Kt1 + Ke1 + Ks + Ki + 5) (by omega), ei (Kz0 + Kt1 + Ke1 + Ks + Ki + 5) (by omega), Option.bind_some, bne_self_eq_false, eq_self, if_true, if_false, Bool.false_eq_true, if_neg cz0]
end Go.Proofs.Ytniapflmmigbjaa.PFnExactInclOk
