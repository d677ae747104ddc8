/- What is left of the law FnExactTcOk when memory is gone: FnExactTcOk's answers over numbers and lists are what the reference's are. Condition: each number is an int, each byte is one. -/
import Derived.Test.YtniapflmmigbjaaPFnExactTcOkx6
import Derived.Test.YtniapflmmigbjaaOwn
import Derived.Test.YtniapflmmigbjaaLib
set_option linter.unusedVariables false
set_option linter.unusedSimpArgs false
namespace Go.Proofs.Ytniapflmmigbjaa.PFnExactTcOk
open Go.RowKit Go.Proofs.YtniapflmmigbjaaW.PrintWords Go.Proofs.YtniapflmmigbjaaW.PrintLast Go.Proofs.Ytniapflmmigbjaa.Own Go.Proofs.Ytniapflmmigbjaa.Lib
def W156 (x : S156) : Prop := I64 x.f0 ∧ I64 x.f1 ∧ (WL U8) x.f2
/-- The one pure statement. -/
def laws_FnExactTcOk.Pure_ : Prop := ∀ (a0_0 : Int) (a0_1 : Int) (a0_2 : Int) (a0_3 : Int) (a0_4 : Int) (a1_0 : Int) (l1_1 : (List S156)), I64 a0_0 → I64 a0_1 → I64 a0_2 → I64 a0_3 → I64 a0_4 → I64 a1_0 → (WL W156) l1_1 → ∃ k, laws_FnExactTcOk.f k a0_0 a0_1 a0_2 a0_3 a0_4 a1_0 l1_1 = some true

theorem laws_szByteS.ev (l : List Int) (left : Int) (hl : l.length ≤ 9223372036854775807) (h0 : 0 ≤ left) (h1 : left ≤ 1048576) :
    ∃ r, laws_szByteS.f l left = some r ∧ r ≤ left ∧ (0 ≤ r → Lim l) := by
  unfold laws_szByteS.f Lim
  have hw : wrap64 (left - (l.length : Int)) = left - (l.length : Int) := wrap_id (by omega) (by omega)
  rw [hw]
  by_cases c : left - (l.length : Int) < 0
  · rw [if_pos c]; exact ⟨-1, rfl, by omega, fun h => by omega⟩
  · rw [if_neg c]; exact ⟨_, rfl, by omega, fun _ => by omega⟩

theorem laws_szEntry.ev (a0 : Int) (a1 : Int) (l2 : (List Int)) (left : Int) (wl2 : (WL U8) l2) (h0 : 0 ≤ left) (h1 : left ≤ 1048576) :
    ∃ r, (∃ K : Nat, ∀ k : Nat, K ≤ k → laws_szEntry.f a0 a1 l2 left = some r) ∧ r ≤ left ∧ (0 ≤ r → Lim l2) := by
  obtain ⟨r0, e0, b0, f0⟩ := laws_szByteS.ev l2 left (wl2.1) h0 h1
  by_cases c0 : r0 < 0
  · exact ⟨-1, ⟨0, fun k hk => by simp only [laws_szEntry.f, e0, Option.bind_some, if_pos c0]⟩, by omega, fun h => by omega⟩
  refine ⟨r0, ⟨0, fun k hk => by simp only [laws_szEntry.f, e0, Option.bind_some, if_neg c0]⟩, by omega, fun h => ?_⟩
  exact f0 (by omega)
def M156 (x : S156) : Prop := Lim x.f2
theorem laws_szEntryS.ev_l (l : List S156) (hl : WL W156 l) : ∀ (d i : Nat) (left : Int), i + d = l.length → 0 ≤ left → left ≤ 1048576 →
    ∃ r, (∃ K : Nat, ∀ k : Nat, K ≤ k → laws_szEntryS.l0 k l left (i : Int) = some r) ∧ r ≤ left ∧ (0 ≤ r → ∀ x ∈ l.drop i, M156 x) := by
  intro d
  induction d with
  | zero =>
    intro i left hd h0 h1
    refine ⟨left, ⟨1, fun k hk => ?_⟩, by omega, fun _ x hx => by rw [List.drop_of_length_le (by omega)] at hx; cases hx⟩
    obtain ⟨m, rfl⟩ : ∃ m, k = m + 1 := ⟨k - 1, by omega⟩
    simp only [laws_szEntryS.l0]
    rw [if_neg (by omega)]
  | succ d ih =>
    intro i left hd h0 h1
    have hlt : i < l.length := by omega
    have hx : l[i]? = some l[i] := List.getElem?_eq_getElem hlt
    obtain ⟨q0, q1, q2⟩ : W156 l[i] := hl.2 _ (mem_at hx)
    obtain ⟨r1, ⟨K1, e1⟩, b1, f1⟩ := laws_szEntry.ev (l[i].f0) (l[i].f1) (l[i].f2) left q2 h0 h1
    have hr : rd_T156 l (i : Int) = l[i] := getD_at hx
    by_cases c : r1 < 0
    · refine ⟨-1, ⟨K1 + 1, fun k hk => ?_⟩, by omega, fun h => by omega⟩
      obtain ⟨m, rfl⟩ : ∃ m, k = m + 1 := ⟨k - 1, by omega⟩
      simp only [laws_szEntryS.l0]
      rw [if_pos (by omega), if_pos (by omega), hr, e1 m (by omega), Option.bind_some, if_pos c]
    · obtain ⟨r, ⟨K, hK⟩, br, fr⟩ := ih (i + 1) r1 (by omega) (by omega) (by omega)
      refine ⟨r, ⟨K1 + K + 1, fun k hk => ?_⟩, by omega, fun h x hx' => ?_⟩
      · obtain ⟨m, rfl⟩ : ∃ m, k = m + 1 := ⟨k - 1, by omega⟩
        simp only [laws_szEntryS.l0]
        rw [if_pos (by omega), if_pos (by omega), hr, e1 m (by omega), Option.bind_some, if_neg c, wrap_succ (by have := hl.1; omega)]
        exact hK m (by omega)
      · rw [List.drop_eq_getElem_cons hlt] at hx'
        rcases List.mem_cons.1 hx' with rfl | hx'
        · exact f1 (by omega)
        · exact fr h x hx'
theorem laws_szEntryS.ev (l : List S156) (left : Int) (hl : WL W156 l) (h0 : 0 ≤ left) (h1 : left ≤ 1048576) :
    ∃ r, (∃ K : Nat, ∀ k : Nat, K ≤ k → laws_szEntryS.f k l left = some r) ∧ r ≤ left ∧ (0 ≤ r → LL M156 l) := by
  have hw : wrap64 (left - (l.length : Int)) = left - (l.length : Int) := wrap_id (by have := hl.1; omega) (by omega)
  by_cases c : left - (l.length : Int) < 0
  · exact ⟨-1, ⟨0, fun k _ => by unfold laws_szEntryS.f; rw [hw, if_pos c]⟩, by omega, fun h => by omega⟩
  · obtain ⟨r, ⟨K, hK⟩, br, fr⟩ := laws_szEntryS.ev_l l hl l.length 0 (left - (l.length : Int)) (by omega) (by omega) (by omega)
    exact ⟨r, ⟨K, fun k hk => by unfold laws_szEntryS.f; rw [hw, if_neg c]; exact hK k hk⟩, by omega, fun h => ⟨by omega, fun x hx => fr h x (by simpa using hx)⟩⟩
theorem laws_szTc.ev (a0 : Int) (l1 : (List S156)) (left : Int) (wl1 : (WL W156) l1) (h0 : 0 ≤ left) (h1 : left ≤ 1048576) :
    ∃ r, (∃ K : Nat, ∀ k : Nat, K ≤ k → laws_szTc.f k a0 l1 left = some r) ∧ r ≤ left ∧ (0 ≤ r → LL M156 l1) := by
  obtain ⟨r0, ⟨K0, e0⟩, b0, f0⟩ := laws_szEntryS.ev l1 left wl1 h0 h1
  by_cases c0 : r0 < 0
  · exact ⟨-1, ⟨K0, fun k hk => by simp only [laws_szTc.f, e0 k (by omega), Option.bind_some, if_pos c0]⟩, by omega, fun h => by omega⟩
  refine ⟨r0, ⟨K0, fun k hk => by simp only [laws_szTc.f, e0 k (by omega), Option.bind_some, if_neg c0]⟩, by omega, fun h => ?_⟩
  exact f0 (by omega)
theorem laws_toByteS.ev (l : List Int) (hl : Lim l) : ∃ K : Nat, ∀ k : Nat, K ≤ k → laws_toByteS.f k l = some l := by
  unfold Lim at hl
  have h : ∀ (d i : Nat) (m : List Int), i + d = l.length → m.length = l.length → m.take i = l.take i → ∃ K : Nat, ∀ k : Nat, K ≤ k → laws_toByteS.l0 k l m (i : Int) = some l := by
    intro d
    induction d with
    | zero =>
      intro i m hd h1 h2
      refine ⟨1, fun k hk => ?_⟩
      obtain ⟨n, rfl⟩ : ∃ n, k = n + 1 := ⟨k - 1, by omega⟩
      simp only [laws_toByteS.l0]
      rw [if_neg (by omega)]
      obtain rfl : i = l.length := by omega
      rw [take_all h1 h2]
    | succ d ih =>
      intro i m hd h1 h2
      have hlt : i < l.length := by omega
      have hx : l[i]? = some l[i] := List.getElem?_eq_getElem hlt
      obtain ⟨K, hK⟩ := ih (i + 1) (m.set i l[i]) (by omega) (by simpa using h1) (set_take h1 hx h2)
      refine ⟨K + 1, fun k hk => ?_⟩
      obtain ⟨n, rfl⟩ : ∃ n, k = n + 1 := ⟨k - 1, by omega⟩
      simp only [laws_toByteS.l0]
      rw [if_pos (by omega), if_pos (by omega), if_pos (by omega), rd_at hx, wrap_succ (by omega), Int.toNat_natCast]
      exact hK n (by omega)
  obtain ⟨K, hK⟩ := h l.length 0 (List.replicate l.length 0) (by omega) (by simp) (by simp)
  refine ⟨K, fun k hk => ?_⟩
  unfold laws_toByteS.f
  rw [if_pos (by omega), if_pos (by simp; omega), Int.toNat_natCast]
  exact hK k hk

theorem laws_toEntry.ev (a0 : Int) (a1 : Int) (l2 : (List Int)) (hl2 : Lim l2) : ∃ K : Nat, ∀ k : Nat, K ≤ k → laws_toEntry.f k a0 a1 l2 = some (a0, a1, l2) := by
  obtain ⟨K0, e0⟩ := laws_toByteS.ev l2 hl2
  exact ⟨K0, fun k hk => by simp only [laws_toEntry.f, e0 k (by omega), Option.bind_some]⟩
def M113 (x : S113) : Prop := Lim x.f2
def cv156 (x : S156) : S113 := (⟨x.f0, x.f1, x.f2⟩ : S113)
theorem M156_cv {x : S156} (h : M156 x) : M113 (cv156 x) := by
  unfold M156 at h
  have h0 := h
  exact h0
theorem laws_toEntryS.ev (l : List S156) (hl : LL M156 l) : ∃ K : Nat, ∀ k : Nat, K ≤ k → laws_toEntryS.f k l = some (l.map cv156) := by
  have hl1 := hl.1
  have h : ∀ (d i : Nat) (m : List S113), i + d = l.length → m.length = (l.map cv156).length → m.take i = (l.map cv156).take i → ∃ K : Nat, ∀ k : Nat, K ≤ k → laws_toEntryS.l0 k l m (i : Int) = some (l.map cv156) := by
    intro d
    induction d with
    | zero =>
      intro i m hd h1 h2
      refine ⟨1, fun k hk => ?_⟩
      obtain ⟨n, rfl⟩ : ∃ n, k = n + 1 := ⟨k - 1, by omega⟩
      simp only [laws_toEntryS.l0]
      rw [if_neg (by omega)]
      obtain rfl : i = (l.map cv156).length := by rw [List.length_map]; omega
      rw [take_all h1 h2]
    | succ d ih =>
      intro i m hd h1 h2
      have hlt : i < l.length := by omega
      have hx : l[i]? = some l[i] := List.getElem?_eq_getElem hlt
      have hx2 : (l.map cv156)[i]? = some (cv156 l[i]) := by rw [List.getElem?_map, hx]; rfl
      have hml : m.length = l.length := by rw [h1, List.length_map]
      obtain q2 : M156 l[i] := hl.2 _ (mem_at hx)
      obtain ⟨K0, h0⟩ := laws_toEntry.ev (l[i].f0) (l[i].f1) (l[i].f2) q2
      have hr : rd_T156 l (i : Int) = l[i] := getD_at hx
      obtain ⟨K, hK⟩ := ih (i + 1) (m.set i (cv156 l[i])) (by omega) (by simpa using h1) (set_take h1 hx2 h2)
      refine ⟨K0 + K + 1, fun k hk => ?_⟩
      obtain ⟨n, rfl⟩ : ∃ n, k = n + 1 := ⟨k - 1, by omega⟩
      simp only [laws_toEntryS.l0]
      rw [if_pos (by omega), if_pos (by omega), hr, h0 n (by omega), Option.bind_some, if_pos (by omega), wrap_succ (by omega), Int.toNat_natCast]
      exact hK n (by omega)
  obtain ⟨K, hK⟩ := h l.length 0 (List.replicate l.length z113) (by omega) (by simp) (by simp)
  refine ⟨K, fun k hk => ?_⟩
  unfold laws_toEntryS.f
  rw [if_pos (by omega), if_pos (by simp; omega), Int.toNat_natCast]
  exact hK k hk
theorem laws_toTc.ev (a0 : Int) (l1 : (List S156)) (hl1 : LL M156 l1) : ∃ K : Nat, ∀ k : Nat, K ≤ k → laws_toTc.f k a0 l1 = some (a0, (l1.map cv156)) := by
  obtain ⟨K0, e0⟩ := laws_toEntryS.ev l1 hl1
  exact ⟨K0, fun k hk => by simp only [laws_toTc.f, e0 k (by omega), Option.bind_some]⟩
theorem laws_eqByteS.refl (l : List Int) (hl : l.length ≤ 9223372036854775806) : ∃ K : Nat, ∀ k : Nat, K ≤ k → laws_eqByteS.f k l l = some true := by
  have h : ∀ (d i : Nat), i + d = l.length → ∃ K : Nat, ∀ k : Nat, K ≤ k → laws_eqByteS.l0 k l l (i : Int) = some true := by
    intro d
    induction d with
    | zero =>
      intro i hd
      refine ⟨1, fun k hk => ?_⟩
      obtain ⟨n, rfl⟩ : ∃ n, k = n + 1 := ⟨k - 1, by omega⟩
      simp only [laws_eqByteS.l0]
      rw [if_neg (by omega)]
    | succ d ih =>
      intro i hd
      obtain ⟨K, hK⟩ := ih (i + 1) (by omega)
      refine ⟨K + 1, fun k hk => ?_⟩
      obtain ⟨n, rfl⟩ : ∃ n, k = n + 1 := ⟨k - 1, by omega⟩
      simp only [laws_eqByteS.l0]
      rw [if_pos (by omega), if_pos (by omega), if_pos (by omega), if_pos trivial, wrap_succ (by omega)]
      exact hK n (by omega)
  obtain ⟨K, hK⟩ := h l.length 0 (by omega)
  refine ⟨K, fun k hk => ?_⟩
  unfold laws_eqByteS.f
  rw [if_pos rfl]
  exact hK k hk

theorem laws_eqEntry.refl (a0 : Int) (a1 : Int) (l2 : (List Int)) (hl2 : Lim l2) : ∃ K : Nat, ∀ k : Nat, K ≤ k → laws_eqEntry.f k a0 a1 l2 a0 a1 l2 = some true := by
  obtain ⟨K0, e0⟩ := laws_eqByteS.refl l2 (by unfold Lim at hl2; omega)
  exact ⟨K0, fun k hk => by simp only [laws_eqEntry.f, eq_self, if_true, e0 k (by omega), Option.bind_some]⟩
theorem laws_eqEntryS.refl (l : List S113) (hl : LL M113 l) : ∃ K : Nat, ∀ k : Nat, K ≤ k → laws_eqEntryS.f k l l = some true := by
  have hl1 := hl.1
  have h : ∀ (d i : Nat), i + d = l.length → ∃ K : Nat, ∀ k : Nat, K ≤ k → laws_eqEntryS.l0 k l l (i : Int) = some true := by
    intro d
    induction d with
    | zero =>
      intro i hd
      refine ⟨1, fun k hk => ?_⟩
      obtain ⟨n, rfl⟩ : ∃ n, k = n + 1 := ⟨k - 1, by omega⟩
      simp only [laws_eqEntryS.l0]
      rw [if_neg (by omega)]
    | succ d ih =>
      intro i hd
      have hlt : i < l.length := by omega
      have hx : l[i]? = some l[i] := List.getElem?_eq_getElem hlt
      obtain q2 : M113 l[i] := hl.2 _ (mem_at hx)
      obtain ⟨K0, h0⟩ := laws_eqEntry.refl (l[i].f0) (l[i].f1) (l[i].f2) q2
      have hr : rd_T113 l (i : Int) = l[i] := getD_at hx
      obtain ⟨K, hK⟩ := ih (i + 1) (by omega)
      refine ⟨K0 + K + 1, fun k hk => ?_⟩
      obtain ⟨n, rfl⟩ : ∃ n, k = n + 1 := ⟨k - 1, by omega⟩
      simp only [laws_eqEntryS.l0]
      rw [if_pos (by omega), if_pos (by omega), if_pos (by omega), hr, h0 n (by omega), Option.bind_some, if_pos (show true = true from rfl), wrap_succ (by omega)]
      exact hK n (by omega)
  obtain ⟨K, hK⟩ := h l.length 0 (by omega)
  refine ⟨K, fun k hk => ?_⟩
  unfold laws_eqEntryS.f
  rw [if_pos rfl]
  exact hK k hk
theorem laws_eqTc.refl (a0 : Int) (l1 : (List S113)) (hl1 : LL M113 l1) : ∃ K : Nat, ∀ k : Nat, K ≤ k → laws_eqTc.f k a0 l1 a0 l1 = some true := by
  obtain ⟨K0, e0⟩ := laws_eqEntryS.refl l1 hl1
  exact ⟨K0, fun k hk => by simp only [laws_eqTc.f, eq_self, if_true, e0 k (by omega), Option.bind_some]⟩
/-- Is entry i right, at the ends of what came before. -/
def entOk (a0 v : Int) (l : List S113) (i : Nat) : Bool :=
  inR (rd_T113 l (i : Int)).f0 0 (wrap64 (a0 - 1)) && (decide (0 ≤ (rd_T113 l (i : Int)).f1) && (decide ((rd_T113 l (i : Int)).f1 < v) && (isHash (rd_T113 l (i : Int)).f2 && (if i = 0 then true else decide ((rd_T113 l ((i : Int) - 1)).f0 < (rd_T113 l (i : Int)).f0)))))
def entsOk (a0 v : Int) (l : List S113) : Nat → Nat → Bool
  | 0, _ => true
  | d + 1, i => entOk a0 v l i && entsOk a0 v l d (i + 1)
theorem entsOk_succ (a0 v : Int) (l : List S113) (d i : Nat) : entsOk a0 v l (d + 1) i = (entOk a0 v l i && entsOk a0 v l d (i + 1)) := rfl
def tcOk (a0 a1 a2 a3 a4 v : Int) (l : List S113) : Bool := limitsOk a0 a1 a2 a3 a4 && (isNum v && (decide ((l.length : Int) ≤ a0) && entsOk a0 v l l.length 0))

theorem spec_l01In.ev (a b c : Int) : spec_l01In.f a b c = some (inR a b c) := by
  unfold spec_l01In.f inR
  by_cases h : a ≥ b
  · rw [if_pos h, decide_eq_true (show b ≤ a from h), Bool.true_and]
  · rw [if_neg h, decide_eq_false (show ¬ b ≤ a from h), Bool.false_and]

theorem spec_l02Signers.ev (a : Int) : spec_l02Signers.f a = some (inR a 1 10) := by unfold spec_l02Signers.f; rw [spec_l01In.ev]; rfl

theorem spec_LimitsOk.eq (a0 a1 a2 a3 a4 : Int) : spec_LimitsOk.f a0 a1 a2 a3 a4 = some (limitsOk a0 a1 a2 a3 a4) := by
  unfold spec_LimitsOk.f limitsOk
  simp only [spec_l01In.ev, spec_l02Signers.ev, Option.bind_some]
  cases inR a0 1 10 <;> cases inR a1 0 40 <;> cases inR a2 0 8 <;> cases inR a3 1 4000 <;> rfl
theorem spec_LimitsOk.ev (a0 a1 a2 a3 a4 : Int) : ∃ K : Nat, ∀ k : Nat, K ≤ k → spec_LimitsOk.f a0 a1 a2 a3 a4 = some (limitsOk a0 a1 a2 a3 a4) := ⟨0, fun _ _ => spec_LimitsOk.eq ..⟩

theorem spec_l01Num.ev (a : Int) : spec_l01Num.f a = some (isNum a) := by unfold spec_l01Num.f; rw [spec_l01In.ev]; rfl

theorem spec_l07Hash.ev (l : List Int) : spec_l07Hash.f l = some (isHash l) := by
  unfold spec_l07Hash.f isHash
  by_cases h : l.length = 32
  · rw [decide_eq_true h]; simp [h]
  · rw [decide_eq_false h]; simp; omega

theorem spec_TcOk.ev (a0 a1 a2 a3 a4 v : Int) (l : List S113) (hl : l.length ≤ 1048576) : ∃ K : Nat, ∀ k : Nat, K ≤ k → spec_TcOk.f k a0 a1 a2 a3 a4 v l = some (tcOk a0 a1 a2 a3 a4 v l) := by
  have h : ∀ (d i : Nat), i + d = l.length → ∃ K : Nat, ∀ k : Nat, K ≤ k → spec_TcOk.l0 k l (l.length : Int) (i : Int) a0 a1 a2 a3 a4 v l = some (entsOk a0 v l d i) := by
    intro d
    induction d with
    | zero =>
      intro i hd
      refine ⟨1, fun k hk => ?_⟩
      obtain ⟨n, rfl⟩ : ∃ n, k = n + 1 := ⟨k - 1, by omega⟩
      simp only [spec_TcOk.l0]
      rw [if_neg (by omega)]
      rfl
    | succ d ih =>
      intro i hd
      obtain ⟨K1, hK1⟩ := ih (i + 1) (by omega)
      refine ⟨K1 + 2, fun k hk => ?_⟩
      obtain ⟨n, rfl⟩ : ∃ n, k = n + 2 := ⟨k - 2, by omega⟩
      have hj : ∀ (b : Bool), spec_TcOk.j2 (n + 1) l (l.length : Int) (i : Int) b a0 a1 a2 a3 a4 v l = some (!b && entsOk a0 v l d (i + 1)) := by
        intro b
        simp only [spec_TcOk.j2]
        rw [wrap_succ (by omega), hK1 n (by omega)]
        cases b <;> rfl
      simp only [spec_TcOk.l0, hj, spec_l01In.ev, spec_l07Hash.ev, Option.bind_some]
      rw [if_pos (by omega), if_pos (by omega), if_pos (by omega)]
      rw [entsOk_succ, entOk]
      cases inR (rd_T113 l (i : Int)).f0 0 (wrap64 (a0 - 1))
      · simp
      · by_cases c1 : (rd_T113 l (i : Int)).f1 < 0
        · simp [c1, show ¬ 0 ≤ (rd_T113 l (i : Int)).f1 by omega]
        · by_cases c2 : (rd_T113 l (i : Int)).f1 ≥ v
          · simp [c1, c2, show ¬ (rd_T113 l (i : Int)).f1 < v by omega]
          · rw [if_pos (by rfl), if_neg c1, if_neg c2, decide_eq_true (show 0 ≤ (rd_T113 l (i : Int)).f1 by omega), decide_eq_true (show (rd_T113 l (i : Int)).f1 < v by omega)]
            cases isHash (rd_T113 l (i : Int)).f2
            · simp
            · by_cases c3 : i = 0
              · subst c3; simp
              · rw [if_pos (by rfl), if_pos (show (i : Int) > 0 by omega), wrap_id (a := (i : Int) - 1) (by omega) (by omega), if_pos (by omega), if_pos (by omega), if_neg c3]
                by_cases c4 : (rd_T113 l ((i : Int) - 1)).f0 < (rd_T113 l (i : Int)).f0
                · simp [c4]
                · simp [c4, show (rd_T113 l ((i : Int) - 1)).f0 ≥ (rd_T113 l (i : Int)).f0 by omega]
  obtain ⟨K, hK⟩ := h l.length 0 (by omega)
  refine ⟨K + 1, fun k hk => ?_⟩
  obtain ⟨n, rfl⟩ : ∃ n, k = n + 1 := ⟨k - 1, by omega⟩
  have e := hK n (by omega)
  unfold spec_TcOk.f tcOk
  simp only [spec_LimitsOk.eq, spec_l01Num.ev, Option.bind_some, spec_TcOk.j0]
  rw [show ((0 : Nat) : Int) = 0 from rfl] at e
  simp only [e]
  cases limitsOk a0 a1 a2 a3 a4 <;> cases isNum v <;> first | rfl | skip
  by_cases c : (l.length : Int) ≤ a0
  · simp [c, show ¬ a0 < (l.length : Int) by omega]
  · simp [c, show (l.length : Int) > a0 by omega]

theorem impl_within.ev (a b c : Int) : impl_within.f a b c = some (inR a b c) := by
  unfold impl_within.f inR
  by_cases h : b ≤ a
  · rw [if_pos h, decide_eq_true h, Bool.true_and]
  · rw [if_neg h, decide_eq_false h, Bool.false_and]

theorem impl_LimitsOk.eq (a0 a1 a2 a3 a4 : Int) : impl_LimitsOk.f a0 a1 a2 a3 a4 = some (limitsOk a0 a1 a2 a3 a4) := by
  unfold impl_LimitsOk.f limitsOk
  simp only [impl_within.ev, Option.bind_some]
  cases inR a0 1 10 <;> cases inR a1 0 40 <;> cases inR a2 0 8 <;> cases inR a3 1 4000 <;> rfl
theorem impl_LimitsOk.ev (a0 a1 a2 a3 a4 : Int) : ∃ K : Nat, ∀ k : Nat, K ≤ k → impl_LimitsOk.f a0 a1 a2 a3 a4 = some (limitsOk a0 a1 a2 a3 a4) := ⟨0, fun _ _ => impl_LimitsOk.eq ..⟩

theorem impl_isNum.ev (a : Int) : impl_isNum.f a = some (isNum a) := by unfold impl_isNum.f; rw [impl_within.ev]; rfl

theorem impl_areHashes.ev (l : List (List Int)) (hl : l.length ≤ 9223372036854775806) : ∃ K : Nat, ∀ k : Nat, K ≤ k → impl_areHashes.f k l = some (l.all isHash) := by
  have h : ∀ (d i : Nat), i + d = l.length → ∃ K : Nat, ∀ k : Nat, K ≤ k → impl_areHashes.l0 k l (l.length : Int) (i : Int) = some ((l.drop i).all isHash) := by
    intro d
    induction d with
    | zero =>
      intro i hd
      refine ⟨1, fun k hk => ?_⟩
      obtain ⟨n, rfl⟩ : ∃ n, k = n + 1 := ⟨k - 1, by omega⟩
      simp only [impl_areHashes.l0]
      rw [if_neg (by omega), List.drop_of_length_le (by omega)]
      rfl
    | succ d ih =>
      intro i hd
      have hla : i < l.length := by omega
      have ra : rd_L2 l (i : Int) = l[i] := getD_at (List.getElem?_eq_getElem hla)
      obtain ⟨K, hK⟩ := ih (i + 1) (by omega)
      refine ⟨K + 1, fun k hk => ?_⟩
      obtain ⟨n, rfl⟩ : ∃ n, k = n + 1 := ⟨k - 1, by omega⟩
      simp only [impl_areHashes.l0]
      rw [if_pos (by omega), if_pos (by omega), if_pos (by omega), ra, List.drop_eq_getElem_cons hla, List.all_cons, wrap_succ (by omega), hK n (by omega)]
      by_cases c : l[i].length = 32
      · rw [if_pos (by omega), isHash, decide_eq_true c, Bool.true_and]
      · rw [if_neg (by omega), isHash, decide_eq_false c, Bool.false_and]
  obtain ⟨K, hK⟩ := h l.length 0 (by omega)
  refine ⟨K, fun k hk => ?_⟩
  unfold impl_areHashes.f
  simpa using hK k hk

theorem impl_TcOk.ev (a0 a1 a2 a3 a4 v : Int) (l : List S113) (hl : l.length ≤ 1048576) : ∃ K : Nat, ∀ k : Nat, K ≤ k → impl_TcOk.f k a0 a1 a2 a3 a4 v l = some (tcOk a0 a1 a2 a3 a4 v l) := by
  have hres : ∀ r : Bool, isNum v = true → (r = entsOk a0 v l l.length 0) → (r && (limitsOk a0 a1 a2 a3 a4 && (isNum v && decide ((l.length : Int) ≤ a0)))) = tcOk a0 a1 a2 a3 a4 v l := by
    intro r _ hr
    subst hr
    unfold tcOk
    cases limitsOk a0 a1 a2 a3 a4 <;> cases isNum v <;> cases decide ((l.length : Int) ≤ a0) <;> cases entsOk a0 v l l.length 0 <;> rfl
  have hz : isNum v = false → tcOk a0 a1 a2 a3 a4 v l = false := by intro h; unfold tcOk; rw [h]; cases limitsOk a0 a1 a2 a3 a4 <;> rfl
  have h : ∀ (d i : Nat), i + d = l.length → ∃ r : Bool, (isNum v = true → r = entsOk a0 v l d i) ∧ ∃ K : Nat, ∀ k : Nat, K ≤ k → impl_TcOk.l0 k l (l.length : Int) (i : Int) a0 a1 a2 a3 a4 v l = some (r && (limitsOk a0 a1 a2 a3 a4 && (isNum v && decide ((l.length : Int) ≤ a0)))) := by
    intro d
    induction d with
    | zero =>
      intro i hd
      refine ⟨true, fun _ => rfl, 1, fun k hk => ?_⟩
      obtain ⟨n, rfl⟩ : ∃ n, k = n + 1 := ⟨k - 1, by omega⟩
      simp only [impl_TcOk.l0, impl_LimitsOk.eq, impl_isNum.ev, Option.bind_some]
      rw [if_neg (by omega)]
      cases limitsOk a0 a1 a2 a3 a4 <;> cases isNum v <;> rfl
    | succ d ih =>
      intro i hd
      obtain ⟨r, hr, K1, hK1⟩ := ih (i + 1) (by omega)
      obtain ⟨K2, hK2⟩ := impl_areHashes.ev [(rd_T113 l (i : Int)).f2] (by simp)
      refine ⟨(inR (rd_T113 l (i : Int)).f0 0 (wrap64 (a0 - 1)) && ((if i = 0 then true else decide ((rd_T113 l ((i : Int) - 1)).f0 < (rd_T113 l (i : Int)).f0)) && (inR (rd_T113 l (i : Int)).f1 0 (wrap64 (v - 1)) && isHash (rd_T113 l (i : Int)).f2))) && r, fun hv => ?_, K1 + K2 + 2, fun k hk => ?_⟩
      · have hv' := inR_iff.1 hv
        rw [hr hv]
        rw [entsOk_succ, entOk]
        rw [wrap_id (a := v - 1) (by omega) (by omega)]
        have e : inR (rd_T113 l (i : Int)).f1 0 (v - 1) = (decide (0 ≤ (rd_T113 l (i : Int)).f1) && decide ((rd_T113 l (i : Int)).f1 < v)) := by
          unfold inR
          rw [show decide ((rd_T113 l (i : Int)).f1 ≤ v - 1) = decide ((rd_T113 l (i : Int)).f1 < v) from by rw [decide_eq_decide]; omega]
        rw [e]
        cases inR (rd_T113 l (i : Int)).f0 0 (wrap64 (a0 - 1)) <;> cases decide (0 ≤ (rd_T113 l (i : Int)).f1) <;> cases decide ((rd_T113 l (i : Int)).f1 < v) <;> cases isHash (rd_T113 l (i : Int)).f2 <;> simp
      · obtain ⟨n, rfl⟩ : ∃ n, k = n + 2 := ⟨k - 2, by omega⟩
        have hj : ∀ (b : Bool), impl_TcOk.j1 (n + 1) l (l.length : Int) (i : Int) b a0 a1 a2 a3 a4 v l = some (!b && (r && (limitsOk a0 a1 a2 a3 a4 && (isNum v && decide ((l.length : Int) ≤ a0))))) := by
          intro b
          simp only [impl_TcOk.j1]
          rw [wrap_succ (by omega), hK1 n (by omega)]
          cases b <;> rfl
        have hh := hK2 (n + 1) (by omega)
        rw [show [(rd_T113 l (i : Int)).f2].all isHash = isHash (rd_T113 l (i : Int)).f2 by simp] at hh
        simp only [impl_TcOk.l0, hj, impl_within.ev, hh, Option.bind_some]
        rw [if_pos (by omega), if_pos (by omega), if_pos (by omega)]
        simp only [Bool.and_assoc]
        generalize (r && (limitsOk a0 a1 a2 a3 a4 && (isNum v && decide ((l.length : Int) ≤ a0)))) = R
        cases inR (rd_T113 l (i : Int)).f0 0 (wrap64 (a0 - 1))
        · simp
        · by_cases c3 : i = 0
          · subst c3
            cases inR (rd_T113 l ((0 : Nat) : Int)).f1 0 (wrap64 (v - 1)) <;> simp
          · rw [if_pos (by rfl), if_pos (show (i : Int) > 0 by omega), wrap_id (a := (i : Int) - 1) (by omega) (by omega), if_pos (by omega), if_pos (by omega), if_neg c3]
            by_cases c4 : (rd_T113 l ((i : Int) - 1)).f0 < (rd_T113 l (i : Int)).f0
            · rw [if_neg (by omega), decide_eq_true c4]
              cases inR (rd_T113 l (i : Int)).f1 0 (wrap64 (v - 1)) <;> simp
            · rw [if_pos (by omega), decide_eq_false c4]
              simp
  obtain ⟨r, hr, K, hK⟩ := h l.length 0 (by omega)
  refine ⟨K, fun k hk => ?_⟩
  have e := hK k hk
  rw [show ((0 : Nat) : Int) = 0 from rfl] at e
  unfold impl_TcOk.f
  rw [e]
  by_cases hv : isNum v = true
  · rw [hres r hv (hr hv)]
  · rw [hz (Bool.eq_false_iff.2 hv), Bool.eq_false_iff.2 hv]; cases limitsOk a0 a1 a2 a3 a4 <;> cases r <;> rfl

theorem Pure_FnExactTcOk : laws_FnExactTcOk.Pure_ := by
  intro a0_0 a0_1 a0_2 a0_3 a0_4 a1_0 l1_1 wa0_0 wa0_1 wa0_2 wa0_3 wa0_4 wa1_0 wl1_1
  obtain ⟨r0, ⟨Kz0, ez0⟩, bz0, fz0⟩ := laws_szTc.ev a1_0 l1_1 1048576 wl1_1 (by omega) (by omega)
  by_cases cz0 : r0 < 0
  · exact ⟨Kz0, by simp only [laws_FnExactTcOk.f, ez0 (Kz0) (by omega), Option.bind_some, if_pos cz0]⟩
  obtain hl1_1 := fz0 (by omega)
  obtain ⟨Kt1, et1⟩ := laws_toTc.ev a1_0 l1_1 hl1_1
  have il1_1 := LL_map (fun x hx => M156_cv hx) hl1_1
  obtain ⟨Ke1, ee1⟩ := laws_eqTc.refl a1_0 (l1_1.map cv156) il1_1
  obtain ⟨Ks, es⟩ := spec_TcOk.ev a0_0 a0_1 a0_2 a0_3 a0_4 a1_0 (l1_1.map cv156) il1_1.1
  obtain ⟨Ki, ei⟩ := impl_TcOk.ev a0_0 a0_1 a0_2 a0_3 a0_4 a1_0 (l1_1.map cv156) il1_1.1
  refine ⟨Kz0 + Kt1 + Ke1 + Ks + Ki + 5, ?_⟩
  simp only [laws_FnExactTcOk.f, ez0 (Kz0 + Kt1 + Ke1 + Ks + Ki + 5) (by omega), laws_toLimits.f, et1 (Kz0 + Kt1 + Ke1 + Ks + Ki + 5) (by omega), ee1 (Kz0 + Kt1 + Ke1 + Ks + Ki + 5) (by omega), es (Kz0 + Kt1 + Ke1 + Ks + Ki + 5) (by omega), ei (Kz0 + Kt1 + Ke1 + Ks + Ki + 5) (by omega), Option.bind_some, bne_self_eq_false, eq_self, if_true, if_false, Bool.false_eq_true, if_neg cz0]
end Go.Proofs.Ytniapflmmigbjaa.PFnExactTcOk
