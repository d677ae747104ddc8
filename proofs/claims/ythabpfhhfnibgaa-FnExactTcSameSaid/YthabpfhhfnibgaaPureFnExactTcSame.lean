/- What is left of the law FnExactTcSame when memory is gone: FnExactTcSame's answers over numbers and lists are what the reference's are. Condition: each number is an int, each byte is one. -/
import Derived.Test.YthabpfhhfnibgaaPFnExactTcSamex5
import Derived.Test.YthabpfhhfnibgaaOwn
import Derived.Test.YthabpfhhfnibgaaLib
set_option linter.unusedVariables false
set_option linter.unusedSimpArgs false
namespace Go.Proofs.Ythabpfhhfnibgaa.PFnExactTcSame
open Go.RowKit Go.Proofs.YthabpfhhfnibgaaW.PrintWords Go.Proofs.YthabpfhhfnibgaaW.PrintLast Go.Proofs.Ythabpfhhfnibgaa.Own Go.Proofs.Ythabpfhhfnibgaa.Lib
def W115 (x : S115) : Prop := I64 x.f0 ∧ I64 x.f1 ∧ (WL U8) x.f2
/-- The one pure statement. -/
def laws_FnExactTcSame.Pure_ : Prop := ∀ (a0_0 : Int) (l0_1 : (List S115)) (a1_0 : Int) (l1_1 : (List S115)), I64 a0_0 → (WL W115) l0_1 → I64 a1_0 → (WL W115) l1_1 → ∃ k, laws_FnExactTcSame.f k a0_0 l0_1 a1_0 l1_1 = some true

theorem laws_szByteS.ev (l : List Int) (left : Int) (hl : l.length ≤ 9223372036854775807) (h0 : 0 ≤ left) (h1 : left ≤ 1048576) :
    ∃ r, laws_szByteS.f l left = some r ∧ r ≤ left ∧ (0 ≤ r → Lim l) := by
  unfold laws_szByteS.f Lim
  have hw : wrap64 (left - (l.length : Int)) = left - (l.length : Int) := wrap_id (by omega) (by omega)
  rw [hw]
  by_cases c : left - (l.length : Int) < 0
  · rw [if_pos c]; exact ⟨-1, rfl, by omega, fun h => by omega⟩
  · rw [if_neg c]; exact ⟨_, rfl, by omega, fun _ => by omega⟩

theorem laws_szEntry.ev (a0 : Int) (a1 : Int) (l2 : (List Int)) (left : Int) (wl2 : (WL U8) l2) (h0 : 0 ≤ left) (h1 : left ≤ 1048576) :
    ∃ r, (∃ K : Nat, ∀ k : Nat, K ≤ k → laws_szEntry.f a0 a1 l2 left = some r) ∧ r ≤ left ∧ (0 ≤ r → Lim l2) := by
  obtain ⟨r0, e0, b0, f0⟩ := laws_szByteS.ev l2 left (wl2.1) h0 h1
  by_cases c0 : r0 < 0
  · exact ⟨-1, ⟨0, fun k hk => by simp only [laws_szEntry.f, e0, Option.bind_some, if_pos c0]⟩, by omega, fun h => by omega⟩
  refine ⟨r0, ⟨0, fun k hk => by simp only [laws_szEntry.f, e0, Option.bind_some, if_neg c0]⟩, by omega, fun h => ?_⟩
  exact f0 (by omega)
def M115 (x : S115) : Prop := Lim x.f2
theorem laws_szEntryS.ev_l (l : List S115) (hl : WL W115 l) : ∀ (d i : Nat) (left : Int), i + d = l.length → 0 ≤ left → left ≤ 1048576 →
    ∃ r, (∃ K : Nat, ∀ k : Nat, K ≤ k → laws_szEntryS.l0 k l left (i : Int) = some r) ∧ r ≤ left ∧ (0 ≤ r → ∀ x ∈ l.drop i, M115 x) := by
  intro d
  induction d with
  | zero =>
    intro i left hd h0 h1
    refine ⟨left, ⟨1, fun k hk => ?_⟩, by omega, fun _ x hx => by rw [List.drop_of_length_le (by omega)] at hx; cases hx⟩
    obtain ⟨m, rfl⟩ : ∃ m, k = m + 1 := ⟨k - 1, by omega⟩
    simp only [laws_szEntryS.l0]
    rw [if_neg (by omega)]
  | succ d ih =>
    intro i left hd h0 h1
    have hlt : i < l.length := by omega
    have hx : l[i]? = some l[i] := List.getElem?_eq_getElem hlt
    obtain ⟨q0, q1, q2⟩ : W115 l[i] := hl.2 _ (mem_at hx)
    obtain ⟨r1, ⟨K1, e1⟩, b1, f1⟩ := laws_szEntry.ev (l[i].f0) (l[i].f1) (l[i].f2) left q2 h0 h1
    have hr : rd_T115 l (i : Int) = l[i] := getD_at hx
    by_cases c : r1 < 0
    · refine ⟨-1, ⟨K1 + 1, fun k hk => ?_⟩, by omega, fun h => by omega⟩
      obtain ⟨m, rfl⟩ : ∃ m, k = m + 1 := ⟨k - 1, by omega⟩
      simp only [laws_szEntryS.l0]
      rw [if_pos (by omega), if_pos (by omega), hr, e1 m (by omega), Option.bind_some, if_pos c]
    · obtain ⟨r, ⟨K, hK⟩, br, fr⟩ := ih (i + 1) r1 (by omega) (by omega) (by omega)
      refine ⟨r, ⟨K1 + K + 1, fun k hk => ?_⟩, by omega, fun h x hx' => ?_⟩
      · obtain ⟨m, rfl⟩ : ∃ m, k = m + 1 := ⟨k - 1, by omega⟩
        simp only [laws_szEntryS.l0]
        rw [if_pos (by omega), if_pos (by omega), hr, e1 m (by omega), Option.bind_some, if_neg c, wrap_succ (by have := hl.1; omega)]
        exact hK m (by omega)
      · rw [List.drop_eq_getElem_cons hlt] at hx'
        rcases List.mem_cons.1 hx' with rfl | hx'
        · exact f1 (by omega)
        · exact fr h x hx'
theorem laws_szEntryS.ev (l : List S115) (left : Int) (hl : WL W115 l) (h0 : 0 ≤ left) (h1 : left ≤ 1048576) :
    ∃ r, (∃ K : Nat, ∀ k : Nat, K ≤ k → laws_szEntryS.f k l left = some r) ∧ r ≤ left ∧ (0 ≤ r → LL M115 l) := by
  have hw : wrap64 (left - (l.length : Int)) = left - (l.length : Int) := wrap_id (by have := hl.1; omega) (by omega)
  by_cases c : left - (l.length : Int) < 0
  · exact ⟨-1, ⟨0, fun k _ => by unfold laws_szEntryS.f; rw [hw, if_pos c]⟩, by omega, fun h => by omega⟩
  · obtain ⟨r, ⟨K, hK⟩, br, fr⟩ := laws_szEntryS.ev_l l hl l.length 0 (left - (l.length : Int)) (by omega) (by omega) (by omega)
    exact ⟨r, ⟨K, fun k hk => by unfold laws_szEntryS.f; rw [hw, if_neg c]; exact hK k hk⟩, by omega, fun h => ⟨by omega, fun x hx => fr h x (by simpa using hx)⟩⟩
theorem laws_szTc.ev (a0 : Int) (l1 : (List S115)) (left : Int) (wl1 : (WL W115) l1) (h0 : 0 ≤ left) (h1 : left ≤ 1048576) :
    ∃ r, (∃ K : Nat, ∀ k : Nat, K ≤ k → laws_szTc.f k a0 l1 left = some r) ∧ r ≤ left ∧ (0 ≤ r → LL M115 l1) := by
  obtain ⟨r0, ⟨K0, e0⟩, b0, f0⟩ := laws_szEntryS.ev l1 left wl1 h0 h1
  by_cases c0 : r0 < 0
  · exact ⟨-1, ⟨K0, fun k hk => by simp only [laws_szTc.f, e0 k (by omega), Option.bind_some, if_pos c0]⟩, by omega, fun h => by omega⟩
  refine ⟨r0, ⟨K0, fun k hk => by simp only [laws_szTc.f, e0 k (by omega), Option.bind_some, if_neg c0]⟩, by omega, fun h => ?_⟩
  exact f0 (by omega)
theorem laws_toByteS.ev (l : List Int) (hl : Lim l) : ∃ K : Nat, ∀ k : Nat, K ≤ k → laws_toByteS.f k l = some l := by
  unfold Lim at hl
  have h : ∀ (d i : Nat) (m : List Int), i + d = l.length → m.length = l.length → m.take i = l.take i → ∃ K : Nat, ∀ k : Nat, K ≤ k → laws_toByteS.l0 k l m (i : Int) = some l := by
    intro d
    induction d with
    | zero =>
      intro i m hd h1 h2
      refine ⟨1, fun k hk => ?_⟩
      obtain ⟨n, rfl⟩ : ∃ n, k = n + 1 := ⟨k - 1, by omega⟩
      simp only [laws_toByteS.l0]
      rw [if_neg (by omega)]
      obtain rfl : i = l.length := by omega
      rw [take_all h1 h2]
    | succ d ih =>
      intro i m hd h1 h2
      have hlt : i < l.length := by omega
      have hx : l[i]? = some l[i] := List.getElem?_eq_getElem hlt
      obtain ⟨K, hK⟩ := ih (i + 1) (m.set i l[i]) (by omega) (by simpa using h1) (set_take h1 hx h2)
      refine ⟨K + 1, fun k hk => ?_⟩
      obtain ⟨n, rfl⟩ : ∃ n, k = n + 1 := ⟨k - 1, by omega⟩
      simp only [laws_toByteS.l0]
      rw [if_pos (by omega), if_pos (by omega), if_pos (by omega), rd_at hx, wrap_succ (by omega), Int.toNat_natCast]
      exact hK n (by omega)
  obtain ⟨K, hK⟩ := h l.length 0 (List.replicate l.length 0) (by omega) (by simp) (by simp)
  refine ⟨K, fun k hk => ?_⟩
  unfold laws_toByteS.f
  rw [if_pos (by omega), if_pos (by simp; omega), Int.toNat_natCast]
  exact hK k hk

theorem laws_toEntry.ev (a0 : Int) (a1 : Int) (l2 : (List Int)) (hl2 : Lim l2) : ∃ K : Nat, ∀ k : Nat, K ≤ k → laws_toEntry.f k a0 a1 l2 = some (a0, a1, l2) := by
  obtain ⟨K0, e0⟩ := laws_toByteS.ev l2 hl2
  exact ⟨K0, fun k hk => by simp only [laws_toEntry.f, e0 k (by omega), Option.bind_some]⟩
def M93 (x : S93) : Prop := Lim x.f2
def cv115 (x : S115) : S93 := (⟨x.f0, x.f1, x.f2⟩ : S93)
theorem M115_cv {x : S115} (h : M115 x) : M93 (cv115 x) := by
  unfold M115 at h
  have h0 := h
  exact h0
theorem laws_toEntryS.ev (l : List S115) (hl : LL M115 l) : ∃ K : Nat, ∀ k : Nat, K ≤ k → laws_toEntryS.f k l = some (l.map cv115) := by
  have hl1 := hl.1
  have h : ∀ (d i : Nat) (m : List S93), i + d = l.length → m.length = (l.map cv115).length → m.take i = (l.map cv115).take i → ∃ K : Nat, ∀ k : Nat, K ≤ k → laws_toEntryS.l0 k l m (i : Int) = some (l.map cv115) := by
    intro d
    induction d with
    | zero =>
      intro i m hd h1 h2
      refine ⟨1, fun k hk => ?_⟩
      obtain ⟨n, rfl⟩ : ∃ n, k = n + 1 := ⟨k - 1, by omega⟩
      simp only [laws_toEntryS.l0]
      rw [if_neg (by omega)]
      obtain rfl : i = (l.map cv115).length := by rw [List.length_map]; omega
      rw [take_all h1 h2]
    | succ d ih =>
      intro i m hd h1 h2
      have hlt : i < l.length := by omega
      have hx : l[i]? = some l[i] := List.getElem?_eq_getElem hlt
      have hx2 : (l.map cv115)[i]? = some (cv115 l[i]) := by rw [List.getElem?_map, hx]; rfl
      have hml : m.length = l.length := by rw [h1, List.length_map]
      obtain q2 : M115 l[i] := hl.2 _ (mem_at hx)
      obtain ⟨K0, h0⟩ := laws_toEntry.ev (l[i].f0) (l[i].f1) (l[i].f2) q2
      have hr : rd_T115 l (i : Int) = l[i] := getD_at hx
      obtain ⟨K, hK⟩ := ih (i + 1) (m.set i (cv115 l[i])) (by omega) (by simpa using h1) (set_take h1 hx2 h2)
      refine ⟨K0 + K + 1, fun k hk => ?_⟩
      obtain ⟨n, rfl⟩ : ∃ n, k = n + 1 := ⟨k - 1, by omega⟩
      simp only [laws_toEntryS.l0]
      rw [if_pos (by omega), if_pos (by omega), hr, h0 n (by omega), Option.bind_some, if_pos (by omega), wrap_succ (by omega), Int.toNat_natCast]
      exact hK n (by omega)
  obtain ⟨K, hK⟩ := h l.length 0 (List.replicate l.length z93) (by omega) (by simp) (by simp)
  refine ⟨K, fun k hk => ?_⟩
  unfold laws_toEntryS.f
  rw [if_pos (by omega), if_pos (by simp; omega), Int.toNat_natCast]
  exact hK k hk
theorem laws_toTc.ev (a0 : Int) (l1 : (List S115)) (hl1 : LL M115 l1) : ∃ K : Nat, ∀ k : Nat, K ≤ k → laws_toTc.f k a0 l1 = some (a0, (l1.map cv115)) := by
  obtain ⟨K0, e0⟩ := laws_toEntryS.ev l1 hl1
  exact ⟨K0, fun k hk => by simp only [laws_toTc.f, e0 k (by omega), Option.bind_some]⟩
theorem laws_eqByteS.refl (l : List Int) (hl : l.length ≤ 9223372036854775806) : ∃ K : Nat, ∀ k : Nat, K ≤ k → laws_eqByteS.f k l l = some true := by
  have h : ∀ (d i : Nat), i + d = l.length → ∃ K : Nat, ∀ k : Nat, K ≤ k → laws_eqByteS.l0 k l l (i : Int) = some true := by
    intro d
    induction d with
    | zero =>
      intro i hd
      refine ⟨1, fun k hk => ?_⟩
      obtain ⟨n, rfl⟩ : ∃ n, k = n + 1 := ⟨k - 1, by omega⟩
      simp only [laws_eqByteS.l0]
      rw [if_neg (by omega)]
    | succ d ih =>
      intro i hd
      obtain ⟨K, hK⟩ := ih (i + 1) (by omega)
      refine ⟨K + 1, fun k hk => ?_⟩
      obtain ⟨n, rfl⟩ : ∃ n, k = n + 1 := ⟨k - 1, by omega⟩
      simp only [laws_eqByteS.l0]
      rw [if_pos (by omega), if_pos (by omega), if_pos (by omega), if_pos trivial, wrap_succ (by omega)]
      exact hK n (by omega)
  obtain ⟨K, hK⟩ := h l.length 0 (by omega)
  refine ⟨K, fun k hk => ?_⟩
  unfold laws_eqByteS.f
  rw [if_pos rfl]
  exact hK k hk

theorem laws_eqEntry.refl (a0 : Int) (a1 : Int) (l2 : (List Int)) (hl2 : Lim l2) : ∃ K : Nat, ∀ k : Nat, K ≤ k → laws_eqEntry.f k a0 a1 l2 a0 a1 l2 = some true := by
  obtain ⟨K0, e0⟩ := laws_eqByteS.refl l2 (by unfold Lim at hl2; omega)
  exact ⟨K0, fun k hk => by simp only [laws_eqEntry.f, eq_self, if_true, e0 k (by omega), Option.bind_some]⟩
theorem laws_eqEntryS.refl (l : List S93) (hl : LL M93 l) : ∃ K : Nat, ∀ k : Nat, K ≤ k → laws_eqEntryS.f k l l = some true := by
  have hl1 := hl.1
  have h : ∀ (d i : Nat), i + d = l.length → ∃ K : Nat, ∀ k : Nat, K ≤ k → laws_eqEntryS.l0 k l l (i : Int) = some true := by
    intro d
    induction d with
    | zero =>
      intro i hd
      refine ⟨1, fun k hk => ?_⟩
      obtain ⟨n, rfl⟩ : ∃ n, k = n + 1 := ⟨k - 1, by omega⟩
      simp only [laws_eqEntryS.l0]
      rw [if_neg (by omega)]
    | succ d ih =>
      intro i hd
      have hlt : i < l.length := by omega
      have hx : l[i]? = some l[i] := List.getElem?_eq_getElem hlt
      obtain q2 : M93 l[i] := hl.2 _ (mem_at hx)
      obtain ⟨K0, h0⟩ := laws_eqEntry.refl (l[i].f0) (l[i].f1) (l[i].f2) q2
      have hr : rd_T93 l (i : Int) = l[i] := getD_at hx
      obtain ⟨K, hK⟩ := ih (i + 1) (by omega)
      refine ⟨K0 + K + 1, fun k hk => ?_⟩
      obtain ⟨n, rfl⟩ : ∃ n, k = n + 1 := ⟨k - 1, by omega⟩
      simp only [laws_eqEntryS.l0]
      rw [if_pos (by omega), if_pos (by omega), if_pos (by omega), hr, h0 n (by omega), Option.bind_some, if_pos (show true = true from rfl), wrap_succ (by omega)]
      exact hK n (by omega)
  obtain ⟨K, hK⟩ := h l.length 0 (by omega)
  refine ⟨K, fun k hk => ?_⟩
  unfold laws_eqEntryS.f
  rw [if_pos rfl]
  exact hK k hk
theorem laws_eqTc.refl (a0 : Int) (l1 : (List S93)) (hl1 : LL M93 l1) : ∃ K : Nat, ∀ k : Nat, K ≤ k → laws_eqTc.f k a0 l1 a0 l1 = some true := by
  obtain ⟨K0, e0⟩ := laws_eqEntryS.refl l1 hl1
  exact ⟨K0, fun k hk => by simp only [laws_eqTc.f, eq_self, if_true, e0 k (by omega), Option.bind_some]⟩
theorem spec_SameBytes.ev (a b : List Int) : spec_SameBytes.f a b = some (sameB a b) := rfl

/-- Two entries, compared. -/
def entS (x y : S93) : Bool := decide (x.f0 = y.f0) && (decide (x.f1 = y.f1) && sameB x.f2 y.f2)
def tcSame (a : Int) (l : List S93) (b : Int) (m : List S93) : Bool := decide (a = b) && (decide (l.length = m.length) && allP entS l m)

theorem spec_TcSame.ev (a : Int) (l : List S93) (b : Int) (m : List S93) (hl : LL M93 l) : ∃ K : Nat, ∀ k : Nat, K ≤ k → spec_TcSame.f k a l b m = some (tcSame a l b m) := by
  have hl1 := hl.1
  by_cases ca : a = b
  · by_cases cl : l.length = m.length
    · have h : ∀ (d i : Nat), i + d = l.length → ∃ K : Nat, ∀ k : Nat, K ≤ k → spec_TcSame.l0 k l (l.length : Int) (i : Int) b m = some (allP entS (l.drop i) (m.drop i)) := by
        intro d
        induction d with
        | zero =>
          intro i hd
          refine ⟨1, fun k hk => ?_⟩
          obtain ⟨n, rfl⟩ : ∃ n, k = n + 1 := ⟨k - 1, by omega⟩
          simp only [spec_TcSame.l0]
          rw [if_neg (by omega), List.drop_of_length_le (by omega)]
          rfl
        | succ d ih =>
          intro i hd
          have hla : i < l.length := by omega
          have hlb : i < m.length := by omega
          have ra : rd_T93 l (i : Int) = l[i] := getD_at (List.getElem?_eq_getElem hla)
          have rb : rd_T93 m (i : Int) = m[i] := getD_at (List.getElem?_eq_getElem hlb)
          obtain ⟨K1, hK1⟩ := ih (i + 1) (by omega)
          have hj : ∀ (c : Bool) (k : Nat), K1 + 1 ≤ k → spec_TcSame.j2 k l (l.length : Int) (i : Int) (!c) b m = some (c && allP entS (l.drop (i + 1)) (m.drop (i + 1))) := by
            intro c k hk
            obtain ⟨n, rfl⟩ : ∃ n, k = n + 1 := ⟨k - 1, by omega⟩
            simp only [spec_TcSame.j2]
            rw [wrap_succ (by omega), hK1 n (by omega)]
            cases c <;> rfl
          refine ⟨K1 + 2, fun k hk => ?_⟩
          obtain ⟨n, rfl⟩ : ∃ n, k = n + 1 := ⟨k - 1, by omega⟩
          simp only [spec_TcSame.l0]
          rw [if_pos (by omega), if_pos (by omega), if_pos (by omega), if_pos (by omega), ra, rb, spec_SameBytes.ev, Option.bind_some, List.drop_eq_getElem_cons hla, List.drop_eq_getElem_cons hlb, hj _ n (by omega), allP_cons, entS]
          rw [show spec_TcSame.j2 n l (l.length : Int) (i : Int) true b m = some (false && allP entS (l.drop (i + 1)) (m.drop (i + 1))) from hj false n (by omega)]
          by_cases c0 : l[i].f0 = m[i].f0
          · by_cases c1 : l[i].f1 = m[i].f1
            · rw [if_pos c0, if_pos c1, decide_eq_true c0, decide_eq_true c1, Bool.true_and, Bool.true_and]
            · rw [if_pos c0, if_neg c1, decide_eq_true c0, decide_eq_false c1, Bool.true_and, Bool.false_and]; rfl
          · rw [if_neg c0, decide_eq_false c0]; rfl
      obtain ⟨K, hK⟩ := h l.length 0 (by omega)
      refine ⟨K + 1, fun k hk => ?_⟩
      obtain ⟨n, rfl⟩ : ∃ n, k = n + 1 := ⟨k - 1, by omega⟩
      unfold spec_TcSame.f tcSame
      rw [if_pos ca, decide_eq_true ca, decide_eq_true cl, Bool.true_and, Bool.true_and]
      simp only [spec_TcSame.j0]
      rw [if_neg (by rw [cl]; simp)]
      simpa using hK n (by omega)
    · refine ⟨1, fun k hk => ?_⟩
      obtain ⟨n, rfl⟩ : ∃ n, k = n + 1 := ⟨k - 1, by omega⟩
      unfold spec_TcSame.f tcSame
      rw [if_pos ca, decide_eq_true ca, decide_eq_false cl, Bool.true_and, Bool.false_and]
      simp only [spec_TcSame.j0]
      rw [if_pos (by simp; omega)]
  · refine ⟨1, fun k hk => ?_⟩
    obtain ⟨n, rfl⟩ : ∃ n, k = n + 1 := ⟨k - 1, by omega⟩
    unfold spec_TcSame.f tcSame
    rw [if_neg ca, decide_eq_false ca, Bool.false_and]
    simp only [spec_TcSame.j0]
    rw [if_pos trivial]

theorem impl_SameBytes.ev (a b : List Int) : impl_SameBytes.f a b = some (sameB a b) := rfl

theorem impl_entrySame.ev (x y : S93) : impl_entrySame.f x.f0 x.f1 x.f2 y.f0 y.f1 y.f2 = some (entS x y) := by
  unfold impl_entrySame.f entS
  simp only [impl_SameBytes.ev, Option.bind_some]
  by_cases c0 : x.f0 = y.f0
  · by_cases c1 : x.f1 = y.f1
    · rw [if_pos c0, if_pos c1, decide_eq_true c0, decide_eq_true c1, Bool.true_and, Bool.true_and]
    · rw [if_pos c0, if_neg c1, decide_eq_true c0, decide_eq_false c1, Bool.true_and, Bool.false_and]
  · rw [if_neg c0, decide_eq_false c0, Bool.false_and]

theorem impl_TcSame.ev (a : Int) (l : List S93) (b : Int) (m : List S93) (hl : LL M93 l) : ∃ K : Nat, ∀ k : Nat, K ≤ k → impl_TcSame.f k a l b m = some (tcSame a l b m) := by
  have hl1 := hl.1
  by_cases ca : a = b
  · by_cases cl : l.length = m.length
    · have h : ∀ (d i : Nat), i + d = l.length → ∃ K : Nat, ∀ k : Nat, K ≤ k → impl_TcSame.l0 k (l.length : Int) (i : Int) a l b m = some (allP entS (l.drop i) (m.drop i)) := by
        intro d
        induction d with
        | zero =>
          intro i hd
          refine ⟨1, fun k hk => ?_⟩
          obtain ⟨n, rfl⟩ : ∃ n, k = n + 1 := ⟨k - 1, by omega⟩
          simp only [impl_TcSame.l0]
          rw [if_neg (by omega), List.drop_of_length_le (by omega)]
          rfl
        | succ d ih =>
          intro i hd
          have hla : i < l.length := by omega
          have hlb : i < m.length := by omega
          have ra : rd_T93 l (i : Int) = l[i] := getD_at (List.getElem?_eq_getElem hla)
          have rb : rd_T93 m (i : Int) = m[i] := getD_at (List.getElem?_eq_getElem hlb)
          obtain ⟨K1, hK1⟩ := ih (i + 1) (by omega)
          refine ⟨K1 + 2, fun k hk => ?_⟩
          obtain ⟨n, rfl⟩ : ∃ n, k = n + 1 := ⟨k - 1, by omega⟩
          simp only [impl_TcSame.l0]
          rw [if_pos (by omega), if_pos (by omega), if_pos (by omega), if_pos (by omega), ra, rb, impl_entrySame.ev, Option.bind_some, List.drop_eq_getElem_cons hla, List.drop_eq_getElem_cons hlb, allP_cons, wrap_succ (by omega), hK1 n (by omega)]
          exact and_if _ _
      obtain ⟨K, hK⟩ := h l.length 0 (by omega)
      refine ⟨K + 1, fun k hk => ?_⟩
      obtain ⟨n, rfl⟩ : ∃ n, k = n + 1 := ⟨k - 1, by omega⟩
      unfold impl_TcSame.f tcSame
      rw [if_pos ca, decide_eq_true ca, decide_eq_true cl, Bool.true_and, Bool.true_and]
      simp only [impl_TcSame.j0]
      rw [if_neg (by rw [cl]; simp)]
      simpa using hK n (by omega)
    · refine ⟨1, fun k hk => ?_⟩
      obtain ⟨n, rfl⟩ : ∃ n, k = n + 1 := ⟨k - 1, by omega⟩
      unfold impl_TcSame.f tcSame
      rw [if_pos ca, decide_eq_true ca, decide_eq_false cl, Bool.true_and, Bool.false_and]
      simp only [impl_TcSame.j0]
      rw [if_pos (by simp; omega)]
  · refine ⟨1, fun k hk => ?_⟩
    obtain ⟨n, rfl⟩ : ∃ n, k = n + 1 := ⟨k - 1, by omega⟩
    unfold impl_TcSame.f tcSame
    rw [if_neg ca, decide_eq_false ca, Bool.false_and]
    simp only [impl_TcSame.j0]
    rw [if_pos trivial]

theorem Pure_FnExactTcSame : laws_FnExactTcSame.Pure_ := by
  intro a0_0 l0_1 a1_0 l1_1 wa0_0 wl0_1 wa1_0 wl1_1
  obtain ⟨r0, ⟨Kz0, ez0⟩, bz0, fz0⟩ := laws_szTc.ev a0_0 l0_1 1048576 wl0_1 (by omega) (by omega)
  by_cases cz0 : r0 < 0
  · exact ⟨Kz0, by simp only [laws_FnExactTcSame.f, ez0 (Kz0) (by omega), Option.bind_some, if_pos cz0]⟩
  obtain hl0_1 := fz0 (by omega)
  obtain ⟨r1, ⟨Kz1, ez1⟩, bz1, fz1⟩ := laws_szTc.ev a1_0 l1_1 r0 wl1_1 (by omega) (by omega)
  by_cases cz1 : r1 < 0
  · exact ⟨Kz0 + Kz1, by simp only [laws_FnExactTcSame.f, ez0 (Kz0 + Kz1) (by omega), ez1 (Kz0 + Kz1) (by omega), Option.bind_some, if_neg cz0, if_pos cz1]⟩
  obtain hl1_1 := fz1 (by omega)
  obtain ⟨Kt0, et0⟩ := laws_toTc.ev a0_0 l0_1 hl0_1
  have il0_1 := LL_map (fun x hx => M115_cv hx) hl0_1
  obtain ⟨Ke0, ee0⟩ := laws_eqTc.refl a0_0 (l0_1.map cv115) il0_1
  obtain ⟨Kt1, et1⟩ := laws_toTc.ev a1_0 l1_1 hl1_1
  have il1_1 := LL_map (fun x hx => M115_cv hx) hl1_1
  obtain ⟨Ke1, ee1⟩ := laws_eqTc.refl a1_0 (l1_1.map cv115) il1_1
  obtain ⟨Ks, es⟩ := spec_TcSame.ev a0_0 (l0_1.map cv115) a1_0 (l1_1.map cv115) il0_1
  obtain ⟨Ki, ei⟩ := impl_TcSame.ev a0_0 (l0_1.map cv115) a1_0 (l1_1.map cv115) il0_1
  refine ⟨Kz0 + Kz1 + Kt0 + Ke0 + Kt1 + Ke1 + Ks + Ki + 5, ?_⟩
  simp only [laws_FnExactTcSame.f, ez0 (Kz0 + Kz1 + Kt0 + Ke0 + Kt1 + Ke1 + Ks + Ki + 5) (by omega), ez1 (Kz0 + Kz1 + Kt0 + Ke0 + Kt1 + Ke1 + Ks + Ki + 5) (by omega), et0 (Kz0 + Kz1 + Kt0 + Ke0 + Kt1 + Ke1 + Ks + Ki + 5) (by omega), ee0 (Kz0 + Kz1 + Kt0 + Ke0 + Kt1 + Ke1 + Ks + Ki + 5) (by omega), et1 (Kz0 + Kz1 + Kt0 + Ke0 + Kt1 + Ke1 + Ks + Ki + 5) (by omega), ee1 (Kz0 + Kz1 + Kt0 + Ke0 + Kt1 + Ke1 + Ks + Ki + 5) (by omega), es (Kz0 + Kz1 + Kt0 + Ke0 + Kt1 + Ke1 + Ks + Ki + 5) (by omega), ei (Kz0 + Kz1 + Kt0 + Ke0 + Kt1 + Ke1 + Ks + Ki + 5) (by omega), Option.bind_some, bne_self_eq_false, eq_self, if_true, if_false, Bool.false_eq_true, if_neg cz0, if_neg cz1]
end Go.Proofs.Ythabpfhhfnibgaa.PFnExactTcSame
