/- What is left of the law FnExactFrameData when memory is gone: FnExactFrameData's answers over numbers and lists are what the reference's are. Condition: each number is an int, each byte is one. -/
import Derived.Test.YtppldhkkhadngaaPFnExactFrameDatax5
import Derived.Test.YtppldhkkhadngaaOwn
import Derived.Test.YtppldhkkhadngaaLib
set_option linter.unusedVariables false
set_option linter.unusedSimpArgs false
namespace Go.Proofs.Ytppldhkkhadngaa.PFnExactFrameData
open Go.RowKit Go.Proofs.YtppldhkkhadngaaW.PrintWords Go.Proofs.YtppldhkkhadngaaW.PrintLast Go.Proofs.Ytppldhkkhadngaa.Own Go.Proofs.Ytppldhkkhadngaa.Lib
/-- The one pure statement. -/
def laws_FnExactFrameData.Pure_ : Prop := ∀ (a0_0 : Int) (a0_1 : Int) (a0_2 : Int) (a0_3 : Int) (a0_4 : Int) (l1 : (List Int)) (a2 : Int), I64 a0_0 → I64 a0_1 → I64 a0_2 → I64 a0_3 → I64 a0_4 → (WL U8) l1 → I64 a2 → ∃ k, laws_FnExactFrameData.f k a0_0 a0_1 a0_2 a0_3 a0_4 l1 a2 = some true

theorem laws_toByteS.ev (l : List Int) (hl : Lim l) : ∃ K : Nat, ∀ k : Nat, K ≤ k → laws_toByteS.f k l = some l := by
  unfold Lim at hl
  have h : ∀ (d i : Nat) (m : List Int), i + d = l.length → m.length = l.length → m.take i = l.take i → ∃ K : Nat, ∀ k : Nat, K ≤ k → laws_toByteS.l0 k l m (i : Int) = some l := by
    intro d
    induction d with
    | zero =>
      intro i m hd h1 h2
      refine ⟨1, fun k hk => ?_⟩
      obtain ⟨n, rfl⟩ : ∃ n, k = n + 1 := ⟨k - 1, by omega⟩
      simp only [laws_toByteS.l0]
      rw [if_neg (by omega)]
      obtain rfl : i = l.length := by omega
      rw [take_all h1 h2]
    | succ d ih =>
      intro i m hd h1 h2
      have hlt : i < l.length := by omega
      have hx : l[i]? = some l[i] := List.getElem?_eq_getElem hlt
      obtain ⟨K, hK⟩ := ih (i + 1) (m.set i l[i]) (by omega) (by simpa using h1) (set_take h1 hx h2)
      refine ⟨K + 1, fun k hk => ?_⟩
      obtain ⟨n, rfl⟩ : ∃ n, k = n + 1 := ⟨k - 1, by omega⟩
      simp only [laws_toByteS.l0]
      rw [if_pos (by omega), if_pos (by omega), if_pos (by omega), rd_at hx, wrap_succ (by omega), Int.toNat_natCast]
      exact hK n (by omega)
  obtain ⟨K, hK⟩ := h l.length 0 (List.replicate l.length 0) (by omega) (by simp) (by simp)
  refine ⟨K, fun k hk => ?_⟩
  unfold laws_toByteS.f
  rw [if_pos (by omega), if_pos (by simp; omega), Int.toNat_natCast]
  exact hK k hk

theorem laws_eqByteS.refl (l : List Int) (hl : l.length ≤ 9223372036854775806) : ∃ K : Nat, ∀ k : Nat, K ≤ k → laws_eqByteS.f k l l = some true := by
  have h : ∀ (d i : Nat), i + d = l.length → ∃ K : Nat, ∀ k : Nat, K ≤ k → laws_eqByteS.l0 k l l (i : Int) = some true := by
    intro d
    induction d with
    | zero =>
      intro i hd
      refine ⟨1, fun k hk => ?_⟩
      obtain ⟨n, rfl⟩ : ∃ n, k = n + 1 := ⟨k - 1, by omega⟩
      simp only [laws_eqByteS.l0]
      rw [if_neg (by omega)]
    | succ d ih =>
      intro i hd
      obtain ⟨K, hK⟩ := ih (i + 1) (by omega)
      refine ⟨K + 1, fun k hk => ?_⟩
      obtain ⟨n, rfl⟩ : ∃ n, k = n + 1 := ⟨k - 1, by omega⟩
      simp only [laws_eqByteS.l0]
      rw [if_pos (by omega), if_pos (by omega), if_pos (by omega), if_pos trivial, wrap_succ (by omega)]
      exact hK n (by omega)
  obtain ⟨K, hK⟩ := h l.length 0 (by omega)
  refine ⟨K, fun k hk => ?_⟩
  unfold laws_eqByteS.f
  rw [if_pos rfl]
  exact hK k hk

theorem laws_markByteS.ev (l : List Int) (m : Int) (hl : l.length ≤ 2147483647) (h0 : 0 ≤ m) (h1 : m ≤ 1152921504606846975) : ∃ K : Nat, ∀ k : Nat, K ≤ k → laws_markByteS.f k l m = some (m + l.length, markGo l.length m) := by
  have h : ∀ (d i : Nat) (xs : List Int), i + d = l.length → xs.length = l.length → xs.take i = (markGo l.length m).take i → ∃ K : Nat, ∀ k : Nat, K ≤ k → laws_markByteS.l0 k xs (m + i) (i : Int) = some (m + l.length, markGo l.length m) := by
    intro d
    induction d with
    | zero =>
      intro i xs hd hx ht
      refine ⟨1, fun k hk => ?_⟩
      obtain ⟨n, rfl⟩ : ∃ n, k = n + 1 := ⟨k - 1, by omega⟩
      obtain rfl : i = l.length := by omega
      have e : xs = markGo l.length m := by
        rw [List.take_of_length_le (by omega), List.take_of_length_le (by rw [markGo_length]; omega)] at ht
        exact ht
      simp only [laws_markByteS.l0]
      rw [if_neg (by omega), e]
    | succ d ih =>
      intro i xs hd hx ht
      obtain ⟨K, hK⟩ := ih (i + 1) (xs.set i ((m + i) % 256)) (by omega) (by rw [List.length_set]; exact hx) (by
        rw [set_take (l := markGo l.length m) (by rw [markGo_length]; exact hx) (markGo_at _ _ _ (by omega)) ht])
      refine ⟨K + 1, fun k hk => ?_⟩
      obtain ⟨n, rfl⟩ : ∃ n, k = n + 1 := ⟨k - 1, by omega⟩
      simp only [laws_markByteS.l0]
      rw [if_pos (by omega), if_pos (by omega), Int.toNat_natCast, wrap_succ (by omega), wrap_id (a := m + i + 1) (by omega) (by omega), show m + (i : Int) + 1 = m + ((i + 1 : Nat) : Int) by omega]
      exact hK n (by omega)
  obtain ⟨K, hK⟩ := h l.length 0 l (by omega) rfl (by simp)
  refine ⟨K, fun k hk => ?_⟩
  have e := hK k hk
  rw [show m + ((0 : Nat) : Int) = m by omega] at e
  unfold laws_markByteS.f
  exact e

theorem laws_heldByteS.ev (N : Nat) (m : Int) (hl : N ≤ 2147483647) (h0 : 0 ≤ m) (h1 : m ≤ 1152921504606846975) : ∃ K : Nat, ∀ k : Nat, K ≤ k → laws_heldByteS.f k (markGo N m) m = some (m + N) := by
  have h : ∀ (d i : Nat), i + d = N → ∃ K : Nat, ∀ k : Nat, K ≤ k → laws_heldByteS.l0 k (markGo N m) (m + i) (i : Int) = some (m + N) := by
    intro d
    induction d with
    | zero =>
      intro i hd
      refine ⟨1, fun k hk => ?_⟩
      obtain ⟨n, rfl⟩ : ∃ n, k = n + 1 := ⟨k - 1, by omega⟩
      obtain rfl : i = N := by omega
      simp only [laws_heldByteS.l0]
      rw [if_neg (by rw [markGo_length]; omega)]
    | succ d ih =>
      intro i hd
      obtain ⟨K, hK⟩ := ih (i + 1) (by omega)
      refine ⟨K + 1, fun k hk => ?_⟩
      obtain ⟨n, rfl⟩ : ∃ n, k = n + 1 := ⟨k - 1, by omega⟩
      simp only [laws_heldByteS.l0]
      rw [if_pos (by rw [markGo_length]; omega), if_pos (by omega), rd_at (markGo_at N m i (by omega)), if_pos rfl, wrap_succ (by omega), wrap_id (a := m + i + 1) (by omega) (by omega), show m + (i : Int) + 1 = m + ((i + 1 : Nat) : Int) by omega]
      exact hK n (by omega)
  obtain ⟨K, hK⟩ := h N 0 (by omega)
  refine ⟨K, fun k hk => ?_⟩
  have e := hK k hk
  rw [show m + ((0 : Nat) : Int) = m by omega] at e
  unfold laws_heldByteS.f
  exact e

theorem spec_l01In.ev (a b c : Int) : spec_l01In.f a b c = some (inR a b c) := by
  unfold spec_l01In.f inR
  by_cases h : a ≥ b
  · rw [if_pos h, decide_eq_true (show b ≤ a from h), Bool.true_and]
  · rw [if_neg h, decide_eq_false (show ¬ b ≤ a from h), Bool.false_and]

theorem spec_l02Signers.ev (a : Int) : spec_l02Signers.f a = some (inR a 1 10) := by unfold spec_l02Signers.f; rw [spec_l01In.ev]; rfl

theorem spec_LimitsOk.eq (a0 a1 a2 a3 a4 : Int) : spec_LimitsOk.f a0 a1 a2 a3 a4 = some (limitsOk a0 a1 a2 a3 a4) := by
  unfold spec_LimitsOk.f limitsOk
  simp only [spec_l01In.ev, spec_l02Signers.ev, Option.bind_some]
  cases inR a0 1 10 <;> cases inR a1 0 40 <;> cases inR a2 0 8 <;> cases inR a3 1 4000 <;> rfl
theorem spec_LimitsOk.ev (a0 a1 a2 a3 a4 : Int) : ∃ K : Nat, ∀ k : Nat, K ≤ k → spec_LimitsOk.f a0 a1 a2 a3 a4 = some (limitsOk a0 a1 a2 a3 a4) := ⟨0, fun _ _ => spec_LimitsOk.eq ..⟩

theorem spec_GetFix.ev (l : List Int) (a w : Int) (hl : Lim l) (hb : ∀ x ∈ l, U8 x) (ha : I64 a) : ∃ K : Nat, ∀ k : Nat, K ≤ k → spec_GetFix.f k l a w = some (getFix l a w) := by
  unfold Lim at hl
  unfold I64 at ha
  by_cases c : inR w 1 7 = true
  · have c1 := inR_iff.1 c
    by_cases ca : a < 0
    · refine ⟨1, fun k hk => ?_⟩
      obtain ⟨n, rfl⟩ : ∃ n, k = n + 1 := ⟨k - 1, by omega⟩
      unfold spec_GetFix.f getFix getRaw
      rw [spec_l01In.ev, Option.bind_some, if_pos c, if_pos c, if_pos ca]
      simp only [spec_GetFix.j0]
      rw [if_pos trivial, if_neg (by rw [inR_iff]; omega)]
      rfl
    · have hw : wrap64 ((l.length : Int) - w) = l.length - w := wrap_id (by omega) (by omega)
      by_cases cb : a > l.length - w
      · refine ⟨1, fun k hk => ?_⟩
        obtain ⟨n, rfl⟩ : ∃ n, k = n + 1 := ⟨k - 1, by omega⟩
        unfold spec_GetFix.f getFix getRaw
        rw [spec_l01In.ev, Option.bind_some, if_pos c, if_pos c, if_neg ca, hw, decide_eq_true cb]
        simp only [spec_GetFix.j0]
        rw [if_pos trivial]
        split
        · rw [if_neg (by rw [inR_iff]; omega)]; rfl
        · rfl
      · have hraw : getRaw l a w = ((l.take (a + w).toNat).drop a.toNat, a + w, 0) := by
          unfold getRaw
          rw [if_pos (inR_iff.2 (by omega)), if_pos (inR_iff.2 (by omega))]
        obtain ⟨o, ho⟩ : ∃ o, o = (l.take (a + w).toNat).drop a.toNat := ⟨_, rfl⟩
        have hol : o.length = w.toNat := by rw [ho, take_drop_length (by omega) (by omega)]; omega
        have hob : ∀ x ∈ o, U8 x := by rw [ho]; exact take_drop_mem hb _ _
        have hrd : ∀ i : Nat, (h : i < o.length) → rd l (a + i) = o[i] := by
          intro i h
          have e1 : (a + (i : Int)).toNat = a.toNat + i := by omega
          have e2 : o[i]? = l[a.toNat + i]? := by rw [ho, List.getElem?_drop, List.getElem?_take, if_pos (by omega)]
          unfold rd
          rw [List.getD_eq_getElem?_getD, e1, ← e2, List.getElem?_eq_getElem h]
          rfl
        have h : ∀ (i : Nat), i ≤ o.length → ∃ K : Nat, ∀ k : Nat, K ≤ k → spec_GetFix.l0 k l a w (leNum (o.drop i)) ((i : Int) - 1) = some (leNum o, a + w, 0) := by
          intro i
          induction i with
          | zero =>
            intro hi
            refine ⟨1, fun k hk => ?_⟩
            obtain ⟨n, rfl⟩ : ∃ n, k = n + 1 := ⟨k - 1, by omega⟩
            simp only [spec_GetFix.l0]
            rw [if_neg (by omega), List.drop_zero, wrap_id (by omega) (by omega)]
          | succ i ih =>
            intro hi
            obtain ⟨K, hK⟩ := ih (by omega)
            have hla : i < o.length := by omega
            have hx : U8 o[i] := hob _ (List.getElem_mem hla)
            have hn := leNum_bd (o.drop (i + 1)) (fun x hx => hob x (List.mem_of_mem_drop hx))
            have hlen : (o.drop (i + 1)).length ≤ 6 := by rw [List.length_drop]; omega
            have hp6 : (256 : Int) ^ (o.drop (i + 1)).length ≤ 281474976710656 := pow_le_six hlen
            have e1 : wrap64 (a + (((i + 1 : Nat) : Int) - 1)) = a + i := by rw [wrap_id (by omega) (by omega)]; omega
            have e2 : wrap64 (o[i]) = o[i] := by unfold U8 at hx; exact wrap_id (by omega) (by omega)
            have e3 : wrap64 (leNum (o.drop (i + 1)) * 256) = leNum (o.drop (i + 1)) * 256 := wrap_id (by omega) (by omega)
            have e4 : wrap64 (leNum (o.drop (i + 1)) * 256 + o[i]) = leNum (o.drop i) := by
              rw [List.drop_eq_getElem_cons hla]
              unfold U8 at hx
              simp only [leNum]
              rw [wrap_id (by omega) (by omega)]
              omega
            refine ⟨K + 1, fun k hk => ?_⟩
            obtain ⟨n, rfl⟩ : ∃ n, k = n + 1 := ⟨k - 1, by omega⟩
            simp only [spec_GetFix.l0]
            rw [if_pos (by omega), e1, if_pos (by omega), if_pos (by omega), hrd i hla, e2, e3, e4, show wrap64 ((((i + 1 : Nat) : Int) - 1) - 1) = (i : Int) - 1 by rw [wrap_id (by omega) (by omega)]; omega]
            exact hK n (by omega)
        obtain ⟨K, hK⟩ := h o.length (Nat.le_refl _)
        refine ⟨K + 1, fun k hk => ?_⟩
        obtain ⟨n, rfl⟩ : ∃ n, k = n + 1 := ⟨k - 1, by omega⟩
        unfold spec_GetFix.f getFix
        rw [spec_l01In.ev, Option.bind_some, if_pos c, if_pos c, if_neg ca, hw, decide_eq_false cb, hraw, ← ho]
        simp only [spec_GetFix.j0]
        rw [if_neg (by decide), show wrap64 (w - 1) = (o.length : Int) - 1 by rw [wrap_id (by omega) (by omega)]; omega]
        have := hK n (by omega)
        rw [List.drop_length] at this
        exact this
  · refine ⟨0, fun k _ => ?_⟩
    unfold spec_GetFix.f getFix
    rw [spec_l01In.ev, Option.bind_some, if_neg c, if_neg c]
theorem spec_GetFix.ev' (l : List Int) (a w : Int) (hl : Lim l) (hb : ∀ x ∈ l, U8 x) (ha : I64 a) : ∃ K : Nat, ∀ k : Nat, K ≤ k → spec_GetFix.f k l a w = some (getFix l a w) := spec_GetFix.ev l a w hl hb ha

theorem spec_l03Sum.ev (a : Int) : spec_l03Sum.f a = some (inR a 0 4294967295) := by unfold spec_l03Sum.f; rw [spec_l01In.ev]; rfl

theorem spec_l03Turn.ev (c : Int) (h : U32 c) : spec_l03Turn.f c = some (crcTurn c) := by
  obtain ⟨h0, h1⟩ := h
  unfold spec_l03Turn.f crcTurn
  rw [Int.tmod_eq_emod_of_nonneg h0, Int.tdiv_eq_ediv_of_nonneg h0, wrap_id (by omega) (by omega)]
  by_cases c2 : c % 2 = 1
  · rw [if_pos c2, if_pos c2, (xor_i64 (a := c / 2) (b := 3988292384) (by omega) (by omega) (by omega) (by omega)).1]; rfl
  · rw [if_neg c2, if_neg c2]

theorem spec_CrcMore.loops (l : List Int) (hl : l.length ≤ 9223372036854775806) (hb : ∀ x ∈ l, U8 x) : ∀ (d i : Nat) (c : Int), i + d = l.length → U32 c →
    ∃ K : Nat, ∀ k : Nat, K ≤ k → spec_CrcMore.l0 k c l (l.length : Int) (i : Int) = some (Go.bits .xor .i64 (crcGo c (l.drop i)) 4294967295) := by
  intro d
  induction d with
  | zero =>
    intro i c hd hc
    refine ⟨1, fun k hk => ?_⟩
    obtain ⟨n, rfl⟩ : ∃ n, k = n + 1 := ⟨k - 1, by omega⟩
    simp only [spec_CrcMore.l0]
    rw [if_neg (by omega), List.drop_of_length_le (by omega)]
    rfl
  | succ d ih =>
    intro i c hd hc
    have hla : i < l.length := by omega
    have ra : rd l (i : Int) = l[i] := rd_at (List.getElem?_eq_getElem hla)
    have hx : U8 l[i] := hb _ (List.getElem_mem hla)
    have hw : wrap64 (l[i]) = l[i] := by unfold U8 at hx; exact wrap_id (by omega) (by omega)
    have inner : ∀ (e j : Nat) (c : Int), j + e = 8 → U32 c → ∃ K : Nat, ∀ k : Nat, K ≤ k → spec_CrcMore.l1 k c (j : Int) l (l.length : Int) (i : Int) = some (Go.bits .xor .i64 (crcGo (crcTurns e c) (l.drop (i + 1))) 4294967295) := by
      intro e
      induction e with
      | zero =>
        intro j c he hc
        obtain ⟨K, hK⟩ := ih (i + 1) c (by omega) hc
        refine ⟨K + 1, fun k hk => ?_⟩
        obtain ⟨n, rfl⟩ : ∃ n, k = n + 1 := ⟨k - 1, by omega⟩
        simp only [spec_CrcMore.l1]
        rw [if_neg (by omega), wrap_succ (by omega)]
        exact hK n (by omega)
      | succ e ihe =>
        intro j c he hc
        obtain ⟨K, hK⟩ := ihe (j + 1) (crcTurn c) (by omega) (crcTurn_bd hc)
        refine ⟨K + 1, fun k hk => ?_⟩
        obtain ⟨n, rfl⟩ : ∃ n, k = n + 1 := ⟨k - 1, by omega⟩
        simp only [spec_CrcMore.l1]
        rw [if_pos (by omega), spec_l03Turn.ev c hc, Option.bind_some, wrap_succ (by omega)]
        exact hK n (by omega)
    obtain ⟨K, hK⟩ := inner 8 0 (Go.bits .xor .i64 c l[i]) (by omega) (xor_bd hc (U8.u32 hx))
    refine ⟨K + 1, fun k hk => ?_⟩
    obtain ⟨n, rfl⟩ : ∃ n, k = n + 1 := ⟨k - 1, by omega⟩
    simp only [spec_CrcMore.l0]
    rw [if_pos (by omega), if_pos (by omega), if_pos (by omega), ra, hw, List.drop_eq_getElem_cons hla]
    exact hK n (by omega)
theorem spec_CrcMore.zero (l : List Int) (hl : l.length ≤ 9223372036854775806) (hb : ∀ x ∈ l, U8 x) : ∃ K : Nat, ∀ k : Nat, K ≤ k → spec_CrcMore.f k 0 l = some (crc l) := by
  obtain ⟨K, hK⟩ := spec_CrcMore.loops l hl hb l.length 0 (Go.bits .xor .i64 0 4294967295) (by omega) (xor_bd ⟨by decide, by decide⟩ ⟨by decide, by decide⟩)
  refine ⟨K, fun k hk => ?_⟩
  unfold spec_CrcMore.f
  rw [spec_l03Sum.ev, Option.bind_some, if_pos (by decide)]
  exact hK k hk

theorem spec_Crc.ev (l : List Int) (hl : l.length ≤ 9223372036854775806) (hb : ∀ x ∈ l, U8 x) : ∃ K : Nat, ∀ k : Nat, K ≤ k → spec_Crc.f k l = some (crc l) := by
  obtain ⟨K, hK⟩ := spec_CrcMore.zero l hl hb
  exact ⟨K, fun k hk => by unfold spec_Crc.f; rw [hK k hk]; rfl⟩

theorem spec_FrameAt.rest (a0 a1 a2 a3 a4 : Int) (l : List Int) (a : Int) (hl : Lim l) (hb : ∀ x ∈ l, U8 x) (h3 : a3 ≤ 4000) (h0 : 0 ≤ a) (h1 : a < l.length) :
    ∃ K : Nat, ∀ k : Nat, K ≤ k → spec_FrameAt.j0 k l a false a0 a1 a2 a3 a4 = some (frameRest a3 l a) := by
  unfold Lim at hl
  have hi : I64 (a + 2) := by unfold I64; omega
  have hj : I64 (a + 4) := by unfold I64; omega
  obtain ⟨K1, e1⟩ := spec_GetFix.ev' l (a + 2) 2 hl hb hi
  obtain ⟨K2, e2⟩ := spec_GetFix.ev' l (a + 4) 4 hl hb hj
  have w0 : wrap64 ((l.length : Int) - a) = l.length - a := wrap_id (by omega) (by omega)
  have w2 : wrap64 (a + 2) = a + 2 := wrap_id (by omega) (by omega)
  have w4 : wrap64 (a + 4) = a + 4 := wrap_id (by omega) (by omega)
  have w8 : wrap64 (a + 8) = a + 8 := wrap_id (by omega) (by omega)
  by_cases c4 : (l.length : Int) - a < 4
  · refine ⟨1, fun k hk => ?_⟩
    obtain ⟨n, rfl⟩ : ∃ n, k = n + 1 := ⟨k - 1, by omega⟩
    simp only [spec_FrameAt.j0]
    rw [if_neg Bool.false_ne_true, w0, if_pos c4, frameRest, if_pos c4]
  · by_cases cn : inR (getFix l (a + 2) 2).1 1 a3 = true
    · have hn := inR_iff.1 cn
      have w9 : wrap64 (8 + (getFix l (a + 2) 2).1) = 8 + (getFix l (a + 2) 2).1 := wrap_id (by omega) (by omega)
      have w10 : wrap64 (a + 8 + (getFix l (a + 2) 2).1) = a + 8 + (getFix l (a + 2) 2).1 := wrap_id (by omega) (by omega)
      by_cases c8 : (l.length : Int) - a < 8 + (getFix l (a + 2) 2).1
      · refine ⟨K1 + 1, fun k hk => ?_⟩
        obtain ⟨n, rfl⟩ : ∃ n, k = n + 1 := ⟨k - 1, by omega⟩
        simp only [spec_FrameAt.j0]
        rw [if_neg Bool.false_ne_true, w0, if_neg c4, w2, e1 n (by omega), Option.bind_some, spec_l01In.ev, Option.bind_some, if_pos cn, w9, if_pos c8, frameRest, if_neg c4, if_pos cn, if_pos c8]
      · obtain ⟨K3, e3⟩ := spec_Crc.ev ((l.take (a + 8 + (getFix l (a + 2) 2).1).toNat).drop (a + 8).toNat) (by rw [List.length_drop, List.length_take]; omega) (take_drop_mem hb _ _)
        refine ⟨K1 + K2 + K3 + 1, fun k hk => ?_⟩
        obtain ⟨n, rfl⟩ : ∃ n, k = n + 1 := ⟨k - 1, by omega⟩
        simp only [spec_FrameAt.j0]
        rw [if_neg Bool.false_ne_true, w0, if_neg c4, w2, e1 n (by omega), Option.bind_some, spec_l01In.ev, Option.bind_some, if_pos cn, w9, if_neg c8, w4, e2 n (by omega), Option.bind_some, w8, w10, if_pos (by omega), if_pos (by omega), if_pos (by omega), e3 n (by omega), Option.bind_some, frameRest, if_neg c4, if_pos cn, if_neg c8]
        split <;> rfl
    · refine ⟨K1 + 1, fun k hk => ?_⟩
      obtain ⟨n, rfl⟩ : ∃ n, k = n + 1 := ⟨k - 1, by omega⟩
      simp only [spec_FrameAt.j0]
      rw [if_neg Bool.false_ne_true, w0, if_neg c4, w2, e1 n (by omega), Option.bind_some, spec_l01In.ev, Option.bind_some, if_neg cn, frameRest, if_neg c4, if_neg cn]
theorem spec_FrameAt.none (a0 a1 a2 a3 a4 : Int) (l : List Int) (a : Int) : ∀ k : Nat, 1 ≤ k → spec_FrameAt.j0 k l a true a0 a1 a2 a3 a4 = some (0, 0) := by
  intro k hk
  obtain ⟨n, rfl⟩ : ∃ n, k = n + 1 := ⟨k - 1, by omega⟩
  simp only [spec_FrameAt.j0]
  rw [if_pos trivial]
theorem spec_FrameAt.ev (a0 a1 a2 a3 a4 : Int) (l : List Int) (a : Int) (hl : Lim l) (hb : ∀ x ∈ l, U8 x) : ∃ K : Nat, ∀ k : Nat, K ≤ k → spec_FrameAt.f k a0 a1 a2 a3 a4 l a = some (frameAt a0 a1 a2 a3 a4 l a) := by
  have hl' := hl
  unfold Lim at hl
  have wl : wrap64 ((l.length : Int) - 1) = l.length - 1 := wrap_id (by omega) (by omega)
  by_cases cL : limitsOk a0 a1 a2 a3 a4 = true
  · by_cases ca : inR a 0 (l.length - 1) = true
    · have ha := inR_iff.1 ca
      obtain ⟨K, e⟩ := spec_FrameAt.rest a0 a1 a2 a3 a4 l a hl' hb (limits_frame cL).2 ha.1 (by omega)
      have w1 : wrap64 (a + 1) = a + 1 := wrap_id (by omega) (by omega)
      have w0 : wrap64 ((l.length : Int) - a) = l.length - a := wrap_id (by omega) (by omega)
      refine ⟨K + 1, fun k hk => ?_⟩
      unfold spec_FrameAt.f frameAt
      rw [spec_LimitsOk.eq, Option.bind_some, if_pos cL, if_pos cL, wl, spec_l01In.ev, Option.bind_some, if_pos ca, if_pos ca, if_pos ha.1, if_pos (by omega)]
      by_cases c1 : rd l a = 181
      · rw [if_pos c1, if_pos c1]
        by_cases c2 : a + 1 < (l.length : Int)
        · rw [w1, if_pos c2, if_pos (show 0 ≤ a + 1 by omega), if_pos c2]
          by_cases c3 : rd l (a + 1) = 70
          · rw [if_pos c3, show (rd l (a + 1) != 70) = false by simp [c3]]
            exact e k (by omega)
          · rw [if_neg c3, show (rd l (a + 1) != 70) = true by simpa using c3]
            exact spec_FrameAt.none _ _ _ _ _ _ _ k (by omega)
        · rw [w1, if_neg c2, if_neg c2]
          exact e k (by omega)
      · rw [if_neg c1, if_neg c1]
        exact spec_FrameAt.none _ _ _ _ _ _ _ k (by omega)
    · refine ⟨1, fun k hk => ?_⟩
      unfold spec_FrameAt.f frameAt
      rw [spec_LimitsOk.eq, Option.bind_some, if_pos cL, if_pos cL, wl, spec_l01In.ev, Option.bind_some, if_neg ca, if_neg ca]
      exact spec_FrameAt.none _ _ _ _ _ _ _ k hk
  · refine ⟨1, fun k hk => ?_⟩
    unfold spec_FrameAt.f frameAt
    rw [spec_LimitsOk.eq, Option.bind_some, if_neg cL, if_neg cL]
    exact spec_FrameAt.none _ _ _ _ _ _ _ k hk

theorem spec_l01Copy.ev (l : List Int) (hl : l.length ≤ 70368744177664) : spec_l01Copy.f l = some l := by
  unfold spec_l01Copy.f
  rw [Option.bind_some, if_pos (by simp; omega), List.nil_append]

theorem spec_FrameData.ev (a0 a1 a2 a3 a4 : Int) (l : List Int) (a : Int) (hl : Lim l) (hb : ∀ x ∈ l, U8 x) : ∃ K : Nat, ∀ k : Nat, K ≤ k → spec_FrameData.f k a0 a1 a2 a3 a4 l a = some (frameData a0 a1 a2 a3 a4 l a) := by
  have hl0 := hl
  unfold Lim at hl0
  obtain ⟨K, e⟩ := spec_FrameAt.ev a0 a1 a2 a3 a4 l a hl hb
  have hg := frameAt_good a0 a1 a2 a3 a4 l a
  refine ⟨K, fun k hk => ?_⟩
  unfold spec_FrameData.f frameData
  rw [e k hk, Option.bind_some]
  by_cases c : (frameAt a0 a1 a2 a3 a4 l a).1 = 3
  · obtain ⟨h1, h2, h3⟩ := hg c
    have w1 : wrap64 (a + 8) = a + 8 := wrap_id (by omega) (by omega)
    have w2 : wrap64 (a + (frameAt a0 a1 a2 a3 a4 l a).2) = a + (frameAt a0 a1 a2 a3 a4 l a).2 := wrap_id (by omega) (by omega)
    rw [if_pos c, if_pos c, w1, w2, if_pos (by omega), if_pos (by omega), if_pos (by omega), spec_l01Copy.ev _ (by rw [List.length_drop, List.length_take]; omega), Option.bind_some]
  · rw [if_neg c, if_neg c]

theorem impl_within.ev (a b c : Int) : impl_within.f a b c = some (inR a b c) := by
  unfold impl_within.f inR
  by_cases h : b ≤ a
  · rw [if_pos h, decide_eq_true h, Bool.true_and]
  · rw [if_neg h, decide_eq_false h, Bool.false_and]

theorem impl_LimitsOk.eq (a0 a1 a2 a3 a4 : Int) : impl_LimitsOk.f a0 a1 a2 a3 a4 = some (limitsOk a0 a1 a2 a3 a4) := by
  unfold impl_LimitsOk.f limitsOk
  simp only [impl_within.ev, Option.bind_some]
  cases inR a0 1 10 <;> cases inR a1 0 40 <;> cases inR a2 0 8 <;> cases inR a3 1 4000 <;> rfl
theorem impl_LimitsOk.ev (a0 a1 a2 a3 a4 : Int) : ∃ K : Nat, ∀ k : Nat, K ≤ k → impl_LimitsOk.f a0 a1 a2 a3 a4 = some (limitsOk a0 a1 a2 a3 a4) := ⟨0, fun _ _ => impl_LimitsOk.eq ..⟩

theorem impl_copyBytes.ev (l : List Int) (hl : l.length ≤ 70368744177664) : impl_copyBytes.f l = some l := by
  unfold impl_copyBytes.f
  rw [Option.bind_some, if_pos (by simp; omega), List.nil_append]

theorem impl_GetRaw.ev (l : List Int) (a n : Int) (hl : Lim l) : impl_GetRaw.f l a n = some (getRaw l a n) := by
  unfold Lim at hl
  unfold impl_GetRaw.f getRaw
  rw [impl_within.ev, Option.bind_some]
  by_cases c : inR a 0 l.length = true
  · rw [if_pos c, if_pos c]
    have c1 := inR_iff.1 c
    rw [impl_within.ev, Option.bind_some, wrap_id (by omega) (by omega)]
    by_cases d : inR n 0 (l.length - a) = true
    · have d1 := inR_iff.1 d
      rw [if_pos d, if_pos d, wrap_id (by omega) (by omega), if_pos c1.1, if_pos (by omega), if_pos (by omega), impl_copyBytes.ev _ (by rw [List.length_drop, List.length_take]; omega)]
      rfl
    · rw [if_neg d, if_neg d]
  · rw [if_neg c, if_neg c]

theorem impl_GetFix.ev (l : List Int) (a w : Int) (hl : Lim l) (hb : ∀ x ∈ l, U8 x) : ∃ K : Nat, ∀ k : Nat, K ≤ k → impl_GetFix.f k l a w = some (getFix l a w) := by
  by_cases c : inR w 1 7 = true
  · have c1 := inR_iff.1 c
    obtain ⟨o, ho⟩ : ∃ o, o = (getRaw l a w).1 := ⟨_, rfl⟩
    have hol : o.length ≤ 7 := by
      rw [ho]
      unfold getRaw
      split
      · split
        · rename_i h1 h2
          have := inR_iff.1 h1
          have := inR_iff.1 h2
          rw [List.length_drop, List.length_take]
          omega
        · simp
      · simp
    have hob : ∀ x ∈ o, U8 x := by
      rw [ho]
      unfold getRaw
      split
      · split
        · exact take_drop_mem hb _ _
        · simp
      · simp
    have h : ∀ (d i : Nat), i + d = o.length → ∃ K : Nat, ∀ k : Nat, K ≤ k → impl_GetFix.l0 k (getRaw l a w).2.1 (getRaw l a w).2.2 (leNum (o.take i)) o (o.length : Int) (i : Int) = some (leNum o, (getRaw l a w).2) := by
      intro d
      induction d with
      | zero =>
        intro i hd
        refine ⟨1, fun k hk => ?_⟩
        obtain ⟨n, rfl⟩ : ∃ n, k = n + 1 := ⟨k - 1, by omega⟩
        simp only [impl_GetFix.l0]
        rw [if_neg (by omega), List.take_of_length_le (by omega)]
      | succ d ih =>
        intro i hd
        have hla : i < o.length := by omega
        have ra : rd o (i : Int) = o[i] := rd_at (List.getElem?_eq_getElem hla)
        have hx : U8 o[i] := hob _ (List.getElem_mem hla)
        have hw : wrap64 (o[i]) = o[i] := by unfold U8 at hx; exact wrap_id (by omega) (by omega)
        have hw8 : wrap64 (8 * (i : Int)) = ((8 * i : Nat) : Int) := by rw [wrap_id (by omega) (by omega)]; omega
        obtain ⟨K, hK⟩ := ih (i + 1) (by omega)
        have hn := leNum_bd (o.take i) (fun x hx => hob x (List.mem_of_mem_take hx))
        rw [List.length_take, Nat.min_eq_left (by omega)] at hn
        have hi6 : i ≤ 6 := by omega
        have hp : (2 : Int) ^ (8 * i) = 256 ^ i := by rw [Int.pow_mul]; rfl
        have hpn : (2 : Nat) ^ (8 * i) = 256 ^ i := by rw [Nat.pow_mul]
        have hp6 : (256 : Int) ^ i ≤ 281474976710656 := pow_le_six hi6
        have hpp : (1 : Int) ≤ 256 ^ i := pow_ge_one i
        have hmul : o[i] * 256 ^ i ≤ 255 * 281474976710656 := Int.mul_le_mul (by unfold U8 at hx; omega) hp6 (by omega) (by omega)
        have hmul0 : 0 ≤ o[i] * 256 ^ i := Int.mul_nonneg hx.1 (by omega)
        have hs : shl .i64 o[i] ((8 * i : Nat) : Int) = o[i] * 256 ^ i := by
          unfold shl
          rw [Int.toNat_natCast, Nat.min_eq_left (by show 8 * i ≤ 64; omega), hp, IntKind.wrap_i64]
          omega
        have hor : Go.bits .or .i64 (leNum (o.take i)) (o[i] * 256 ^ i) = leNum (o.take (i + 1)) := by
          have hj := bits_join .i64 62 (by decide) (fun n h0 h1 => by rw [IntKind.wrap_i64]; omega) (8 * i) (o[i] * 256 ^ i) (leNum (o.take i)) hmul0 (by rw [hp]; exact Int.mul_emod_left _ _) (by omega) hn.1 (by rw [hp]; exact hn.2) (by omega)
          have hcomm : Go.bits .or .i64 (leNum (o.take i)) (o[i] * 256 ^ i) = Go.bits .or .i64 (o[i] * 256 ^ i) (leNum (o.take i)) := by
            obtain ⟨p, hp1⟩ := Int.eq_ofNat_of_zero_le hn.1
            obtain ⟨q, hq1⟩ := Int.eq_ofNat_of_zero_le hmul0
            rw [hp1, hq1, (bits_nat .i64 62 (by decide) (fun n h0 h1 => by rw [IntKind.wrap_i64]; omega) p q (by omega) (by omega)).2, (bits_nat .i64 62 (by decide) (fun n h0 h1 => by rw [IntKind.wrap_i64]; omega) q p (by omega) (by omega)).2, Nat.or_comm]
          rw [hcomm, hj, List.take_succ_eq_append_getElem hla, leNum_append, List.length_take, Nat.min_eq_left (by omega)]
          omega
        refine ⟨K + 1, fun k hk => ?_⟩
        obtain ⟨n, rfl⟩ : ∃ n, k = n + 1 := ⟨k - 1, by omega⟩
        simp only [impl_GetFix.l0]
        rw [if_pos (by omega), if_pos (by omega), if_pos (by omega), hw8, if_pos (by omega), ra, hw, hs, hor, wrap_succ (by omega)]
        exact hK n (by omega)
    obtain ⟨K, hK⟩ := h o.length 0 (by omega)
    refine ⟨K, fun k hk => ?_⟩
    unfold impl_GetFix.f getFix
    rw [impl_within.ev, Option.bind_some, if_pos c, if_pos c, impl_GetRaw.ev l a w hl, Option.bind_some, ← ho]
    simpa [leNum] using hK k hk
  · refine ⟨0, fun k _ => ?_⟩
    unfold impl_GetFix.f getFix
    rw [impl_within.ev, Option.bind_some, if_neg c, if_neg c]
theorem impl_GetFix.ev' (l : List Int) (a w : Int) (hl : Lim l) (hb : ∀ x ∈ l, U8 x) (ha : I64 a) : ∃ K : Nat, ∀ k : Nat, K ≤ k → impl_GetFix.f k l a w = some (getFix l a w) := impl_GetFix.ev l a w hl hb

theorem impl_isWord.ev (a : Int) : impl_isWord.f a = some (inR a 0 4294967295) := by unfold impl_isWord.f; rw [impl_within.ev]; rfl

theorem impl_steps.ev (c : Int) (hc : U32 c) : ∃ K : Nat, ∀ k : Nat, K ≤ k → impl_steps.f k c = some (crcTurns 8 c) := by
  have h : ∀ (e j : Nat) (c : Int), j + e = 8 → U32 c → ∃ K : Nat, ∀ k : Nat, K ≤ k → impl_steps.l0 k c (j : Int) = some (crcTurns e c) := by
    intro e
    induction e with
    | zero =>
      intro j c he hc
      refine ⟨1, fun k hk => ?_⟩
      obtain ⟨n, rfl⟩ : ∃ n, k = n + 1 := ⟨k - 1, by omega⟩
      simp only [impl_steps.l0]
      rw [if_neg (by omega)]
      rfl
    | succ e ih =>
      intro j c he hc
      obtain ⟨K, hK⟩ := ih (j + 1) (crcTurn c) (by omega) (crcTurn_bd hc)
      have h0 := hc.1
      have h1 := hc.2
      refine ⟨K + 1, fun k hk => ?_⟩
      obtain ⟨n, rfl⟩ : ∃ n, k = n + 1 := ⟨k - 1, by omega⟩
      simp only [impl_steps.l0]
      rw [if_pos (by omega), and_one h0 h1, wrap_succ (by omega)]
      have ht := hK n (by omega)
      unfold crcTurn at ht
      by_cases c2 : c % 2 = 1
      · rw [if_pos c2, (xor_i64 (a := c / 2) (b := 3988292384) (by omega) (by omega) (by omega) (by omega)).1]
        rw [if_pos c2] at ht
        rw [show crcTurns (e + 1) c = crcTurns e (crcTurn c) from rfl, crcTurn, if_pos c2]
        exact ht
      · rw [if_neg c2]
        rw [if_neg c2] at ht
        rw [show crcTurns (e + 1) c = crcTurns e (crcTurn c) from rfl, crcTurn, if_neg c2]
        exact ht
  obtain ⟨K, hK⟩ := h 8 0 c (by omega) hc
  exact ⟨K, fun k hk => by unfold impl_steps.f; exact hK k hk⟩

theorem impl_CrcMore.zero (l : List Int) (hl : l.length ≤ 9223372036854775806) (hb : ∀ x ∈ l, U8 x) : ∃ K : Nat, ∀ k : Nat, K ≤ k → impl_CrcMore.f k 0 l = some (crc l) := by
  have h : ∀ (d i : Nat) (c : Int), i + d = l.length → U32 c → ∃ K : Nat, ∀ k : Nat, K ≤ k → impl_CrcMore.l0 k c l (l.length : Int) (i : Int) = some (Go.bits .xor .i64 (crcGo c (l.drop i)) 4294967295) := by
    intro d
    induction d with
    | zero =>
      intro i c hd hc
      refine ⟨1, fun k hk => ?_⟩
      obtain ⟨n, rfl⟩ : ∃ n, k = n + 1 := ⟨k - 1, by omega⟩
      simp only [impl_CrcMore.l0]
      rw [if_neg (by omega), List.drop_of_length_le (by omega)]
      rfl
    | succ d ih =>
      intro i c hd hc
      have hla : i < l.length := by omega
      have ra : rd l (i : Int) = l[i] := rd_at (List.getElem?_eq_getElem hla)
      have hx : U8 l[i] := hb _ (List.getElem_mem hla)
      have hw : wrap64 (l[i]) = l[i] := by unfold U8 at hx; exact wrap_id (by omega) (by omega)
      obtain ⟨K1, hK1⟩ := impl_steps.ev (Go.bits .xor .i64 c l[i]) (xor_bd hc (U8.u32 hx))
      obtain ⟨K, hK⟩ := ih (i + 1) (crcTurns 8 (Go.bits .xor .i64 c l[i])) (by omega) (crcTurns_bd 8 (xor_bd hc (U8.u32 hx)))
      refine ⟨K + K1 + 1, fun k hk => ?_⟩
      obtain ⟨n, rfl⟩ : ∃ n, k = n + 1 := ⟨k - 1, by omega⟩
      simp only [impl_CrcMore.l0]
      rw [if_pos (by omega), if_pos (by omega), if_pos (by omega), ra, hw, hK1 n (by omega), Option.bind_some, List.drop_eq_getElem_cons hla, wrap_succ (by omega)]
      exact hK n (by omega)
  obtain ⟨K, hK⟩ := h l.length 0 (Go.bits .xor .i64 0 4294967295) (by omega) (xor_bd ⟨by decide, by decide⟩ ⟨by decide, by decide⟩)
  refine ⟨K, fun k hk => ?_⟩
  unfold impl_CrcMore.f
  rw [impl_isWord.ev, Option.bind_some, if_pos (by decide)]
  exact hK k hk

theorem impl_Crc.ev (l : List Int) (hl : l.length ≤ 9223372036854775806) (hb : ∀ x ∈ l, U8 x) : ∃ K : Nat, ∀ k : Nat, K ≤ k → impl_Crc.f k l = some (crc l) := by
  obtain ⟨K, hK⟩ := impl_CrcMore.zero l hl hb
  exact ⟨K, fun k hk => by unfold impl_Crc.f; rw [hK k hk]; rfl⟩

theorem impl_FrameAt.rest (a0 a1 a2 a3 a4 : Int) (l : List Int) (a : Int) (hl : Lim l) (hb : ∀ x ∈ l, U8 x) (h3 : a3 ≤ 4000) (h0 : 0 ≤ a) (h1 : a < l.length) :
    ∃ K : Nat, ∀ k : Nat, K ≤ k → impl_FrameAt.j0 k l a false a0 a1 a2 a3 a4 = some (frameRest a3 l a) := by
  unfold Lim at hl
  have hi : I64 (a + 2) := by unfold I64; omega
  have hj : I64 (a + 4) := by unfold I64; omega
  obtain ⟨K1, e1⟩ := impl_GetFix.ev' l (a + 2) 2 hl hb hi
  obtain ⟨K2, e2⟩ := impl_GetFix.ev' l (a + 4) 4 hl hb hj
  have w0 : wrap64 ((l.length : Int) - a) = l.length - a := wrap_id (by omega) (by omega)
  have w2 : wrap64 (a + 2) = a + 2 := wrap_id (by omega) (by omega)
  have w4 : wrap64 (a + 4) = a + 4 := wrap_id (by omega) (by omega)
  have w8 : wrap64 (a + 8) = a + 8 := wrap_id (by omega) (by omega)
  by_cases c4 : (l.length : Int) - a < 4
  · refine ⟨1, fun k hk => ?_⟩
    obtain ⟨n, rfl⟩ : ∃ n, k = n + 1 := ⟨k - 1, by omega⟩
    simp only [impl_FrameAt.j0]
    rw [if_neg Bool.false_ne_true, w0, if_pos c4, frameRest, if_pos c4]
  · by_cases cn : inR (getFix l (a + 2) 2).1 1 a3 = true
    · have hn := inR_iff.1 cn
      have w9 : wrap64 (8 + (getFix l (a + 2) 2).1) = 8 + (getFix l (a + 2) 2).1 := wrap_id (by omega) (by omega)
      have w10 : wrap64 (a + 8 + (getFix l (a + 2) 2).1) = a + 8 + (getFix l (a + 2) 2).1 := wrap_id (by omega) (by omega)
      by_cases c8 : (l.length : Int) - a < 8 + (getFix l (a + 2) 2).1
      · refine ⟨K1 + 1, fun k hk => ?_⟩
        obtain ⟨n, rfl⟩ : ∃ n, k = n + 1 := ⟨k - 1, by omega⟩
        simp only [impl_FrameAt.j0]
        rw [if_neg Bool.false_ne_true, w0, if_neg c4, w2, e1 n (by omega), Option.bind_some, impl_within.ev, Option.bind_some, if_pos cn, w9, if_pos c8, frameRest, if_neg c4, if_pos cn, if_pos c8]
      · obtain ⟨K3, e3⟩ := impl_Crc.ev ((l.take (a + 8 + (getFix l (a + 2) 2).1).toNat).drop (a + 8).toNat) (by rw [List.length_drop, List.length_take]; omega) (take_drop_mem hb _ _)
        refine ⟨K1 + K2 + K3 + 1, fun k hk => ?_⟩
        obtain ⟨n, rfl⟩ : ∃ n, k = n + 1 := ⟨k - 1, by omega⟩
        simp only [impl_FrameAt.j0]
        rw [if_neg Bool.false_ne_true, w0, if_neg c4, w2, e1 n (by omega), Option.bind_some, impl_within.ev, Option.bind_some, if_pos cn, w9, if_neg c8, w4, e2 n (by omega), Option.bind_some, w8, w10, if_pos (by omega), if_pos (by omega), if_pos (by omega), e3 n (by omega), Option.bind_some, frameRest, if_neg c4, if_pos cn, if_neg c8]
        split <;> rfl
    · refine ⟨K1 + 1, fun k hk => ?_⟩
      obtain ⟨n, rfl⟩ : ∃ n, k = n + 1 := ⟨k - 1, by omega⟩
      simp only [impl_FrameAt.j0]
      rw [if_neg Bool.false_ne_true, w0, if_neg c4, w2, e1 n (by omega), Option.bind_some, impl_within.ev, Option.bind_some, if_neg cn, frameRest, if_neg c4, if_neg cn]
theorem impl_FrameAt.none (a0 a1 a2 a3 a4 : Int) (l : List Int) (a : Int) : ∀ k : Nat, 1 ≤ k → impl_FrameAt.j0 k l a true a0 a1 a2 a3 a4 = some (0, 0) := by
  intro k hk
  obtain ⟨n, rfl⟩ : ∃ n, k = n + 1 := ⟨k - 1, by omega⟩
  simp only [impl_FrameAt.j0]
  rw [if_pos trivial]
theorem impl_FrameAt.ev (a0 a1 a2 a3 a4 : Int) (l : List Int) (a : Int) (hl : Lim l) (hb : ∀ x ∈ l, U8 x) : ∃ K : Nat, ∀ k : Nat, K ≤ k → impl_FrameAt.f k a0 a1 a2 a3 a4 l a = some (frameAt a0 a1 a2 a3 a4 l a) := by
  have hl' := hl
  unfold Lim at hl
  have wl : wrap64 ((l.length : Int) - 1) = l.length - 1 := wrap_id (by omega) (by omega)
  by_cases cL : limitsOk a0 a1 a2 a3 a4 = true
  · by_cases ca : inR a 0 (l.length - 1) = true
    · have ha := inR_iff.1 ca
      obtain ⟨K, e⟩ := impl_FrameAt.rest a0 a1 a2 a3 a4 l a hl' hb (limits_frame cL).2 ha.1 (by omega)
      have w1 : wrap64 (a + 1) = a + 1 := wrap_id (by omega) (by omega)
      have w0 : wrap64 ((l.length : Int) - a) = l.length - a := wrap_id (by omega) (by omega)
      refine ⟨K + 1, fun k hk => ?_⟩
      unfold impl_FrameAt.f frameAt
      rw [impl_LimitsOk.eq, Option.bind_some, if_pos cL, if_pos cL, wl, impl_within.ev, Option.bind_some, if_pos ca, if_pos ca, if_pos ha.1, if_pos (by omega)]
      by_cases c1 : rd l a = 181
      · rw [if_pos c1, if_pos c1]
        by_cases c2 : a + 1 < (l.length : Int)
        · rw [w0, if_pos (show (l.length : Int) - a > 1 by omega), w1, if_pos (show 0 ≤ a + 1 by omega), if_pos c2, if_pos c2]
          by_cases c3 : rd l (a + 1) = 70
          · rw [if_pos c3, show (rd l (a + 1) != 70) = false by simp [c3]]
            exact e k (by omega)
          · rw [if_neg c3, show (rd l (a + 1) != 70) = true by simpa using c3]
            exact impl_FrameAt.none _ _ _ _ _ _ _ k (by omega)
        · rw [w0, if_neg (show ¬ (l.length : Int) - a > 1 by omega), if_neg c2]
          exact e k (by omega)
      · rw [if_neg c1, if_neg c1]
        exact impl_FrameAt.none _ _ _ _ _ _ _ k (by omega)
    · refine ⟨1, fun k hk => ?_⟩
      unfold impl_FrameAt.f frameAt
      rw [impl_LimitsOk.eq, Option.bind_some, if_pos cL, if_pos cL, wl, impl_within.ev, Option.bind_some, if_neg ca, if_neg ca]
      exact impl_FrameAt.none _ _ _ _ _ _ _ k hk
  · refine ⟨1, fun k hk => ?_⟩
    unfold impl_FrameAt.f frameAt
    rw [impl_LimitsOk.eq, Option.bind_some, if_neg cL, if_neg cL]
    exact impl_FrameAt.none _ _ _ _ _ _ _ k hk

theorem impl_FrameData.ev (a0 a1 a2 a3 a4 : Int) (l : List Int) (a : Int) (hl : Lim l) (hb : ∀ x ∈ l, U8 x) : ∃ K : Nat, ∀ k : Nat, K ≤ k → impl_FrameData.f k a0 a1 a2 a3 a4 l a = some (frameData a0 a1 a2 a3 a4 l a) := by
  have hl0 := hl
  unfold Lim at hl0
  obtain ⟨K, e⟩ := impl_FrameAt.ev a0 a1 a2 a3 a4 l a hl hb
  have hg := frameAt_good a0 a1 a2 a3 a4 l a
  refine ⟨K, fun k hk => ?_⟩
  unfold impl_FrameData.f frameData
  rw [e k hk, Option.bind_some]
  by_cases c : (frameAt a0 a1 a2 a3 a4 l a).1 = 3
  · obtain ⟨h1, h2, h3⟩ := hg c
    have w1 : wrap64 (a + 8) = a + 8 := wrap_id (by omega) (by omega)
    have w2 : wrap64 (a + (frameAt a0 a1 a2 a3 a4 l a).2) = a + (frameAt a0 a1 a2 a3 a4 l a).2 := wrap_id (by omega) (by omega)
    rw [if_pos c, if_pos c, w1, w2, if_pos (by omega), if_pos (by omega), if_pos (by omega), impl_copyBytes.ev _ (by rw [List.length_drop, List.length_take]; omega), Option.bind_some]
  · rw [if_neg c, if_neg c]

theorem Pure_FnExactFrameData : laws_FnExactFrameData.Pure_ := by
  intro a0_0 a0_1 a0_2 a0_3 a0_4 l1 a2 wa0_0 wa0_1 wa0_2 wa0_3 wa0_4 wl1 wa2
  by_cases cb : (l1.length : Int) > 1048576
  · exact ⟨0, by simp only [laws_FnExactFrameData.f, if_pos cb]⟩
  have hl1 : Lim l1 := by unfold Lim; omega
  have hl1' := hl1
  unfold Lim at hl1'
  obtain ⟨Kt, et⟩ := laws_toByteS.ev l1 hl1
  obtain ⟨Ke, ee⟩ := laws_eqByteS.refl l1 (by omega)
  obtain ⟨Ks, es⟩ := spec_FrameData.ev a0_0 a0_1 a0_2 a0_3 a0_4 l1 a2 hl1 wl1.2
  obtain ⟨Ki, ei⟩ := impl_FrameData.ev a0_0 a0_1 a0_2 a0_3 a0_4 l1 a2 hl1 wl1.2
  have hf := frameData_length a0_0 a0_1 a0_2 a0_3 a0_4 l1 a2
  generalize frameData a0_0 a0_1 a0_2 a0_3 a0_4 l1 a2 = F at hf es ei
  obtain ⟨g, b⟩ := F
  simp only at hf
  obtain ⟨Kg, eg⟩ := laws_eqByteS.refl g (by omega)
  obtain ⟨Km, em⟩ := laws_markByteS.ev l1 1 (by omega) (by omega) (by omega)
  obtain ⟨Kn, en⟩ := laws_markByteS.ev g 1 (by omega) (by omega) (by omega)
  obtain ⟨Kh, eh⟩ := laws_heldByteS.ev g.length 1 (by omega) (by omega) (by omega)
  obtain ⟨n, hn⟩ : ∃ n, n = Kt + Ke + Ks + Ki + Kg + Km + Kn + Kh := ⟨_, rfl⟩
  have c1 : ¬ (1 + (l1.length : Int)) < 0 := by omega
  have c2 : ¬ (1 + (g.length : Int)) < 0 := by omega
  refine ⟨n + 3, ?_⟩
  simp only [laws_FnExactFrameData.f, laws_toLimits.f, if_neg cb, Option.bind_some, et (n + 3) (by omega), es (n + 3) (by omega), ei (n + 3) (by omega), eg (n + 3) (by omega), if_true, bne_self_eq_false]
  simp only [laws_FnExactFrameData.j0, Bool.false_eq_true, if_false, et (n + 2) (by omega), ee (n + 2) (by omega), em (n + 2) (by omega), eg (n + 2) (by omega), Option.bind_some, if_true, if_neg c1, bne_self_eq_false]
  simp only [laws_FnExactFrameData.j1, Bool.false_eq_true, if_false, en (n + 1) (by omega), eh (n + 1) (by omega), laws_toLimits.f, et (n + 1) (by omega), ei (n + 1) (by omega), eg (n + 1) (by omega), Option.bind_some, if_true, if_neg c2, bne_self_eq_false]
  simp only [laws_FnExactFrameData.j2, Bool.false_eq_true, if_false, eh n (by omega), Option.bind_some, if_neg c2, if_true]

end Go.Proofs.Ytppldhkkhadngaa.PFnExactFrameData
