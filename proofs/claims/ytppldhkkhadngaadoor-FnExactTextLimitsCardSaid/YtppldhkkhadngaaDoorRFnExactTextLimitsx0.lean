/- The functions that FnExactTextLimits calls, each held to what it answers. Printed by a program of this session; Lean checks it. -/
import Derived.Test.YtppldhkkhadngaaDoorProg
import Derived.Test.YtppldhkkhadngaaDoorTrFnExactTextLimitsb
import Derived.Shelf.LaysM
import Derived.Shelf.Strconv.Itoa3
import Derived.Lib.ItoaLen
import Derived.Lib.AppendIntMem
import Derived.Shelf.Strings.SplitShaped
import Derived.Lib.SplitLaws
import Derived.Laws.Strings2
import Derived.Laws.Slices
import Derived.Laws.BytesArg
import Derived.Lib.SmallJoins
import Derived.Shelf.Strconv.ErrVarAll
import Derived.Lib.Walk
import Derived.BigCall
import Derived.BigGuard
namespace Go.Proofs.YtppldhkkhadngaaDoor.Rf
open Go.RowKit
set_option linter.unusedVariables false
set_option linter.unnecessarySimpa false
set_option linter.unusedSimpArgs false
set_option maxRecDepth 100000
set_option maxHeartbeats 4000000
@[ext] structure SLimits where
  f0 : Int
  f1 : Int
  f2 : Int
  f3 : Int
  f4 : Int
  deriving Inhabited, DecidableEq
def SLimits.cells (x : SLimits) : List D := [(.int .i64 x.f0), (.int .i64 x.f1), (.int .i64 x.f2), (.int .i64 x.f3), (.int .i64 x.f4)]
@[ext] structure SStr where
  f0 : ByteArray
  deriving Inhabited, DecidableEq
def SStr.cells (x : SStr) : List D := [(.str x.f0)]
theorem SStr.len (x : SStr) : x.cells.length = 1 := rfl
theorem ofRow_d {r : Nat} {p : List (Nat × Nat)} {i j : Nat} {e e' : D} (h : e = e') (hs : e'.isSl = false) : PC.ofRow r p i j e = .d e' := by subst h; simp [PC.ofRow, hs]
def SStr.ce (_x : SStr) : Int := 1
theorem cntS_len : ∀ xs : List SStr, cntL SStr.ce xs = xs.length
  | [] => rfl
  | x :: xs => by simp only [cntL, cntS_len xs, SStr.ce, List.length_cons, Int.natCast_succ]; omega
def limOk (l : SLimits) : Bool := decide (1 ≤ l.f0 ∧ l.f0 ≤ 10) && decide (0 ≤ l.f1 ∧ l.f1 ≤ 40) && decide (0 ≤ l.f2 ∧ l.f2 ≤ 8) && decide (1 ≤ l.f3 ∧ l.f3 ≤ 4000) && decide (3 ≤ l.f4 ∧ l.f4 ≤ 5)
def digB (n : Int) : ByteArray := ⟨(Lib.decDigits n.toNat).toArray⟩
def numText (n : Int) : ByteArray := if decide (0 ≤ n ∧ n ≤ 1152921504606846975) = true then digB n else ByteArray.empty
theorem numText_in {n : Int} (h : 0 ≤ n ∧ n ≤ 1152921504606846975) : numText n = digB n := if_pos (decide_eq_true h)
theorem digB_itoa {n : Int} (h : 0 ≤ n) : (⟨(Lib.itoa n).toArray⟩ : ByteArray) = digB n := by
  have e : ((n.toNat : Nat) : Int) = n := by omega
  rw [digB, ← Lib.itoa_nonneg, e]
theorem strOfNums_one (x : Int) : strOfNums [x] = ⟨#[UInt8.ofNat x.toNat]⟩ := rfl
theorem digB_one {m : Int} (h0 : 0 ≤ m) (h : m < 10) (x : Int) (hx : x = 48 + m) : strOfNums [x] = digB m := by
  subst hx
  rw [digB, Lib.decDigits_one (by omega), strOfNums_one]
  have : (48 + m).toNat = 48 + m.toNat := by omega
  rw [this]
theorem digB_next {m : Int} (h : 9 < m) (x : Int) (hx : x = 48 + m % 10) (s : ByteArray) : digB (m / 10) ++ (strOfNums [x] ++ s) = digB m ++ s := by
  subst hx
  rw [← ByteArray.append_assoc]
  congr 1
  have e1 : (m / 10).toNat = m.toNat / 10 := by omega
  have e2 : (48 + m % 10).toNat = 48 + m.toNat % 10 := by omega
  rw [digB, digB, e1, strOfNums_one, e2]
  rw [show Lib.decDigits m.toNat = Lib.decDigits (m.toNat / 10) ++ [UInt8.ofNat (48 + m.toNat % 10)] from by rw [Lib.decDigits, dif_neg (by omega)]]
  apply ByteArray.ext
  simp
theorem digB_size {m : Int} (h : m ≤ 1152921504606846975) : (digB m).size ≤ 20 := by
  show (Lib.decDigits m.toNat).toArray.size ≤ 20
  rw [List.size_toArray, Lib.decDigits_length]
  exact Lib.nDigits_le20 _ (by omega)
theorem numText_size (n : Int) : (numText n).size ≤ 20 := by
  unfold numText
  split
  · rename_i h; exact digB_size (of_decide_eq_true h).2
  · show ByteArray.empty.size ≤ 20; rw [ByteArray.size_empty]; omega
def limTxt0 : ByteArray := ⟨#[108, 105, 109, 105, 116, 115]⟩
def addNums : ByteArray → List Int → ByteArray
  | s, [] => s
  | s, n :: ns => addNums (s ++ ⟨#[32]⟩ ++ numText n) ns
theorem addNums_drop (s : ByteArray) (l : List Int) (i : Nat) (h : i < l.length) : addNums s (l.drop i) = addNums (s ++ ⟨#[32]⟩ ++ numText (l.getD i 0)) (l.drop (i + 1)) := by
  have e : l.getD i 0 = l[i] := by simp [h]
  rw [List.drop_eq_getElem_cons h, e]; rfl
def limText (l : SLimits) : ByteArray := if limOk l = true then addNums limTxt0 [l.f0, l.f1, l.f2, l.f3, l.f4] else ByteArray.empty
theorem Step.slice_str {P : Program} {C : Ctx} {o : Oper} {E : Env} {t : Nat} {T : TypeId} {x y z : Operand} {s : ByteArray} {k k' : IntKind} {i j : Int} (ho : o.op = .slice T x (some y) (some z) none) (hd : o.dst = some t) (ht : t < C.n) (hT : P.underlying T = some .string) (hx : E.ev x = .one (.d (.str s))) (hy : E.ev y = .one (.d (.int k i))) (hz : E.ev z = .one (.d (.int k' j)))
    (h0 : 0 ≤ i) (h1 : i ≤ j) (h2 : j ≤ s.size) : Step P C o E (E.set t (.one (.d (.str (s.extract i.toNat j.toNat))))) :=
  .value hd ht fun M a w R => by
    refine ⟨.string (s.extract i.toNat j.toNat), ?_, ok_val M E w rfl⟩
    unfold execOp
    rw [ho]
    have hrun : (Instr.sliceAt T (a.eval x) (some (a.eval y)) (some (a.eval z)) none).run P w = .ok (.string (s.extract i.toNat j.toNat)) w := by
      rw [ev_val R hx rfl, ev_val R hy rfl, ev_val R hz rfl, run_sliceAt_string (h := hT)]
      exact run_slice_string w T s k k' i j hT h0 h1 h2
    simp only [Option.map_some, Option.map_none, Sem.run_bind, hrun, Result.andThen, Sem.run_pure]
def byteAt (s : ByteArray) (i : Nat) : Int := ((s.data.toList.getD i 0).toNat : Int)
theorem bsize (s : ByteArray) : s.data.toList.length = s.size := rfl
theorem byteAt_eq {s : ByteArray} {i : Nat} (h : i < s.size) : (s[((i : Nat) : Int).toNat]?).map (fun b => ((b.toNat : Nat) : Int)) = some (byteAt s i) := by
  have h' : i < s.data.toList.length := by rw [bsize]; exact h
  show (s[i]?).map (fun b => ((b.toNat : Nat) : Int)) = some (byteAt s i)
  rw [getElem?_pos s i h, Option.map_some, byteAt, List.getD_eq_getElem?_getD, List.getElem?_eq_getElem h', Option.getD_some]
  rfl
def consH (b : UInt8) : List (List UInt8) → List (List UInt8)
  | [] => [[b]]
  | h :: t => (b :: h) :: t
def preH (p : List UInt8) : List (List UInt8) → List (List UInt8)
  | [] => [p]
  | h :: t => (p ++ h) :: t
def pieces (c : UInt8) : List UInt8 → List (List UInt8)
  | [] => [[]]
  | b :: l => if b = c then [] :: pieces c l else consH b (pieces c l)
theorem pieces_ne (c : UInt8) : ∀ l, pieces c l ≠ []
  | [] => by simp [pieces]
  | b :: l => by
    unfold pieces
    split
    · simp
    · cases h : pieces c l <;> simp [consH]
theorem pieces_len (c : UInt8) : ∀ l, (pieces c l).length ≤ l.length + 1
  | [] => by simp [pieces]
  | b :: l => by
    have ih := pieces_len c l
    unfold pieces
    split
    · simp; omega
    · cases h : pieces c l with
      | nil => simp [consH]
      | cons x y => rw [h] at ih; simp [consH] at ih ⊢; omega
theorem preH_cons (p : List UInt8) (b : UInt8) (x : List (List UInt8)) : preH p (consH b x) = preH (p ++ [b]) x := by cases x <;> simp [preH, consH]
theorem preH_nil {x : List (List UInt8)} (h : x ≠ []) : preH [] x = x := by cases x <;> simp_all [preH]
theorem splitK_pieces (c : UInt8) : ∀ l : List UInt8, Lib.splitK [c] 0 (Lib.count l [c]) l = pieces c l
  | [] => by rw [Lib.count_miss (by simp [Lib.index])]; rfl
  | b :: l => by
    have ih := splitK_pieces c l
    by_cases h : b = c
    · subst h
      have hix : Lib.index (b :: l) [b] = 0 := by rw [Lib.index]; simp [List.isPrefixOf]
      rw [Lib.count_cons_eq, Nat.add_comm, Lib.splitK, hix, if_neg (by decide), pieces, if_pos rfl, ← ih]
      rfl
    · rw [Lib.count_cons_ne b c l h, pieces, if_neg h, ← ih]
      have hp : ([c] : List UInt8).isPrefixOf (b :: l) = false := by simp [List.isPrefixOf, Ne.symm h]
      have hix : Lib.index (b :: l) [c] = if Lib.index l [c] == -1 then -1 else Lib.index l [c] + 1 := by rw [Lib.index, hp]; simp
      cases hk : Lib.count l [c] with
      | zero => rfl
      | succ k =>
        by_cases hm : Lib.index l [c] = -1
        · rw [Lib.count_miss hm] at hk; omega
        · have hge := Lib.index_ge l [c]
          obtain ⟨j, hj⟩ : ∃ j : Nat, Lib.index l [c] = j := ⟨(Lib.index l [c]).toNat, by omega⟩
          have hix' : Lib.index (b :: l) [c] = ((j + 1 : Nat) : Int) := by rw [hix, if_neg (fun e => hm (beq_iff_eq.1 e)), hj]; omega
          rw [Lib.splitK, Lib.splitK, hix', hj, if_neg (fun e => by have := beq_iff_eq.1 e; omega), if_neg (fun e => by have := beq_iff_eq.1 e; omega)]
          simp [consH]
def mkS (l : List UInt8) : SStr := ⟨⟨l.toArray⟩⟩
def pieceS (c : UInt8) (s : ByteArray) : List SStr := (pieces c s.data.toList).map mkS
theorem pieceS_len (c : UInt8) (s : ByteArray) : (pieceS c s).length ≤ s.size + 1 := by
  unfold pieceS
  rw [List.length_map]
  exact pieces_len c _
theorem pieceS_pos (c : UInt8) (s : ByteArray) : 0 < (pieceS c s).length := by
  unfold pieceS
  rw [List.length_map]
  exact List.length_pos_iff.2 (pieces_ne c _)
theorem pieceS_cnt (c : UInt8) (s : ByteArray) : cntL SStr.ce (pieceS c s) ≤ s.size + 1 := by
  rw [cntS_len]
  have := pieceS_len c s
  omega
theorem mkS_data (s : ByteArray) : mkS s.data.toList = ⟨s⟩ := by
  unfold mkS
  congr 1
theorem splitB_pieceS (c : UInt8) (s : ByteArray) : (Lib.splitB ⟨#[c]⟩ 0 (Lib.countB s ⟨#[c]⟩) s).map SStr.mk = pieceS c s := by
  have h := Lib.splitB_data ⟨#[c]⟩ 0 (Lib.countB s ⟨#[c]⟩) s
  have h2 := splitK_pieces c s.data.toList
  unfold pieceS
  rw [← h2]
  have e : (Lib.splitB ⟨#[c]⟩ 0 (Lib.countB s ⟨#[c]⟩) s).map SStr.mk = ((Lib.splitB ⟨#[c]⟩ 0 (Lib.countB s ⟨#[c]⟩) s).map (·.data.toList)).map mkS := by
    rw [List.map_map]
    exact List.map_congr_left fun x _ => (mkS_data x).symm
  rw [e, h]
def restS (c : UInt8) (s : ByteArray) (f i : Nat) : List SStr := (preH ((s.data.toList.take i).drop f) (pieces c (s.data.toList.drop i))).map mkS
theorem ext_eq (s : ByteArray) (f i : Nat) : (⟨s.extract f i⟩ : SStr) = mkS ((s.data.toList.take i).drop f) := by
  rw [← mkS_data, Lib.extract_data, List.drop_take]
theorem restS_zero (c : UInt8) (s : ByteArray) : restS c s 0 0 = pieceS c s := by
  unfold restS pieceS
  rw [List.drop_zero, List.take_zero, List.drop_zero, preH_nil (pieces_ne c _)]
theorem restS_end (c : UInt8) (s : ByteArray) (f i : Nat) (h : i = s.size) : restS c s f i = [⟨s.extract f i⟩] := by
  have hd : s.data.toList.drop i = [] := List.drop_eq_nil_of_le (by rw [h, bsize]; exact Nat.le_refl _)
  unfold restS
  rw [hd, ext_eq]
  simp [pieces, preH]
theorem byteAt_get {s : ByteArray} {i : Nat} (h : i < s.data.toList.length) : byteAt s i = ((s.data.toList[i]).toNat : Int) := by rw [byteAt, List.getD_eq_getElem?_getD, List.getElem?_eq_getElem h]; rfl
theorem restS_hit {c : UInt8} {s : ByteArray} {f i : Nat} (h : i < s.size) (hb : byteAt s i = (c.toNat : Int)) : restS c s f i = ⟨s.extract f i⟩ :: restS c s (i + 1) (i + 1) := by
  have hl : i < s.data.toList.length := by rw [bsize]; exact h
  rw [byteAt_get hl] at hb
  have hc : s.data.toList[i] = c := UInt8.toNat_inj.1 (by omega)
  unfold restS
  rw [List.drop_eq_getElem_cons hl, pieces, if_pos hc, ext_eq]
  have hn : (s.data.toList.take (i + 1)).drop (i + 1) = [] := List.drop_eq_nil_of_le (by rw [List.length_take]; omega)
  rw [hn, preH_nil (pieces_ne c _)]
  simp [preH]
theorem restS_miss {c : UInt8} {s : ByteArray} {f i : Nat} (h : i < s.size) (hf : f ≤ i) (hb : byteAt s i ≠ (c.toNat : Int)) : restS c s f i = restS c s f (i + 1) := by
  have hl : i < s.data.toList.length := by rw [bsize]; exact h
  rw [byteAt_get hl] at hb
  have hc : ¬ s.data.toList[i] = c := fun e => hb (by rw [e])
  unfold restS
  rw [List.drop_eq_getElem_cons hl, pieces, if_neg hc, preH_cons, List.take_succ_eq_append_getElem hl, List.drop_append_of_le_length (by rw [List.length_take]; omega)]
def l10I (c : UInt8) (s : ByteArray) (o : List SStr) (f i : Nat) : Prop := f ≤ i ∧ i ≤ s.size + 1 ∧ o.length ≤ i ∧ ((i ≤ s.size ∧ o ++ restS c s f i = pieceS c s) ∨ (i = s.size + 1 ∧ o = pieceS c s))
theorem l10_start (c : UInt8) (s : ByteArray) : l10I c s [] 0 0 := ⟨Nat.le_refl _, by omega, Nat.le_refl _, .inl ⟨Nat.zero_le _, by rw [List.nil_append, restS_zero]⟩⟩
theorem l10_add {c : UInt8} {s : ByteArray} {o : List SStr} {f i : Nat} (h : l10I c s o f i) (hi : i ≤ s.size) (hb : i = s.size ∨ byteAt s i = (c.toNat : Int)) : l10I c s (o ++ [⟨s.extract f i⟩]) (i + 1) (i + 1) := by
  obtain ⟨h1, h2, h3, h4⟩ := h
  have h4 : o ++ restS c s f i = pieceS c s := by
    rcases h4 with h4 | h4
    · exact h4.2
    · omega
  refine ⟨Nat.le_refl _, by omega, by rw [List.length_append]; simp; omega, ?_⟩
  by_cases he : i = s.size
  · right
    exact ⟨by omega, by rw [← h4, restS_end c s f i he]⟩
  · left
    have hb : byteAt s i = (c.toNat : Int) := hb.resolve_left he
    exact ⟨by omega, by rw [← h4, restS_hit (by omega) hb, List.append_assoc]; rfl⟩
theorem l10_pass {c : UInt8} {s : ByteArray} {o : List SStr} {f i : Nat} (h : l10I c s o f i) (hi : i < s.size) (hb : byteAt s i ≠ (c.toNat : Int)) : l10I c s o f (i + 1) := by
  obtain ⟨h1, h2, h3, h4⟩ := h
  have h4 : o ++ restS c s f i = pieceS c s := by
    rcases h4 with h4 | h4
    · exact h4.2
    · omega
  exact ⟨by omega, by omega, by omega, .inl ⟨by omega, by rw [← h4, restS_miss hi h1 hb]⟩⟩
theorem l10_done {c : UInt8} {s : ByteArray} {o : List SStr} {f i : Nat} (h : l10I c s o f i) (hi : ¬ i ≤ s.size) : o = pieceS c s := by
  rcases h.2.2.2 with h4 | h4
  · omega
  · exact h4.2
def dvl (a : Nat) : List UInt8 → Nat
  | [] => a
  | c :: l => dvl (a * 10 + (c.toNat - 48)) l
def digs (l : List UInt8) : Prop := ∀ c ∈ l, 48 ≤ c.toNat ∧ c.toNat ≤ 57
theorem dvl_app : ∀ (l m : List UInt8) (a : Nat), dvl a (l ++ m) = dvl (dvl a l) m
  | [], _, _ => rfl
  | c :: l, m, a => dvl_app l m _
theorem dvl_ge : ∀ (l : List UInt8) (a : Nat), a ≤ dvl a l
  | [], a => Nat.le_refl _
  | c :: l, a => Nat.le_trans (by omega) (dvl_ge l (a * 10 + (c.toNat - 48)))
theorem toNat48 {k : Nat} (h : k < 10) : (UInt8.ofNat (48 + k)).toNat = 48 + k := UInt8.toNat_ofNat_of_lt' (by show 48 + k < 256; omega)
theorem dec_dvl (n : Nat) : dvl 0 (Lib.decDigits n) = n ∧ digs (Lib.decDigits n) := by
  induction n using Nat.strongRecOn with
  | _ n ih =>
    by_cases h : n < 10
    · rw [Lib.decDigits, dif_pos h]
      have e := toNat48 h
      refine ⟨by show 0 * 10 + ((UInt8.ofNat (48 + n)).toNat - 48) = n; omega, fun c hc => ?_⟩
      rw [List.mem_singleton] at hc
      subst hc
      omega
    · rw [Lib.decDigits, dif_neg h, dvl_app]
      obtain ⟨h1, h2⟩ := ih (n / 10) (by omega)
      have e := toNat48 (k := n % 10) (by omega)
      rw [h1]
      refine ⟨by show n / 10 * 10 + ((UInt8.ofNat (48 + n % 10)).toNat - 48) = n; omega, fun c hc => ?_⟩
      rcases List.mem_append.1 hc with hc | hc
      · exact h2 c hc
      · rw [List.mem_singleton] at hc
        subst hc
        omega
theorem dec_len : ∀ (d n : Nat), n < 10 ^ d → (Lib.decDigits n).length ≤ d + 1 ∧ (0 < d → (Lib.decDigits n).length ≤ d)
  | 0, n, h => by
    have : n = 0 := by simp at h; omega
    subst this
    rw [Lib.decDigits, dif_pos (by omega)]
    exact ⟨by simp, fun h => absurd h (by omega)⟩
  | d + 1, n, h => by
    have hp : n / 10 < 10 ^ d := by rw [Nat.pow_succ] at h; omega
    have ih := dec_len d (n / 10) hp
    by_cases h0 : n < 10
    · rw [Lib.decDigits, dif_pos h0]; exact ⟨by simp, fun _ => by simp⟩
    · rw [Lib.decDigits, dif_neg h0, List.length_append]
      have h1 : 0 < d := by
        rcases Nat.eq_zero_or_pos d with hd | hd
        · subst hd; simp at hp; omega
        · exact hd
      have := ih.2 h1
      simp only [List.length_cons, List.length_nil]
      exact ⟨by omega, fun _ => by omega⟩
theorem parse_digs : ∀ (l : List UInt8) (a : Nat), digs l → dvl a l ≤ 1152921504606846975 → Lib.parseUint10 a l = .ok (dvl a l)
  | [], a, _, _ => rfl
  | c :: l, a, hd, hb => by
    have h1 := hd c (by simp)
    have h2 : a * 10 + (c.toNat - 48) ≤ dvl (a * 10 + (c.toNat - 48)) l := dvl_ge l _
    have h3 : dvl (a * 10 + (c.toNat - 48)) l ≤ 1152921504606846975 := hb
    show (if 48 ≤ c.toNat ∧ c.toNat ≤ 57 then (if 1844674407370955162 ≤ a then _ else if 18446744073709551616 ≤ a * 10 + (c.toNat - 48) then _ else Lib.parseUint10 (a * 10 + (c.toNat - 48)) l) else _) = _
    rw [if_pos h1, if_neg (by omega), if_neg (by omega)]
    exact parse_digs l _ (fun x hx => hd x (by simp [hx])) h3
theorem dec_ne (n : Nat) : Lib.decDigits n ≠ [] := by
  rw [Lib.decDigits]
  split <;> simp
theorem atoi_dec {n : Int} (h0 : 0 ≤ n) (h : n ≤ 1152921504606846975) : Lib.atoiAll (Lib.decDigits n.toNat) = .ok n := by
  obtain ⟨h1, h2⟩ := dec_dvl n.toNat
  have h3 := parse_digs _ 0 h2 (by rw [h1]; omega)
  have hne := dec_ne n.toNat
  cases hl : Lib.decDigits n.toNat with
  | nil => exact absurd hl hne
  | cons c l =>
    rw [hl] at h1 h2 h3
    have hc := h2 c (by simp)
    rw [Lib.atoiAll_plain c l (by omega) (by omega), Lib.parseMag, if_neg (by simp), h3, h1, Lib.signless, if_neg (by omega)]
    congr 1
    omega
/-- The number of a text, if it is the text of a number. -/
def textVal (s : ByteArray) : Option Int := match Lib.atoiAll s.data.toList with
  | .ok v => if 0 ≤ v ∧ v ≤ 1152921504606846975 ∧ digB v = s then some v else none
  | _ => none
def textNum (s : ByteArray) : Int := (textVal s).getD 0
def textOk (s : ByteArray) : Bool := (textVal s).isSome
theorem textVal_of {n : Int} (h0 : 0 ≤ n) (h : n ≤ 1152921504606846975) {s : ByteArray} (e : digB n = s) : textVal s = some n := by
  subst e
  unfold textVal
  rw [show (digB n).data.toList = Lib.decDigits n.toNat from rfl, atoi_dec h0 h]
  exact if_pos ⟨h0, h, rfl⟩
theorem textVal_some {s : ByteArray} {v : Int} (h : textVal s = some v) : 0 ≤ v ∧ v ≤ 1152921504606846975 ∧ digB v = s ∧ s.data.toList = Lib.decDigits v.toNat ∧ Lib.atoiAll s.data.toList = .ok v := by
  unfold textVal at h
  split at h
  · rename_i v' he
    split at h
    · rename_i hv
      injection h with h
      subst h
      exact ⟨hv.1, hv.2.1, hv.2.2, by rw [← hv.2.2]; rfl, he⟩
    · cases h
  · cases h
theorem textVal_none {s : ByteArray} (h : ∀ v, 0 ≤ v → v ≤ 1152921504606846975 → digB v = s → False) : textVal s = none := by
  cases e : textVal s with
  | none => rfl
  | some v =>
    have := textVal_some e
    exact (h v this.1 this.2.1 this.2.2.1).elim
theorem text_no {s : ByteArray} (h : textVal s = none) : textNum s = 0 ∧ textOk s = false := by unfold textNum textOk; rw [h]; exact ⟨rfl, rfl⟩
theorem text_yes {s : ByteArray} {n : Int} (h : textVal s = some n) : textNum s = n ∧ textOk s = true := by unfold textNum textOk; rw [h]; exact ⟨rfl, rfl⟩
theorem textNum_bd (s : ByteArray) : 0 ≤ textNum s ∧ textNum s ≤ 1152921504606846975 := by
  cases e : textVal s with
  | none => rw [(text_no e).1]; omega
  | some v => have := textVal_some e; rw [(text_yes e).1]; exact ⟨this.1, this.2.1⟩
/-- What the first i bytes spell. -/
def dvs (s : ByteArray) (i : Nat) : Int := (dvl 0 (s.data.toList.take i) : Nat)
theorem dvs_zero (s : ByteArray) : dvs s 0 = 0 := rfl
theorem take_at {s : ByteArray} {i : Nat} (h : i < s.size) : ∃ c : UInt8, s.data.toList.take (i + 1) = s.data.toList.take i ++ [c] ∧ byteAt s i = (c.toNat : Int) := by
  have hl : i < s.data.toList.length := by rw [bsize]; exact h
  refine ⟨s.data.toList[i], List.take_succ_eq_append_getElem hl, ?_⟩
  rw [byteAt, List.getD_eq_getElem?_getD, List.getElem?_eq_getElem hl]; rfl
theorem dvs_next {s : ByteArray} {i : Nat} (h : i < s.size) (h1 : 48 ≤ byteAt s i) : dvs s (i + 1) = dvs s i * 10 + (byteAt s i - 48) := by
  obtain ⟨c, e1, e2⟩ := take_at h
  unfold dvs
  rw [e1, dvl_app, e2]
  rw [e2] at h1
  show ((dvl 0 _ * 10 + (c.toNat - 48) : Nat) : Int) = _
  omega
theorem text_size {s : ByteArray} (h : s.size = 0 ∨ 19 < s.size) : textVal s = none := textVal_none fun v h0 h1 e => by
  have hs : s.size = (Lib.decDigits v.toNat).length := by rw [← e]; rfl
  have h2 := (dec_len 19 v.toNat (by omega)).2 (by omega)
  have h3 := List.length_pos_iff.2 (dec_ne v.toNat)
  omega
theorem text_digit {s : ByteArray} {i : Nat} (h : i < s.size) (hb : byteAt s i < 48 ∨ 57 < byteAt s i) : textVal s = none := textVal_none fun v h0 h1 e => by
  obtain ⟨c, e1, e2⟩ := take_at h
  have hm : c ∈ s.data.toList := List.mem_of_mem_take (i := i + 1) (by rw [e1]; simp)
  have := (dec_dvl v.toNat).2 c (by rw [← e] at hm; exact hm)
  omega
theorem text_large {s : ByteArray} {i : Nat} (h : i < s.size) (h1 : 48 ≤ byteAt s i) (hb : 1152921504606846975 < dvs s i * 10 + (byteAt s i - 48)) : textVal s = none := textVal_none fun v h0 h2 e => by
  rw [← dvs_next h h1] at hb
  have h3 : dvl 0 s.data.toList = v.toNat := by rw [← e]; exact (dec_dvl v.toNat).1
  have h4 := dvl_ge (s.data.toList.drop (i + 1)) (dvl 0 (s.data.toList.take (i + 1)))
  rw [← dvl_app, List.take_append_drop, h3] at h4
  unfold dvs at hb
  omega
theorem text_end {s : ByteArray} (h0 : dvs s s.size ≤ 1152921504606846975) : textVal s = if numText (dvs s s.size) = s then some (dvs s s.size) else none := by
  have h1 : 0 ≤ dvs s s.size := by unfold dvs; omega
  rw [numText_in ⟨h1, h0⟩]
  split
  · rename_i e; exact textVal_of h1 h0 e
  · rename_i hne
    refine textVal_none fun v g0 g1 e => hne ?_
    have : dvs s s.size = v := by
      unfold dvs
      rw [← bsize, List.take_length, ← e, show (digB v).data.toList = Lib.decDigits v.toNat from rfl, (dec_dvl v.toNat).1]
      omega
    rw [this, e]
theorem text_eq {a b : ByteArray} (h : a.toList = b.toList) : a = b := by
  rw [ByteArray.toList_eq, ByteArray.toList_eq] at h
  exact ByteArray.ext (Array.toList_inj.1 h)
theorem text_fin {s : ByteArray} {i : Nat} (hi : i = s.size) (h0 : dvs s i ≤ 1152921504606846975) (h : ((numText (dvs s i)).toList == s.toList) = true) : textVal s = some (dvs s i) := by
  subst hi
  rw [text_end h0, if_pos (text_eq (beq_iff_eq.1 h))]
theorem text_bad {s : ByteArray} {i : Nat} (hi : i = s.size) (h0 : dvs s i ≤ 1152921504606846975) (h : ((numText (dvs s i)).toList == s.toList) = false) : textVal s = none := by
  subst hi
  rw [text_end h0, if_neg (fun e => by rw [e] at h; simp at h)]
theorem byteAt_bd (s : ByteArray) (i : Nat) : 0 ≤ byteAt s i ∧ byteAt s i ≤ 255 := by
  unfold byteAt
  have : (s.data.toList.getD i 0).toNat < 256 := UInt8.toNat_lt _
  omega
def gN (ws : List SStr) (j : Nat) : Int := textNum (ws.getD j default).f0
theorem gN_bd (ws : List SStr) (j : Nat) : 0 ≤ gN ws j ∧ gN ws j ≤ 1152921504606846975 := textNum_bd _
def tlA (ws : List SStr) (i : Nat) : List Int := [0, if 1 < i then gN ws 1 else 0, if 2 < i then gN ws 2 else 0, if 3 < i then gN ws 3 else 0, if 4 < i then gN ws 4 else 0, if 5 < i then gN ws 5 else 0]
theorem tlA_len (ws : List SStr) (i : Nat) : (tlA ws i).length = 6 := rfl
theorem tlA_set (ws : List SStr) : ∀ i : Nat, 1 ≤ i → i < 6 → (tlA ws i).set i (gN ws i) = tlA ws (i + 1)
  | 0, h, _ => absurd h (by omega)
  | 1, _, _ => rfl
  | 2, _, _ => rfl
  | 3, _, _ => rfl
  | 4, _, _ => rfl
  | 5, _, _ => rfl
  | _ + 6, _, h => absurd h (by omega)
def tlL (ws : List SStr) (i : Nat) : List Int := (List.range i).map fun j => gN ws (j + 1)
theorem tlL_len (ws : List SStr) (i : Nat) : (tlL ws i).length = i := by unfold tlL; simp
theorem tlL_next (ws : List SStr) (i : Nat) : tlL ws i ++ [gN ws (i + 1)] = tlL ws (i + 1) := by unfold tlL; rw [List.range_succ, List.map_append]; rfl
theorem pieces_sz (c : UInt8) : ∀ l, ∀ p ∈ pieces c l, p.length ≤ l.length
  | [], p, h => by simp [pieces] at h; subst h; exact Nat.le_refl _
  | b :: l, p, h => by
    have ih := pieces_sz c l
    unfold pieces at h
    split at h
    · rcases List.mem_cons.1 h with rfl | h
      · exact Nat.zero_le _
      · exact Nat.le_succ_of_le (ih p h)
    · cases hx : pieces c l with
      | nil => exact absurd hx (pieces_ne c l)
      | cons x y =>
        rw [hx] at h ih
        rcases List.mem_cons.1 h with rfl | h
        · exact Nat.succ_le_succ (ih x (by simp))
        · exact Nat.le_succ_of_le (ih p (by simp [h]))
theorem pieceS_mem (c : UInt8) (s : ByteArray) : ∀ x ∈ pieceS c s, x.f0.size ≤ s.size := by
  intro x hx
  obtain ⟨p, hp, rfl⟩ := List.mem_map.1 hx
  have := pieces_sz c _ p hp
  rw [bsize] at this
  exact this
theorem mem_sz {n : Nat} {l : List SStr} (h : ∀ x ∈ l, x.f0.size ≤ n) (i : Nat) : (l.getD i default).f0.size ≤ n := by
  rw [List.getD_eq_getElem?_getD]
  cases e : l[i]? with
  | none => exact Nat.zero_le _
  | some x => exact h x (List.mem_of_getElem? e)
theorem pieceS_sz (c : UInt8) (s : ByteArray) (i : Nat) : ((pieceS c s).getD i default).f0.size ≤ s.size := mem_sz (pieceS_mem c s) i
theorem restS_sz (c : UInt8) (s : ByteArray) (a b i : Nat) : ((((pieceS c s).drop a).take b).getD i default).f0.size ≤ s.size := mem_sz (fun x hx => pieceS_mem c s x (List.mem_of_mem_drop (List.mem_of_mem_take hx))) i
theorem Bnd.none' {E : Env} {n m : Nat} (h : n = m) : Bnd E Option.none n m := by subst h; exact .none _
theorem tl_get {ws : List SStr} (h6 : ws.length = 6) {i : Nat} (hi : i < 5) : ((ws.drop 1).take (ws.length - 1)).getD i default = ws.getD (i + 1) default := by
  rw [List.getD_eq_getElem?_getD, List.getD_eq_getElem?_getD, List.getElem?_take, if_pos (by omega), List.getElem?_drop, Nat.add_comm]
theorem tlL_next' {ws : List SStr} (h6 : ws.length = 6) {i : Nat} (hi : i < 5) : tlL ws i ++ [textNum (((ws.drop 1).take (ws.length - 1)).getD i default).f0] = tlL ws (i + 1) := by rw [tl_get h6 hi]; exact tlL_next ws i
def limOf (ws : List SStr) : SLimits := ⟨gN ws 1, gN ws 2, gN ws 3, gN ws 4, gN ws 5⟩
def textLimOk (s : ByteArray) : Bool := decide ((pieceS 32 s).length = 6) && limOk (limOf (pieceS 32 s)) && decide (limText (limOf (pieceS 32 s)) = s)
def textLim (s : ByteArray) : SLimits := if textLimOk s = true then limOf (pieceS 32 s) else ⟨0, 0, 0, 0, 0⟩
theorem tl_no {s : ByteArray} (h : textLimOk s = false) : textLim s = ⟨0, 0, 0, 0, 0⟩ := by unfold textLim; rw [h]; rfl
theorem tl_yes {s : ByteArray} (h : textLimOk s = true) : textLim s = limOf (pieceS 32 s) := by unfold textLim; rw [h]; rfl
theorem tl_len {s : ByteArray} (h : ¬ (pieceS 32 s).length = 6) : textLimOk s = false := by unfold textLimOk; rw [decide_eq_false h]; rfl
theorem tl_lm {s : ByteArray} (h : limOk (limOf (pieceS 32 s)) = false) : textLimOk s = false := by unfold textLimOk; rw [h]; simp
theorem tl_tx {s : ByteArray} (h : ((limText (limOf (pieceS 32 s))).toList == s.toList) = false) : textLimOk s = false := by
  unfold textLimOk
  rw [decide_eq_false (p := limText (limOf (pieceS 32 s)) = s) (fun e => by rw [e] at h; simp at h)]
  simp
theorem tl_ok {s : ByteArray} (h6 : (pieceS 32 s).length = 6) (h : ((limText (limOf (pieceS 32 s))).toList == s.toList) = true) : textLimOk s = true := by
  have e : limText (limOf (pieceS 32 s)) = s := text_eq (beq_iff_eq.1 h)
  unfold textLimOk
  rw [decide_eq_true h6, decide_eq_true e]
  cases hl : limOk (limOf (pieceS 32 s)) with
  | true => rfl
  | false =>
    have he : s = ByteArray.empty := by rw [← e]; unfold limText; rw [hl]; rfl
    rw [he] at h6
    exact absurd h6 (by decide)
def Vtab_ (w : World) : Prop := Lib.TabIs Tryd.prog w "internal/strconv.uint64pow10" .u64 Lib.pow10Tab ∧ (∃ m, w.cell? ⟨0, 0, none⟩ = some (.int .i64 m)) ∧ (∃ tp p, w.var? Tryd.prog "strconv.ErrSyntax" = some #[.iface tp p]) ∧ (∃ tp p, w.var? Tryd.prog "strconv.ErrRange" = some #[.iface tp p])
theorem var_kept {w w' : World} {n : String} {cs : Array Value} (h : w.var? Tryd.prog n = some cs) (hk : ∀ k, k < w.heap.size → w'.heap[k]? = w.heap[k]?) : w'.var? Tryd.prog n = some cs := by
  unfold World.var? at *
  cases hg : Program.globalNamed Tryd.prog n with
  | none => rw [hg] at h; exact absurd h (by simp)
  | some g =>
    rw [hg] at h
    simp only [Option.bind_some] at h ⊢
    rw [hk g (by
      by_cases hlt : g < w.heap.size
      · exact hlt
      · rw [Array.getElem?_eq_none (by omega)] at h; exact absurd h (by simp))]
    exact h
theorem hkept_ : Kept_ Vtab_ := by
  intro w w' ⟨h1, ⟨m, h2⟩, ⟨t3, p3, h3⟩, ⟨t4, p4, h4⟩⟩ hk
  refine ⟨var_kept h1 hk, ⟨m, ?_⟩, ⟨t3, p3, var_kept h3 hk⟩, ⟨t4, p4, var_kept h4 hk⟩⟩
  unfold World.cell? at *
  rw [hk 0 (by
    by_cases hlt : 0 < w.heap.size
    · exact hlt
    · rw [Array.getElem?_eq_none (by omega)] at h2; exact absurd h2 (by simp))]
  exact h2
open Go.Lib in
def ex_laysM171_ren : Go.Shelf.Ren := ⟨fun | 171 => 34 | 243 => 37 | 246 => 43 | 283 => 53 | 284 => 54 | 285 => 55 | 286 => 56 | 129 => 66 | 317 => 65 | 318 => 67 | 319 => 68 | 320 => 69 | 337 => 74 | 338 => 75 | n => n, fun | 3 => 3 | 9 => 9 | 2 => 2 | 4 => 4 | 171 => 66 | 0 => 0 | 53 => 67 | 37 => 46 | 5 => 5 | 173 => 70 | 212 => 81 | 51 => 82 | 20 => 20 | 213 => 83 | 46 => 73 | 232 => 97 | 233 => 98 | n => n, fun | 17 => 3 | 18 => 6 | 19 => 7 | n => n⟩
theorem ex_laysM171 : Go.Proofs.LaysM.n171 Tryd.prog ex_laysM171_ren := {
  mixed := by kernel_rfl
  f129 := Tryd.func66.trans (congrArg some (by kernel_rfl))
  f171 := Tryd.func34.trans (congrArg some (by kernel_rfl))
  f243 := Tryd.func37.trans (congrArg some (by kernel_rfl))
  f246 := Tryd.func43.trans (congrArg some (by kernel_rfl))
  f283 := Tryd.func53.trans (congrArg some (by kernel_rfl))
  f284 := Tryd.func54.trans (congrArg some (by kernel_rfl))
  f285 := Tryd.func55.trans (congrArg some (by kernel_rfl))
  f286 := Tryd.func56.trans (congrArg some (by kernel_rfl))
  f317 := Tryd.func65.trans (congrArg some (by kernel_rfl))
  f318 := Tryd.func67.trans (congrArg some (by kernel_rfl))
  f319 := Tryd.func68.trans (congrArg some (by kernel_rfl))
  f320 := Tryd.func69.trans (congrArg some (by kernel_rfl))
  f337 := Tryd.func74.trans (congrArg some (by kernel_rfl))
  f338 := Tryd.func75.trans (congrArg some (by kernel_rfl))
  t0 := Tryd.underlying0
  a0 := Tryd.isAgg0
  z0 := Tryd.sizeOf0
  v0 := Tryd.zeroValue0
  t2 := Tryd.underlying2
  a2 := Tryd.isAgg2
  z2 := Tryd.sizeOf2
  v2 := Tryd.zeroValue2
  t3 := Tryd.underlying3
  a3 := Tryd.isAgg3
  z3 := Tryd.sizeOf3
  v3 := Tryd.zeroValue3
  t4 := Tryd.underlying4
  a4 := Tryd.isAgg4
  z4 := Tryd.sizeOf4
  v4 := Tryd.zeroValue4
  t5 := Tryd.underlying5
  a5 := Tryd.isAgg5
  z5 := Tryd.sizeOf5
  v5 := Tryd.zeroValue5
  t9 := Tryd.underlying9
  a9 := Tryd.isAgg9
  z9 := Tryd.sizeOf9
  v9 := Tryd.zeroValue9
  t20 := Tryd.underlying20
  a20 := Tryd.isAgg20
  z20 := Tryd.sizeOf20
  v20 := Tryd.zeroValue20
  t37 := Tryd.underlying46
  a37 := Tryd.isAgg46
  z37 := Tryd.sizeOf46
  v37 := Tryd.zeroValue46
  t46 := Tryd.underlying73
  a46 := Tryd.isAgg73
  z46 := Tryd.sizeOf73
  v46 := Tryd.zeroValue73
  t51 := Tryd.underlying82
  a51 := Tryd.isAgg82
  z51 := Tryd.sizeOf82
  v51 := Tryd.zeroValue82
  t53 := Tryd.underlying67
  a53 := Tryd.isAgg67
  z53 := Tryd.sizeOf67
  v53 := Tryd.zeroValue67
  t171 := Tryd.underlying66
  a171 := Tryd.isAgg66
  z171 := Tryd.sizeOf66
  v171 := Tryd.zeroValue66
  t173 := Tryd.underlying70
  a173 := Tryd.isAgg70
  z173 := Tryd.sizeOf70
  v173 := Tryd.zeroValue70
  t212 := Tryd.underlying81
  a212 := Tryd.isAgg81
  z212 := Tryd.sizeOf81
  v212 := Tryd.zeroValue81
  t213 := Tryd.underlying83
  a213 := Tryd.isAgg83
  z213 := Tryd.sizeOf83
  t232 := Tryd.underlying97
  a232 := Tryd.isAgg97
  z232 := Tryd.sizeOf97
  v232 := Tryd.zeroValue97
  t233 := Tryd.underlying98
  a233 := Tryd.isAgg98
  z233 := Tryd.sizeOf98
  v233 := Tryd.zeroValue98
  g17 := by kernel_rfl
  g18 := by kernel_rfl
  g19 := by kernel_rfl
  i0 := by kernel_rfl
  i2 := by kernel_rfl
  i3 := by kernel_rfl
  i4 := by kernel_rfl
  i5 := by kernel_rfl
  i9 := by kernel_rfl
  i20 := by kernel_rfl
  i37 := by kernel_rfl
  i46 := by kernel_rfl
  i51 := by kernel_rfl
  i53 := by kernel_rfl
  i171 := by kernel_rfl
  i173 := by kernel_rfl
  i212 := by kernel_rfl
  i232 := by kernel_rfl
  i233 := by kernel_rfl
  m17 := by kernel_rfl
  m18 := by kernel_rfl
  m19 := by kernel_rfl }
open Go.RowKit Go.Sort Go.Lib in
theorem ex_strconv_Itoa (n : Int) (h0 : -9223372036854775808 ≤ n) (h1 : n ≤ 9223372036854775807) (w : World) (htab : Lib.TabIs Tryd.prog w "internal/strconv.uint64pow10" .u64 Lib.pow10Tab) :
    Calls Tryd.prog 34 #[.int .i64 n] w fun e w' => e = .returned (.string ⟨(Lib.itoa n).toArray⟩) ∧ ∃ k os, w' = grow (w.drewN k) os := Any.strconv_Itoa ex_laysM171 n h0 h1 w htab
theorem ok_strconv_Itoa (n : Int) (h0_ : I64 n) (w : World) (hv_ : Vtab_ w) : ROw Tryd.prog 34 [.one (.int .i64 n)] [(false, [.rd (.str ⟨(Lib.itoa n).toArray⟩)])] w := by
  intro Z vals hz ha
  obtain ⟨v, rfl, hv⟩ : ∃ v, vals = [v] ∧ AOk' w Z v (.one (.int .i64 n)) := by
    cases ha with
    | cons h1 h2 => cases h2; exact ⟨_, rfl, h1⟩
  have e : v = .int .i64 n := by
    cases hv with
    | val h1 h2 => injection h1 with h1; exact h1.symm
    | sl h1 _ _ _ _ _ _ _ => cases h1
  subst e
  refine (ex_strconv_Itoa n h0_.1 h0_.2 w hv_.1).mono fun e w' hr => ?_
  obtain ⟨he, k, os, hw⟩ := hr
  subst he; subst hw
  exact ⟨Lib.below_grow _ w (Nat.le_refl _) k os, [.string _], [(false, [.string _])], fun _ => .none, rfl, fun _ h => (h rfl).elim, .cons rfl .nil, rfl, Rd.val rfl .nil, trivial⟩
def ex_laysM146_ren : Go.Shelf.Ren := ⟨fun | 146 => 25 | 221 => 35 | 268 => 38 | 138 => 39 | 143 => 40 | 195 => 44 | 197 => 45 | 218 => 46 | 219 => 47 | 260 => 57 | 217 => 58 | 225 => 59 | 224 => 60 | 267 => 61 | 266 => 70 | 314 => 71 | n => n, fun | 9 => 9 | 31 => 28 | 3 => 3 | 4 => 4 | 0 => 0 | 105 => 57 | 21 => 21 | 5 => 5 | 46 => 73 | 119 => 85 | 139 => 88 | 138 => 87 | 146 => 89 | 51 => 82 | n => n, fun | 1 => 0 | 3 => 4 | 4 => 5 | n => n⟩
theorem ex_laysM146 : Go.Proofs.LaysM.n146 Tryd.prog ex_laysM146_ren := {
  mixed := by kernel_rfl
  f138 := Tryd.func39.trans (congrArg some (by kernel_rfl))
  f143 := Tryd.func40.trans (congrArg some (by kernel_rfl))
  f146 := Tryd.func25.trans (congrArg some (by kernel_rfl))
  f195 := Tryd.func44.trans (congrArg some (by kernel_rfl))
  f197 := Tryd.func45.trans (congrArg some (by kernel_rfl))
  f217 := Tryd.func58.trans (congrArg some (by kernel_rfl))
  f218 := Tryd.func46.trans (congrArg some (by kernel_rfl))
  f219 := Tryd.func47.trans (congrArg some (by kernel_rfl))
  f221 := Tryd.func35.trans (congrArg some (by kernel_rfl))
  f224 := Tryd.func60.trans (congrArg some (by kernel_rfl))
  f225 := Tryd.func59.trans (congrArg some (by kernel_rfl))
  f260 := Tryd.func57.trans (congrArg some (by kernel_rfl))
  f266 := Tryd.func70.trans (congrArg some (by kernel_rfl))
  f267 := Tryd.func61.trans (congrArg some (by kernel_rfl))
  f268 := Tryd.func38.trans (congrArg some (by kernel_rfl))
  f314 := Tryd.func71.trans (congrArg some (by kernel_rfl))
  t0 := Tryd.underlying0
  a0 := Tryd.isAgg0
  z0 := Tryd.sizeOf0
  v0 := Tryd.zeroValue0
  t3 := Tryd.underlying3
  a3 := Tryd.isAgg3
  z3 := Tryd.sizeOf3
  v3 := Tryd.zeroValue3
  t4 := Tryd.underlying4
  a4 := Tryd.isAgg4
  z4 := Tryd.sizeOf4
  v4 := Tryd.zeroValue4
  t5 := Tryd.underlying5
  a5 := Tryd.isAgg5
  z5 := Tryd.sizeOf5
  v5 := Tryd.zeroValue5
  t9 := Tryd.underlying9
  a9 := Tryd.isAgg9
  z9 := Tryd.sizeOf9
  v9 := Tryd.zeroValue9
  t21 := Tryd.underlying21
  a21 := Tryd.isAgg21
  z21 := Tryd.sizeOf21
  v21 := Tryd.zeroValue21
  t31 := Tryd.underlying28
  a31 := Tryd.isAgg28
  z31 := Tryd.sizeOf28
  v31 := Tryd.zeroValue28
  t46 := Tryd.underlying73
  a46 := Tryd.isAgg73
  z46 := Tryd.sizeOf73
  v46 := Tryd.zeroValue73
  t51 := Tryd.underlying82
  a51 := Tryd.isAgg82
  z51 := Tryd.sizeOf82
  v51 := Tryd.zeroValue82
  t105 := Tryd.underlying57
  a105 := Tryd.isAgg57
  z105 := Tryd.sizeOf57
  v105 := Tryd.zeroValue57
  t119 := Tryd.underlying85
  a119 := Tryd.isAgg85
  z119 := Tryd.sizeOf85
  t138 := Tryd.underlying87
  a138 := Tryd.isAgg87
  z138 := Tryd.sizeOf87
  v138 := Tryd.zeroValue87
  t139 := Tryd.underlying88
  a139 := Tryd.isAgg88
  z139 := Tryd.sizeOf88
  v139 := Tryd.zeroValue88
  t146 := Tryd.underlying89
  a146 := Tryd.isAgg89
  z146 := Tryd.sizeOf89
  v146 := Tryd.zeroValue89
  g1 := by kernel_rfl
  g3 := by kernel_rfl
  g4 := by kernel_rfl
  i0 := by kernel_rfl
  i3 := by kernel_rfl
  i4 := by kernel_rfl
  i5 := by kernel_rfl
  i9 := by kernel_rfl
  i21 := by kernel_rfl
  i31 := by kernel_rfl
  i46 := by kernel_rfl
  i51 := by kernel_rfl
  i105 := by kernel_rfl
  i138 := by kernel_rfl
  i139 := by kernel_rfl
  i146 := by kernel_rfl
  m1 := by kernel_rfl
  s1_3 := fun w h => Go.Proofs.cell_of_shapedOpen_int (zero := #[.int .i64 0]) (t := 3) h (of_decide_eq_true (by kernel_rfl)) (by kernel_rfl) rfl (by kernel_rfl) (by kernel_rfl) Tryd.underlying3
  m3 := by kernel_rfl
  m4 := by kernel_rfl }
def sepC (s : ByteArray) : UInt8 := s.data.toList.headD 0
theorem own_strs (w : World) : ∀ L : List ByteArray, Own w (L.map Value.string) ((L.map SStr.mk).map SStr.cells).flatten []
  | [] => .nil
  | s :: L => .val rfl (own_strs w L)
theorem ok_strings_Split (s sep : ByteArray) (h0_ : s.size ≤ 1048576) (h1_ : sep.size = 1) (w : World) (hv_ : Vtab_ w) : ROw Tryd.prog 25 [.one (.str s), .one (.str sep)] [(false, [.own 9 (.sl 1 ((pieceS (sepC sep) s).map SStr.cells))])] w := by
  intro Z vals hz ha
  have hstr : ∀ v (s : ByteArray), AOk' w Z v (.one (.str s)) → v = .string s := fun v s hv => by
    cases hv with
    | val h1 h2 => injection h1 with h1; exact h1.symm
    | sl h1 _ _ _ _ _ _ _ => cases h1
  obtain ⟨v1, v2, rfl, hv1, hv2⟩ : ∃ v1 v2, vals = [v1, v2] ∧ AOk' w Z v1 (.one (.str s)) ∧ AOk' w Z v2 (.one (.str sep)) := by
    cases ha with
    | cons h1 h2 => cases h2 with
      | cons h3 h4 => cases h4; exact ⟨_, _, rfl, h1, h3⟩
  have e1 := hstr _ _ hv1
  have e2 := hstr _ _ hv2
  subst e1; subst e2
  obtain ⟨c, rfl⟩ := Lib.one_byte sep h1_
  obtain ⟨m, hm⟩ := hv_.2.1
  refine (Any.strings_Split { ex_laysM146 with } ex_laysM146.i9 s ⟨#[c]⟩ m w (by omega) hm (by omega)).mono fun e w' hr => ?_
  obtain ⟨he, hw⟩ := hr
  subst he; subst hw
  have hps : pieceS (sepC ⟨#[c]⟩) s = (Lib.splitB ⟨#[c]⟩ 0 (Lib.countB s ⟨#[c]⟩) s).map SStr.mk := (splitB_pieceS c s).symm
  have hlen : (Lib.splitB ⟨#[c]⟩ 0 (Lib.countB s ⟨#[c]⟩) s).length = Lib.countB s ⟨#[c]⟩ + 1 := Lib.splitB_all ⟨#[c]⟩ (Nat.le_of_eq h1_.symm) 0 _ s rfl
  have hle := pieceS_len (sepC ⟨#[c]⟩) s
  rw [hps] at hle ⊢
  rw [List.length_map, hlen] at hle
  generalize Lib.splitB ⟨#[c]⟩ 0 (Lib.countB s ⟨#[c]⟩) s = L at hlen hle ⊢
  rw [← hlen] at hle ⊢
  have hsz : (D.sl 1 ((L.map SStr.mk).map SStr.cells)).size = L.length := by simp [D.size]
  have hget : (w.alloc (.cells (L.map Value.string).toArray 9)).heap[w.heap.size]? = some (.cells (L.map Value.string).toArray 9 (0, 0)) := heap_last w _
  have hfl : (D.sl 1 ((L.map SStr.mk).map SStr.cells)).flat.length = L.length := by
    rw [D.flat_length (wf_map SStr.len _) rfl, hsz]; simp [D.z]
  refine ⟨(Below.refl _ _).alloc (Nat.le_refl _) _, [.slice (some ⟨w.heap.size, 0, none⟩) L.length L.length], [(false, [.slice (some ⟨w.heap.size, 0, none⟩) L.length L.length])], fun k => if k = w.heap.size then .row 0 else .none, rfl, fun k hk => ?_, .cons rfl .nil, rfl, ?_⟩
  · by_cases h : k = w.heap.size
    · subst h; exact ⟨Nat.le_refl _, by show w.heap.size < (w.heap.push _).size; rw [Array.size_push]; omega⟩
    · exact absurd (if_neg h) hk
  refine ⟨⟨[w.heap.size], ⟨rfl, ?_, ?_⟩, by simp, fun k hk => ?_⟩, trivial⟩
  · have := Own.sl (w := w.alloc (.cells (L.map Value.string).toArray 9)) (g := w.heap.size) (cap := L.length) (cs := (L.map Value.string).toArray) (t := 9) (d := .sl 1 ((L.map SStr.mk).map SStr.cells)) (b1 := []) (b2 := []) (vs := []) (ds := []) rfl hget (by rw [hsz]; exact Nat.le_refl _) (by omega) (by simp [D.z]) (wf_map SStr.len _) (by rw [hfl, List.take_of_length_le (by simp)]; exact own_strs _ L) .nil
    rw [hsz] at this
    exact this
  · intro a n c' hv
    injection hv with h1 h2 h3
    injection h1 with h1
    subst h1
    exact ⟨_, _, hget⟩
  · show (if k = w.heap.size then Tag.row 0 else Tag.none) = _
    rw [if_pos (by simpa using hk)]
theorem ok_spec_l01In (n : Int) (lo : Int) (hi : Int) : RO Tryd.prog 30 [.one (.int .i64 n), .one (.int .i64 lo), .one (.int .i64 hi)] [(false, [.rd (.bool (decide (lo ≤ n ∧ n ≤ hi)))])] := by
 refine RO.intro Tryd.func30 rfl 15 rfl (le_ok rfl) fun w Z => ?_
 refine T.seq ?_
 refine T.region ?_
 refine TL.as (pB false) ?_
 refine TL.nil ?_
 refine T.seq ?_
 refine T.region ?_
 refine TL.mv (pI n) ?_
 refine TL.mv (pI lo) ?_
 refine TL.b _ (Bin.geq (k := .i64) (a := n) (b := lo)) ?_
 refine TL.mv (pB (decide (lo ≤ n))) ?_
 rcases Bool.eq_false_or_eq_true (decide (lo ≤ n)) with hb1 | hb1
 ·
  refine TL.known 10 hb1 rfl ?_
  refine TL.gm 10 (pI n) ?_
  refine TL.gm 10 (pI hi) ?_
  refine TL.gy 10 (Step.bin rfl rfl (lt_ok rfl) rfl rfl (Bin.leq (k := .i64) (a := n) (b := hi))) ?_
  refine TL.pk true (pB (decide (n ≤ hi))) ?_
  refine TL.as (pB (decide (n ≤ hi))) ?_
  refine TL.nil ?_
  refine T.ret ?_
  refine ⟨[(false, [.d (.bool (decide (n ≤ hi)))])], (.cons rfl .nil), rfl, [], (RetC.r ?_ .nil)⟩ <;> (first | (congr 1; simp_all; done) | (congr 1; simp_all; omega))
 refine TL.known 10 hb1 rfl ?_
 refine TL.gf 10 ?_
 refine TL.gf 10 ?_
 refine TL.gf 10 ?_
 refine TL.pk false (pB false) ?_
 refine TL.as (pB false) ?_
 refine TL.nil ?_
 refine T.ret ?_
 refine ⟨[(false, [.d (.bool false)])], (.cons rfl .nil), rfl, [], (RetC.r ?_ .nil)⟩ <;> (first | (congr 1; simp_all; done) | (congr 1; simp_all; omega))
theorem ok_spec_l02Signers (n : Int) : RO Tryd.prog 29 [.one (.int .i64 n)] [(false, [.rd (.bool (decide (1 ≤ n ∧ n ≤ 10)))])] := by
 refine RO.intro Tryd.func29 rfl 5 rfl (le_ok rfl) fun w Z => ?_
 refine T.seq ?_
 refine T.region ?_
 refine TL.as (pB false) ?_
 refine TL.nil ?_
 refine T.seq ?_
 refine T.region ?_
 refine TL.mv (pI n) ?_
 refine TL.c (Step.cl (xs := [.tmp 3, .const (.int .i64 1), .const (.int .i64 10)]) (ps := [(pI n), (pI 1), (pI 10)]) (g := .func 30) false (.cons (.one (.d _)) (.cons (.one (.d _)) (.cons (.one (.d _)) .nil))) (ok_spec_l01In n 1 10)) ?_
 refine TL.as (pB (decide (1 ≤ n ∧ n ≤ 10))) ?_
 refine TL.nil ?_
 refine T.ret ?_
 exact ⟨[(false, [.d (.bool (decide (1 ≤ n ∧ n ≤ 10)))])], (.cons rfl .nil), rfl, [], (RetC.rd' rfl .nil)⟩
theorem ok_spec_LimitsOk (l : SLimits) : RO Tryd.prog 20 [.agg l.cells] [(false, [.rd (.bool (limOk l))])] := by
 refine RO.intro Tryd.func20 rfl 26 rfl (le_ok rfl) fun w Z => ?_
 refine T.seq ?_
 refine T.region ?_
 refine TL.c (Step.bx [cI l.f0, cI l.f1, cI l.f2, cI l.f3, cI l.f4]) ?_
 refine TL.as (pB false) ?_
 refine TL.nil ?_
 refine T.seq ?_
 refine T.region ?_
 refine TL.c (Step.fd 0 1 true) ?_
 refine TL.c (Step.lb (.d (.int .i64 l.f0))) ?_
 refine TL.c (Step.cl (xs := [.tmp 4]) (ps := [(pI l.f0)]) (g := .func 29) false (.cons (.one (.d _)) .nil) (ok_spec_l02Signers l.f0)) ?_
 refine TL.mv (pB (decide (1 ≤ l.f0 ∧ l.f0 ≤ 10))) ?_
 rcases Bool.eq_false_or_eq_true (decide (1 ≤ l.f0 ∧ l.f0 ≤ 10)) with hb1 | hb1
 ·
  refine TL.known 6 hb1 rfl ?_
  refine TL.gy 6 (Step.fd 1 1 true) ?_
  refine TL.gy 6 (Step.lb (.d (.int .i64 l.f1))) ?_
  refine TL.gy 6 (Step.cl (xs := [.tmp 8, .const (.int .i64 0), .const (.int .i64 40)]) (ps := [(pI l.f1), (pI 0), (pI 40)]) (g := .func 30) false (.cons (.one (.d _)) (.cons (.one (.d _)) (.cons (.one (.d _)) .nil))) (ok_spec_l01In l.f1 0 40)) ?_
  refine TL.pk true (pB (decide (0 ≤ l.f1 ∧ l.f1 ≤ 40))) ?_
  refine TL.mv (pB (decide (0 ≤ l.f1 ∧ l.f1 ≤ 40))) ?_
  rcases Bool.eq_false_or_eq_true (decide (0 ≤ l.f1 ∧ l.f1 ≤ 40)) with hb2 | hb2
  ·
   refine TL.known 11 hb2 rfl ?_
   refine TL.gy 11 (Step.fd 2 1 true) ?_
   refine TL.gy 11 (Step.lb (.d (.int .i64 l.f2))) ?_
   refine TL.gy 11 (Step.cl (xs := [.tmp 13, .const (.int .i64 0), .const (.int .i64 8)]) (ps := [(pI l.f2), (pI 0), (pI 8)]) (g := .func 30) false (.cons (.one (.d _)) (.cons (.one (.d _)) (.cons (.one (.d _)) .nil))) (ok_spec_l01In l.f2 0 8)) ?_
   refine TL.pk true (pB (decide (0 ≤ l.f2 ∧ l.f2 ≤ 8))) ?_
   refine TL.mv (pB (decide (0 ≤ l.f2 ∧ l.f2 ≤ 8))) ?_
   rcases Bool.eq_false_or_eq_true (decide (0 ≤ l.f2 ∧ l.f2 ≤ 8)) with hb3 | hb3
   ·
    refine TL.known 16 hb3 rfl ?_
    refine TL.gy 16 (Step.fd 3 1 true) ?_
    refine TL.gy 16 (Step.lb (.d (.int .i64 l.f3))) ?_
    refine TL.gy 16 (Step.cl (xs := [.tmp 18, .const (.int .i64 1), .const (.int .i64 4000)]) (ps := [(pI l.f3), (pI 1), (pI 4000)]) (g := .func 30) false (.cons (.one (.d _)) (.cons (.one (.d _)) (.cons (.one (.d _)) .nil))) (ok_spec_l01In l.f3 1 4000)) ?_
    refine TL.pk true (pB (decide (1 ≤ l.f3 ∧ l.f3 ≤ 4000))) ?_
    refine TL.mv (pB (decide (1 ≤ l.f3 ∧ l.f3 ≤ 4000))) ?_
    rcases Bool.eq_false_or_eq_true (decide (1 ≤ l.f3 ∧ l.f3 ≤ 4000)) with hb4 | hb4
    ·
     refine TL.known 21 hb4 rfl ?_
     refine TL.gy 21 (Step.fd 4 1 true) ?_
     refine TL.gy 21 (Step.lb (.d (.int .i64 l.f4))) ?_
     refine TL.gy 21 (Step.cl (xs := [.tmp 23, .const (.int .i64 3), .const (.int .i64 5)]) (ps := [(pI l.f4), (pI 3), (pI 5)]) (g := .func 30) false (.cons (.one (.d _)) (.cons (.one (.d _)) (.cons (.one (.d _)) .nil))) (ok_spec_l01In l.f4 3 5)) ?_
     refine TL.pk true (pB (decide (3 ≤ l.f4 ∧ l.f4 ≤ 5))) ?_
     refine TL.as (pB (decide (3 ≤ l.f4 ∧ l.f4 ≤ 5))) ?_
     refine TL.nil ?_
     refine T.ret ?_
     refine ⟨[(false, [.d (.bool (decide (3 ≤ l.f4 ∧ l.f4 ≤ 5)))])], (.cons rfl .nil), rfl, [], (RetC.r ?_ .nil)⟩ <;> (first | rfl | (congr 1; symm; simp only [limOk, *, Bool.and_true, Bool.true_and, Bool.and_false, Bool.false_and, decide_true, decide_false, and_true, true_and, and_self, and_false, false_and, Bool.and_self, not_true, not_false, Bool.not_true, Bool.not_false, ge_iff_le, gt_iff_lt, if_true, if_false, Bool.false_eq_true, ite_true, ite_false, reduceIte]; done) | (congr 1; symm; simp_all [limOk]; done) | (congr 1; symm; simp_all [limOk]; omega))
    refine TL.known 21 hb4 rfl ?_
    refine TL.gf 21 ?_
    refine TL.gf 21 ?_
    refine TL.gf 21 ?_
    refine TL.pk false (pB false) ?_
    refine TL.as (pB false) ?_
    refine TL.nil ?_
    refine T.ret ?_
    refine ⟨[(false, [.d (.bool false)])], (.cons rfl .nil), rfl, [], (RetC.r ?_ .nil)⟩ <;> (first | rfl | (congr 1; symm; simp only [limOk, *, Bool.and_true, Bool.true_and, Bool.and_false, Bool.false_and, decide_true, decide_false, and_true, true_and, and_self, and_false, false_and, Bool.and_self, not_true, not_false, Bool.not_true, Bool.not_false, ge_iff_le, gt_iff_lt, if_true, if_false, Bool.false_eq_true, ite_true, ite_false, reduceIte]; done) | (congr 1; symm; simp_all [limOk]; done) | (congr 1; symm; simp_all [limOk]; omega))
   refine TL.known 16 hb3 rfl ?_
   refine TL.gf 16 ?_
   refine TL.gf 16 ?_
   refine TL.gf 16 ?_
   refine TL.pk false (pB false) ?_
   refine TL.mv (pB false) ?_
   refine TL.gf 21 ?_
   refine TL.gf 21 ?_
   refine TL.gf 21 ?_
   refine TL.pk false (pB false) ?_
   refine TL.as (pB false) ?_
   refine TL.nil ?_
   refine T.ret ?_
   refine ⟨[(false, [.d (.bool false)])], (.cons rfl .nil), rfl, [], (RetC.r ?_ .nil)⟩ <;> (first | rfl | (congr 1; symm; simp only [limOk, *, Bool.and_true, Bool.true_and, Bool.and_false, Bool.false_and, decide_true, decide_false, and_true, true_and, and_self, and_false, false_and, Bool.and_self, not_true, not_false, Bool.not_true, Bool.not_false, ge_iff_le, gt_iff_lt, if_true, if_false, Bool.false_eq_true, ite_true, ite_false, reduceIte]; done) | (congr 1; symm; simp_all [limOk]; done) | (congr 1; symm; simp_all [limOk]; omega))
  refine TL.known 11 hb2 rfl ?_
  refine TL.gf 11 ?_
  refine TL.gf 11 ?_
  refine TL.gf 11 ?_
  refine TL.pk false (pB false) ?_
  refine TL.mv (pB false) ?_
  refine TL.gf 16 ?_
  refine TL.gf 16 ?_
  refine TL.gf 16 ?_
  refine TL.pk false (pB false) ?_
  refine TL.mv (pB false) ?_
  refine TL.gf 21 ?_
  refine TL.gf 21 ?_
  refine TL.gf 21 ?_
  refine TL.pk false (pB false) ?_
  refine TL.as (pB false) ?_
  refine TL.nil ?_
  refine T.ret ?_
  refine ⟨[(false, [.d (.bool false)])], (.cons rfl .nil), rfl, [], (RetC.r ?_ .nil)⟩ <;> (first | rfl | (congr 1; symm; simp only [limOk, *, Bool.and_true, Bool.true_and, Bool.and_false, Bool.false_and, decide_true, decide_false, and_true, true_and, and_self, and_false, false_and, Bool.and_self, not_true, not_false, Bool.not_true, Bool.not_false, ge_iff_le, gt_iff_lt, if_true, if_false, Bool.false_eq_true, ite_true, ite_false, reduceIte]; done) | (congr 1; symm; simp_all [limOk]; done) | (congr 1; symm; simp_all [limOk]; omega))
 refine TL.known 6 hb1 rfl ?_
 refine TL.gf 6 ?_
 refine TL.gf 6 ?_
 refine TL.gf 6 ?_
 refine TL.pk false (pB false) ?_
 refine TL.mv (pB false) ?_
 refine TL.gf 11 ?_
 refine TL.gf 11 ?_
 refine TL.gf 11 ?_
 refine TL.pk false (pB false) ?_
 refine TL.mv (pB false) ?_
 refine TL.gf 16 ?_
 refine TL.gf 16 ?_
 refine TL.gf 16 ?_
 refine TL.pk false (pB false) ?_
 refine TL.mv (pB false) ?_
 refine TL.gf 21 ?_
 refine TL.gf 21 ?_
 refine TL.gf 21 ?_
 refine TL.pk false (pB false) ?_
 refine TL.as (pB false) ?_
 refine TL.nil ?_
 refine T.ret ?_
 refine ⟨[(false, [.d (.bool false)])], (.cons rfl .nil), rfl, [], (RetC.r ?_ .nil)⟩ <;> (first | rfl | (congr 1; symm; simp only [limOk, *, Bool.and_true, Bool.true_and, Bool.and_false, Bool.false_and, decide_true, decide_false, and_true, true_and, and_self, and_false, false_and, Bool.and_self, not_true, not_false, Bool.not_true, Bool.not_false, ge_iff_le, gt_iff_lt, if_true, if_false, Bool.false_eq_true, ite_true, ite_false, reduceIte]; done) | (congr 1; symm; simp_all [limOk]; done) | (congr 1; symm; simp_all [limOk]; omega))
theorem ok_spec_l01Num (n : Int) : RO Tryd.prog 31 [.one (.int .i64 n)] [(false, [.rd (.bool (decide (0 ≤ n ∧ n ≤ 1152921504606846975)))])] := by
 refine RO.intro Tryd.func31 rfl 5 rfl (le_ok rfl) fun w Z => ?_
 refine T.seq ?_
 refine T.region ?_
 refine TL.as (pB false) ?_
 refine TL.nil ?_
 refine T.seq ?_
 refine T.region ?_
 refine TL.mv (pI n) ?_
 refine TL.c (Step.cl (xs := [.tmp 3, .const (.int .i64 0), .const (.int .i64 1152921504606846975)]) (ps := [(pI n), (pI 0), (pI 1152921504606846975)]) (g := .func 30) false (.cons (.one (.d _)) (.cons (.one (.d _)) (.cons (.one (.d _)) .nil))) (ok_spec_l01In n 0 1152921504606846975)) ?_
 refine TL.as (pB (decide (0 ≤ n ∧ n ≤ 1152921504606846975))) ?_
 refine TL.nil ?_
 refine T.ret ?_
 exact ⟨[(false, [.d (.bool (decide (0 ≤ n ∧ n ≤ 1152921504606846975)))])], (.cons rfl .nil), rfl, [], (RetC.rd' rfl .nil)⟩
theorem ok_spec_NumText (n : Int) : RO Tryd.prog 21 [.one (.int .i64 n)] [(false, [.rd (.str (numText n))])] := by
 refine RO.intro Tryd.func21 rfl 26 rfl (le_ok rfl) fun w Z => ?_
 refine T.seq ?_
 refine T.region ?_
 refine TL.as (.one (.d (.str ByteArray.empty))) ?_
 refine TL.nil ?_
 refine T.seq ?_
 refine T.seq ?_
 refine T.region ?_
 refine TL.mv (pI n) ?_
 refine TL.c (Step.cl (xs := [.tmp 4]) (ps := [(pI n)]) (g := .func 31) false (.cons (.one (.d _)) .nil) (ok_spec_l01Num n)) ?_
 refine TL.c (Step.not (b := (decide (0 ≤ n ∧ n ≤ 1152921504606846975))) rfl rfl (lt_ok rfl) rfl) ?_
 refine TL.nil ?_
 refine T.cni rfl (fun h1 => ?_) (fun h1 => ?_)
 ·
  refine T.seq ?_
  refine T.region ?_
  refine TL.as (.one (.d (.str ByteArray.empty))) ?_
  refine TL.nil ?_
  refine T.ret ?_
  refine ⟨[(false, [.d (.str ByteArray.empty)])], (.cons rfl .nil), rfl, [], (RetC.r ?_ .nil)⟩ <;> (first | rfl | (congr 1; rw [numText_in (by omega), ← hx3, digB_one (m := m) (by omega) (by omega) (48 + m) rfl]; done) | (congr 1; unfold numText; rw [if_neg (by rw [decide_eq_true_eq]; assumption)]; done) | (congr 1; rw [numText_in (by omega), digB_itoa (by omega)]; done))
 refine T.skip ?_
 refine T.seq ?_
 refine T.region ?_
 refine TL.as (.one (.d (.str ByteArray.empty))) ?_
 refine TL.nil ?_
 refine T.seq ?_
 refine T.block ?_
 refine T.loop (ι := ByteArray × Int) (fun xx_ => { tm := [(2, (.one (.d (.str ByteArray.empty)))), (3, (.one (.d (.str (xx_.1))))), (0, (pI (xx_.2)))], rows := [], boxes := [] }) (fun xx_ => 0 ≤ (xx_.2) ∧ (xx_.2) ≤ 1152921504606846975 ∧ digB (xx_.2) ++ (xx_.1) = digB n ∧ (xx_.1).size ≤ 20) (fun xx_ => (xx_.2).toNat) (ByteArray.empty, n) ?_ ?_ ?_
 · refine Env.le_mk ⟨rfl, ?_, ?_, trivial⟩ trivial trivial <;> (first | rfl | (simp; done) | (congr 3; omega))
 · (dsimp only; refine ⟨by omega, by omega, ByteArray.append_empty, by rw [ByteArray.size_empty]; omega⟩)
 intro xx_ hx
 obtain ⟨s, m⟩ := xx_
 try dsimp only at hx ⊢
 obtain ⟨hx1, hx2, hx3, hx4⟩ := hx
 refine T.seq ?_
 refine T.seq ?_
 refine T.region ?_
 refine TL.mv (pI m) ?_
 refine TL.b _ (Bin.gtr (k := .i64) (a := m) (b := 9)) ?_
 refine TL.nil ?_
 refine T.ci rfl (fun h2 => ?_) (fun h2 => ?_)
 ·
  refine T.skip ?_
  refine T.block ?_
  refine T.seq ?_
  refine T.region ?_
  refine TL.mv (pI m) ?_
  refine TL.c (Step.bin (r := .int .i64 (m % 10)) rfl rfl (lt_ok rfl) rfl rfl (Bin.rem (k := .i64) (a := m) (b := 10) (by decide) (Int.tmod_eq_emod_of_nonneg (by first | omega | (rw [strOfNums_size]; simp only [List.length_cons, List.length_nil]; omega))))) ?_
  refine TL.c (Step.bin (r := .int .i64 (48 + (m % 10))) rfl rfl (lt_ok rfl) rfl rfl (Bin.add (a := 48) (b := (m % 10)) (by first | exact wrap_ok (by first | omega | (rw [strOfNums_size]; simp only [List.length_cons, List.length_nil]; omega)) (by first | omega | (rw [strOfNums_size]; simp only [List.length_cons, List.length_nil]; omega)) | rfl))) ?_
  refine TL.c (Step.conv (c := (48 + (m % 10))) rfl rfl (lt_ok rfl) (by kernel_rfl) (by kernel_rfl) rfl (wrap_u8 (by first | omega | (rw [strOfNums_size]; simp only [List.length_cons, List.length_nil]; omega)) (by first | omega | (rw [strOfNums_size]; simp only [List.length_cons, List.length_nil]; omega)))) ?_
  refine TL.c (Step.lit (e := 5) (z := 1) (by_ := 1) (xs := [.tmp 12]) (pss := [[.d (.int .u8 (48 + (m % 10)))]]) (es := [(.int .u8 (48 + (m % 10)))]) (ss := []) (d := (.ints .u8 [48 + (m % 10)])) rfl rfl (lt_ok rfl) (by kernel_rfl) rfl rfl (.cons rfl .nil) (by simp) (le_ok rfl) (le_ok rfl) rfl (.val rfl .nil) rfl (by simp) (by simp) rfl trivial rfl rfl) ?_
  refine TL.c (Step.toStr (e := 5) (xs := [48 + (m % 10)]) rfl rfl (lt_ok rfl) (by kernel_rfl) (by kernel_rfl) (by kernel_rfl) rfl rfl) ?_
  refine TL.mv (.one (.d (.str s))) ?_
  refine TL.c (Step.bin rfl rfl (lt_ok rfl) rfl rfl (Bin.stradd (by first | omega | (rw [strOfNums_size]; simp only [List.length_cons, List.length_nil]; omega)))) ?_
  refine TL.as (.one (.d (.str ((strOfNums [48 + (m % 10)]) ++ s)))) ?_
  refine TL.nil ?_
  refine T.region ?_
  refine TL.mv (pI m) ?_
  refine TL.c (Step.bin (r := .int .i64 (m / 10)) rfl rfl (lt_ok rfl) rfl rfl (Bin.quo (k := .i64) (a := m) (b := 10) (by decide) (by rw [Int.tdiv_eq_ediv_of_nonneg (by first | omega | (rw [strOfNums_size]; simp only [List.length_cons, List.length_nil]; omega))]; exact wrap_ok (by first | omega | (rw [strOfNums_size]; simp only [List.length_cons, List.length_nil]; omega)) (by first | omega | (rw [strOfNums_size]; simp only [List.length_cons, List.length_nil]; omega))))) ?_
  refine TL.as (pI (m / 10)) ?_
  refine TL.nil ?_
  refine ⟨((strOfNums [48 + (m % 10)]) ++ s, m / 10), by (dsimp only; have e_ := digB_next (m := m) (by omega) (48 + m % 10) rfl s; refine ⟨by omega, by omega, e_.trans hx3, ?_⟩; have z_ := congrArg ByteArray.size (e_.trans hx3); simp only [ByteArray.size_append] at z_ ⊢; have := digB_size (m := n) (by omega); omega), by (dsimp only; omega), Env.le_mk ⟨rfl, ?_, ?_, trivial⟩ trivial trivial⟩ <;> (first | rfl | (simp; done) | (congr 3; omega))
 refine T.exit ?_
 refine T.seq ?_
 refine T.region ?_
 refine TL.mv (pI m) ?_
 refine TL.c (Step.bin (r := .int .i64 (48 + m)) rfl rfl (lt_ok rfl) rfl rfl (Bin.add (a := 48) (b := m) (by first | exact wrap_ok (by first | omega | (rw [strOfNums_size]; simp only [List.length_cons, List.length_nil]; omega)) (by first | omega | (rw [strOfNums_size]; simp only [List.length_cons, List.length_nil]; omega)) | rfl))) ?_
 refine TL.c (Step.conv (c := (48 + m)) rfl rfl (lt_ok rfl) (by kernel_rfl) (by kernel_rfl) rfl (wrap_u8 (by first | omega | (rw [strOfNums_size]; simp only [List.length_cons, List.length_nil]; omega)) (by first | omega | (rw [strOfNums_size]; simp only [List.length_cons, List.length_nil]; omega)))) ?_
 refine TL.c (Step.lit (e := 5) (z := 1) (by_ := 1) (xs := [.tmp 21]) (pss := [[.d (.int .u8 (48 + m))]]) (es := [(.int .u8 (48 + m))]) (ss := []) (d := (.ints .u8 [48 + m])) rfl rfl (lt_ok rfl) (by kernel_rfl) rfl rfl (.cons rfl .nil) (by simp) (le_ok rfl) (le_ok rfl) rfl (.val rfl .nil) rfl (by simp) (by simp) rfl trivial rfl rfl) ?_
 refine TL.c (Step.toStr (e := 5) (xs := [48 + m]) rfl rfl (lt_ok rfl) (by kernel_rfl) (by kernel_rfl) (by kernel_rfl) rfl rfl) ?_
 refine TL.mv (.one (.d (.str s))) ?_
 refine TL.c (Step.bin rfl rfl (lt_ok rfl) rfl rfl (Bin.stradd (by first | omega | (rw [strOfNums_size]; simp only [List.length_cons, List.length_nil]; omega)))) ?_
 refine TL.as (.one (.d (.str ((strOfNums [48 + m]) ++ s)))) ?_
 refine TL.nil ?_
 refine T.ret ?_
 refine ⟨[(false, [.d (.str ((strOfNums [48 + m]) ++ s))])], (.cons rfl .nil), rfl, [], (RetC.r ?_ .nil)⟩ <;> (first | rfl | (congr 1; rw [numText_in (by omega), ← hx3, digB_one (m := m) (by omega) (by omega) (48 + m) rfl]; done) | (congr 1; unfold numText; rw [if_neg (by rw [decide_eq_true_eq]; assumption)]; done) | (congr 1; rw [numText_in (by omega), digB_itoa (by omega)]; done))
theorem ok_spec_LimitsText (l : SLimits) : RO Tryd.prog 7 [.agg l.cells] [(false, [.rd (.str (limText l))])] := by
 refine RO.intro Tryd.func7 rfl 32 rfl (le_ok rfl) fun w Z => ?_
 refine T.seq ?_
 refine T.region ?_
 refine TL.c (Step.bx [cI l.f0, cI l.f1, cI l.f2, cI l.f3, cI l.f4]) ?_
 refine TL.as (.one (.d (.str ByteArray.empty))) ?_
 refine TL.nil ?_
 refine T.seq ?_
 refine T.seq ?_
 refine T.region ?_
 refine TL.c (Step.lba 5 [cI l.f0, cI l.f1, cI l.f2, cI l.f3, cI l.f4]) ?_
 refine TL.c (Step.cl (xs := [.tmp 6]) (ps := [(.agg [cI l.f0, cI l.f1, cI l.f2, cI l.f3, cI l.f4])]) (g := .func 20) false (.cons (.agg (.cons (.d _) (.cons (.d _) (.cons (.d _) (.cons (.d _) (.cons (.d _) .nil)))))) .nil) (ok_spec_LimitsOk l)) ?_
 refine TL.c (Step.not (b := (limOk l)) rfl rfl (lt_ok rfl) rfl) ?_
 refine TL.nil ?_
 refine T.cn rfl (fun h1 => ?_) (fun h1 => ?_)
 ·
  refine T.seq ?_
  refine T.region ?_
  refine TL.as (.one (.d (.str ByteArray.empty))) ?_
  refine TL.nil ?_
  refine T.ret ?_
  refine ⟨[(false, [.d (.str ByteArray.empty)])], (.cons rfl .nil), rfl, [], (RetC.r ?_ .nil)⟩ <;> (first | rfl | (congr 1; unfold limText; rw [if_neg (by simp_all)]; done) | (congr 1; unfold limText; rw [if_pos (by assumption), ← hx2, List.drop_of_length_le (by omega)]; rfl))
 refine T.skip ?_
 refine T.seq ?_
 refine T.region ?_
 refine TL.as (.one (.d (.str (⟨#[108, 105, 109, 105, 116, 115]⟩ : ByteArray)))) ?_
 refine TL.nil ?_
 refine T.seq ?_
 refine T.seq ?_
 refine T.region ?_
 refine TL.c (Step.fd 0 1 true) ?_
 refine TL.c (Step.lb (.d (.int .i64 l.f0))) ?_
 refine TL.c (Step.fd 1 1 true) ?_
 refine TL.c (Step.lb (.d (.int .i64 l.f1))) ?_
 refine TL.c (Step.fd 2 1 true) ?_
 refine TL.c (Step.lb (.d (.int .i64 l.f2))) ?_
 refine TL.c (Step.fd 3 1 true) ?_
 refine TL.c (Step.lb (.d (.int .i64 l.f3))) ?_
 refine TL.c (Step.fd 4 1 true) ?_
 refine TL.c (Step.lb (.d (.int .i64 l.f4))) ?_
 refine TL.c (Step.lit (e := 3) (z := 1) (by_ := 8) (xs := [.tmp 10, .tmp 12, .tmp 14, .tmp 16, .tmp 18]) (pss := [[cI l.f0], [cI l.f1], [cI l.f2], [cI l.f3], [cI l.f4]]) (es := [(.int .i64 l.f0), (.int .i64 l.f1), (.int .i64 l.f2), (.int .i64 l.f3), (.int .i64 l.f4)]) (ss := []) (d := (.ints .i64 [l.f0, l.f1, l.f2, l.f3, l.f4])) rfl rfl (lt_ok rfl) (by kernel_rfl) rfl rfl (.cons rfl (.cons rfl (.cons rfl (.cons rfl (.cons rfl .nil))))) (by simp) (le_ok rfl) (le_ok rfl) rfl (.val rfl (.val rfl (.val rfl (.val rfl (.val rfl .nil))))) rfl (by simp) (by simp) rfl trivial rfl rfl) ?_
 refine TL.c (Step.len (e := 3) (z := 1) (d := (.ints .i64 [l.f0, l.f1, l.f2, l.f3, l.f4])) rfl rfl (lt_ok rfl) (by kernel_rfl) rfl rfl) ?_
 refine TL.mv (pI 0) ?_
 refine TL.nil ?_
 refine T.block ?_
 refine T.loop (ι := Nat × ByteArray) (fun xx_ => { tm := [(2, (.one (.d (.str ByteArray.empty)))), (19, (.one (.row 19 []))), (20, (pI ([l.f0, l.f1, l.f2, l.f3, l.f4].length : Int))), (21, (pI ((xx_.1) : Int))), (3, (.one (.d (.str (xx_.2)))))], rows := [(19, (3, (.ints .i64 [l.f0, l.f1, l.f2, l.f3, l.f4])))], boxes := [(1, (25, [cI l.f0, cI l.f1, cI l.f2, cI l.f3, cI l.f4]))] }) (fun xx_ => (xx_.1) ≤ 5 ∧ addNums (xx_.2) ([l.f0, l.f1, l.f2, l.f3, l.f4].drop (xx_.1)) = addNums limTxt0 [l.f0, l.f1, l.f2, l.f3, l.f4] ∧ (xx_.2).size ≤ 6 + 21 * (xx_.1)) (fun xx_ => 5 - (xx_.1)) (0, limTxt0) ?_ ?_ ?_
 · refine Env.le_mk ⟨rfl, rfl, rfl, ?_, ?_, trivial⟩ ⟨rfl, trivial⟩ ⟨rfl, trivial⟩ <;> (first | rfl | (simp; done) | (congr 3; omega))
 · (dsimp only; exact ⟨by omega, rfl, by decide⟩)
 intro xx_ hx
 obtain ⟨i, s⟩ := xx_
 try dsimp only at hx ⊢
 obtain ⟨hx1, hx2, hx3⟩ := hx
 have lc_ : [l.f0, l.f1, l.f2, l.f3, l.f4].length = 5 := rfl
 have nt_ := numText_size ([l.f0, l.f1, l.f2, l.f3, l.f4].getD i 0)
 have sp_ : (⟨#[32]⟩ : ByteArray).size = 1 := rfl
 refine T.seq ?_
 refine T.region ?_
 refine TL.b _ (Bin.lss (k := .i64) (a := (i : Int)) (b := ([l.f0, l.f1, l.f2, l.f3, l.f4].length : Int))) ?_
 refine TL.nil ?_
 refine T.seq ?_
 refine T.ci rfl (fun h2 => ?_) (fun h2 => ?_)
 ·
  refine T.skip ?_
  refine T.seq ?_
  refine T.block ?_
  refine T.seq ?_
  refine T.region ?_
  refine TL.c (Step.index_row (e := 3) (z := 1) (i := (i : Int)) rfl rfl (lt_ok rfl) (by kernel_rfl) rfl rfl rfl rfl (lt_ok rfl) rfl (by first | omega | (rw [ByteArray.size_append]; omega)) (by simp only [D.at_, D.cell, D.size]; first | omega | (rw [ByteArray.size_append]; omega))) ?_
  refine TL.c (Step.load_row (c := cI ([l.f0, l.f1, l.f2, l.f3, l.f4].getD i 0)) rfl rfl (lt_ok rfl) (by kernel_rfl) rfl rfl rfl) ?_
  refine TL.as (pI ([l.f0, l.f1, l.f2, l.f3, l.f4].getD i 0)) ?_
  refine TL.nil ?_
  refine T.region ?_
  refine TL.mv (.one (.d (.str s))) ?_
  refine TL.c (Step.bin rfl rfl (lt_ok rfl) rfl rfl (Bin.stradd (by first | omega | (rw [ByteArray.size_append]; omega)))) ?_
  refine TL.mv (pI ([l.f0, l.f1, l.f2, l.f3, l.f4].getD i 0)) ?_
  refine TL.c (Step.cl (xs := [.tmp 27]) (ps := [(pI ([l.f0, l.f1, l.f2, l.f3, l.f4].getD i 0))]) (g := .func 21) false (.cons (.one (.d _)) .nil) (ok_spec_NumText ([l.f0, l.f1, l.f2, l.f3, l.f4].getD i 0))) ?_
  refine TL.c (Step.bin rfl rfl (lt_ok rfl) rfl rfl (Bin.stradd (by first | omega | (rw [ByteArray.size_append]; omega)))) ?_
  refine TL.as (.one (.d (.str ((s ++ (⟨#[32]⟩ : ByteArray)) ++ (numText ([l.f0, l.f1, l.f2, l.f3, l.f4].getD i 0)))))) ?_
  refine TL.nil ?_
  refine T.region ?_
  refine TL.c (Step.bin (r := .int .i64 ((i : Int) + 1)) rfl rfl (lt_ok rfl) rfl rfl (Bin.add (a := (i : Int)) (b := 1) (by first | exact wrap_ok (by first | omega | (rw [ByteArray.size_append]; omega)) (by first | omega | (rw [ByteArray.size_append]; omega)) | rfl))) ?_
  refine TL.mv (pI ((i : Int) + 1)) ?_
  refine TL.nil ?_
  refine ⟨(i + 1, (s ++ (⟨#[32]⟩ : ByteArray)) ++ (numText ([l.f0, l.f1, l.f2, l.f3, l.f4].getD i 0))), by (dsimp only; refine ⟨by omega, by first | (rw [← hx2, addNums_drop s _ i (by omega), ByteArray.append_assoc]; done) | (rw [← hx2, addNums_drop s _ i (by omega)]; done), ?_⟩; simp only [ByteArray.size_append]; omega), by (dsimp only; omega), Env.le_mk ⟨rfl, rfl, rfl, ?_, ?_, trivial⟩ ⟨rfl, trivial⟩ ⟨rfl, trivial⟩⟩ <;> (first | rfl | (simp; done) | (congr 3; omega))
 refine T.exit ?_
 refine T.seq ?_
 refine T.region ?_
 refine TL.mv (.one (.d (.str s))) ?_
 refine TL.as (.one (.d (.str s))) ?_
 refine TL.nil ?_
 refine T.ret ?_
 refine ⟨[(false, [.d (.str s)])], (.cons rfl .nil), rfl, [], (RetC.r ?_ .nil)⟩ <;> (first | rfl | (congr 1; unfold limText; rw [if_neg (by simp_all)]; done) | (congr 1; unfold limText; rw [if_pos (by assumption), ← hx2, List.drop_of_length_le (by omega)]; rfl))
theorem ok_spec_l10Split (s : ByteArray) (by_ : Int) (h0_ : s.size ≤ 1048576) (h1_ : 0 ≤ by_ ∧ by_ ≤ 255) : RO Tryd.prog 24 [.one (.str s), .one (.int .u8 by_)] [(false, [.own 9 (.sl 1 ((pieceS (UInt8.ofNat (Int.toNat by_)) s).map SStr.cells))])] := by
 refine RO.intro Tryd.func24 rfl 36 rfl (le_ok rfl) fun w Z => ?_
 have hc_ : ((UInt8.ofNat (Int.toNat by_)).toNat : Int) = by_ := by rw [UInt8.toNat_ofNat_of_lt' (by show Int.toNat by_ < 256; omega)]; omega
 refine T.seq ?_
 refine T.region ?_
 refine TL.as (.one (.nil)) ?_
 refine TL.nil ?_
 refine T.seq ?_
 refine T.region ?_
 refine TL.c (Step.lit (e := 9) (z := 1) (by_ := 16) (xs := []) (pss := []) (es := []) (ss := []) (d := (.sl 1 [])) rfl rfl (lt_ok rfl) (by kernel_rfl) rfl rfl .nil (by simp) (le_ok rfl) (le_ok rfl) rfl .nil rfl (by simp) (by simp) rfl (D.wf_nil _) rfl rfl) ?_
 refine TL.as (.one (.row 8 [])) ?_
 refine TL.nil ?_
 refine T.seq ?_
 refine T.region ?_
 refine TL.as (pI 0) ?_
 refine TL.nil ?_
 refine T.seq ?_
 refine T.seq ?_
 refine T.region ?_
 refine TL.as (pI 0) ?_
 refine TL.nil ?_
 refine T.block ?_
 refine T.loop (ι := (List SStr) × Nat × Nat) (fun xx_ => { tm := [(0, (.one (.d (.str s)))), (1, (.one (.d (.int .u8 by_)))), (4, (.one (.nil))), (5, (.one (.row 8 []))), (6, (pI ((xx_.2.1) : Int))), (7, (pI ((xx_.2.2) : Int)))], rows := [(8, (9, (.sl 1 ((xx_.1).map SStr.cells))))], boxes := [] }) (fun xx_ => l10I (UInt8.ofNat (Int.toNat by_)) s (xx_.1) (xx_.2.1) (xx_.2.2)) (fun xx_ => s.size + 1 - (xx_.2.2)) ([], 0, 0) ?_ ?_ ?_
 · refine Env.le_mk ⟨rfl, rfl, rfl, rfl, ?_, ?_, trivial⟩ ⟨?_, trivial⟩ trivial <;> (first | rfl | (simp; done) | (congr 3; omega))
 · exact l10_start _ _
 intro xx_ hx
 obtain ⟨o, f, i⟩ := xx_
 try dsimp only at hx ⊢
 have hx1 := hx.1
 have hx2 := hx.2.1
 have hx3 := hx.2.2.1
 refine T.seq ?_
 refine T.seq ?_
 refine T.region ?_
 refine TL.mv (pI (i : Int)) ?_
 refine TL.mv (.one (.d (.str s))) ?_
 refine TL.c (Step.len_str rfl rfl (lt_ok rfl) (by kernel_rfl) rfl) ?_
 refine TL.b _ (Bin.leq (k := .i64) (a := (i : Int)) (b := (s.size : Int))) ?_
 refine TL.nil ?_
 refine T.ci rfl (fun h1 => ?_) (fun h1 => ?_)
 ·
  refine T.skip ?_
  refine T.seq ?_
  refine T.block ?_
  refine T.seq ?_
  refine T.region ?_
  refine TL.mv (pI (i : Int)) ?_
  refine TL.mv (.one (.d (.str s))) ?_
  refine TL.c (Step.len_str rfl rfl (lt_ok rfl) (by kernel_rfl) rfl) ?_
  refine TL.b _ (Bin.eql (k := .i64) (a := (i : Int)) (b := (s.size : Int))) ?_
  refine TL.mv (pB (decide ((i : Int) = (s.size : Int)))) ?_
  rcases Bool.eq_false_or_eq_true (decide ((i : Int) = (s.size : Int))) with hb2 | hb2
  ·
   refine TL.known 19 hb2 rfl ?_
   refine TL.gf 19 ?_
   refine TL.gf 19 ?_
   refine TL.gf 19 ?_
   refine TL.gf 19 ?_
   refine TL.gf 19 ?_
   refine TL.pk true (pB true) ?_
   refine TL.nil ?_
   refine T.ct ?_
   refine T.seq ?_
   refine T.region ?_
   refine TL.mv (.one (.row 8 [])) ?_
   refine TL.mv (.one (.d (.str s))) ?_
   refine TL.mv (pI (f : Int)) ?_
   refine TL.mv (pI (i : Int)) ?_
   refine TL.c (Step.slice_str (i := (f : Int)) (j := (i : Int)) rfl rfl (lt_ok rfl) (by kernel_rfl) rfl rfl rfl (by first | omega | (simp; omega)) (by first | omega | (simp; omega)) (by first | omega | (simp; omega))) ?_
   refine TL.c (Step.lit (e := 9) (z := 1) (by_ := 16) (xs := [.tmp 30]) (pss := [[.d (.str (s.extract f i))]]) (es := [(.str (s.extract f i))]) (ss := []) (d := (.sl 1 ([(⟨s.extract f i⟩ : SStr)].map SStr.cells))) rfl rfl (lt_ok rfl) (by kernel_rfl) rfl rfl (.cons rfl .nil) (by simp) (le_ok rfl) (le_ok rfl) rfl (.val rfl .nil) rfl (by simp) (by simp) rfl (wf_map SStr.len _) rfl rfl) ?_
   refine TL.c (Step.append (e := 9) (z := 1) (by_ := 16) (r := 8) (d := (.sl 1 (o.map SStr.cells))) (dy := (.sl 1 ([(⟨s.extract f i⟩ : SStr)].map SStr.cells))) (d' := (.sl 1 ((o ++ [(⟨s.extract f i⟩ : SStr)]).map SStr.cells))) (ss := [31]) rfl rfl (lt_ok rfl) (by kernel_rfl) rfl rfl rfl (lt_ok rfl) rfl (.move rfl) (by simp) app_sl (by simp only [D.size, List.length_map]; first | omega | (simp only [List.length_append, List.length_cons, List.length_nil]; omega) | (simp; omega) | (simp only [List.length_append] at *; omega)) (by simp only [D.size, List.length_map]; first | omega | (simp only [List.length_append, List.length_cons, List.length_nil]; omega) | (simp; omega) | (simp only [List.length_append] at *; omega)) (by simp)) ?_
   refine TL.as (.one (.row 8 [])) ?_
   refine TL.nil ?_
   refine T.region ?_
   refine TL.mv (pI (i : Int)) ?_
   refine TL.c (Step.bin (r := .int .i64 ((i : Int) + 1)) rfl rfl (lt_ok rfl) rfl rfl (Bin.add (a := (i : Int)) (b := 1) (by first | exact wrap_ok (by first | omega | (simp; omega)) (by first | omega | (simp; omega)) | rfl))) ?_
   refine TL.as (pI ((i : Int) + 1)) ?_
   refine TL.nil ?_
   refine T.region ?_
   refine TL.mv (pI (i : Int)) ?_
   refine TL.c (Step.bin (r := .int .i64 ((i : Int) + 1)) rfl rfl (lt_ok rfl) rfl rfl (Bin.add (a := (i : Int)) (b := 1) (by first | exact wrap_ok (by first | omega | (simp; omega)) (by first | omega | (simp; omega)) | rfl))) ?_
   refine TL.as (pI ((i : Int) + 1)) ?_
   refine TL.nil ?_
   refine ⟨(o ++ [(⟨s.extract f i⟩ : SStr)], i + 1, i + 1), by (try dsimp only; try simp only [decide_eq_true_eq, decide_eq_false_iff_not] at *; first | exact l10_add hx (by omega) (by omega) | exact l10_pass hx (by omega) (by omega)), by (dsimp only; omega), Env.le_mk ⟨rfl, rfl, rfl, rfl, ?_, ?_, trivial⟩ ⟨?_, trivial⟩ trivial⟩ <;> (first | rfl | (simp; done) | (congr 3; omega))
  refine TL.known 19 hb2 rfl ?_
  refine TL.gm 19 (.one (.d (.str s))) ?_
  refine TL.gm 19 (pI (i : Int)) ?_
  refine TL.gy 19 (Step.index_str (c := (byteAt s i)) rfl rfl (lt_ok rfl) (by kernel_rfl) rfl rfl (by first | omega | (simp; omega)) (byteAt_eq (by try simp only [decide_eq_true_eq, decide_eq_false_iff_not] at *; omega))) ?_
  refine TL.gm 19 (.one (.d (.int .u8 by_))) ?_
  refine TL.gy 19 (Step.bin rfl rfl (lt_ok rfl) rfl rfl (Bin.eql (k := .u8) (a := (byteAt s i)) (b := by_))) ?_
  refine TL.pk false (pB (decide ((byteAt s i) = by_))) ?_
  refine TL.nil ?_
  refine T.ci rfl (fun h3 => ?_) (fun h3 => ?_)
  ·
   refine T.seq ?_
   refine T.region ?_
   refine TL.mv (.one (.row 8 [])) ?_
   refine TL.mv (.one (.d (.str s))) ?_
   refine TL.mv (pI (f : Int)) ?_
   refine TL.mv (pI (i : Int)) ?_
   refine TL.c (Step.slice_str (i := (f : Int)) (j := (i : Int)) rfl rfl (lt_ok rfl) (by kernel_rfl) rfl rfl rfl (by first | omega | (simp; omega)) (by first | omega | (simp; omega)) (by first | omega | (simp; omega))) ?_
   refine TL.c (Step.lit (e := 9) (z := 1) (by_ := 16) (xs := [.tmp 30]) (pss := [[.d (.str (s.extract f i))]]) (es := [(.str (s.extract f i))]) (ss := []) (d := (.sl 1 ([(⟨s.extract f i⟩ : SStr)].map SStr.cells))) rfl rfl (lt_ok rfl) (by kernel_rfl) rfl rfl (.cons rfl .nil) (by simp) (le_ok rfl) (le_ok rfl) rfl (.val rfl .nil) rfl (by simp) (by simp) rfl (wf_map SStr.len _) rfl rfl) ?_
   refine TL.c (Step.append (e := 9) (z := 1) (by_ := 16) (r := 8) (d := (.sl 1 (o.map SStr.cells))) (dy := (.sl 1 ([(⟨s.extract f i⟩ : SStr)].map SStr.cells))) (d' := (.sl 1 ((o ++ [(⟨s.extract f i⟩ : SStr)]).map SStr.cells))) (ss := [31]) rfl rfl (lt_ok rfl) (by kernel_rfl) rfl rfl rfl (lt_ok rfl) rfl (.move rfl) (by simp) app_sl (by simp only [D.size, List.length_map]; first | omega | (simp only [List.length_append, List.length_cons, List.length_nil]; omega) | (simp; omega) | (simp only [List.length_append] at *; omega)) (by simp only [D.size, List.length_map]; first | omega | (simp only [List.length_append, List.length_cons, List.length_nil]; omega) | (simp; omega) | (simp only [List.length_append] at *; omega)) (by simp)) ?_
   refine TL.as (.one (.row 8 [])) ?_
   refine TL.nil ?_
   refine T.region ?_
   refine TL.mv (pI (i : Int)) ?_
   refine TL.c (Step.bin (r := .int .i64 ((i : Int) + 1)) rfl rfl (lt_ok rfl) rfl rfl (Bin.add (a := (i : Int)) (b := 1) (by first | exact wrap_ok (by first | omega | (simp; omega)) (by first | omega | (simp; omega)) | rfl))) ?_
   refine TL.as (pI ((i : Int) + 1)) ?_
   refine TL.nil ?_
   refine T.region ?_
   refine TL.mv (pI (i : Int)) ?_
   refine TL.c (Step.bin (r := .int .i64 ((i : Int) + 1)) rfl rfl (lt_ok rfl) rfl rfl (Bin.add (a := (i : Int)) (b := 1) (by first | exact wrap_ok (by first | omega | (simp; omega)) (by first | omega | (simp; omega)) | rfl))) ?_
   refine TL.as (pI ((i : Int) + 1)) ?_
   refine TL.nil ?_
   refine ⟨(o ++ [(⟨s.extract f i⟩ : SStr)], i + 1, i + 1), by (try dsimp only; try simp only [decide_eq_true_eq, decide_eq_false_iff_not] at *; first | exact l10_add hx (by omega) (by omega) | exact l10_pass hx (by omega) (by omega)), by (dsimp only; omega), Env.le_mk ⟨rfl, rfl, rfl, rfl, ?_, ?_, trivial⟩ ⟨?_, trivial⟩ trivial⟩ <;> (first | rfl | (simp; done) | (congr 3; omega))
  refine T.skip ?_
  refine T.region ?_
  refine TL.mv (pI (i : Int)) ?_
  refine TL.c (Step.bin (r := .int .i64 ((i : Int) + 1)) rfl rfl (lt_ok rfl) rfl rfl (Bin.add (a := (i : Int)) (b := 1) (by first | exact wrap_ok (by first | omega | (simp; omega)) (by first | omega | (simp; omega)) | rfl))) ?_
  refine TL.as (pI ((i : Int) + 1)) ?_
  refine TL.nil ?_
  refine ⟨(o, f, i + 1), by (try dsimp only; try simp only [decide_eq_true_eq, decide_eq_false_iff_not] at *; first | exact l10_add hx (by omega) (by omega) | exact l10_pass hx (by omega) (by omega)), by (dsimp only; omega), Env.le_mk ⟨rfl, rfl, rfl, rfl, rfl, ?_, trivial⟩ ⟨rfl, trivial⟩ trivial⟩ <;> (first | rfl | (simp; done) | (congr 3; omega))
 refine T.exit ?_
 refine T.seq ?_
 refine T.region ?_
 refine TL.mv (.one (.row 8 [])) ?_
 refine TL.as (.one (.row 8 [])) ?_
 refine TL.nil ?_
 refine T.ret ?_
 refine ⟨[(false, [.row 8 []])], (.cons rfl .nil), rfl, [8], (RetC.o ?_ .nil)⟩ <;> (first | rfl | (congr 2; exact l10_done hx (by omega)) | exact congrArg (fun x => some (9, D.sl 1 (List.map SStr.cells x))) (l10_done hx (by omega)))
theorem ok_spec_Cut (s : ByteArray) (h0_ : s.size ≤ 1048576) : RO Tryd.prog 10 [.one (.str s)] [(false, [.own 9 (.sl 1 ((pieceS 32 s).map SStr.cells))])] := by
 refine RO.intro Tryd.func10 rfl 5 rfl (le_ok rfl) fun w Z => ?_
 refine T.seq ?_
 refine T.region ?_
 refine TL.as (.one (.nil)) ?_
 refine TL.nil ?_
 refine T.seq ?_
 refine T.region ?_
 refine TL.mv (.one (.d (.str s))) ?_
 have nn1 := pieceS_len (UInt8.ofNat (Int.toNat 32)) s
 have nn2_p := pieceS_pos (UInt8.ofNat (Int.toNat 32)) s
 refine TL.c (Step.cl (xs := [.tmp 3, .const (.int .u8 32)]) (ps := [(.one (.d (.str s))), (.one (.d (.int .u8 32)))]) (g := .func 24) false (.cons (.one (.d _)) (.cons (.one (.d _)) .nil)) (ok_spec_l10Split s 32 (by first | assumption | omega) (by omega))) ?_
 refine TL.as (.one (.row 1004 [])) ?_
 refine TL.nil ?_
 refine T.ret ?_
 refine ⟨[(false, [.row 1004 []])], (.cons rfl .nil), rfl, [1004], (RetC.o ?_ .nil)⟩ <;> (rfl)
theorem ok_spec_TextNum (s : ByteArray) (h0_ : s.size ≤ 1048576) : RO Tryd.prog 27 [.one (.str s)] [(false, [.rd (.int .i64 (textNum s))]), (false, [.rd (.bool (textOk s))])] := by
 refine RO.intro Tryd.func27 rfl 48 rfl (le_ok rfl) fun w Z => ?_
 refine T.seq ?_
 refine T.region ?_
 refine TL.as (pI 0) ?_
 refine TL.as (pB false) ?_
 refine TL.nil ?_
 refine T.seq ?_
 refine T.seq ?_
 refine T.region ?_
 refine TL.mv (.one (.d (.str s))) ?_
 refine TL.c (Step.len_str rfl rfl (lt_ok rfl) (by kernel_rfl) rfl) ?_
 refine TL.b _ (Bin.eql (k := .i64) (a := (s.size : Int)) (b := 0)) ?_
 refine TL.mv (pB (decide ((s.size : Int) = 0))) ?_
 rcases Bool.eq_false_or_eq_true (decide ((s.size : Int) = 0)) with hb1 | hb1
 ·
  refine TL.known 10 hb1 rfl ?_
  have hb1' := hb1
  replace hb1' := of_decide_eq_true hb1'
  refine TL.gf 10 ?_
  refine TL.gf 10 ?_
  refine TL.gf 10 ?_
  refine TL.pk true (pB true) ?_
  refine TL.nil ?_
  refine T.ct ?_
  refine T.seq ?_
  refine T.region ?_
  refine TL.as (pI 0) ?_
  refine TL.as (pB false) ?_
  refine TL.nil ?_
  refine T.ret ?_
  refine ⟨[(false, [cI 0]), (false, [.d (.bool false)])], (.cons rfl (.cons rfl .nil)), rfl, [], (RetC.r ?_ (RetC.r ?_ .nil))⟩ <;> (first | rfl | (congr 1; first | exact (text_no (text_size (by omega))).1.symm | exact (text_no (text_size (by omega))).2.symm | exact (text_no (text_digit (i := i) (by omega) (by omega))).1.symm | exact (text_no (text_digit (i := i) (by omega) (by omega))).2.symm | exact (text_no (text_large (i := i) (by omega) (by omega) (by omega))).1.symm | exact (text_no (text_large (i := i) (by omega) (by omega) (by omega))).2.symm | exact (text_no (text_bad (i := i) (by omega) (by omega) (by assumption))).1.symm | exact (text_no (text_bad (i := i) (by omega) (by omega) (by assumption))).2.symm | exact (text_yes (text_fin (i := i) (by omega) (by omega) (by assumption))).1.symm | exact (text_yes (text_fin (i := i) (by omega) (by omega) (by assumption))).2.symm))
 refine TL.known 10 hb1 rfl ?_
 have hb1' := hb1
 replace hb1' := of_decide_eq_false hb1'
 refine TL.gm 10 (.one (.d (.str s))) ?_
 refine TL.gy 10 (Step.len_str rfl rfl (lt_ok rfl) (by kernel_rfl) rfl) ?_
 refine TL.gy 10 (Step.bin rfl rfl (lt_ok rfl) rfl rfl (Bin.gtr (k := .i64) (a := (s.size : Int)) (b := 19))) ?_
 refine TL.pk false (pB (decide (19 < (s.size : Int)))) ?_
 refine TL.nil ?_
 refine T.ci rfl (fun h2 => ?_) (fun h2 => ?_)
 ·
  refine T.seq ?_
  refine T.region ?_
  refine TL.as (pI 0) ?_
  refine TL.as (pB false) ?_
  refine TL.nil ?_
  refine T.ret ?_
  refine ⟨[(false, [cI 0]), (false, [.d (.bool false)])], (.cons rfl (.cons rfl .nil)), rfl, [], (RetC.r ?_ (RetC.r ?_ .nil))⟩ <;> (first | rfl | (congr 1; first | exact (text_no (text_size (by omega))).1.symm | exact (text_no (text_size (by omega))).2.symm | exact (text_no (text_digit (i := i) (by omega) (by omega))).1.symm | exact (text_no (text_digit (i := i) (by omega) (by omega))).2.symm | exact (text_no (text_large (i := i) (by omega) (by omega) (by omega))).1.symm | exact (text_no (text_large (i := i) (by omega) (by omega) (by omega))).2.symm | exact (text_no (text_bad (i := i) (by omega) (by omega) (by assumption))).1.symm | exact (text_no (text_bad (i := i) (by omega) (by omega) (by assumption))).2.symm | exact (text_yes (text_fin (i := i) (by omega) (by omega) (by assumption))).1.symm | exact (text_yes (text_fin (i := i) (by omega) (by omega) (by assumption))).2.symm))
 refine T.skip ?_
 refine T.seq ?_
 refine T.region ?_
 refine TL.as (pI 0) ?_
 refine TL.nil ?_
 refine T.seq ?_
 refine T.seq ?_
 refine T.region ?_
 refine TL.as (pI 0) ?_
 refine TL.nil ?_
 refine T.block ?_
 refine T.loop (ι := Nat) (fun xx_ => { tm := [(0, (.one (.d (.str s)))), (5, (pI (xx_ : Int))), (4, (pI (dvs s xx_)))], rows := [], boxes := [] }) (fun xx_ => xx_ ≤ s.size ∧ 0 ≤ dvs s xx_ ∧ dvs s xx_ ≤ 1152921504606846975) (fun xx_ => s.size - xx_) 0 ?_ ?_ ?_
 · refine Env.le_mk ⟨rfl, ?_, ?_, trivial⟩ trivial trivial <;> (first | rfl | (refine congrArg (fun n => PV.one (.d (.int .i64 n))) ?_; first | rfl | exact (dvs_next (by omega) (by omega)).symm | omega | (simp; done)))
 · ((try dsimp only); rw [dvs_zero]; omega)
 intro i hx
 try dsimp only at hx ⊢
 obtain ⟨hx1, hx2, hx3⟩ := hx
 have hb_ := byteAt_bd s i
 refine T.seq ?_
 refine T.seq ?_
 refine T.region ?_
 refine TL.mv (pI (i : Int)) ?_
 refine TL.mv (.one (.d (.str s))) ?_
 refine TL.c (Step.len_str rfl rfl (lt_ok rfl) (by kernel_rfl) rfl) ?_
 refine TL.b _ (Bin.lss (k := .i64) (a := (i : Int)) (b := (s.size : Int))) ?_
 refine TL.nil ?_
 refine T.ci rfl (fun h3 => ?_) (fun h3 => ?_)
 ·
  refine T.skip ?_
  refine T.seq ?_
  refine T.block ?_
  refine T.seq ?_
  refine T.region ?_
  refine TL.mv (.one (.d (.str s))) ?_
  refine TL.mv (pI (i : Int)) ?_
  refine TL.c (Step.index_str (c := (byteAt s i)) rfl rfl (lt_ok rfl) (by kernel_rfl) rfl rfl (by first | omega | (simp; omega)) (byteAt_eq (by try simp only [decide_eq_true_eq, decide_eq_false_iff_not] at *; omega))) ?_
  refine TL.c (Step.conv (c := (byteAt s i)) rfl rfl (lt_ok rfl) (by kernel_rfl) (by kernel_rfl) rfl (wrap_ok (by first | omega | (simp; omega)) (by first | omega | (simp; omega)))) ?_
  refine TL.c (Step.bin (r := .int .i64 ((byteAt s i) - 48)) rfl rfl (lt_ok rfl) rfl rfl (Bin.sub (a := (byteAt s i)) (b := 48) (by first | exact wrap_ok (by first | omega | (simp; omega)) (by first | omega | (simp; omega)) | rfl))) ?_
  refine TL.as (pI ((byteAt s i) - 48)) ?_
  refine TL.nil ?_
  refine T.seq ?_
  refine T.seq ?_
  refine T.region ?_
  refine TL.mv (pI ((byteAt s i) - 48)) ?_
  refine TL.b _ (Bin.lss (k := .i64) (a := ((byteAt s i) - 48)) (b := 0)) ?_
  refine TL.mv (pB (decide (((byteAt s i) - 48) < 0))) ?_
  rcases Bool.eq_false_or_eq_true (decide (((byteAt s i) - 48) < 0)) with hb4 | hb4
  ·
   refine TL.known 28 hb4 rfl ?_
   have hb4' := hb4
   replace hb4' := of_decide_eq_true hb4'
   refine TL.gf 28 ?_
   refine TL.gf 28 ?_
   refine TL.pk true (pB true) ?_
   refine TL.mv (pB true) ?_
   refine TL.gf 32 ?_
   refine TL.gf 32 ?_
   refine TL.gf 32 ?_
   refine TL.gf 32 ?_
   refine TL.gf 32 ?_
   refine TL.pk true (pB true) ?_
   refine TL.nil ?_
   refine T.ct ?_
   refine T.seq ?_
   refine T.region ?_
   refine TL.as (pI 0) ?_
   refine TL.as (pB false) ?_
   refine TL.nil ?_
   refine T.ret ?_
   refine ⟨[(false, [cI 0]), (false, [.d (.bool false)])], (.cons rfl (.cons rfl .nil)), rfl, [], (RetC.r ?_ (RetC.r ?_ .nil))⟩ <;> (first | rfl | (congr 1; first | exact (text_no (text_size (by omega))).1.symm | exact (text_no (text_size (by omega))).2.symm | exact (text_no (text_digit (i := i) (by omega) (by omega))).1.symm | exact (text_no (text_digit (i := i) (by omega) (by omega))).2.symm | exact (text_no (text_large (i := i) (by omega) (by omega) (by omega))).1.symm | exact (text_no (text_large (i := i) (by omega) (by omega) (by omega))).2.symm | exact (text_no (text_bad (i := i) (by omega) (by omega) (by assumption))).1.symm | exact (text_no (text_bad (i := i) (by omega) (by omega) (by assumption))).2.symm | exact (text_yes (text_fin (i := i) (by omega) (by omega) (by assumption))).1.symm | exact (text_yes (text_fin (i := i) (by omega) (by omega) (by assumption))).2.symm))
  refine TL.known 28 hb4 rfl ?_
  have hb4' := hb4
  replace hb4' := of_decide_eq_false hb4'
  refine TL.gm 28 (pI ((byteAt s i) - 48)) ?_
  refine TL.gy 28 (Step.bin rfl rfl (lt_ok rfl) rfl rfl (Bin.gtr (k := .i64) (a := ((byteAt s i) - 48)) (b := 9))) ?_
  refine TL.pk false (pB (decide (9 < ((byteAt s i) - 48)))) ?_
  refine TL.mv (pB (decide (9 < ((byteAt s i) - 48)))) ?_
  rcases Bool.eq_false_or_eq_true (decide (9 < ((byteAt s i) - 48))) with hb5 | hb5
  ·
   refine TL.known 32 hb5 rfl ?_
   have hb5' := hb5
   replace hb5' := of_decide_eq_true hb5'
   refine TL.gf 32 ?_
   refine TL.gf 32 ?_
   refine TL.gf 32 ?_
   refine TL.gf 32 ?_
   refine TL.gf 32 ?_
   refine TL.pk true (pB true) ?_
   refine TL.nil ?_
   refine T.ct ?_
   refine T.seq ?_
   refine T.region ?_
   refine TL.as (pI 0) ?_
   refine TL.as (pB false) ?_
   refine TL.nil ?_
   refine T.ret ?_
   refine ⟨[(false, [cI 0]), (false, [.d (.bool false)])], (.cons rfl (.cons rfl .nil)), rfl, [], (RetC.r ?_ (RetC.r ?_ .nil))⟩ <;> (first | rfl | (congr 1; first | exact (text_no (text_size (by omega))).1.symm | exact (text_no (text_size (by omega))).2.symm | exact (text_no (text_digit (i := i) (by omega) (by omega))).1.symm | exact (text_no (text_digit (i := i) (by omega) (by omega))).2.symm | exact (text_no (text_large (i := i) (by omega) (by omega) (by omega))).1.symm | exact (text_no (text_large (i := i) (by omega) (by omega) (by omega))).2.symm | exact (text_no (text_bad (i := i) (by omega) (by omega) (by assumption))).1.symm | exact (text_no (text_bad (i := i) (by omega) (by omega) (by assumption))).2.symm | exact (text_yes (text_fin (i := i) (by omega) (by omega) (by assumption))).1.symm | exact (text_yes (text_fin (i := i) (by omega) (by omega) (by assumption))).2.symm))
  refine TL.known 32 hb5 rfl ?_
  have hb5' := hb5
  replace hb5' := of_decide_eq_false hb5'
  refine TL.gm 32 (pI (dvs s i)) ?_
  refine TL.gm 32 (pI ((byteAt s i) - 48)) ?_
  refine TL.gy 32 (Step.bin (r := .int .i64 (1152921504606846975 - ((byteAt s i) - 48))) rfl rfl (lt_ok rfl) rfl rfl (Bin.sub (a := 1152921504606846975) (b := ((byteAt s i) - 48)) (by first | exact wrap_ok (by first | omega | (simp; omega)) (by first | omega | (simp; omega)) | rfl))) ?_
  refine TL.gy 32 (Step.bin (r := .int .i64 ((1152921504606846975 - ((byteAt s i) - 48)) / 10)) rfl rfl (lt_ok rfl) rfl rfl (Bin.quo (k := .i64) (a := (1152921504606846975 - ((byteAt s i) - 48))) (b := 10) (by decide) (by rw [Int.tdiv_eq_ediv_of_nonneg (by first | omega | (simp; omega))]; exact wrap_ok (by first | omega | (simp; omega)) (by first | omega | (simp; omega))))) ?_
  refine TL.gy 32 (Step.bin rfl rfl (lt_ok rfl) rfl rfl (Bin.gtr (k := .i64) (a := (dvs s i)) (b := ((1152921504606846975 - ((byteAt s i) - 48)) / 10)))) ?_
  refine TL.pk false (pB (decide (((1152921504606846975 - ((byteAt s i) - 48)) / 10) < (dvs s i)))) ?_
  refine TL.nil ?_
  refine T.ci rfl (fun h6 => ?_) (fun h6 => ?_)
  ·
   refine T.seq ?_
   refine T.region ?_
   refine TL.as (pI 0) ?_
   refine TL.as (pB false) ?_
   refine TL.nil ?_
   refine T.ret ?_
   refine ⟨[(false, [cI 0]), (false, [.d (.bool false)])], (.cons rfl (.cons rfl .nil)), rfl, [], (RetC.r ?_ (RetC.r ?_ .nil))⟩ <;> (first | rfl | (congr 1; first | exact (text_no (text_size (by omega))).1.symm | exact (text_no (text_size (by omega))).2.symm | exact (text_no (text_digit (i := i) (by omega) (by omega))).1.symm | exact (text_no (text_digit (i := i) (by omega) (by omega))).2.symm | exact (text_no (text_large (i := i) (by omega) (by omega) (by omega))).1.symm | exact (text_no (text_large (i := i) (by omega) (by omega) (by omega))).2.symm | exact (text_no (text_bad (i := i) (by omega) (by omega) (by assumption))).1.symm | exact (text_no (text_bad (i := i) (by omega) (by omega) (by assumption))).2.symm | exact (text_yes (text_fin (i := i) (by omega) (by omega) (by assumption))).1.symm | exact (text_yes (text_fin (i := i) (by omega) (by omega) (by assumption))).2.symm))
  refine T.skip ?_
  refine T.region ?_
  refine TL.mv (pI (dvs s i)) ?_
  refine TL.c (Step.bin (r := .int .i64 ((dvs s i) * 10)) rfl rfl (lt_ok rfl) rfl rfl (Bin.mul (a := (dvs s i)) (b := 10) (by first | exact wrap_ok (by first | omega | (simp; omega)) (by first | omega | (simp; omega)) | rfl))) ?_
  refine TL.mv (pI ((byteAt s i) - 48)) ?_
  refine TL.c (Step.bin (r := .int .i64 (((dvs s i) * 10) + ((byteAt s i) - 48))) rfl rfl (lt_ok rfl) rfl rfl (Bin.add (a := ((dvs s i) * 10)) (b := ((byteAt s i) - 48)) (by first | exact wrap_ok (by first | omega | (simp; omega)) (by first | omega | (simp; omega)) | rfl))) ?_
  refine TL.as (pI (((dvs s i) * 10) + ((byteAt s i) - 48))) ?_
  refine TL.nil ?_
  refine T.region ?_
  refine TL.mv (pI (i : Int)) ?_
  refine TL.c (Step.bin (r := .int .i64 ((i : Int) + 1)) rfl rfl (lt_ok rfl) rfl rfl (Bin.add (a := (i : Int)) (b := 1) (by first | exact wrap_ok (by first | omega | (simp; omega)) (by first | omega | (simp; omega)) | rfl))) ?_
  refine TL.as (pI ((i : Int) + 1)) ?_
  refine TL.nil ?_
  refine ⟨i + 1, by (rw [dvs_next (by omega) (by omega)]; omega), by ((try dsimp only); omega), Env.le_mk ⟨rfl, ?_, ?_, trivial⟩ trivial trivial⟩ <;> (first | rfl | (refine congrArg (fun n => PV.one (.d (.int .i64 n))) ?_; first | rfl | exact (dvs_next (by omega) (by omega)).symm | omega | (simp; done)))
 refine T.exit ?_
 refine T.seq ?_
 refine T.seq ?_
 refine T.region ?_
 refine TL.mv (pI (dvs s i)) ?_
 refine TL.c (Step.cl (xs := [.tmp 43]) (ps := [(pI (dvs s i))]) (g := .func 21) false (.cons (.one (.d _)) .nil) (ok_spec_NumText (dvs s i))) ?_
 refine TL.mv (.one (.d (.str s))) ?_
 refine TL.c (Step.bin rfl rfl (lt_ok rfl) rfl rfl Bin.strne) ?_
 refine TL.nil ?_
 refine T.cn rfl (fun h7 => ?_) (fun h7 => ?_)
 ·
  refine T.seq ?_
  refine T.region ?_
  refine TL.as (pI 0) ?_
  refine TL.as (pB false) ?_
  refine TL.nil ?_
  refine T.ret ?_
  refine ⟨[(false, [cI 0]), (false, [.d (.bool false)])], (.cons rfl (.cons rfl .nil)), rfl, [], (RetC.r ?_ (RetC.r ?_ .nil))⟩ <;> (first | rfl | (congr 1; first | exact (text_no (text_size (by omega))).1.symm | exact (text_no (text_size (by omega))).2.symm | exact (text_no (text_digit (i := i) (by omega) (by omega))).1.symm | exact (text_no (text_digit (i := i) (by omega) (by omega))).2.symm | exact (text_no (text_large (i := i) (by omega) (by omega) (by omega))).1.symm | exact (text_no (text_large (i := i) (by omega) (by omega) (by omega))).2.symm | exact (text_no (text_bad (i := i) (by omega) (by omega) (by assumption))).1.symm | exact (text_no (text_bad (i := i) (by omega) (by omega) (by assumption))).2.symm | exact (text_yes (text_fin (i := i) (by omega) (by omega) (by assumption))).1.symm | exact (text_yes (text_fin (i := i) (by omega) (by omega) (by assumption))).2.symm))
 refine T.skip ?_
 refine T.seq ?_
 refine T.region ?_
 refine TL.mv (pI (dvs s i)) ?_
 refine TL.as (pI (dvs s i)) ?_
 refine TL.as (pB true) ?_
 refine TL.nil ?_
 refine T.ret ?_
 refine ⟨[(false, [cI (dvs s i)]), (false, [.d (.bool true)])], (.cons rfl (.cons rfl .nil)), rfl, [], (RetC.r ?_ (RetC.r ?_ .nil))⟩ <;> (first | rfl | (congr 1; first | exact (text_no (text_size (by omega))).1.symm | exact (text_no (text_size (by omega))).2.symm | exact (text_no (text_digit (i := i) (by omega) (by omega))).1.symm | exact (text_no (text_digit (i := i) (by omega) (by omega))).2.symm | exact (text_no (text_large (i := i) (by omega) (by omega) (by omega))).1.symm | exact (text_no (text_large (i := i) (by omega) (by omega) (by omega))).2.symm | exact (text_no (text_bad (i := i) (by omega) (by omega) (by assumption))).1.symm | exact (text_no (text_bad (i := i) (by omega) (by omega) (by assumption))).2.symm | exact (text_yes (text_fin (i := i) (by omega) (by omega) (by assumption))).1.symm | exact (text_yes (text_fin (i := i) (by omega) (by omega) (by assumption))).2.symm))
theorem ok_spec_TextLimits (s : ByteArray) (h0_ : s.size ≤ 1048576) : RO Tryd.prog 17 [.one (.str s)] [(true, [.rd (.int .i64 (textLim s).f0), .rd (.int .i64 (textLim s).f1), .rd (.int .i64 (textLim s).f2), .rd (.int .i64 (textLim s).f3), .rd (.int .i64 (textLim s).f4)]), (false, [.rd (.bool (textLimOk s))])] := by
 refine RO.intro Tryd.func17 rfl 62 rfl (le_ok rfl) fun w Z => ?_
 have hl5_ := tlL_len (pieceS 32 s) 5
 refine T.seq ?_
 refine T.region ?_
 refine TL.c (Step.al [cI 0, cI 0, cI 0, cI 0, cI 0]) ?_
 refine TL.as (pB false) ?_
 refine TL.nil ?_
 refine T.seq ?_
 refine T.region ?_
 refine TL.mv (.one (.d (.str s))) ?_
 have nn1 := pieceS_len 32 s
 have nn2_c := pieceS_cnt 32 s
 refine TL.c (Step.cl (xs := [.tmp 11]) (ps := [(.one (.d (.str s)))]) (g := .func 10) false (.cons (.one (.d _)) .nil) (ok_spec_Cut s (by first | assumption | omega))) ?_
 refine TL.as (.one (.row 1012 [])) ?_
 refine TL.nil ?_
 refine T.seq ?_
 refine T.seq ?_
 refine T.region ?_
 refine TL.mv (.one (.row 1012 [])) ?_
 refine TL.c (Step.len' (e := 9) (z := 1) (d := (.sl 1 ((pieceS 32 s).map SStr.cells))) (n := (pieceS 32 s).length) rfl rfl (lt_ok rfl) (by kernel_rfl) rfl rfl (by simp [D.size])) ?_
 refine TL.b _ (Bin.neq (k := .i64) (a := ((pieceS 32 s).length : Int)) (b := 6)) ?_
 refine TL.nil ?_
 refine T.ci rfl (fun h3 => ?_) (fun h3 => ?_)
 ·
  refine T.seq ?_
  refine T.region ?_
  refine TL.c (Step.build (zs := [.int .i64 0, .int .i64 0, .int .i64 0, .int .i64 0, .int .i64 0]) (places := [(0, 1), (1, 1), (2, 1), (3, 1), (4, 1)]) (pss := []) (ps' := [cI 0, cI 0, cI 0, cI 0, cI 0]) rfl rfl (lt_ok rfl) (by kernel_rfl) .nil rfl rfl rfl) ?_
  refine TL.c (Step.sb 5 [cI 0, cI 0, cI 0, cI 0, cI 0]) ?_
  refine TL.as (pB false) ?_
  refine TL.nil ?_
  refine T.ret ?_
  refine ⟨[(true, [cI 0, cI 0, cI 0, cI 0, cI 0]), (false, [.d (.bool false)])], (.cons rfl (.cons rfl .nil)), rfl, [], (RetC.r ?_ (RetC.r ?_ (RetC.r ?_ (RetC.r ?_ (RetC.r ?_ (RetC.r ?_ .nil))))))⟩ <;> (first | rfl | (congr 1; first | (rw [tl_no (tl_len (by omega))]; done) | exact (tl_len (by omega)).symm | (rw [tl_no (tl_tx (by assumption))]; done) | exact (tl_tx (by assumption)).symm | (rw [tl_no (tl_lm (by assumption))]; done) | exact (tl_lm (by assumption)).symm | (rw [tl_yes (tl_ok (by omega) (by assumption))]; first | done | rfl) | exact (tl_ok (by omega) (by assumption)).symm))
 refine T.skip ?_
 refine T.seq ?_
 refine T.region ?_
 refine TL.c (Step.lit (e := 3) (z := 1) (by_ := 8) (xs := []) (pss := []) (es := []) (ss := []) (d := (.ints .i64 [])) rfl rfl (lt_ok rfl) (by kernel_rfl) rfl rfl .nil (by simp) (le_ok rfl) (le_ok rfl) rfl .nil rfl (by simp) (by simp) rfl trivial rfl rfl) ?_
 refine TL.as (.one (.row 17 [])) ?_
 refine TL.nil ?_
 refine T.seq ?_
 refine T.seq ?_
 refine T.region ?_
 refine TL.mv (.one (.row 1012 [])) ?_
 refine TL.freeze (r := 1012) rfl (fun _ h => h) ?_
 refine TL.c (Step.slice (d' := (.sl 1 ((((pieceS 32 s).drop 1).take ((pieceS 32 s).length - 1)).map SStr.cells))) (e := 9) (z := 1) (l := 1) (h := (pieceS 32 s).length) rfl rfl (lt_ok rfl) (by kernel_rfl) rfl rfl rfl ((.some (i := 1) rfl (by first | omega | (simp; omega)))) (Bnd.none' (by simp only [D.at_, D.size, List.length_map])) (by first | omega | (simp; omega)) (by simp only [D.at_, D.size, List.length_map]; first | omega | (simp; omega)) (by simp only [D.at_, D.sub, List.map_take, List.map_drop])) ?_
 refine TL.c (Step.len' (e := 9) (z := 1) (d := (.sl 1 ((((pieceS 32 s).drop 1).take ((pieceS 32 s).length - 1)).map SStr.cells))) (n := (((pieceS 32 s).drop 1).take ((pieceS 32 s).length - 1)).length) rfl rfl (lt_ok rfl) (by kernel_rfl) rfl rfl (by simp [D.size])) ?_
 refine TL.mv (pI 0) ?_
 refine TL.nil ?_
 refine T.block ?_
 refine T.loop (ι := Nat) (fun xx_ => { tm := [(0, (.one (.d (.str s)))), (2, (.one (.ptr 2 0))), (3, (pB false)), (19, (.one (.d (.sl 1 ((((pieceS 32 s).drop 1).take ((pieceS 32 s).length - 1)).map SStr.cells))))), (20, (pI ((((pieceS 32 s).drop 1).take ((pieceS 32 s).length - 1)).length : Int))), (21, (pI (xx_ : Int))), (5, (.one (.row 17 [])))], rows := [(17, (3, (.ints .i64 (tlL (pieceS 32 s) xx_))))], boxes := [(2, (25, [cI 0, cI 0, cI 0, cI 0, cI 0]))] }) (fun xx_ => xx_ ≤ 5) (fun xx_ => 5 - xx_) 0 ?_ ?_ ?_
 · refine Env.le_mk ⟨rfl, rfl, rfl, rfl, rfl, ?_, rfl, trivial⟩ ⟨?_, trivial⟩ ⟨rfl, trivial⟩ <;> (first | rfl | exact congrArg (fun x => some (_, D.ints .i64 x)) (tlL_next' (ws := pieceS 32 s) (by omega) (by omega)) | (refine congrArg (fun n => PV.one (.d (.int .i64 n))) ?_; first | rfl | omega | (simp; done)))
 · exact Nat.zero_le _
 intro i hx
 try dsimp only at hx ⊢
 have hl_ := tlL_len (pieceS 32 s) i
 have hg_ := gN_bd (pieceS 32 s) (i + 1)
 have hz_ := restS_sz 32 s 1 ((pieceS 32 s).length - 1) i
 have hq_ : (((pieceS 32 s).drop 1).take ((pieceS 32 s).length - 1)).length = 5 := by rw [List.length_take, List.length_drop]; omega
 refine T.seq ?_
 refine T.region ?_
 refine TL.b _ (Bin.lss (k := .i64) (a := (i : Int)) (b := ((((pieceS 32 s).drop 1).take ((pieceS 32 s).length - 1)).length : Int))) ?_
 refine TL.nil ?_
 refine T.seq ?_
 refine T.ci rfl (fun h4 => ?_) (fun h4 => ?_)
 ·
  refine T.skip ?_
  refine T.seq ?_
  refine T.block ?_
  refine T.seq ?_
  refine T.region ?_
  refine TL.c (Step.index (e := 9) (z := 1) (i := (i : Int)) rfl rfl (lt_ok rfl) (by kernel_rfl) rfl rfl rfl (lt_ok rfl) rfl (by first | omega | (simp; omega)) (by simp only [D.size]; first | omega | (simp; omega))) ?_
  refine TL.c (Step.load (e := (.str ((((pieceS 32 s).drop 1).take ((pieceS 32 s).length - 1)).getD i default).f0)) rfl rfl (lt_ok rfl) (by kernel_rfl) rfl ((cell_map default (by first | omega | (simp; omega))).trans rfl)) ?_
  refine TL.as (.one (.d (.str ((((pieceS 32 s).drop 1).take ((pieceS 32 s).length - 1)).getD i default).f0))) ?_
  refine TL.nil ?_
  refine T.seq ?_
  refine T.region ?_
  refine TL.mv (.one (.d (.str ((((pieceS 32 s).drop 1).take ((pieceS 32 s).length - 1)).getD i default).f0))) ?_
  have nn5 := textNum_bd ((((pieceS 32 s).drop 1).take ((pieceS 32 s).length - 1)).getD i default).f0
  refine TL.c (Step.cl (xs := [.tmp 26]) (ps := [(.one (.d (.str ((((pieceS 32 s).drop 1).take ((pieceS 32 s).length - 1)).getD i default).f0)))]) (g := .func 27) false (.cons (.one (.d _)) .nil) (ok_spec_TextNum ((((pieceS 32 s).drop 1).take ((pieceS 32 s).length - 1)).getD i default).f0 (by first | assumption | omega))) ?_
  refine TL.mv (.tup [(false, [cI (textNum ((((pieceS 32 s).drop 1).take ((pieceS 32 s).length - 1)).getD i default).f0)]), (false, [.d (.bool (textOk ((((pieceS 32 s).drop 1).take ((pieceS 32 s).length - 1)).getD i default).f0))])]) ?_
  refine TL.c (Step.extract (p := (pI (textNum ((((pieceS 32 s).drop 1).take ((pieceS 32 s).length - 1)).getD i default).f0))) rfl rfl (lt_ok rfl) rfl rfl) ?_
  refine TL.c (Step.extract (p := (pB (textOk ((((pieceS 32 s).drop 1).take ((pieceS 32 s).length - 1)).getD i default).f0))) rfl rfl (lt_ok rfl) rfl rfl) ?_
  refine TL.as (pI (textNum ((((pieceS 32 s).drop 1).take ((pieceS 32 s).length - 1)).getD i default).f0)) ?_
  refine TL.as (pB (textOk ((((pieceS 32 s).drop 1).take ((pieceS 32 s).length - 1)).getD i default).f0)) ?_
  refine TL.nil ?_
  refine T.region ?_
  refine TL.mv (.one (.row 17 [])) ?_
  refine TL.mv (pI (textNum ((((pieceS 32 s).drop 1).take ((pieceS 32 s).length - 1)).getD i default).f0)) ?_
  refine TL.c (Step.lit (e := 3) (z := 1) (by_ := 8) (xs := [.tmp 31]) (pss := [[cI (textNum ((((pieceS 32 s).drop 1).take ((pieceS 32 s).length - 1)).getD i default).f0)]]) (es := [(.int .i64 (textNum ((((pieceS 32 s).drop 1).take ((pieceS 32 s).length - 1)).getD i default).f0))]) (ss := []) (d := (.ints .i64 [textNum ((((pieceS 32 s).drop 1).take ((pieceS 32 s).length - 1)).getD i default).f0])) rfl rfl (lt_ok rfl) (by kernel_rfl) rfl rfl (.cons rfl .nil) (by simp) (le_ok rfl) (le_ok rfl) rfl (.val rfl .nil) rfl (by simp) (by simp) rfl trivial rfl rfl) ?_
  refine TL.c (Step.append (e := 3) (z := 1) (by_ := 8) (r := 17) (d := (.ints .i64 (tlL (pieceS 32 s) i))) (dy := (.ints .i64 [textNum ((((pieceS 32 s).drop 1).take ((pieceS 32 s).length - 1)).getD i default).f0])) (d' := (.ints .i64 ((tlL (pieceS 32 s) i) ++ [textNum ((((pieceS 32 s).drop 1).take ((pieceS 32 s).length - 1)).getD i default).f0]))) (ss := []) rfl rfl (lt_ok rfl) (by kernel_rfl) rfl rfl rfl (lt_ok rfl) rfl (.copy rfl rfl rfl (by simp [D.flat, D.val])) (by simp) rfl (by simp only [D.size, List.length_map]; first | omega | (simp only [List.length_append, List.length_cons, List.length_nil]; omega) | (simp; omega) | (simp only [List.length_append] at *; omega)) (by simp only [D.size, List.length_map]; first | omega | (simp only [List.length_append, List.length_cons, List.length_nil]; omega) | (simp; omega) | (simp only [List.length_append] at *; omega)) (by simp)) ?_
  refine TL.as (.one (.row 17 [])) ?_
  refine TL.nil ?_
  refine T.region ?_
  refine TL.c (Step.bin (r := .int .i64 ((i : Int) + 1)) rfl rfl (lt_ok rfl) rfl rfl (Bin.add (a := (i : Int)) (b := 1) (by first | exact wrap_ok (by first | omega | (simp; omega)) (by first | omega | (simp; omega)) | rfl))) ?_
  refine TL.mv (pI ((i : Int) + 1)) ?_
  refine TL.nil ?_
  refine ⟨i + 1, by omega, by ((try dsimp only); omega), Env.le_mk ⟨rfl, rfl, rfl, rfl, rfl, ?_, rfl, trivial⟩ ⟨?_, trivial⟩ ⟨rfl, trivial⟩⟩ <;> (first | rfl | exact congrArg (fun x => some (_, D.ints .i64 x)) (tlL_next' (ws := pieceS 32 s) (by omega) (by omega)) | (refine congrArg (fun n => PV.one (.d (.int .i64 n))) ?_; first | rfl | omega | (simp; done)))
 refine T.exit ?_
 refine T.weaken (E' := { tm := [(0, (.one (.d (.str s)))), (2, (.one (.ptr 2 0))), (3, (pB false)), (19, (.one (.d (.sl 1 ((((pieceS 32 s).drop 1).take ((pieceS 32 s).length - 1)).map SStr.cells))))), (20, (pI ((((pieceS 32 s).drop 1).take ((pieceS 32 s).length - 1)).length : Int))), (21, (pI (i : Int))), (5, (.one (.row 17 []))), (22, (pB (decide ((i : Int) < ((((pieceS 32 s).drop 1).take ((pieceS 32 s).length - 1)).length : Int)))))], rows := [(17, (3, (.ints .i64 (tlL (pieceS 32 s) 5))))], boxes := [(2, (25, [cI 0, cI 0, cI 0, cI 0, cI 0]))] }) (by refine Env.le_mk ⟨rfl, rfl, rfl, rfl, rfl, rfl, rfl, rfl, trivial⟩ ⟨?_, trivial⟩ ⟨rfl, trivial⟩ <;> (first | rfl | exact congrArg (fun x => some (_, D.ints .i64 (tlL (pieceS 32 s) x))) (show i = 5 by omega))) ?_
 refine T.seq ?_
 refine T.drawX [{ dst := some 35, pv := (.one (.row 17 [])) }, { dst := some 36, pv := (.one (.rptr 17 [] 0 0)) }, { dst := some 37, pv := (pI ((tlL (pieceS 32 s) 5).getD 0 0)) }, { dst := some 38, pv := (.one (.row 17 [])) }, { dst := some 39, pv := (.one (.rptr 17 [] 1 0)) }, { dst := some 40, pv := (pI ((tlL (pieceS 32 s) 5).getD 1 0)) }, { dst := some 41, pv := (.one (.row 17 [])) }, { dst := some 42, pv := (.one (.rptr 17 [] 2 0)) }, { dst := some 43, pv := (pI ((tlL (pieceS 32 s) 5).getD 2 0)) }, { dst := some 44, pv := (.one (.row 17 [])) }, { dst := some 45, pv := (.one (.rptr 17 [] 3 0)) }, { dst := some 46, pv := (pI ((tlL (pieceS 32 s) 5).getD 3 0)) }, { dst := some 47, pv := (.one (.row 17 [])) }, { dst := some 48, pv := (.one (.rptr 17 [] 4 0)) }, { dst := some 49, pv := (pI ((tlL (pieceS 32 s) 5).getD 4 0)) }, { dst := some 50, pv := (.agg [cI ((tlL (pieceS 32 s) 5).getD 0 0), cI ((tlL (pieceS 32 s) 5).getD 1 0), cI ((tlL (pieceS 32 s) 5).getD 2 0), cI ((tlL (pieceS 32 s) 5).getD 3 0), cI ((tlL (pieceS 32 s) 5).getD 4 0)]) }, { dst := some 10, pv := (.one (.ptr 10 0)), box := some (10, (25, [cI 0, cI 0, cI 0, cI 0, cI 0])) }, { box := some (10, (25, [cI ((tlL (pieceS 32 s) 5).getD 0 0), cI ((tlL (pieceS 32 s) 5).getD 1 0), cI ((tlL (pieceS 32 s) 5).getD 2 0), cI ((tlL (pieceS 32 s) 5).getD 3 0), cI ((tlL (pieceS 32 s) 5).getD 4 0)])) }] (by kernel_rfl) (by kernel_rfl) ?_ ?_
 ·
  refine .cons (fun E hA_ => by have g5 : E.get 5 = (.one (.row 17 [])) := (hA_.get 5 (by kernel_rfl)).trans (by kernel_rfl); exact OpStep.plain rfl (Step.move (p := (.one (.row 17 []))) (t := 35) rfl rfl (by exact lt_ok rfl) (show Env.ev E (.tmp 5) = _ from g5.trans rfl))) ?_
  refine .cons (fun E hA_ => by have g35 : E.get 35 = (.one (.row 17 [])) := (hA_.get 35 (by kernel_rfl)).trans (by kernel_rfl); have q17 : E.row 17 = some (3, (.ints .i64 (tlL (pieceS 32 s) 5))) := (hA_.row 17 (by kernel_rfl)).trans (by kernel_rfl); exact OpStep.plain rfl (Step.index_row (e := 3) (z := 1) (i := 0) (t := 36) rfl rfl (by exact lt_ok rfl) (by kernel_rfl) (show Env.ev E (.tmp 35) = _ from g35.trans rfl) q17 rfl rfl (lt_ok rfl) rfl (by first | omega | (simp; omega)) (by simp only [D.at_, D.cell, D.size]; first | omega | (simp; omega)))) ?_
  refine .cons (fun E hA_ => by have g36 : E.get 36 = (.one (.rptr 17 [] 0 0)) := (hA_.get 36 (by kernel_rfl)).trans (by kernel_rfl); have q17 : E.row 17 = some (3, (.ints .i64 (tlL (pieceS 32 s) 5))) := (hA_.row 17 (by kernel_rfl)).trans (by kernel_rfl); exact OpStep.plain rfl (Step.load_row (c := cI ((tlL (pieceS 32 s) 5).getD 0 0)) (t := 37) rfl rfl (by exact lt_ok rfl) (by kernel_rfl) (show Env.ev E (.tmp 36) = _ from g36.trans rfl) q17 rfl)) ?_
  refine .cons (fun E hA_ => by have g5 : E.get 5 = (.one (.row 17 [])) := (hA_.get 5 (by kernel_rfl)).trans (by kernel_rfl); exact OpStep.plain rfl (Step.move (p := (.one (.row 17 []))) (t := 38) rfl rfl (by exact lt_ok rfl) (show Env.ev E (.tmp 5) = _ from g5.trans rfl))) ?_
  refine .cons (fun E hA_ => by have g38 : E.get 38 = (.one (.row 17 [])) := (hA_.get 38 (by kernel_rfl)).trans (by kernel_rfl); have q17 : E.row 17 = some (3, (.ints .i64 (tlL (pieceS 32 s) 5))) := (hA_.row 17 (by kernel_rfl)).trans (by kernel_rfl); exact OpStep.plain rfl (Step.index_row (e := 3) (z := 1) (i := 1) (t := 39) rfl rfl (by exact lt_ok rfl) (by kernel_rfl) (show Env.ev E (.tmp 38) = _ from g38.trans rfl) q17 rfl rfl (lt_ok rfl) rfl (by first | omega | (simp; omega)) (by simp only [D.at_, D.cell, D.size]; first | omega | (simp; omega)))) ?_
  refine .cons (fun E hA_ => by have g39 : E.get 39 = (.one (.rptr 17 [] 1 0)) := (hA_.get 39 (by kernel_rfl)).trans (by kernel_rfl); have q17 : E.row 17 = some (3, (.ints .i64 (tlL (pieceS 32 s) 5))) := (hA_.row 17 (by kernel_rfl)).trans (by kernel_rfl); exact OpStep.plain rfl (Step.load_row (c := cI ((tlL (pieceS 32 s) 5).getD 1 0)) (t := 40) rfl rfl (by exact lt_ok rfl) (by kernel_rfl) (show Env.ev E (.tmp 39) = _ from g39.trans rfl) q17 rfl)) ?_
  refine .cons (fun E hA_ => by have g5 : E.get 5 = (.one (.row 17 [])) := (hA_.get 5 (by kernel_rfl)).trans (by kernel_rfl); exact OpStep.plain rfl (Step.move (p := (.one (.row 17 []))) (t := 41) rfl rfl (by exact lt_ok rfl) (show Env.ev E (.tmp 5) = _ from g5.trans rfl))) ?_
  refine .cons (fun E hA_ => by have g41 : E.get 41 = (.one (.row 17 [])) := (hA_.get 41 (by kernel_rfl)).trans (by kernel_rfl); have q17 : E.row 17 = some (3, (.ints .i64 (tlL (pieceS 32 s) 5))) := (hA_.row 17 (by kernel_rfl)).trans (by kernel_rfl); exact OpStep.plain rfl (Step.index_row (e := 3) (z := 1) (i := 2) (t := 42) rfl rfl (by exact lt_ok rfl) (by kernel_rfl) (show Env.ev E (.tmp 41) = _ from g41.trans rfl) q17 rfl rfl (lt_ok rfl) rfl (by first | omega | (simp; omega)) (by simp only [D.at_, D.cell, D.size]; first | omega | (simp; omega)))) ?_
  refine .cons (fun E hA_ => by have g42 : E.get 42 = (.one (.rptr 17 [] 2 0)) := (hA_.get 42 (by kernel_rfl)).trans (by kernel_rfl); have q17 : E.row 17 = some (3, (.ints .i64 (tlL (pieceS 32 s) 5))) := (hA_.row 17 (by kernel_rfl)).trans (by kernel_rfl); exact OpStep.plain rfl (Step.load_row (c := cI ((tlL (pieceS 32 s) 5).getD 2 0)) (t := 43) rfl rfl (by exact lt_ok rfl) (by kernel_rfl) (show Env.ev E (.tmp 42) = _ from g42.trans rfl) q17 rfl)) ?_
  refine .cons (fun E hA_ => by have g5 : E.get 5 = (.one (.row 17 [])) := (hA_.get 5 (by kernel_rfl)).trans (by kernel_rfl); exact OpStep.plain rfl (Step.move (p := (.one (.row 17 []))) (t := 44) rfl rfl (by exact lt_ok rfl) (show Env.ev E (.tmp 5) = _ from g5.trans rfl))) ?_
  refine .cons (fun E hA_ => by have g44 : E.get 44 = (.one (.row 17 [])) := (hA_.get 44 (by kernel_rfl)).trans (by kernel_rfl); have q17 : E.row 17 = some (3, (.ints .i64 (tlL (pieceS 32 s) 5))) := (hA_.row 17 (by kernel_rfl)).trans (by kernel_rfl); exact OpStep.plain rfl (Step.index_row (e := 3) (z := 1) (i := 3) (t := 45) rfl rfl (by exact lt_ok rfl) (by kernel_rfl) (show Env.ev E (.tmp 44) = _ from g44.trans rfl) q17 rfl rfl (lt_ok rfl) rfl (by first | omega | (simp; omega)) (by simp only [D.at_, D.cell, D.size]; first | omega | (simp; omega)))) ?_
  refine .cons (fun E hA_ => by have g45 : E.get 45 = (.one (.rptr 17 [] 3 0)) := (hA_.get 45 (by kernel_rfl)).trans (by kernel_rfl); have q17 : E.row 17 = some (3, (.ints .i64 (tlL (pieceS 32 s) 5))) := (hA_.row 17 (by kernel_rfl)).trans (by kernel_rfl); exact OpStep.plain rfl (Step.load_row (c := cI ((tlL (pieceS 32 s) 5).getD 3 0)) (t := 46) rfl rfl (by exact lt_ok rfl) (by kernel_rfl) (show Env.ev E (.tmp 45) = _ from g45.trans rfl) q17 rfl)) ?_
  refine .cons (fun E hA_ => by have g5 : E.get 5 = (.one (.row 17 [])) := (hA_.get 5 (by kernel_rfl)).trans (by kernel_rfl); exact OpStep.plain rfl (Step.move (p := (.one (.row 17 []))) (t := 47) rfl rfl (by exact lt_ok rfl) (show Env.ev E (.tmp 5) = _ from g5.trans rfl))) ?_
  refine .cons (fun E hA_ => by have g47 : E.get 47 = (.one (.row 17 [])) := (hA_.get 47 (by kernel_rfl)).trans (by kernel_rfl); have q17 : E.row 17 = some (3, (.ints .i64 (tlL (pieceS 32 s) 5))) := (hA_.row 17 (by kernel_rfl)).trans (by kernel_rfl); exact OpStep.plain rfl (Step.index_row (e := 3) (z := 1) (i := 4) (t := 48) rfl rfl (by exact lt_ok rfl) (by kernel_rfl) (show Env.ev E (.tmp 47) = _ from g47.trans rfl) q17 rfl rfl (lt_ok rfl) rfl (by first | omega | (simp; omega)) (by simp only [D.at_, D.cell, D.size]; first | omega | (simp; omega)))) ?_
  refine .cons (fun E hA_ => by have g48 : E.get 48 = (.one (.rptr 17 [] 4 0)) := (hA_.get 48 (by kernel_rfl)).trans (by kernel_rfl); have q17 : E.row 17 = some (3, (.ints .i64 (tlL (pieceS 32 s) 5))) := (hA_.row 17 (by kernel_rfl)).trans (by kernel_rfl); exact OpStep.plain rfl (Step.load_row (c := cI ((tlL (pieceS 32 s) 5).getD 4 0)) (t := 49) rfl rfl (by exact lt_ok rfl) (by kernel_rfl) (show Env.ev E (.tmp 48) = _ from g48.trans rfl) q17 rfl)) ?_
  refine .cons (fun E hA_ => by have g37 : E.get 37 = (pI ((tlL (pieceS 32 s) 5).getD 0 0)) := (hA_.get 37 (by kernel_rfl)).trans (by kernel_rfl); have g40 : E.get 40 = (pI ((tlL (pieceS 32 s) 5).getD 1 0)) := (hA_.get 40 (by kernel_rfl)).trans (by kernel_rfl); have g43 : E.get 43 = (pI ((tlL (pieceS 32 s) 5).getD 2 0)) := (hA_.get 43 (by kernel_rfl)).trans (by kernel_rfl); have g46 : E.get 46 = (pI ((tlL (pieceS 32 s) 5).getD 3 0)) := (hA_.get 46 (by kernel_rfl)).trans (by kernel_rfl); have g49 : E.get 49 = (pI ((tlL (pieceS 32 s) 5).getD 4 0)) := (hA_.get 49 (by kernel_rfl)).trans (by kernel_rfl); exact OpStep.plain rfl (Step.build (zs := [.int .i64 0, .int .i64 0, .int .i64 0, .int .i64 0, .int .i64 0]) (places := [(0, 1), (1, 1), (2, 1), (3, 1), (4, 1)]) (pss := [(0, [cI ((tlL (pieceS 32 s) 5).getD 0 0)]), (1, [cI ((tlL (pieceS 32 s) 5).getD 1 0)]), (2, [cI ((tlL (pieceS 32 s) 5).getD 2 0)]), (3, [cI ((tlL (pieceS 32 s) 5).getD 3 0)]), (4, [cI ((tlL (pieceS 32 s) 5).getD 4 0)])]) (ps' := [cI ((tlL (pieceS 32 s) 5).getD 0 0), cI ((tlL (pieceS 32 s) 5).getD 1 0), cI ((tlL (pieceS 32 s) 5).getD 2 0), cI ((tlL (pieceS 32 s) 5).getD 3 0), cI ((tlL (pieceS 32 s) 5).getD 4 0)]) (t := 50) rfl rfl (by exact lt_ok rfl) (by kernel_rfl) (.cons ⟨rfl, (by exact (congrArg PV.flat (show Env.ev E (.tmp 37) = _ from g37.trans rfl)).trans rfl)⟩ (.cons ⟨rfl, (by exact (congrArg PV.flat (show Env.ev E (.tmp 40) = _ from g40.trans rfl)).trans rfl)⟩ (.cons ⟨rfl, (by exact (congrArg PV.flat (show Env.ev E (.tmp 43) = _ from g43.trans rfl)).trans rfl)⟩ (.cons ⟨rfl, (by exact (congrArg PV.flat (show Env.ev E (.tmp 46) = _ from g46.trans rfl)).trans rfl)⟩ (.cons ⟨rfl, (by exact (congrArg PV.flat (show Env.ev E (.tmp 49) = _ from g49.trans rfl)).trans rfl)⟩ .nil))))) rfl rfl rfl)) ?_
  refine .cons (fun E hA_ => by exact OpStep.plain rfl (Step.alloc (cs := [.int .i64 0, .int .i64 0, .int .i64 0, .int .i64 0, .int .i64 0]) (ps := [cI 0, cI 0, cI 0, cI 0, cI 0]) (t := 10) rfl rfl (by exact lt_ok rfl) (by kernel_rfl) rfl rfl (hA_.freshB _ rfl rfl) rfl)) ?_
  refine .cons (fun E hA_ => by have g10 : E.get 10 = (.one (.ptr 10 0)) := (hA_.get 10 (by kernel_rfl)).trans (by kernel_rfl); have g50 : E.get 50 = (.agg [cI ((tlL (pieceS 32 s) 5).getD 0 0), cI ((tlL (pieceS 32 s) 5).getD 1 0), cI ((tlL (pieceS 32 s) 5).getD 2 0), cI ((tlL (pieceS 32 s) 5).getD 3 0), cI ((tlL (pieceS 32 s) 5).getD 4 0)]) := (hA_.get 50 (by kernel_rfl)).trans (by kernel_rfl); have b10 : E.box 10 = some (25, [cI 0, cI 0, cI 0, cI 0, cI 0]) := (hA_.box 10 (by kernel_rfl)).trans (by kernel_rfl); exact OpStep.plain rfl (Step.store_box (n := 5) (p := (.agg [cI ((tlL (pieceS 32 s) 5).getD 0 0), cI ((tlL (pieceS 32 s) 5).getD 1 0), cI ((tlL (pieceS 32 s) 5).getD 2 0), cI ((tlL (pieceS 32 s) 5).getD 3 0), cI ((tlL (pieceS 32 s) 5).getD 4 0)])) (qs := [cI ((tlL (pieceS 32 s) 5).getD 0 0), cI ((tlL (pieceS 32 s) 5).getD 1 0), cI ((tlL (pieceS 32 s) 5).getD 2 0), cI ((tlL (pieceS 32 s) 5).getD 3 0), cI ((tlL (pieceS 32 s) 5).getD 4 0)]) (ps' := [cI ((tlL (pieceS 32 s) 5).getD 0 0), cI ((tlL (pieceS 32 s) 5).getD 1 0), cI ((tlL (pieceS 32 s) 5).getD 2 0), cI ((tlL (pieceS 32 s) 5).getD 3 0), cI ((tlL (pieceS 32 s) 5).getD 4 0)]) rfl rfl (by kernel_rfl) (show Env.ev E (.tmp 10) = _ from g10.trans rfl) b10 (show Env.ev E (.tmp 50) = _ from g50.trans rfl) rfl rfl rfl (le_ok rfl) rfl)) ?_
  exact .nil _ _
 refine TL.wk [(0, (.one (.d (.str s)))), (2, (.one (.ptr 2 0))), (3, (pB false)), (10, (.one (.ptr 10 0)))] [(17, (3, (.ints .i64 (tlL (pieceS 32 s) 5))))] [(2, (25, [cI 0, cI 0, cI 0, cI 0, cI 0])), (10, (25, [cI ((tlL (pieceS 32 s) 5).getD 0 0), cI ((tlL (pieceS 32 s) 5).getD 1 0), cI ((tlL (pieceS 32 s) 5).getD 2 0), cI ((tlL (pieceS 32 s) 5).getD 3 0), cI ((tlL (pieceS 32 s) 5).getD 4 0)]))] ?_
 refine TL.nil ?_
 refine T.seq ?_
 refine T.seq ?_
 refine T.region ?_
 refine TL.c (Step.lba 5 [cI ((tlL (pieceS 32 s) 5).getD 0 0), cI ((tlL (pieceS 32 s) 5).getD 1 0), cI ((tlL (pieceS 32 s) 5).getD 2 0), cI ((tlL (pieceS 32 s) 5).getD 3 0), cI ((tlL (pieceS 32 s) 5).getD 4 0)]) ?_
 refine TL.c (Step.cl (xs := [.tmp 51]) (ps := [(.agg [cI ((tlL (pieceS 32 s) 5).getD 0 0), cI ((tlL (pieceS 32 s) 5).getD 1 0), cI ((tlL (pieceS 32 s) 5).getD 2 0), cI ((tlL (pieceS 32 s) 5).getD 3 0), cI ((tlL (pieceS 32 s) 5).getD 4 0)])]) (g := .func 20) false (.cons (.agg (.cons (.d _) (.cons (.d _) (.cons (.d _) (.cons (.d _) (.cons (.d _) .nil)))))) .nil) (ok_spec_LimitsOk (⟨(tlL (pieceS 32 s) 5).getD 0 0, (tlL (pieceS 32 s) 5).getD 1 0, (tlL (pieceS 32 s) 5).getD 2 0, (tlL (pieceS 32 s) 5).getD 3 0, (tlL (pieceS 32 s) 5).getD 4 0⟩ : SLimits))) ?_
 refine TL.c (Step.not (b := (limOk (⟨(tlL (pieceS 32 s) 5).getD 0 0, (tlL (pieceS 32 s) 5).getD 1 0, (tlL (pieceS 32 s) 5).getD 2 0, (tlL (pieceS 32 s) 5).getD 3 0, (tlL (pieceS 32 s) 5).getD 4 0⟩ : SLimits))) rfl rfl (lt_ok rfl) rfl) ?_
 refine TL.mv (pB (!(limOk (⟨(tlL (pieceS 32 s) 5).getD 0 0, (tlL (pieceS 32 s) 5).getD 1 0, (tlL (pieceS 32 s) 5).getD 2 0, (tlL (pieceS 32 s) 5).getD 3 0, (tlL (pieceS 32 s) 5).getD 4 0⟩ : SLimits)))) ?_
 rcases Bool.eq_false_or_eq_true (!(limOk (⟨(tlL (pieceS 32 s) 5).getD 0 0, (tlL (pieceS 32 s) 5).getD 1 0, (tlL (pieceS 32 s) 5).getD 2 0, (tlL (pieceS 32 s) 5).getD 3 0, (tlL (pieceS 32 s) 5).getD 4 0⟩ : SLimits))) with hb6 | hb6
 ·
  refine TL.known 54 hb6 rfl ?_
  have hb6' := hb6
  replace hb6' : (limOk (⟨(tlL (pieceS 32 s) 5).getD 0 0, (tlL (pieceS 32 s) 5).getD 1 0, (tlL (pieceS 32 s) 5).getD 2 0, (tlL (pieceS 32 s) 5).getD 3 0, (tlL (pieceS 32 s) 5).getD 4 0⟩ : SLimits)) = false := by simpa only [Bool.not_eq_true', Bool.not_eq_false'] using hb6'
  refine TL.gf 54 ?_
  refine TL.gf 54 ?_
  refine TL.gf 54 ?_
  refine TL.gf 54 ?_
  refine TL.pk true (pB true) ?_
  refine TL.nil ?_
  refine T.ct ?_
  refine T.seq ?_
  refine T.region ?_
  refine TL.c (Step.build (zs := [.int .i64 0, .int .i64 0, .int .i64 0, .int .i64 0, .int .i64 0]) (places := [(0, 1), (1, 1), (2, 1), (3, 1), (4, 1)]) (pss := []) (ps' := [cI 0, cI 0, cI 0, cI 0, cI 0]) rfl rfl (lt_ok rfl) (by kernel_rfl) .nil rfl rfl rfl) ?_
  refine TL.c (Step.sb 5 [cI 0, cI 0, cI 0, cI 0, cI 0]) ?_
  refine TL.as (pB false) ?_
  refine TL.nil ?_
  refine T.ret ?_
  refine ⟨[(true, [cI 0, cI 0, cI 0, cI 0, cI 0]), (false, [.d (.bool false)])], (.cons rfl (.cons rfl .nil)), rfl, [], (RetC.r ?_ (RetC.r ?_ (RetC.r ?_ (RetC.r ?_ (RetC.r ?_ (RetC.r ?_ .nil))))))⟩ <;> (first | rfl | (congr 1; first | (rw [tl_no (tl_len (by omega))]; done) | exact (tl_len (by omega)).symm | (rw [tl_no (tl_tx (by assumption))]; done) | exact (tl_tx (by assumption)).symm | (rw [tl_no (tl_lm (by assumption))]; done) | exact (tl_lm (by assumption)).symm | (rw [tl_yes (tl_ok (by omega) (by assumption))]; first | done | rfl) | exact (tl_ok (by omega) (by assumption)).symm))
 refine TL.known 54 hb6 rfl ?_
 have hb6' := hb6
 replace hb6' : (limOk (⟨(tlL (pieceS 32 s) 5).getD 0 0, (tlL (pieceS 32 s) 5).getD 1 0, (tlL (pieceS 32 s) 5).getD 2 0, (tlL (pieceS 32 s) 5).getD 3 0, (tlL (pieceS 32 s) 5).getD 4 0⟩ : SLimits)) = true := by simpa only [Bool.not_eq_true', Bool.not_eq_false'] using hb6'
 refine TL.gy 54 (Step.lba 5 [cI ((tlL (pieceS 32 s) 5).getD 0 0), cI ((tlL (pieceS 32 s) 5).getD 1 0), cI ((tlL (pieceS 32 s) 5).getD 2 0), cI ((tlL (pieceS 32 s) 5).getD 3 0), cI ((tlL (pieceS 32 s) 5).getD 4 0)]) ?_
 refine TL.gy 54 (Step.cl (xs := [.tmp 55]) (ps := [(.agg [cI ((tlL (pieceS 32 s) 5).getD 0 0), cI ((tlL (pieceS 32 s) 5).getD 1 0), cI ((tlL (pieceS 32 s) 5).getD 2 0), cI ((tlL (pieceS 32 s) 5).getD 3 0), cI ((tlL (pieceS 32 s) 5).getD 4 0)])]) (g := .func 7) false (.cons (.agg (.cons (.d _) (.cons (.d _) (.cons (.d _) (.cons (.d _) (.cons (.d _) .nil)))))) .nil) (ok_spec_LimitsText (⟨(tlL (pieceS 32 s) 5).getD 0 0, (tlL (pieceS 32 s) 5).getD 1 0, (tlL (pieceS 32 s) 5).getD 2 0, (tlL (pieceS 32 s) 5).getD 3 0, (tlL (pieceS 32 s) 5).getD 4 0⟩ : SLimits))) ?_
 refine TL.gm 54 (.one (.d (.str s))) ?_
 refine TL.gy 54 (Step.bin rfl rfl (lt_ok rfl) rfl rfl Bin.strne) ?_
 refine TL.pk false (pB (!((limText (⟨(tlL (pieceS 32 s) 5).getD 0 0, (tlL (pieceS 32 s) 5).getD 1 0, (tlL (pieceS 32 s) 5).getD 2 0, (tlL (pieceS 32 s) 5).getD 3 0, (tlL (pieceS 32 s) 5).getD 4 0⟩ : SLimits)).toList == s.toList))) ?_
 refine TL.nil ?_
 refine T.cn rfl (fun h7 => ?_) (fun h7 => ?_)
 ·
  refine T.seq ?_
  refine T.region ?_
  refine TL.c (Step.build (zs := [.int .i64 0, .int .i64 0, .int .i64 0, .int .i64 0, .int .i64 0]) (places := [(0, 1), (1, 1), (2, 1), (3, 1), (4, 1)]) (pss := []) (ps' := [cI 0, cI 0, cI 0, cI 0, cI 0]) rfl rfl (lt_ok rfl) (by kernel_rfl) .nil rfl rfl rfl) ?_
  refine TL.c (Step.sb 5 [cI 0, cI 0, cI 0, cI 0, cI 0]) ?_
  refine TL.as (pB false) ?_
  refine TL.nil ?_
  refine T.ret ?_
  refine ⟨[(true, [cI 0, cI 0, cI 0, cI 0, cI 0]), (false, [.d (.bool false)])], (.cons rfl (.cons rfl .nil)), rfl, [], (RetC.r ?_ (RetC.r ?_ (RetC.r ?_ (RetC.r ?_ (RetC.r ?_ (RetC.r ?_ .nil))))))⟩ <;> (first | rfl | (congr 1; first | (rw [tl_no (tl_len (by omega))]; done) | exact (tl_len (by omega)).symm | (rw [tl_no (tl_tx (by assumption))]; done) | exact (tl_tx (by assumption)).symm | (rw [tl_no (tl_lm (by assumption))]; done) | exact (tl_lm (by assumption)).symm | (rw [tl_yes (tl_ok (by omega) (by assumption))]; first | done | rfl) | exact (tl_ok (by omega) (by assumption)).symm))
 refine T.skip ?_
 refine T.seq ?_
 refine T.region ?_
 refine TL.c (Step.lba 5 [cI ((tlL (pieceS 32 s) 5).getD 0 0), cI ((tlL (pieceS 32 s) 5).getD 1 0), cI ((tlL (pieceS 32 s) 5).getD 2 0), cI ((tlL (pieceS 32 s) 5).getD 3 0), cI ((tlL (pieceS 32 s) 5).getD 4 0)]) ?_
 refine TL.c (Step.sb 5 [cI ((tlL (pieceS 32 s) 5).getD 0 0), cI ((tlL (pieceS 32 s) 5).getD 1 0), cI ((tlL (pieceS 32 s) 5).getD 2 0), cI ((tlL (pieceS 32 s) 5).getD 3 0), cI ((tlL (pieceS 32 s) 5).getD 4 0)]) ?_
 refine TL.as (pB true) ?_
 refine TL.nil ?_
 refine T.ret ?_
 refine ⟨[(true, [cI ((tlL (pieceS 32 s) 5).getD 0 0), cI ((tlL (pieceS 32 s) 5).getD 1 0), cI ((tlL (pieceS 32 s) 5).getD 2 0), cI ((tlL (pieceS 32 s) 5).getD 3 0), cI ((tlL (pieceS 32 s) 5).getD 4 0)]), (false, [.d (.bool true)])], (.cons rfl (.cons rfl .nil)), rfl, [], (RetC.r ?_ (RetC.r ?_ (RetC.r ?_ (RetC.r ?_ (RetC.r ?_ (RetC.r ?_ .nil))))))⟩ <;> (first | rfl | (congr 1; first | (rw [tl_no (tl_len (by omega))]; done) | exact (tl_len (by omega)).symm | (rw [tl_no (tl_tx (by assumption))]; done) | exact (tl_tx (by assumption)).symm | (rw [tl_no (tl_lm (by assumption))]; done) | exact (tl_lm (by assumption)).symm | (rw [tl_yes (tl_ok (by omega) (by assumption))]; first | done | rfl) | exact (tl_ok (by omega) (by assumption)).symm))
theorem ok_impl_within (n : Int) (low : Int) (high : Int) : RO Tryd.prog 32 [.one (.int .i64 n), .one (.int .i64 low), .one (.int .i64 high)] [(false, [.rd (.bool (decide (low ≤ n ∧ n ≤ high)))])] := by
 refine RO.intro Tryd.func32 rfl 15 rfl (le_ok rfl) fun w Z => ?_
 refine T.seq ?_
 refine T.region ?_
 refine TL.as (pB false) ?_
 refine TL.nil ?_
 refine T.seq ?_
 refine T.region ?_
 refine TL.mv (pI low) ?_
 refine TL.mv (pI n) ?_
 refine TL.b _ (Bin.leq (k := .i64) (a := low) (b := n)) ?_
 refine TL.mv (pB (decide (low ≤ n))) ?_
 rcases Bool.eq_false_or_eq_true (decide (low ≤ n)) with hb1 | hb1
 ·
  refine TL.known 10 hb1 rfl ?_
  refine TL.gm 10 (pI n) ?_
  refine TL.gm 10 (pI high) ?_
  refine TL.gy 10 (Step.bin rfl rfl (lt_ok rfl) rfl rfl (Bin.leq (k := .i64) (a := n) (b := high))) ?_
  refine TL.pk true (pB (decide (n ≤ high))) ?_
  refine TL.as (pB (decide (n ≤ high))) ?_
  refine TL.nil ?_
  refine T.ret ?_
  refine ⟨[(false, [.d (.bool (decide (n ≤ high)))])], (.cons rfl .nil), rfl, [], (RetC.r ?_ .nil)⟩ <;> (first | (congr 1; simp_all; done) | (congr 1; simp_all; omega))
 refine TL.known 10 hb1 rfl ?_
 refine TL.gf 10 ?_
 refine TL.gf 10 ?_
 refine TL.gf 10 ?_
 refine TL.pk false (pB false) ?_
 refine TL.as (pB false) ?_
 refine TL.nil ?_
 refine T.ret ?_
 refine ⟨[(false, [.d (.bool false)])], (.cons rfl .nil), rfl, [], (RetC.r ?_ .nil)⟩ <;> (first | (congr 1; simp_all; done) | (congr 1; simp_all; omega))
theorem ok_impl_LimitsOk (l : SLimits) : RO Tryd.prog 22 [.agg l.cells] [(false, [.rd (.bool (limOk l))])] := by
 refine RO.intro Tryd.func22 rfl 26 rfl (le_ok rfl) fun w Z => ?_
 refine T.seq ?_
 refine T.region ?_
 refine TL.c (Step.bx [cI l.f0, cI l.f1, cI l.f2, cI l.f3, cI l.f4]) ?_
 refine TL.as (pB false) ?_
 refine TL.nil ?_
 refine T.seq ?_
 refine T.region ?_
 refine TL.c (Step.fd 0 1 true) ?_
 refine TL.c (Step.lb (.d (.int .i64 l.f0))) ?_
 refine TL.c (Step.cl (xs := [.tmp 4, .const (.int .i64 1), .const (.int .i64 10)]) (ps := [(pI l.f0), (pI 1), (pI 10)]) (g := .func 32) false (.cons (.one (.d _)) (.cons (.one (.d _)) (.cons (.one (.d _)) .nil))) (ok_impl_within l.f0 1 10)) ?_
 refine TL.mv (pB (decide (1 ≤ l.f0 ∧ l.f0 ≤ 10))) ?_
 rcases Bool.eq_false_or_eq_true (decide (1 ≤ l.f0 ∧ l.f0 ≤ 10)) with hb1 | hb1
 ·
  refine TL.known 6 hb1 rfl ?_
  refine TL.gy 6 (Step.fd 1 1 true) ?_
  refine TL.gy 6 (Step.lb (.d (.int .i64 l.f1))) ?_
  refine TL.gy 6 (Step.cl (xs := [.tmp 8, .const (.int .i64 0), .const (.int .i64 40)]) (ps := [(pI l.f1), (pI 0), (pI 40)]) (g := .func 32) false (.cons (.one (.d _)) (.cons (.one (.d _)) (.cons (.one (.d _)) .nil))) (ok_impl_within l.f1 0 40)) ?_
  refine TL.pk true (pB (decide (0 ≤ l.f1 ∧ l.f1 ≤ 40))) ?_
  refine TL.mv (pB (decide (0 ≤ l.f1 ∧ l.f1 ≤ 40))) ?_
  rcases Bool.eq_false_or_eq_true (decide (0 ≤ l.f1 ∧ l.f1 ≤ 40)) with hb2 | hb2
  ·
   refine TL.known 11 hb2 rfl ?_
   refine TL.gy 11 (Step.fd 2 1 true) ?_
   refine TL.gy 11 (Step.lb (.d (.int .i64 l.f2))) ?_
   refine TL.gy 11 (Step.cl (xs := [.tmp 13, .const (.int .i64 0), .const (.int .i64 8)]) (ps := [(pI l.f2), (pI 0), (pI 8)]) (g := .func 32) false (.cons (.one (.d _)) (.cons (.one (.d _)) (.cons (.one (.d _)) .nil))) (ok_impl_within l.f2 0 8)) ?_
   refine TL.pk true (pB (decide (0 ≤ l.f2 ∧ l.f2 ≤ 8))) ?_
   refine TL.mv (pB (decide (0 ≤ l.f2 ∧ l.f2 ≤ 8))) ?_
   rcases Bool.eq_false_or_eq_true (decide (0 ≤ l.f2 ∧ l.f2 ≤ 8)) with hb3 | hb3
   ·
    refine TL.known 16 hb3 rfl ?_
    refine TL.gy 16 (Step.fd 3 1 true) ?_
    refine TL.gy 16 (Step.lb (.d (.int .i64 l.f3))) ?_
    refine TL.gy 16 (Step.cl (xs := [.tmp 18, .const (.int .i64 1), .const (.int .i64 4000)]) (ps := [(pI l.f3), (pI 1), (pI 4000)]) (g := .func 32) false (.cons (.one (.d _)) (.cons (.one (.d _)) (.cons (.one (.d _)) .nil))) (ok_impl_within l.f3 1 4000)) ?_
    refine TL.pk true (pB (decide (1 ≤ l.f3 ∧ l.f3 ≤ 4000))) ?_
    refine TL.mv (pB (decide (1 ≤ l.f3 ∧ l.f3 ≤ 4000))) ?_
    rcases Bool.eq_false_or_eq_true (decide (1 ≤ l.f3 ∧ l.f3 ≤ 4000)) with hb4 | hb4
    ·
     refine TL.known 21 hb4 rfl ?_
     refine TL.gy 21 (Step.fd 4 1 true) ?_
     refine TL.gy 21 (Step.lb (.d (.int .i64 l.f4))) ?_
     refine TL.gy 21 (Step.cl (xs := [.tmp 23, .const (.int .i64 3), .const (.int .i64 5)]) (ps := [(pI l.f4), (pI 3), (pI 5)]) (g := .func 32) false (.cons (.one (.d _)) (.cons (.one (.d _)) (.cons (.one (.d _)) .nil))) (ok_impl_within l.f4 3 5)) ?_
     refine TL.pk true (pB (decide (3 ≤ l.f4 ∧ l.f4 ≤ 5))) ?_
     refine TL.as (pB (decide (3 ≤ l.f4 ∧ l.f4 ≤ 5))) ?_
     refine TL.nil ?_
     refine T.ret ?_
     refine ⟨[(false, [.d (.bool (decide (3 ≤ l.f4 ∧ l.f4 ≤ 5)))])], (.cons rfl .nil), rfl, [], (RetC.r ?_ .nil)⟩ <;> (first | rfl | (congr 1; symm; simp only [limOk, *, Bool.and_true, Bool.true_and, Bool.and_false, Bool.false_and, decide_true, decide_false, and_true, true_and, and_self, and_false, false_and, Bool.and_self, not_true, not_false, Bool.not_true, Bool.not_false, ge_iff_le, gt_iff_lt, if_true, if_false, Bool.false_eq_true, ite_true, ite_false, reduceIte]; done) | (congr 1; symm; simp_all [limOk]; done) | (congr 1; symm; simp_all [limOk]; omega))
    refine TL.known 21 hb4 rfl ?_
    refine TL.gf 21 ?_
    refine TL.gf 21 ?_
    refine TL.gf 21 ?_
    refine TL.pk false (pB false) ?_
    refine TL.as (pB false) ?_
    refine TL.nil ?_
    refine T.ret ?_
    refine ⟨[(false, [.d (.bool false)])], (.cons rfl .nil), rfl, [], (RetC.r ?_ .nil)⟩ <;> (first | rfl | (congr 1; symm; simp only [limOk, *, Bool.and_true, Bool.true_and, Bool.and_false, Bool.false_and, decide_true, decide_false, and_true, true_and, and_self, and_false, false_and, Bool.and_self, not_true, not_false, Bool.not_true, Bool.not_false, ge_iff_le, gt_iff_lt, if_true, if_false, Bool.false_eq_true, ite_true, ite_false, reduceIte]; done) | (congr 1; symm; simp_all [limOk]; done) | (congr 1; symm; simp_all [limOk]; omega))
   refine TL.known 16 hb3 rfl ?_
   refine TL.gf 16 ?_
   refine TL.gf 16 ?_
   refine TL.gf 16 ?_
   refine TL.pk false (pB false) ?_
   refine TL.mv (pB false) ?_
   refine TL.gf 21 ?_
   refine TL.gf 21 ?_
   refine TL.gf 21 ?_
   refine TL.pk false (pB false) ?_
   refine TL.as (pB false) ?_
   refine TL.nil ?_
   refine T.ret ?_
   refine ⟨[(false, [.d (.bool false)])], (.cons rfl .nil), rfl, [], (RetC.r ?_ .nil)⟩ <;> (first | rfl | (congr 1; symm; simp only [limOk, *, Bool.and_true, Bool.true_and, Bool.and_false, Bool.false_and, decide_true, decide_false, and_true, true_and, and_self, and_false, false_and, Bool.and_self, not_true, not_false, Bool.not_true, Bool.not_false, ge_iff_le, gt_iff_lt, if_true, if_false, Bool.false_eq_true, ite_true, ite_false, reduceIte]; done) | (congr 1; symm; simp_all [limOk]; done) | (congr 1; symm; simp_all [limOk]; omega))
  refine TL.known 11 hb2 rfl ?_
  refine TL.gf 11 ?_
  refine TL.gf 11 ?_
  refine TL.gf 11 ?_
  refine TL.pk false (pB false) ?_
  refine TL.mv (pB false) ?_
  refine TL.gf 16 ?_
  refine TL.gf 16 ?_
  refine TL.gf 16 ?_
  refine TL.pk false (pB false) ?_
  refine TL.mv (pB false) ?_
  refine TL.gf 21 ?_
  refine TL.gf 21 ?_
  refine TL.gf 21 ?_
  refine TL.pk false (pB false) ?_
  refine TL.as (pB false) ?_
  refine TL.nil ?_
  refine T.ret ?_
  refine ⟨[(false, [.d (.bool false)])], (.cons rfl .nil), rfl, [], (RetC.r ?_ .nil)⟩ <;> (first | rfl | (congr 1; symm; simp only [limOk, *, Bool.and_true, Bool.true_and, Bool.and_false, Bool.false_and, decide_true, decide_false, and_true, true_and, and_self, and_false, false_and, Bool.and_self, not_true, not_false, Bool.not_true, Bool.not_false, ge_iff_le, gt_iff_lt, if_true, if_false, Bool.false_eq_true, ite_true, ite_false, reduceIte]; done) | (congr 1; symm; simp_all [limOk]; done) | (congr 1; symm; simp_all [limOk]; omega))
 refine TL.known 6 hb1 rfl ?_
 refine TL.gf 6 ?_
 refine TL.gf 6 ?_
 refine TL.gf 6 ?_
 refine TL.pk false (pB false) ?_
 refine TL.mv (pB false) ?_
 refine TL.gf 11 ?_
 refine TL.gf 11 ?_
 refine TL.gf 11 ?_
 refine TL.pk false (pB false) ?_
 refine TL.mv (pB false) ?_
 refine TL.gf 16 ?_
 refine TL.gf 16 ?_
 refine TL.gf 16 ?_
 refine TL.pk false (pB false) ?_
 refine TL.mv (pB false) ?_
 refine TL.gf 21 ?_
 refine TL.gf 21 ?_
 refine TL.gf 21 ?_
 refine TL.pk false (pB false) ?_
 refine TL.as (pB false) ?_
 refine TL.nil ?_
 refine T.ret ?_
 refine ⟨[(false, [.d (.bool false)])], (.cons rfl .nil), rfl, [], (RetC.r ?_ .nil)⟩ <;> (first | rfl | (congr 1; symm; simp only [limOk, *, Bool.and_true, Bool.true_and, Bool.and_false, Bool.false_and, decide_true, decide_false, and_true, true_and, and_self, and_false, false_and, Bool.and_self, not_true, not_false, Bool.not_true, Bool.not_false, ge_iff_le, gt_iff_lt, if_true, if_false, Bool.false_eq_true, ite_true, ite_false, reduceIte]; done) | (congr 1; symm; simp_all [limOk]; done) | (congr 1; symm; simp_all [limOk]; omega))
theorem ok_impl_isNum (n : Int) : RO Tryd.prog 33 [.one (.int .i64 n)] [(false, [.rd (.bool (decide (0 ≤ n ∧ n ≤ 1152921504606846975)))])] := by
 refine RO.intro Tryd.func33 rfl 5 rfl (le_ok rfl) fun w Z => ?_
 refine T.seq ?_
 refine T.region ?_
 refine TL.as (pB false) ?_
 refine TL.nil ?_
 refine T.seq ?_
 refine T.region ?_
 refine TL.mv (pI n) ?_
 refine TL.c (Step.cl (xs := [.tmp 3, .const (.int .i64 0), .const (.int .i64 1152921504606846975)]) (ps := [(pI n), (pI 0), (pI 1152921504606846975)]) (g := .func 32) false (.cons (.one (.d _)) (.cons (.one (.d _)) (.cons (.one (.d _)) .nil))) (ok_impl_within n 0 1152921504606846975)) ?_
 refine TL.as (pB (decide (0 ≤ n ∧ n ≤ 1152921504606846975))) ?_
 refine TL.nil ?_
 refine T.ret ?_
 exact ⟨[(false, [.d (.bool (decide (0 ≤ n ∧ n ≤ 1152921504606846975)))])], (.cons rfl .nil), rfl, [], (RetC.rd' rfl .nil)⟩
theorem ok_impl_NumText (n : Int) (w : World) (hv_ : Vtab_ w) : ROw Tryd.prog 23 [.one (.int .i64 n)] [(false, [.rd (.str (numText n))])] w := by
 refine ROw.intro Tryd.func23 rfl 8 w rfl (le_ok rfl) fun Z => ?_
 have hvs_ := kept_frame hkept_ hv_ Z 8
 refine T.seq ?_
 refine T.region ?_
 refine TL.as (.one (.d (.str ByteArray.empty))) ?_
 refine TL.nil ?_
 refine T.seq ?_
 refine T.seq ?_
 refine T.region ?_
 refine TL.mv (pI n) ?_
 refine TL.c (Step.cl (xs := [.tmp 3]) (ps := [(pI n)]) (g := .func 33) false (.cons (.one (.d _)) .nil) (ok_impl_isNum n)) ?_
 refine TL.c (Step.not (b := (decide (0 ≤ n ∧ n ≤ 1152921504606846975))) rfl rfl (lt_ok rfl) rfl) ?_
 refine TL.nil ?_
 refine T.cni rfl (fun h1 => ?_) (fun h1 => ?_)
 ·
  refine T.seq ?_
  refine T.region ?_
  refine TL.as (.one (.d (.str ByteArray.empty))) ?_
  refine TL.nil ?_
  refine T.ret ?_
  refine ⟨[(false, [.d (.str ByteArray.empty)])], (.cons rfl .nil), rfl, [], (RetC.r ?_ .nil)⟩ <;> (first | rfl | (congr 1; rw [numText_in (by omega), ← hx3, digB_one (m := m) (by omega) (by omega) (48 + m) rfl]; done) | (congr 1; unfold numText; rw [if_neg (by rw [decide_eq_true_eq]; assumption)]; done) | (congr 1; rw [numText_in (by omega), digB_itoa (by omega)]; done))
 refine T.skip ?_
 refine T.seq ?_
 refine T.region ?_
 refine TL.mv (pI n) ?_
 refine TL.c (Step.callW (f := 34) (xs := [.tmp 6]) (ps := [(pI n)]) false (g := .func 34) rfl rfl (lt_ok rfl) rfl (by kernel_rfl) rfl (.cons (.one (.d _)) .nil) (fun w_ hF_ => ok_strconv_Itoa n (by first | assumption | exact ⟨by omega, by omega⟩) w_ (hvs_ w_ hF_)) (.inr rfl) rfl (by simp) rfl) ?_
 refine TL.as (.one (.d (.str (⟨(Lib.itoa n).toArray⟩)))) ?_
 refine TL.nil ?_
 refine T.ret ?_
 refine ⟨[(false, [.d (.str (⟨(Lib.itoa n).toArray⟩))])], (.cons rfl .nil), rfl, [], (RetC.r ?_ .nil)⟩ <;> (first | rfl | (congr 1; rw [numText_in (by omega), ← hx3, digB_one (m := m) (by omega) (by omega) (48 + m) rfl]; done) | (congr 1; unfold numText; rw [if_neg (by rw [decide_eq_true_eq]; assumption)]; done) | (congr 1; rw [numText_in (by omega), digB_itoa (by omega)]; done))
theorem ok_impl_LimitsText (l : SLimits) (w : World) (hv_ : Vtab_ w) : ROw Tryd.prog 9 [.agg l.cells] [(false, [.rd (.str (limText l))])] w := by
 refine ROw.intro Tryd.func9 rfl 32 w rfl (le_ok rfl) fun Z => ?_
 have hvs_ := kept_frame hkept_ hv_ Z 32
 refine T.seq ?_
 refine T.region ?_
 refine TL.c (Step.bx [cI l.f0, cI l.f1, cI l.f2, cI l.f3, cI l.f4]) ?_
 refine TL.as (.one (.d (.str ByteArray.empty))) ?_
 refine TL.nil ?_
 refine T.seq ?_
 refine T.seq ?_
 refine T.region ?_
 refine TL.c (Step.lba 5 [cI l.f0, cI l.f1, cI l.f2, cI l.f3, cI l.f4]) ?_
 refine TL.c (Step.cl (xs := [.tmp 6]) (ps := [(.agg [cI l.f0, cI l.f1, cI l.f2, cI l.f3, cI l.f4])]) (g := .func 22) false (.cons (.agg (.cons (.d _) (.cons (.d _) (.cons (.d _) (.cons (.d _) (.cons (.d _) .nil)))))) .nil) (ok_impl_LimitsOk l)) ?_
 refine TL.c (Step.not (b := (limOk l)) rfl rfl (lt_ok rfl) rfl) ?_
 refine TL.nil ?_
 refine T.cn rfl (fun h1 => ?_) (fun h1 => ?_)
 ·
  refine T.seq ?_
  refine T.region ?_
  refine TL.as (.one (.d (.str ByteArray.empty))) ?_
  refine TL.nil ?_
  refine T.ret ?_
  refine ⟨[(false, [.d (.str ByteArray.empty)])], (.cons rfl .nil), rfl, [], (RetC.r ?_ .nil)⟩ <;> (first | rfl | (congr 1; unfold limText; rw [if_neg (by simp_all)]; done) | (congr 1; unfold limText; rw [if_pos (by assumption), ← hx2, List.drop_of_length_le (by omega)]; rfl))
 refine T.skip ?_
 refine T.seq ?_
 refine T.region ?_
 refine TL.as (.one (.d (.str (⟨#[108, 105, 109, 105, 116, 115]⟩ : ByteArray)))) ?_
 refine TL.nil ?_
 refine T.seq ?_
 refine T.seq ?_
 refine T.region ?_
 refine TL.c (Step.fd 0 1 true) ?_
 refine TL.c (Step.lb (.d (.int .i64 l.f0))) ?_
 refine TL.c (Step.fd 1 1 true) ?_
 refine TL.c (Step.lb (.d (.int .i64 l.f1))) ?_
 refine TL.c (Step.fd 2 1 true) ?_
 refine TL.c (Step.lb (.d (.int .i64 l.f2))) ?_
 refine TL.c (Step.fd 3 1 true) ?_
 refine TL.c (Step.lb (.d (.int .i64 l.f3))) ?_
 refine TL.c (Step.fd 4 1 true) ?_
 refine TL.c (Step.lb (.d (.int .i64 l.f4))) ?_
 refine TL.c (Step.lit (e := 3) (z := 1) (by_ := 8) (xs := [.tmp 10, .tmp 12, .tmp 14, .tmp 16, .tmp 18]) (pss := [[cI l.f0], [cI l.f1], [cI l.f2], [cI l.f3], [cI l.f4]]) (es := [(.int .i64 l.f0), (.int .i64 l.f1), (.int .i64 l.f2), (.int .i64 l.f3), (.int .i64 l.f4)]) (ss := []) (d := (.ints .i64 [l.f0, l.f1, l.f2, l.f3, l.f4])) rfl rfl (lt_ok rfl) (by kernel_rfl) rfl rfl (.cons rfl (.cons rfl (.cons rfl (.cons rfl (.cons rfl .nil))))) (by simp) (le_ok rfl) (le_ok rfl) rfl (.val rfl (.val rfl (.val rfl (.val rfl (.val rfl .nil))))) rfl (by simp) (by simp) rfl trivial rfl rfl) ?_
 refine TL.c (Step.len (e := 3) (z := 1) (d := (.ints .i64 [l.f0, l.f1, l.f2, l.f3, l.f4])) rfl rfl (lt_ok rfl) (by kernel_rfl) rfl rfl) ?_
 refine TL.mv (pI 0) ?_
 refine TL.nil ?_
 refine T.block ?_
 refine T.loop (ι := Nat × ByteArray) (fun xx_ => { tm := [(2, (.one (.d (.str ByteArray.empty)))), (19, (.one (.row 19 []))), (20, (pI ([l.f0, l.f1, l.f2, l.f3, l.f4].length : Int))), (21, (pI ((xx_.1) : Int))), (3, (.one (.d (.str (xx_.2)))))], rows := [(19, (3, (.ints .i64 [l.f0, l.f1, l.f2, l.f3, l.f4])))], boxes := [(1, (25, [cI l.f0, cI l.f1, cI l.f2, cI l.f3, cI l.f4]))] }) (fun xx_ => (xx_.1) ≤ 5 ∧ addNums (xx_.2) ([l.f0, l.f1, l.f2, l.f3, l.f4].drop (xx_.1)) = addNums limTxt0 [l.f0, l.f1, l.f2, l.f3, l.f4] ∧ (xx_.2).size ≤ 6 + 21 * (xx_.1)) (fun xx_ => 5 - (xx_.1)) (0, limTxt0) ?_ ?_ ?_
 · refine Env.le_mk ⟨rfl, rfl, rfl, ?_, ?_, trivial⟩ ⟨rfl, trivial⟩ ⟨rfl, trivial⟩ <;> (first | rfl | (simp; done) | (congr 3; omega))
 · (dsimp only; exact ⟨by omega, rfl, by decide⟩)
 intro xx_ hx
 obtain ⟨i, s⟩ := xx_
 try dsimp only at hx ⊢
 obtain ⟨hx1, hx2, hx3⟩ := hx
 have lc_ : [l.f0, l.f1, l.f2, l.f3, l.f4].length = 5 := rfl
 have nt_ := numText_size ([l.f0, l.f1, l.f2, l.f3, l.f4].getD i 0)
 have sp_ : (⟨#[32]⟩ : ByteArray).size = 1 := rfl
 refine T.seq ?_
 refine T.region ?_
 refine TL.b _ (Bin.lss (k := .i64) (a := (i : Int)) (b := ([l.f0, l.f1, l.f2, l.f3, l.f4].length : Int))) ?_
 refine TL.nil ?_
 refine T.seq ?_
 refine T.ci rfl (fun h2 => ?_) (fun h2 => ?_)
 ·
  refine T.skip ?_
  refine T.seq ?_
  refine T.block ?_
  refine T.seq ?_
  refine T.region ?_
  refine TL.c (Step.index_row (e := 3) (z := 1) (i := (i : Int)) rfl rfl (lt_ok rfl) (by kernel_rfl) rfl rfl rfl rfl (lt_ok rfl) rfl (by first | omega | (rw [ByteArray.size_append]; omega)) (by simp only [D.at_, D.cell, D.size]; first | omega | (rw [ByteArray.size_append]; omega))) ?_
  refine TL.c (Step.load_row (c := cI ([l.f0, l.f1, l.f2, l.f3, l.f4].getD i 0)) rfl rfl (lt_ok rfl) (by kernel_rfl) rfl rfl rfl) ?_
  refine TL.as (pI ([l.f0, l.f1, l.f2, l.f3, l.f4].getD i 0)) ?_
  refine TL.nil ?_
  refine T.region ?_
  refine TL.mv (.one (.d (.str s))) ?_
  refine TL.mv (pI ([l.f0, l.f1, l.f2, l.f3, l.f4].getD i 0)) ?_
  refine TL.c (Step.callW (f := 23) (xs := [.tmp 26]) (ps := [(pI ([l.f0, l.f1, l.f2, l.f3, l.f4].getD i 0))]) false (g := .func 23) rfl rfl (lt_ok rfl) rfl (by kernel_rfl) rfl (.cons (.one (.d _)) .nil) (fun w_ hF_ => ok_impl_NumText ([l.f0, l.f1, l.f2, l.f3, l.f4].getD i 0) w_ (hvs_ w_ hF_)) (.inr rfl) rfl (by simp) rfl) ?_
  refine TL.c (Step.bin rfl rfl (lt_ok rfl) rfl rfl (Bin.stradd (by first | omega | (rw [ByteArray.size_append]; omega)))) ?_
  refine TL.c (Step.bin rfl rfl (lt_ok rfl) rfl rfl (Bin.stradd (by first | omega | (rw [ByteArray.size_append]; omega)))) ?_
  refine TL.as (.one (.d (.str (s ++ ((⟨#[32]⟩ : ByteArray) ++ (numText ([l.f0, l.f1, l.f2, l.f3, l.f4].getD i 0))))))) ?_
  refine TL.nil ?_
  refine T.region ?_
  refine TL.c (Step.bin (r := .int .i64 ((i : Int) + 1)) rfl rfl (lt_ok rfl) rfl rfl (Bin.add (a := (i : Int)) (b := 1) (by first | exact wrap_ok (by first | omega | (rw [ByteArray.size_append]; omega)) (by first | omega | (rw [ByteArray.size_append]; omega)) | rfl))) ?_
  refine TL.mv (pI ((i : Int) + 1)) ?_
  refine TL.nil ?_
  refine ⟨(i + 1, s ++ ((⟨#[32]⟩ : ByteArray) ++ (numText ([l.f0, l.f1, l.f2, l.f3, l.f4].getD i 0)))), by (dsimp only; refine ⟨by omega, by first | (rw [← hx2, addNums_drop s _ i (by omega), ByteArray.append_assoc]; done) | (rw [← hx2, addNums_drop s _ i (by omega)]; done), ?_⟩; simp only [ByteArray.size_append]; omega), by (dsimp only; omega), Env.le_mk ⟨rfl, rfl, rfl, ?_, ?_, trivial⟩ ⟨rfl, trivial⟩ ⟨rfl, trivial⟩⟩ <;> (first | rfl | (simp; done) | (congr 3; omega))
 refine T.exit ?_
 refine T.seq ?_
 refine T.region ?_
 refine TL.mv (.one (.d (.str s))) ?_
 refine TL.as (.one (.d (.str s))) ?_
 refine TL.nil ?_
 refine T.ret ?_
 refine ⟨[(false, [.d (.str s)])], (.cons rfl .nil), rfl, [], (RetC.r ?_ .nil)⟩ <;> (first | rfl | (congr 1; unfold limText; rw [if_neg (by simp_all)]; done) | (congr 1; unfold limText; rw [if_pos (by assumption), ← hx2, List.drop_of_length_le (by omega)]; rfl))
theorem ok_impl_Cut (s : ByteArray) (h0_ : s.size ≤ 1048576) (w : World) (hv_ : Vtab_ w) : ROw Tryd.prog 11 [.one (.str s)] [(false, [.own 9 (.sl 1 ((pieceS 32 s).map SStr.cells))])] w := by
 refine ROw.intro Tryd.func11 rfl 5 w rfl (le_ok rfl) fun Z => ?_
 have hvs_ := kept_frame hkept_ hv_ Z 5
 refine T.seq ?_
 refine T.region ?_
 refine TL.as (.one (.nil)) ?_
 refine TL.nil ?_
 refine T.seq ?_
 refine T.region ?_
 refine TL.mv (.one (.d (.str s))) ?_
 have nn1 := pieceS_len (sepC (⟨#[32]⟩ : ByteArray)) s
 have nn2_p := pieceS_pos (sepC (⟨#[32]⟩ : ByteArray)) s
 refine TL.c (Step.callW (f := 25) (xs := [.tmp 3, .const (.string (⟨#[32]⟩ : ByteArray))]) (ps := [(.one (.d (.str s))), (.one (.d (.str (⟨#[32]⟩ : ByteArray))))]) false (g := .func 25) rfl rfl (lt_ok rfl) rfl (by kernel_rfl) rfl (.cons (.one (.d _)) (.cons (.one (.d _)) .nil)) (fun w_ hF_ => ok_strings_Split s (⟨#[32]⟩ : ByteArray) (by first | assumption | omega) (by rfl) w_ (hvs_ w_ hF_)) (.inr rfl) rfl (by simp) rfl) ?_
 refine TL.as (.one (.row 1004 [])) ?_
 refine TL.nil ?_
 refine T.ret ?_
 refine ⟨[(false, [.row 1004 []])], (.cons rfl .nil), rfl, [1004], (RetC.o ?_ .nil)⟩ <;> (rfl)
def ex_laysC172_ren : Go.Shelf.Ren := ⟨fun | 172 => 36 | 244 => 41 | 245 => 42 | 247 => 48 | 279 => 49 | 280 => 50 | 281 => 51 | 282 => 52 | 287 => 62 | 316 => 63 | 171 => 34 | 205 => 64 | 321 => 72 | 322 => 73 | 243 => 37 | 246 => 43 | 283 => 53 | 284 => 54 | 285 => 55 | 286 => 56 | 129 => 66 | 317 => 65 | 318 => 67 | 319 => 68 | 320 => 69 | 337 => 74 | 338 => 75 | n => n, fun | 9 => 9 | 3 => 3 | 75 => 49 | 76 => 50 | 4 => 4 | 5 => 5 | 167 => 60 | 37 => 46 | 0 => 0 | 85 => 61 | 2 => 2 | 168 => 63 | 53 => 67 | 175 => 74 | 46 => 73 | 210 => 78 | 127 => 92 | 145 => 95 | 143 => 93 | 21 => 21 | 171 => 66 | 173 => 70 | 212 => 81 | 51 => 82 | 20 => 20 | 213 => 83 | 232 => 97 | 233 => 98 | 80 => 99 | n => n, fun | 15 => 1 | 16 => 2 | 17 => 3 | 18 => 6 | 19 => 7 | n => n⟩
theorem ex_laysC172 : Go.Proofs.LaysC.n172 Tryd.prog ex_laysC172_ren := {
  mixed := by kernel_rfl
  f129 := Tryd.func66.trans (congrArg some (by kernel_rfl))
  f171 := Tryd.func34.trans (congrArg some (by kernel_rfl))
  f172 := Tryd.func36.trans (congrArg some (by kernel_rfl))
  f205 := Tryd.func64.trans (congrArg some (by kernel_rfl))
  f243 := Tryd.func37.trans (congrArg some (by kernel_rfl))
  f244 := Tryd.func41.trans (congrArg some (by kernel_rfl))
  f245 := Tryd.func42.trans (congrArg some (by kernel_rfl))
  f246 := Tryd.func43.trans (congrArg some (by kernel_rfl))
  f247 := Tryd.func48.trans (congrArg some (by kernel_rfl))
  f279 := Tryd.func49.trans (congrArg some (by kernel_rfl))
  f280 := Tryd.func50.trans (congrArg some (by kernel_rfl))
  f281 := Tryd.func51.trans (congrArg some (by kernel_rfl))
  f282 := Tryd.func52.trans (congrArg some (by kernel_rfl))
  f283 := Tryd.func53.trans (congrArg some (by kernel_rfl))
  f284 := Tryd.func54.trans (congrArg some (by kernel_rfl))
  f285 := Tryd.func55.trans (congrArg some (by kernel_rfl))
  f286 := Tryd.func56.trans (congrArg some (by kernel_rfl))
  f287 := Tryd.func62.trans (congrArg some (by kernel_rfl))
  f316 := Tryd.func63.trans (congrArg some (by kernel_rfl))
  f317 := Tryd.func65.trans (congrArg some (by kernel_rfl))
  f318 := Tryd.func67.trans (congrArg some (by kernel_rfl))
  f319 := Tryd.func68.trans (congrArg some (by kernel_rfl))
  f320 := Tryd.func69.trans (congrArg some (by kernel_rfl))
  f321 := Tryd.func72.trans (congrArg some (by kernel_rfl))
  f322 := Tryd.func73.trans (congrArg some (by kernel_rfl))
  f337 := Tryd.func74.trans (congrArg some (by kernel_rfl))
  f338 := Tryd.func75.trans (congrArg some (by kernel_rfl))
  t0 := Tryd.underlying0
  a0 := Tryd.isAgg0
  z0 := Tryd.sizeOf0
  v0 := Tryd.zeroValue0
  t2 := Tryd.underlying2
  a2 := Tryd.isAgg2
  z2 := Tryd.sizeOf2
  v2 := Tryd.zeroValue2
  t3 := Tryd.underlying3
  a3 := Tryd.isAgg3
  z3 := Tryd.sizeOf3
  v3 := Tryd.zeroValue3
  t4 := Tryd.underlying4
  a4 := Tryd.isAgg4
  z4 := Tryd.sizeOf4
  v4 := Tryd.zeroValue4
  t5 := Tryd.underlying5
  a5 := Tryd.isAgg5
  z5 := Tryd.sizeOf5
  v5 := Tryd.zeroValue5
  t9 := Tryd.underlying9
  a9 := Tryd.isAgg9
  z9 := Tryd.sizeOf9
  v9 := Tryd.zeroValue9
  t20 := Tryd.underlying20
  a20 := Tryd.isAgg20
  z20 := Tryd.sizeOf20
  v20 := Tryd.zeroValue20
  t21 := Tryd.underlying21
  a21 := Tryd.isAgg21
  z21 := Tryd.sizeOf21
  v21 := Tryd.zeroValue21
  t37 := Tryd.underlying46
  a37 := Tryd.isAgg46
  z37 := Tryd.sizeOf46
  v37 := Tryd.zeroValue46
  t46 := Tryd.underlying73
  a46 := Tryd.isAgg73
  z46 := Tryd.sizeOf73
  v46 := Tryd.zeroValue73
  t51 := Tryd.underlying82
  a51 := Tryd.isAgg82
  z51 := Tryd.sizeOf82
  v51 := Tryd.zeroValue82
  t53 := Tryd.underlying67
  a53 := Tryd.isAgg67
  z53 := Tryd.sizeOf67
  v53 := Tryd.zeroValue67
  t75 := Tryd.underlying49
  a75 := Tryd.isAgg49
  z75 := Tryd.sizeOf49
  v75 := Tryd.zeroValue49
  t76 := Tryd.underlying50
  a76 := Tryd.isAgg50
  z76 := Tryd.sizeOf50
  v76 := Tryd.zeroValue50
  t85 := Tryd.underlying61
  a85 := Tryd.isAgg61
  z85 := Tryd.sizeOf61
  v85 := Tryd.zeroValue61
  t127 := Tryd.underlying92
  a127 := Tryd.isAgg92
  z127 := Tryd.sizeOf92
  v127 := Tryd.zeroValue92
  t143 := Tryd.underlying93
  a143 := Tryd.isAgg93
  z143 := Tryd.sizeOf93
  v143 := Tryd.zeroValue93
  t145 := Tryd.underlying95
  a145 := Tryd.isAgg95
  z145 := Tryd.sizeOf95
  v145 := Tryd.zeroValue95
  t167 := Tryd.underlying60
  a167 := Tryd.isAgg60
  z167 := Tryd.sizeOf60
  v167 := Tryd.zeroValue60
  t168 := Tryd.underlying63
  a168 := Tryd.isAgg63
  z168 := Tryd.sizeOf63
  v168 := Tryd.zeroValue63
  t171 := Tryd.underlying66
  a171 := Tryd.isAgg66
  z171 := Tryd.sizeOf66
  v171 := Tryd.zeroValue66
  t173 := Tryd.underlying70
  a173 := Tryd.isAgg70
  z173 := Tryd.sizeOf70
  v173 := Tryd.zeroValue70
  t175 := Tryd.underlying74
  a175 := Tryd.isAgg74
  z175 := Tryd.sizeOf74
  v175 := Tryd.zeroValue74
  t210 := Tryd.underlying78
  a210 := Tryd.isAgg78
  z210 := Tryd.sizeOf78
  v210 := Tryd.zeroValue78
  t212 := Tryd.underlying81
  a212 := Tryd.isAgg81
  z212 := Tryd.sizeOf81
  v212 := Tryd.zeroValue81
  t213 := Tryd.underlying83
  a213 := Tryd.isAgg83
  z213 := Tryd.sizeOf83
  t232 := Tryd.underlying97
  a232 := Tryd.isAgg97
  z232 := Tryd.sizeOf97
  v232 := Tryd.zeroValue97
  t233 := Tryd.underlying98
  a233 := Tryd.isAgg98
  z233 := Tryd.sizeOf98
  v233 := Tryd.zeroValue98
  g15 := by kernel_rfl
  g16 := by kernel_rfl
  g17 := by kernel_rfl
  g18 := by kernel_rfl
  g19 := by kernel_rfl
  t80 := Tryd.underlying99
  a80 := Tryd.isAgg99
  z80 := Tryd.sizeOf99
  v80 := Tryd.zeroValue99
  i0 := by kernel_rfl
  i2 := by kernel_rfl
  i3 := by kernel_rfl
  i4 := by kernel_rfl
  i5 := by kernel_rfl
  i9 := by kernel_rfl
  i20 := by kernel_rfl
  i21 := by kernel_rfl
  i37 := by kernel_rfl
  i46 := by kernel_rfl
  i51 := by kernel_rfl
  i53 := by kernel_rfl
  i75 := by kernel_rfl
  i76 := by kernel_rfl
  i80 := by kernel_rfl
  i85 := by kernel_rfl
  i127 := by kernel_rfl
  i143 := by kernel_rfl
  i145 := by kernel_rfl
  i167 := by kernel_rfl
  i168 := by kernel_rfl
  i171 := by kernel_rfl
  i173 := by kernel_rfl
  i175 := by kernel_rfl
  i210 := by kernel_rfl
  i212 := by kernel_rfl
  i232 := by kernel_rfl
  i233 := by kernel_rfl
  m15 := by kernel_rfl
  m16 := by kernel_rfl
  m17 := by kernel_rfl
  m18 := by kernel_rfl
  m19 := by kernel_rfl
  c0 := by kernel_rfl
  c2 := by kernel_rfl
  c3 := by kernel_rfl
  c4 := by kernel_rfl
  c5 := by kernel_rfl
  c9 := by kernel_rfl
  c20 := by kernel_rfl
  c21 := by kernel_rfl
  c37 := by kernel_rfl
  c46 := by kernel_rfl
  c51 := by kernel_rfl
  c53 := by kernel_rfl
  c75 := by kernel_rfl
  c76 := by kernel_rfl
  c80 := by kernel_rfl
  c85 := by kernel_rfl
  c127 := by kernel_rfl
  c143 := by kernel_rfl
  c145 := by kernel_rfl
  c167 := by kernel_rfl
  c168 := by kernel_rfl
  c171 := by kernel_rfl
  c173 := by kernel_rfl
  c175 := by kernel_rfl
  c210 := by kernel_rfl
  c212 := by kernel_rfl
  c213 := by kernel_rfl
  c232 := by kernel_rfl
  c233 := by kernel_rfl }
open Go.RowKit in
theorem ex_strconv_Atoi_ok (s : ByteArray) (hmax : s.size ≤ 9223372036854775806) (v : Int) (h : Lib.atoiAll s.data.toList = .ok v) (w : World) :
    Calls Tryd.prog 36 #[.string s] w fun e w' => e = .returned (.tuple #[.int .i64 v, .nilIface]) ∧ (w' = w ∨ ∃ t, w' = Lib.bytesWorld w 5 t) := Any.strconv_Atoi_ok ex_laysC172 s hmax v h w
def noNum : Lib.NumEnd Int → Bool
  | .ok _ => false
  | .range => false
  | _ => true
open Go.RowKit in
theorem ex_strconv_Atoi_syntax_var (s : ByteArray) (hlim : s.size ≤ 281474976710656) (h : noNum (Lib.atoiAll s.data.toList) = true) (tp : TypeId) (p : Value) (w : World) (hvar : w.var? Tryd.prog "strconv.ErrSyntax" = some #[.iface tp p]) :
    Calls Tryd.prog 36 #[.string s] w fun e w' => ∃ N, e = .returned (.tuple #[.int .i64 0, .iface 63 (.pointer (some ⟨N, 0, none⟩))]) ∧ w.heap.size ≤ N ∧ w'.heap[N]? = some (.cells #[.string ⟨#[65, 116, 111, 105]⟩, .string s, .iface tp p] 78 (0, 0)) ∧ Below w.heap.size w w' := Any.strconv_Atoi_syntax_var ex_laysC172 s hlim (by revert h; cases Lib.atoiAll s.data.toList <;> simp [noNum]) tp p w hvar
open Go.RowKit in
theorem ex_strconv_Atoi_range_var (s : ByteArray) (hlim : s.size ≤ 281474976710656) (h : Lib.atoiAll s.data.toList = .range) (tp : TypeId) (p : Value) (w : World) (hvar : w.var? Tryd.prog "strconv.ErrRange" = some #[.iface tp p]) :
    Calls Tryd.prog 36 #[.string s] w fun e w' => ∃ N, e = .returned (.tuple #[.int .i64 (Lib.atoiSat s.data.toList), .iface 63 (.pointer (some ⟨N, 0, none⟩))]) ∧ w.heap.size ≤ N ∧ w'.heap[N]? = some (.cells #[.string ⟨#[65, 116, 111, 105]⟩, .string s, .iface tp p] 78 (0, 0)) ∧ Below w.heap.size w w' := Any.strconv_Atoi_range_var ex_laysC172 s hlim h tp p w hvar
theorem call_one {w w' : World} {Z : Nat → Prop} {d : D} {v : Value} {e : Ending} (hd : d.val = some v) (h : Returns w Z [(false, [.rd d])] e w') : e = .returned v ∧ Below w.heap.size w w' := by
  obtain ⟨h1, vs, bcs, O, rfl, _, h4, h5, h6⟩ := h
  match bcs, h5, h4, h6 with
  | [(false, [u])], _, h4, h6 =>
    cases h4 with
    | cons hp hr =>
      cases hr
      simp only [Packs] at hp
      simp only [Bool.false_eq_true, if_false, List.cons.injEq, and_true] at hp
      subst hp
      obtain ⟨h7, _⟩ := h6
      exact ⟨by rw [rd_val h7 hd]; rfl, h1⟩
  | [(false, [])], h5, _, _ => simp [shape] at h5
  | [(false, _ :: _ :: _)], h5, _, _ => simp [shape] at h5
  | [(true, _)], h5, _, _ => simp [shape] at h5
  | [], h5, _, _ => simp [shape] at h5
  | _ :: _ :: _, h5, _, _ => simp [shape] at h5
theorem isNum_calls (v : Int) (w : World) : Calls Tryd.prog 33 #[.int .i64 v] w fun e w' => e = .returned (.bool (decide (0 ≤ v ∧ v ≤ 1152921504606846975))) ∧ Below w.heap.size w w' :=
  (ok_impl_isNum v w (fun _ => False) [.int .i64 v] (fun _ h => h.elim) (.cons (show Rd w _ [.int .i64 v] [.int .i64 v] from .val rfl .nil) .nil)).mono fun _ _ h => call_one rfl h
theorem numText_calls (v : Int) (w : World) (hv : Vtab_ w) : Calls Tryd.prog 23 #[.int .i64 v] w fun e w' => e = .returned (.string (numText v)) ∧ Below w.heap.size w w' :=
  (ok_impl_NumText v w hv (fun _ => False) [.int .i64 v] (fun _ h => h.elim) (.cons (show Rd w _ [.int .i64 v] [.int .i64 v] from .val rfl .nil) .nil)).mono fun _ _ h => call_one rfl h
theorem vt_below {w w' : World} (h : Vtab_ w) (hb : Below w.heap.size w w') : Vtab_ w' := hkept_ w w' h fun k hk => hb.block k hk
theorem textNum_far (s : ByteArray) (h0_ : s.size ≤ 1048576) (w : World) (hv_ : Vtab_ w) (v : Int) (h : Lib.atoiAll s.data.toList = .ok v) (hn : ¬(0 ≤ v ∧ v ≤ 1152921504606846975)) : Calls Tryd.prog 28 #[.string s] w fun e w' => e = .returned (.tuple #[.int .i64 0, .bool false]) ∧ Below w.heap.size w w' := by
  go_enter Tryd.func28, Tryd.ntmps28
  go_wp2_with (go_at_call 36; refine (ex_strconv_Atoi_ok s (by omega) v h _).mono ?_)
  rintro e w1 ⟨rfl, hw⟩
  have hb1 : Below w.heap.size w w1 := by
    rcases hw with rfl | ⟨t, rfl⟩
    · exact Below.refl _ _
    · exact Lib.bytesWorld_below _ _ _
  go_wp2_with (go_at_call 33; refine (isNum_calls v _).mono ?_)
  rintro e w2 ⟨rfl, hb2⟩
  have hb12 := hb1.trans (hb2.mono hb1.size)
  rw [decide_eq_false hn]
  go_wp2
  go_ret2
  exact ⟨rfl, hb12⟩
theorem textNum_same (s : ByteArray) (h0_ : s.size ≤ 1048576) (w : World) (hv_ : Vtab_ w) (v : Int) (h : Lib.atoiAll s.data.toList = .ok v) (hn : 0 ≤ v ∧ v ≤ 1152921504606846975) (hs : numText v = s) : Calls Tryd.prog 28 #[.string s] w fun e w' => e = .returned (.tuple #[.int .i64 v, .bool true]) ∧ Below w.heap.size w w' := by
  go_enter Tryd.func28, Tryd.ntmps28
  go_wp2_with (go_at_call 36; refine (ex_strconv_Atoi_ok s (by omega) v h _).mono ?_)
  rintro e w1 ⟨rfl, hw⟩
  have hb1 : Below w.heap.size w w1 := by
    rcases hw with rfl | ⟨t, rfl⟩
    · exact Below.refl _ _
    · exact Lib.bytesWorld_below _ _ _
  go_wp2_with (go_at_call 33; refine (isNum_calls v _).mono ?_)
  rintro e w2 ⟨rfl, hb2⟩
  have hb12 := hb1.trans (hb2.mono hb1.size)
  rw [decide_eq_true hn]
  go_wp2_with (go_at_call 23; refine (numText_calls v _ (vt_below hv_ hb12)).mono ?_)
  rintro e w3 ⟨rfl, hb3⟩
  have hb13 := hb12.trans (hb3.mono hb12.size)
  rw [hs]
  go_wp2
  go_ret2
  exact ⟨rfl, hb13⟩
theorem textNum_other (s : ByteArray) (h0_ : s.size ≤ 1048576) (w : World) (hv_ : Vtab_ w) (v : Int) (h : Lib.atoiAll s.data.toList = .ok v) (hn : 0 ≤ v ∧ v ≤ 1152921504606846975) (hs : ¬numText v = s) : Calls Tryd.prog 28 #[.string s] w fun e w' => e = .returned (.tuple #[.int .i64 0, .bool false]) ∧ Below w.heap.size w w' := by
  go_enter Tryd.func28, Tryd.ntmps28
  go_wp2_with (go_at_call 36; refine (ex_strconv_Atoi_ok s (by omega) v h _).mono ?_)
  rintro e w1 ⟨rfl, hw⟩
  have hb1 : Below w.heap.size w w1 := by
    rcases hw with rfl | ⟨t, rfl⟩
    · exact Below.refl _ _
    · exact Lib.bytesWorld_below _ _ _
  go_wp2_with (go_at_call 33; refine (isNum_calls v _).mono ?_)
  rintro e w2 ⟨rfl, hb2⟩
  have hb12 := hb1.trans (hb2.mono hb1.size)
  rw [decide_eq_true hn]
  go_wp2_with (go_at_call 23; refine (numText_calls v _ (vt_below hv_ hb12)).mono ?_)
  rintro e w3 ⟨rfl, hb3⟩
  have hb13 := hb12.trans (hb3.mono hb12.size)
  have hq : ((numText v).toList == s.toList) = false := by
    rw [beq_eq_false_iff_ne]
    intro e
    rw [ByteArray.toList_eq, ByteArray.toList_eq] at e
    exact hs (ByteArray.ext (Array.toList_inj.1 e))
  go_wp2
  go_ret2
  exact ⟨rfl, hb13⟩
theorem textNum_syntax (s : ByteArray) (h0_ : s.size ≤ 1048576) (w : World) (hv_ : Vtab_ w) (h : noNum (Lib.atoiAll s.data.toList) = true) (tp : TypeId) (p : Value) (hs : w.var? Tryd.prog "strconv.ErrSyntax" = some #[.iface tp p]) : Calls Tryd.prog 28 #[.string s] w fun e w' => e = .returned (.tuple #[.int .i64 0, .bool false]) ∧ Below w.heap.size w w' := by
  go_enter Tryd.func28, Tryd.ntmps28
  go_wp2_with (go_at_call 36; refine (ex_strconv_Atoi_syntax_var s (by omega) h tp p _ ?_).mono ?_)
  · exact hs
  rintro e w1 ⟨N, rfl, -, -, hb1⟩
  go_wp2
  go_ret2
  exact ⟨rfl, hb1⟩
theorem textNum_range (s : ByteArray) (h0_ : s.size ≤ 1048576) (w : World) (hv_ : Vtab_ w) (h : Lib.atoiAll s.data.toList = .range) (tp : TypeId) (p : Value) (hs : w.var? Tryd.prog "strconv.ErrRange" = some #[.iface tp p]) : Calls Tryd.prog 28 #[.string s] w fun e w' => e = .returned (.tuple #[.int .i64 0, .bool false]) ∧ Below w.heap.size w w' := by
  go_enter Tryd.func28, Tryd.ntmps28
  go_wp2_with (go_at_call 36; refine (ex_strconv_Atoi_range_var s (by omega) h tp p _ ?_).mono ?_)
  · exact hs
  rintro e w1 ⟨N, rfl, -, -, hb1⟩
  go_wp2
  go_ret2
  exact ⟨rfl, hb1⟩
theorem textNum_calls (s : ByteArray) (h0_ : s.size ≤ 1048576) (w : World) (hv_ : Vtab_ w) (hs_ : ∃ tp p, w.var? Tryd.prog "strconv.ErrSyntax" = some #[.iface tp p]) (hr_ : ∃ tp p, w.var? Tryd.prog "strconv.ErrRange" = some #[.iface tp p]) : Calls Tryd.prog 28 #[.string s] w fun e w' => e = .returned (.tuple #[.int .i64 (textNum s), .bool (textOk s)]) ∧ Below w.heap.size w w' := by
  cases h : Lib.atoiAll s.data.toList with
  | ok v =>
    by_cases hn : 0 ≤ v ∧ v ≤ 1152921504606846975
    · by_cases hs : numText v = s
      · have ht := text_yes (s := s) (textVal_of hn.1 hn.2 (by rw [← numText_in hn]; exact hs))
        rw [ht.1, ht.2]
        exact textNum_same s h0_ w hv_ v h hn hs
      · have ht := text_no (s := s) (by unfold textVal; rw [h]; exact if_neg fun x => hs (by rw [numText_in hn]; exact x.2.2))
        rw [ht.1, ht.2]
        exact textNum_other s h0_ w hv_ v h hn hs
    · have ht := text_no (s := s) (by unfold textVal; rw [h]; exact if_neg fun x => hn ⟨x.1, x.2.1⟩)
      rw [ht.1, ht.2]
      exact textNum_far s h0_ w hv_ v h hn
  | range =>
    obtain ⟨tp, p, hs⟩ := hr_
    have hn := text_no (s := s) (by unfold textVal; rw [h])
    rw [hn.1, hn.2]
    exact textNum_range s h0_ w hv_ h tp p hs
  | _ =>
    obtain ⟨tp, p, hs⟩ := hs_
    have hn := text_no (s := s) (by unfold textVal; rw [h])
    rw [hn.1, hn.2]
    exact textNum_syntax s h0_ w hv_ (by rw [h]; rfl) tp p hs
theorem ok_impl_TextNum (s : ByteArray) (h0_ : s.size ≤ 1048576) (w : World) (hv_ : Vtab_ w) : ROw Tryd.prog 28 [.one (.str s)] [(false, [.rd (.int .i64 (textNum s))]), (false, [.rd (.bool (textOk s))])] w := by
  intro Z vals hz ha
  have hstr : ∀ v (s : ByteArray), AOk' w Z v (.one (.str s)) → v = .string s := fun v s hv => by
    cases hv with
    | val h1 h2 => injection h1 with h1; exact h1.symm
    | sl h1 _ _ _ _ _ _ _ => cases h1
  obtain ⟨v1, rfl, hv1⟩ : ∃ v1, vals = [v1] ∧ AOk' w Z v1 (.one (.str s)) := by
    cases ha with
    | cons h1 h2 => cases h2; exact ⟨_, rfl, h1⟩
  have e1 := hstr _ _ hv1
  subst e1
  refine (textNum_calls s h0_ w hv_ hv_.2.2.1 hv_.2.2.2).mono fun e w' hr => ?_
  obtain ⟨he, hb⟩ := hr
  subst he
  exact ⟨hb, [.int .i64 (textNum s), .bool (textOk s)], [(false, [.int .i64 (textNum s)]), (false, [.bool (textOk s)])], fun _ => .none, rfl, fun _ h => (h rfl).elim, .cons rfl (.cons rfl .nil), rfl, Rd.val rfl .nil, Rd.val rfl .nil, trivial⟩
theorem ok_impl_TextLimits (s : ByteArray) (h0_ : s.size ≤ 1048576) (w : World) (hv_ : Vtab_ w) : ROw Tryd.prog 18 [.one (.str s)] [(true, [.rd (.int .i64 (textLim s).f0), .rd (.int .i64 (textLim s).f1), .rd (.int .i64 (textLim s).f2), .rd (.int .i64 (textLim s).f3), .rd (.int .i64 (textLim s).f4)]), (false, [.rd (.bool (textLimOk s))])] w := by
 refine ROw.intro Tryd.func18 rfl 46 w rfl (le_ok rfl) fun Z => ?_
 have hvs_ := kept_frame hkept_ hv_ Z 46
 have hl6_ := tlA_len (pieceS 32 s) 6
 refine T.seq ?_
 refine T.region ?_
 refine TL.c (Step.al [cI 0, cI 0, cI 0, cI 0, cI 0]) ?_
 refine TL.as (pB false) ?_
 refine TL.nil ?_
 refine T.seq ?_
 refine T.region ?_
 refine TL.mv (.one (.d (.str s))) ?_
 have nn1 := pieceS_len 32 s
 have nn2_c := pieceS_cnt 32 s
 refine TL.c (Step.callW (f := 11) (xs := [.tmp 8]) (ps := [(.one (.d (.str s)))]) false (g := .func 11) rfl rfl (lt_ok rfl) rfl (by kernel_rfl) rfl (.cons (.one (.d _)) .nil) (fun w_ hF_ => ok_impl_Cut s (by first | assumption | omega) w_ (hvs_ w_ hF_)) (.inr rfl) rfl (by simp) rfl) ?_
 refine TL.as (.one (.row 1009 [])) ?_
 refine TL.nil ?_
 refine T.seq ?_
 refine T.seq ?_
 refine T.region ?_
 refine TL.mv (.one (.row 1009 [])) ?_
 refine TL.c (Step.len' (e := 9) (z := 1) (d := (.sl 1 ((pieceS 32 s).map SStr.cells))) (n := (pieceS 32 s).length) rfl rfl (lt_ok rfl) (by kernel_rfl) rfl rfl (by simp [D.size])) ?_
 refine TL.b _ (Bin.neq (k := .i64) (a := ((pieceS 32 s).length : Int)) (b := 6)) ?_
 refine TL.nil ?_
 refine T.ci rfl (fun h3 => ?_) (fun h3 => ?_)
 ·
  refine T.seq ?_
  refine T.region ?_
  refine TL.c (Step.build (zs := [.int .i64 0, .int .i64 0, .int .i64 0, .int .i64 0, .int .i64 0]) (places := [(0, 1), (1, 1), (2, 1), (3, 1), (4, 1)]) (pss := []) (ps' := [cI 0, cI 0, cI 0, cI 0, cI 0]) rfl rfl (lt_ok rfl) (by kernel_rfl) .nil rfl rfl rfl) ?_
  refine TL.c (Step.sb 5 [cI 0, cI 0, cI 0, cI 0, cI 0]) ?_
  refine TL.as (pB false) ?_
  refine TL.nil ?_
  refine T.ret ?_
  refine ⟨[(true, [cI 0, cI 0, cI 0, cI 0, cI 0]), (false, [.d (.bool false)])], (.cons rfl (.cons rfl .nil)), rfl, [], (RetC.r ?_ (RetC.r ?_ (RetC.r ?_ (RetC.r ?_ (RetC.r ?_ (RetC.r ?_ .nil))))))⟩ <;> (first | rfl | (congr 1; first | (rw [tl_no (tl_len (by omega))]; done) | exact (tl_len (by omega)).symm | (rw [tl_no (tl_tx (by assumption))]; done) | exact (tl_tx (by assumption)).symm | (rw [tl_no (tl_lm (by assumption))]; done) | exact (tl_lm (by assumption)).symm | (rw [tl_yes (tl_ok (by omega) (by assumption))]; first | done | rfl) | exact (tl_ok (by omega) (by assumption)).symm))
 refine T.skip ?_
 refine T.seq ?_
 refine T.region ?_
 refine TL.c (Step.buildArr (zs := List.replicate 6 (.int .i64 0)) (size := 1) (pss := []) (ps' := [cI 0, cI 0, cI 0, cI 0, cI 0, cI 0]) rfl rfl (lt_ok rfl) (by kernel_rfl) .nil rfl (by kernel_rfl) (by kernel_rfl)) ?_
 refine TL.c (Step.allocArr (zs := List.replicate 6 (.int .i64 0)) (zd := List.replicate 6 (.int .i64 0)) (d := (.ints .i64 (List.replicate 6 0))) rfl rfl (lt_ok rfl) (by kernel_rfl) (zeroB_ok _ _ (by kernel_rfl)) (by kernel_rfl) rfl trivial (by decide) (by decide) (by decide) rfl (by simp)) ?_
 refine TL.c (Step.store_row (n := 6) (p := (.agg [cI 0, cI 0, cI 0, cI 0, cI 0, cI 0])) (ps := [cI 0, cI 0, cI 0, cI 0, cI 0, cI 0]) (es := [(.int .i64 0), (.int .i64 0), (.int .i64 0), (.int .i64 0), (.int .i64 0), (.int .i64 0)]) (ss := []) (d1 := (.ints .i64 [0, 0, 0, 0, 0, 0])) (d' := (.ints .i64 [0, 0, 0, 0, 0, 0])) rfl rfl (by kernel_rfl) rfl rfl rfl rfl rfl rfl (.val rfl (.val rfl (.val rfl (.val rfl (.val rfl (.val rfl .nil)))))) (by simp) (by have h_ := Putd.all (k := .i64) (xs := List.replicate 6 0) (ys := [0, 0, 0, 0, 0, 0]) (by first | rfl | exact hl_ | exact hl6_ | (simp [D.size])); exact h_) rfl) ?_
 refine TL.nil ?_
 refine T.seq ?_
 refine T.seq ?_
 refine T.region ?_
 refine TL.as (pI 1) ?_
 refine TL.nil ?_
 refine T.block ?_
 refine T.loop (ι := Nat) (fun xx_ => { tm := [(0, (.one (.d (.str s)))), (2, (.one (.ptr 2 0))), (3, (pB false)), (4, (.one (.row 1009 []))), (5, (.one (.rptr 5 [] 0 0))), (6, (pI (xx_ : Int)))], rows := [(1009, (9, (.sl 1 ((pieceS 32 s).map SStr.cells)))), (5, (43, (.ints .i64 (tlA (pieceS 32 s) xx_))))], boxes := [(2, (25, [cI 0, cI 0, cI 0, cI 0, cI 0]))] }) (fun xx_ => 1 ≤ xx_ ∧ xx_ ≤ 6) (fun xx_ => 6 - xx_) 1 ?_ ?_ ?_
 · refine Env.le_mk ⟨rfl, rfl, rfl, rfl, rfl, ?_, trivial⟩ ⟨rfl, ?_, trivial⟩ ⟨rfl, trivial⟩ <;> (first | rfl | exact congrArg (fun x => some (_, D.ints .i64 x)) (tlA_set (pieceS 32 s) i (by omega) (by omega)) | (refine congrArg (fun n => PV.one (.d (.int .i64 n))) ?_; first | rfl | omega | (simp; done)))
 · ((try dsimp only); omega)
 intro i hx
 try dsimp only at hx ⊢
 obtain ⟨hx1, hx2⟩ := hx
 have hl_ := tlA_len (pieceS 32 s) i
 have hg_ := gN_bd (pieceS 32 s) i
 have hz_ := pieceS_sz 32 s i
 refine T.seq ?_
 refine T.seq ?_
 refine T.region ?_
 refine TL.mv (pI (i : Int)) ?_
 refine TL.b _ (Bin.lss (k := .i64) (a := (i : Int)) (b := 6)) ?_
 refine TL.nil ?_
 refine T.ci rfl (fun h4 => ?_) (fun h4 => ?_)
 ·
  refine T.skip ?_
  refine T.seq ?_
  refine T.block ?_
  refine T.region ?_
  refine TL.mv (pI (i : Int)) ?_
  refine TL.mv (.one (.row 1009 [])) ?_
  refine TL.mv (pI (i : Int)) ?_
  refine TL.c (Step.index_row (e := 9) (z := 1) (i := (i : Int)) rfl rfl (lt_ok rfl) (by kernel_rfl) rfl rfl rfl rfl (lt_ok rfl) rfl (by first | omega | (simp; omega)) (by simp only [D.at_, D.cell, D.size]; first | omega | (simp; omega))) ?_
  refine TL.c (Step.load_row (c := .d (.str ((pieceS 32 s).getD i default).f0)) rfl rfl (lt_ok rfl) (by kernel_rfl) rfl rfl (ofRow_d ((cell_map default (by first | omega | (simp; omega))).trans rfl) rfl)) ?_
  have nn5 := textNum_bd ((pieceS 32 s).getD i default).f0
  refine TL.c (Step.callW (f := 28) (xs := [.tmp 24]) (ps := [(.one (.d (.str ((pieceS 32 s).getD i default).f0)))]) false (g := .func 28) rfl rfl (lt_ok rfl) rfl (by kernel_rfl) rfl (.cons (.one (.d _)) .nil) (fun w_ hF_ => ok_impl_TextNum ((pieceS 32 s).getD i default).f0 (by first | assumption | omega) w_ (hvs_ w_ hF_)) (.inr rfl) rfl (by simp) rfl) ?_
  refine TL.mv (.tup [(false, [cI (textNum ((pieceS 32 s).getD i default).f0)]), (false, [.d (.bool (textOk ((pieceS 32 s).getD i default).f0))])]) ?_
  refine TL.c (Step.extract (p := (pI (textNum ((pieceS 32 s).getD i default).f0))) rfl rfl (lt_ok rfl) rfl rfl) ?_
  refine TL.c (Step.extract (p := (pB (textOk ((pieceS 32 s).getD i default).f0))) rfl rfl (lt_ok rfl) rfl rfl) ?_
  refine TL.c (Step.index_arr (d := (.ints .i64 (tlA (pieceS 32 s) i))) (e := 3) (n := 6) (z := 1) (i := (i : Int)) rfl rfl (lt_ok rfl) (by kernel_rfl) rfl rfl (by first | rfl | exact hl_ | exact hl6_ | (simp [D.size])) rfl (lt_ok rfl) rfl (by first | omega | (simp; omega)) (by first | omega | (simp; omega))) ?_
  refine TL.c (Step.store_row (n := 1) (p := (pI (textNum ((pieceS 32 s).getD i default).f0))) (ps := [cI (textNum ((pieceS 32 s).getD i default).f0)]) (es := [(.int .i64 (textNum ((pieceS 32 s).getD i default).f0))]) (ss := []) (d1 := (.ints .i64 ((tlA (pieceS 32 s) i).set i (textNum ((pieceS 32 s).getD i default).f0)))) (d' := (.ints .i64 ((tlA (pieceS 32 s) i).set i (textNum ((pieceS 32 s).getD i default).f0)))) rfl rfl (by kernel_rfl) rfl rfl rfl rfl rfl rfl (.val rfl .nil) (by simp) (Putd.one rfl trivial rfl (by simp only [D.at_, D.size, List.length_set, upTo_length]; first | omega | (simp; omega)) (lt_ok rfl)) rfl) ?_
  refine TL.nil ?_
  refine T.region ?_
  refine TL.mv (pI (i : Int)) ?_
  refine TL.c (Step.bin (r := .int .i64 ((i : Int) + 1)) rfl rfl (lt_ok rfl) rfl rfl (Bin.add (a := (i : Int)) (b := 1) (by first | exact wrap_ok (by first | omega | (simp; omega)) (by first | omega | (simp; omega)) | rfl))) ?_
  refine TL.as (pI ((i : Int) + 1)) ?_
  refine TL.nil ?_
  refine ⟨i + 1, by omega, by ((try dsimp only); omega), Env.le_mk ⟨rfl, rfl, rfl, rfl, rfl, ?_, trivial⟩ ⟨rfl, ?_, trivial⟩ ⟨rfl, trivial⟩⟩ <;> (first | rfl | exact congrArg (fun x => some (_, D.ints .i64 x)) (tlA_set (pieceS 32 s) i (by omega) (by omega)) | (refine congrArg (fun n => PV.one (.d (.int .i64 n))) ?_; first | rfl | omega | (simp; done)))
 refine T.exit ?_
 refine T.weaken (E' := { tm := [(0, (.one (.d (.str s)))), (2, (.one (.ptr 2 0))), (3, (pB false)), (4, (.one (.row 1009 []))), (5, (.one (.rptr 5 [] 0 0))), (6, (pI (i : Int))), (15, (pI (i : Int))), (16, (pB (decide ((i : Int) < 6))))], rows := [(1009, (9, (.sl 1 ((pieceS 32 s).map SStr.cells)))), (5, (43, (.ints .i64 (tlA (pieceS 32 s) 6))))], boxes := [(2, (25, [cI 0, cI 0, cI 0, cI 0, cI 0]))] }) (by refine Env.le_mk ⟨rfl, rfl, rfl, rfl, rfl, rfl, rfl, rfl, trivial⟩ ⟨rfl, ?_, trivial⟩ ⟨rfl, trivial⟩ <;> (first | rfl | exact congrArg (fun x => some (_, D.ints .i64 (tlA (pieceS 32 s) x))) (show i = 6 by omega))) ?_
 refine T.seq ?_
 refine T.region ?_
 refine TL.c (Step.index_arr (d := (.ints .i64 (tlA (pieceS 32 s) 6))) (e := 3) (n := 6) (z := 1) (i := 1) rfl rfl (lt_ok rfl) (by kernel_rfl) rfl rfl (by first | rfl | exact hl_ | exact hl6_ | (simp [D.size])) rfl (lt_ok rfl) rfl (by first | omega | (simp; omega)) (by first | omega | (simp; omega))) ?_
 refine TL.c (Step.load_row (c := cI ((tlA (pieceS 32 s) 6).getD 1 0)) rfl rfl (lt_ok rfl) (by kernel_rfl) rfl rfl rfl) ?_
 refine TL.c (Step.index_arr (d := (.ints .i64 (tlA (pieceS 32 s) 6))) (e := 3) (n := 6) (z := 1) (i := 2) rfl rfl (lt_ok rfl) (by kernel_rfl) rfl rfl (by first | rfl | exact hl_ | exact hl6_ | (simp [D.size])) rfl (lt_ok rfl) rfl (by first | omega | (simp; omega)) (by first | omega | (simp; omega))) ?_
 refine TL.c (Step.load_row (c := cI ((tlA (pieceS 32 s) 6).getD 2 0)) rfl rfl (lt_ok rfl) (by kernel_rfl) rfl rfl rfl) ?_
 refine TL.c (Step.index_arr (d := (.ints .i64 (tlA (pieceS 32 s) 6))) (e := 3) (n := 6) (z := 1) (i := 3) rfl rfl (lt_ok rfl) (by kernel_rfl) rfl rfl (by first | rfl | exact hl_ | exact hl6_ | (simp [D.size])) rfl (lt_ok rfl) rfl (by first | omega | (simp; omega)) (by first | omega | (simp; omega))) ?_
 refine TL.c (Step.load_row (c := cI ((tlA (pieceS 32 s) 6).getD 3 0)) rfl rfl (lt_ok rfl) (by kernel_rfl) rfl rfl rfl) ?_
 refine TL.c (Step.index_arr (d := (.ints .i64 (tlA (pieceS 32 s) 6))) (e := 3) (n := 6) (z := 1) (i := 4) rfl rfl (lt_ok rfl) (by kernel_rfl) rfl rfl (by first | rfl | exact hl_ | exact hl6_ | (simp [D.size])) rfl (lt_ok rfl) rfl (by first | omega | (simp; omega)) (by first | omega | (simp; omega))) ?_
 refine TL.c (Step.load_row (c := cI ((tlA (pieceS 32 s) 6).getD 4 0)) rfl rfl (lt_ok rfl) (by kernel_rfl) rfl rfl rfl) ?_
 refine TL.c (Step.index_arr (d := (.ints .i64 (tlA (pieceS 32 s) 6))) (e := 3) (n := 6) (z := 1) (i := 5) rfl rfl (lt_ok rfl) (by kernel_rfl) rfl rfl (by first | rfl | exact hl_ | exact hl6_ | (simp [D.size])) rfl (lt_ok rfl) rfl (by first | omega | (simp; omega)) (by first | omega | (simp; omega))) ?_
 refine TL.c (Step.load_row (c := cI ((tlA (pieceS 32 s) 6).getD 5 0)) rfl rfl (lt_ok rfl) (by kernel_rfl) rfl rfl rfl) ?_
 refine TL.c (Step.build (zs := [.int .i64 0, .int .i64 0, .int .i64 0, .int .i64 0, .int .i64 0]) (places := [(0, 1), (1, 1), (2, 1), (3, 1), (4, 1)]) (pss := [(0, [cI ((tlA (pieceS 32 s) 6).getD 1 0)]), (1, [cI ((tlA (pieceS 32 s) 6).getD 2 0)]), (2, [cI ((tlA (pieceS 32 s) 6).getD 3 0)]), (3, [cI ((tlA (pieceS 32 s) 6).getD 4 0)]), (4, [cI ((tlA (pieceS 32 s) 6).getD 5 0)])]) (ps' := [cI ((tlA (pieceS 32 s) 6).getD 1 0), cI ((tlA (pieceS 32 s) 6).getD 2 0), cI ((tlA (pieceS 32 s) 6).getD 3 0), cI ((tlA (pieceS 32 s) 6).getD 4 0), cI ((tlA (pieceS 32 s) 6).getD 5 0)]) rfl rfl (lt_ok rfl) (by kernel_rfl) (.cons ⟨rfl, rfl⟩ (.cons ⟨rfl, rfl⟩ (.cons ⟨rfl, rfl⟩ (.cons ⟨rfl, rfl⟩ (.cons ⟨rfl, rfl⟩ .nil))))) rfl rfl rfl) ?_
 refine TL.c (Step.al [cI 0, cI 0, cI 0, cI 0, cI 0]) ?_
 refine TL.c (Step.sb 5 [cI ((tlA (pieceS 32 s) 6).getD 1 0), cI ((tlA (pieceS 32 s) 6).getD 2 0), cI ((tlA (pieceS 32 s) 6).getD 3 0), cI ((tlA (pieceS 32 s) 6).getD 4 0), cI ((tlA (pieceS 32 s) 6).getD 5 0)]) ?_
 refine TL.nil ?_
 refine T.seq ?_
 refine T.seq ?_
 refine T.region ?_
 refine TL.c (Step.lba 5 [cI ((tlA (pieceS 32 s) 6).getD 1 0), cI ((tlA (pieceS 32 s) 6).getD 2 0), cI ((tlA (pieceS 32 s) 6).getD 3 0), cI ((tlA (pieceS 32 s) 6).getD 4 0), cI ((tlA (pieceS 32 s) 6).getD 5 0)]) ?_
 refine TL.c (Step.callW (f := 9) (xs := [.tmp 40]) (ps := [(.agg [cI ((tlA (pieceS 32 s) 6).getD 1 0), cI ((tlA (pieceS 32 s) 6).getD 2 0), cI ((tlA (pieceS 32 s) 6).getD 3 0), cI ((tlA (pieceS 32 s) 6).getD 4 0), cI ((tlA (pieceS 32 s) 6).getD 5 0)])]) false (g := .func 9) rfl rfl (lt_ok rfl) rfl (by kernel_rfl) rfl (.cons (.agg (.cons (.d _) (.cons (.d _) (.cons (.d _) (.cons (.d _) (.cons (.d _) .nil)))))) .nil) (fun w_ hF_ => ok_impl_LimitsText (⟨(tlA (pieceS 32 s) 6).getD 1 0, (tlA (pieceS 32 s) 6).getD 2 0, (tlA (pieceS 32 s) 6).getD 3 0, (tlA (pieceS 32 s) 6).getD 4 0, (tlA (pieceS 32 s) 6).getD 5 0⟩ : SLimits) w_ (hvs_ w_ hF_)) (.inr rfl) rfl (by simp) rfl) ?_
 refine TL.mv (.one (.d (.str s))) ?_
 refine TL.c (Step.bin rfl rfl (lt_ok rfl) rfl rfl Bin.strne) ?_
 refine TL.nil ?_
 refine T.cn rfl (fun h6 => ?_) (fun h6 => ?_)
 ·
  refine T.seq ?_
  refine T.region ?_
  refine TL.c (Step.build (zs := [.int .i64 0, .int .i64 0, .int .i64 0, .int .i64 0, .int .i64 0]) (places := [(0, 1), (1, 1), (2, 1), (3, 1), (4, 1)]) (pss := []) (ps' := [cI 0, cI 0, cI 0, cI 0, cI 0]) rfl rfl (lt_ok rfl) (by kernel_rfl) .nil rfl rfl rfl) ?_
  refine TL.c (Step.sb 5 [cI 0, cI 0, cI 0, cI 0, cI 0]) ?_
  refine TL.as (pB false) ?_
  refine TL.nil ?_
  refine T.ret ?_
  refine ⟨[(true, [cI 0, cI 0, cI 0, cI 0, cI 0]), (false, [.d (.bool false)])], (.cons rfl (.cons rfl .nil)), rfl, [], (RetC.r ?_ (RetC.r ?_ (RetC.r ?_ (RetC.r ?_ (RetC.r ?_ (RetC.r ?_ .nil))))))⟩ <;> (first | rfl | (congr 1; first | (rw [tl_no (tl_len (by omega))]; done) | exact (tl_len (by omega)).symm | (rw [tl_no (tl_tx (by assumption))]; done) | exact (tl_tx (by assumption)).symm | (rw [tl_no (tl_lm (by assumption))]; done) | exact (tl_lm (by assumption)).symm | (rw [tl_yes (tl_ok (by omega) (by assumption))]; first | done | rfl) | exact (tl_ok (by omega) (by assumption)).symm))
 refine T.skip ?_
 refine T.seq ?_
 refine T.region ?_
 refine TL.c (Step.lba 5 [cI ((tlA (pieceS 32 s) 6).getD 1 0), cI ((tlA (pieceS 32 s) 6).getD 2 0), cI ((tlA (pieceS 32 s) 6).getD 3 0), cI ((tlA (pieceS 32 s) 6).getD 4 0), cI ((tlA (pieceS 32 s) 6).getD 5 0)]) ?_
 refine TL.c (Step.sb 5 [cI ((tlA (pieceS 32 s) 6).getD 1 0), cI ((tlA (pieceS 32 s) 6).getD 2 0), cI ((tlA (pieceS 32 s) 6).getD 3 0), cI ((tlA (pieceS 32 s) 6).getD 4 0), cI ((tlA (pieceS 32 s) 6).getD 5 0)]) ?_
 refine TL.as (pB true) ?_
 refine TL.nil ?_
 refine T.ret ?_
 refine ⟨[(true, [cI ((tlA (pieceS 32 s) 6).getD 1 0), cI ((tlA (pieceS 32 s) 6).getD 2 0), cI ((tlA (pieceS 32 s) 6).getD 3 0), cI ((tlA (pieceS 32 s) 6).getD 4 0), cI ((tlA (pieceS 32 s) 6).getD 5 0)]), (false, [.d (.bool true)])], (.cons rfl (.cons rfl .nil)), rfl, [], (RetC.r ?_ (RetC.r ?_ (RetC.r ?_ (RetC.r ?_ (RetC.r ?_ (RetC.r ?_ .nil))))))⟩ <;> (first | rfl | (congr 1; first | (rw [tl_no (tl_len (by omega))]; done) | exact (tl_len (by omega)).symm | (rw [tl_no (tl_tx (by assumption))]; done) | exact (tl_tx (by assumption)).symm | (rw [tl_no (tl_lm (by assumption))]; done) | exact (tl_lm (by assumption)).symm | (rw [tl_yes (tl_ok (by omega) (by assumption))]; first | done | rfl) | exact (tl_ok (by omega) (by assumption)).symm))
theorem ok_laws_eqLimits (a : SLimits) (b : SLimits) : RO Tryd.prog 19 [.agg a.cells, .agg b.cells] [(false, [.rd (.bool (decide (a = b)))])] := by
 refine RO.intro Tryd.func19 rfl 30 rfl (le_ok rfl) fun w Z => ?_
 refine T.seq ?_
 refine T.region ?_
 refine TL.c (Step.bx [cI a.f0, cI a.f1, cI a.f2, cI a.f3, cI a.f4]) ?_
 refine TL.c (Step.bx [cI b.f0, cI b.f1, cI b.f2, cI b.f3, cI b.f4]) ?_
 refine TL.as (pB false) ?_
 refine TL.nil ?_
 refine T.seq ?_
 refine T.seq ?_
 refine T.region ?_
 refine TL.c (Step.fd 0 1 true) ?_
 refine TL.c (Step.lb (.d (.int .i64 a.f0))) ?_
 refine TL.c (Step.fd 0 1 true) ?_
 refine TL.c (Step.lb (.d (.int .i64 b.f0))) ?_
 refine TL.b _ (Bin.neq (k := .i64) (a := a.f0) (b := b.f0)) ?_
 refine TL.nil ?_
 refine T.ci rfl (fun h1 => ?_) (fun h1 => ?_)
 ·
  refine T.seq ?_
  refine T.region ?_
  refine TL.as (pB false) ?_
  refine TL.nil ?_
  refine T.ret ?_
  refine ⟨[(false, [.d (.bool false)])], (.cons rfl .nil), rfl, [], (RetC.r ?_ .nil)⟩ <;> ((congr 1; symm; first | (apply decide_eq_false; rintro rfl; first | exact absurd rfl ‹¬ _ = _› | contradiction) | (apply decide_eq_true; apply SLimits.ext <;> first | assumption | exact Decidable.not_not.1 (by assumption))))
 refine T.skip ?_
 refine T.seq ?_
 refine T.seq ?_
 refine T.region ?_
 refine TL.c (Step.fd 1 1 true) ?_
 refine TL.c (Step.lb (.d (.int .i64 a.f1))) ?_
 refine TL.c (Step.fd 1 1 true) ?_
 refine TL.c (Step.lb (.d (.int .i64 b.f1))) ?_
 refine TL.b _ (Bin.neq (k := .i64) (a := a.f1) (b := b.f1)) ?_
 refine TL.nil ?_
 refine T.ci rfl (fun h2 => ?_) (fun h2 => ?_)
 ·
  refine T.seq ?_
  refine T.region ?_
  refine TL.as (pB false) ?_
  refine TL.nil ?_
  refine T.ret ?_
  refine ⟨[(false, [.d (.bool false)])], (.cons rfl .nil), rfl, [], (RetC.r ?_ .nil)⟩ <;> ((congr 1; symm; first | (apply decide_eq_false; rintro rfl; first | exact absurd rfl ‹¬ _ = _› | contradiction) | (apply decide_eq_true; apply SLimits.ext <;> first | assumption | exact Decidable.not_not.1 (by assumption))))
 refine T.skip ?_
 refine T.seq ?_
 refine T.seq ?_
 refine T.region ?_
 refine TL.c (Step.fd 2 1 true) ?_
 refine TL.c (Step.lb (.d (.int .i64 a.f2))) ?_
 refine TL.c (Step.fd 2 1 true) ?_
 refine TL.c (Step.lb (.d (.int .i64 b.f2))) ?_
 refine TL.b _ (Bin.neq (k := .i64) (a := a.f2) (b := b.f2)) ?_
 refine TL.nil ?_
 refine T.ci rfl (fun h3 => ?_) (fun h3 => ?_)
 ·
  refine T.seq ?_
  refine T.region ?_
  refine TL.as (pB false) ?_
  refine TL.nil ?_
  refine T.ret ?_
  refine ⟨[(false, [.d (.bool false)])], (.cons rfl .nil), rfl, [], (RetC.r ?_ .nil)⟩ <;> ((congr 1; symm; first | (apply decide_eq_false; rintro rfl; first | exact absurd rfl ‹¬ _ = _› | contradiction) | (apply decide_eq_true; apply SLimits.ext <;> first | assumption | exact Decidable.not_not.1 (by assumption))))
 refine T.skip ?_
 refine T.seq ?_
 refine T.seq ?_
 refine T.region ?_
 refine TL.c (Step.fd 3 1 true) ?_
 refine TL.c (Step.lb (.d (.int .i64 a.f3))) ?_
 refine TL.c (Step.fd 3 1 true) ?_
 refine TL.c (Step.lb (.d (.int .i64 b.f3))) ?_
 refine TL.b _ (Bin.neq (k := .i64) (a := a.f3) (b := b.f3)) ?_
 refine TL.nil ?_
 refine T.ci rfl (fun h4 => ?_) (fun h4 => ?_)
 ·
  refine T.seq ?_
  refine T.region ?_
  refine TL.as (pB false) ?_
  refine TL.nil ?_
  refine T.ret ?_
  refine ⟨[(false, [.d (.bool false)])], (.cons rfl .nil), rfl, [], (RetC.r ?_ .nil)⟩ <;> ((congr 1; symm; first | (apply decide_eq_false; rintro rfl; first | exact absurd rfl ‹¬ _ = _› | contradiction) | (apply decide_eq_true; apply SLimits.ext <;> first | assumption | exact Decidable.not_not.1 (by assumption))))
 refine T.skip ?_
 refine T.seq ?_
 refine T.seq ?_
 refine T.region ?_
 refine TL.c (Step.fd 4 1 true) ?_
 refine TL.c (Step.lb (.d (.int .i64 a.f4))) ?_
 refine TL.c (Step.fd 4 1 true) ?_
 refine TL.c (Step.lb (.d (.int .i64 b.f4))) ?_
 refine TL.b _ (Bin.neq (k := .i64) (a := a.f4) (b := b.f4)) ?_
 refine TL.nil ?_
 refine T.ci rfl (fun h5 => ?_) (fun h5 => ?_)
 ·
  refine T.seq ?_
  refine T.region ?_
  refine TL.as (pB false) ?_
  refine TL.nil ?_
  refine T.ret ?_
  refine ⟨[(false, [.d (.bool false)])], (.cons rfl .nil), rfl, [], (RetC.r ?_ .nil)⟩ <;> ((congr 1; symm; first | (apply decide_eq_false; rintro rfl; first | exact absurd rfl ‹¬ _ = _› | contradiction) | (apply decide_eq_true; apply SLimits.ext <;> first | assumption | exact Decidable.not_not.1 (by assumption))))
 refine T.skip ?_
 refine T.seq ?_
 refine T.region ?_
 refine TL.as (pB true) ?_
 refine TL.nil ?_
 refine T.ret ?_
 refine ⟨[(false, [.d (.bool true)])], (.cons rfl .nil), rfl, [], (RetC.r ?_ .nil)⟩ <;> ((congr 1; symm; first | (apply decide_eq_false; rintro rfl; first | exact absurd rfl ‹¬ _ = _› | contradiction) | (apply decide_eq_true; apply SLimits.ext <;> first | assumption | exact Decidable.not_not.1 (by assumption))))
theorem ok_laws_FnExactTextLimits (aS : ByteArray) (h0_ : aS.size ≤ 9223372036854775807) (w : World) (hv_ : Vtab_ w) : ROw Tryd.prog 6 [.one (.str aS)] [(false, [.rd (.bool true)])] w := by
 refine ROw.intro Tryd.func6 rfl 29 w rfl (le_ok rfl) fun Z => ?_
 have hvs_ := kept_frame hkept_ hv_ Z 29
 refine T.seq ?_
 refine T.region ?_
 refine TL.as (pB false) ?_
 refine TL.nil ?_
 refine T.seq ?_
 refine T.seq ?_
 refine T.region ?_
 refine TL.mv (.one (.d (.str aS))) ?_
 refine TL.c (Step.len_str rfl rfl (lt_ok rfl) (by kernel_rfl) rfl) ?_
 refine TL.b _ (Bin.gtr (k := .i64) (a := (aS.size : Int)) (b := 1048576)) ?_
 refine TL.nil ?_
 refine T.ci rfl (fun h1 => ?_) (fun h1 => ?_)
 ·
  refine T.seq ?_
  refine T.region ?_
  refine TL.as (pB true) ?_
  refine TL.nil ?_
  refine T.ret ?_
  exact ⟨[(false, [.d (.bool true)])], (.cons rfl .nil), rfl, [], (RetC.rd' rfl .nil)⟩
 refine T.skip ?_
 refine T.seq ?_
 refine T.region ?_
 refine TL.mv (.one (.d (.str aS))) ?_
 refine TL.c (Step.cl (xs := [.tmp 11]) (ps := [(.one (.d (.str aS)))]) (g := .func 17) false (.cons (.one (.d _)) .nil) (ok_spec_TextLimits aS (by first | assumption | omega))) ?_
 refine TL.mv (.tup [(true, [cI (textLim aS).f0, cI (textLim aS).f1, cI (textLim aS).f2, cI (textLim aS).f3, cI (textLim aS).f4]), (false, [.d (.bool (textLimOk aS))])]) ?_
 refine TL.c (Step.extract (p := (.agg [cI (textLim aS).f0, cI (textLim aS).f1, cI (textLim aS).f2, cI (textLim aS).f3, cI (textLim aS).f4])) rfl rfl (lt_ok rfl) rfl rfl) ?_
 refine TL.c (Step.extract (p := (pB (textLimOk aS))) rfl rfl (lt_ok rfl) rfl rfl) ?_
 refine TL.c (Step.al [cI 0, cI 0, cI 0, cI 0, cI 0]) ?_
 refine TL.c (Step.sb 5 [cI (textLim aS).f0, cI (textLim aS).f1, cI (textLim aS).f2, cI (textLim aS).f3, cI (textLim aS).f4]) ?_
 refine TL.as (pB (textLimOk aS)) ?_
 refine TL.nil ?_
 refine T.seq ?_
 refine T.region ?_
 refine TL.mv (.one (.d (.str aS))) ?_
 refine TL.c (Step.callW (f := 18) (xs := [.tmp 16]) (ps := [(.one (.d (.str aS)))]) false (g := .func 18) rfl rfl (lt_ok rfl) rfl (by kernel_rfl) rfl (.cons (.one (.d _)) .nil) (fun w_ hF_ => ok_impl_TextLimits aS (by first | assumption | omega) w_ (hvs_ w_ hF_)) (.inr rfl) rfl (by simp) rfl) ?_
 refine TL.mv (.tup [(true, [cI (textLim aS).f0, cI (textLim aS).f1, cI (textLim aS).f2, cI (textLim aS).f3, cI (textLim aS).f4]), (false, [.d (.bool (textLimOk aS))])]) ?_
 refine TL.c (Step.extract (p := (.agg [cI (textLim aS).f0, cI (textLim aS).f1, cI (textLim aS).f2, cI (textLim aS).f3, cI (textLim aS).f4])) rfl rfl (lt_ok rfl) rfl rfl) ?_
 refine TL.c (Step.extract (p := (pB (textLimOk aS))) rfl rfl (lt_ok rfl) rfl rfl) ?_
 refine TL.c (Step.al [cI 0, cI 0, cI 0, cI 0, cI 0]) ?_
 refine TL.c (Step.sb 5 [cI (textLim aS).f0, cI (textLim aS).f1, cI (textLim aS).f2, cI (textLim aS).f3, cI (textLim aS).f4]) ?_
 refine TL.as (pB (textLimOk aS)) ?_
 refine TL.nil ?_
 refine T.seq ?_
 refine T.seq ?_
 refine T.region ?_
 refine TL.c (Step.lba 5 [cI (textLim aS).f0, cI (textLim aS).f1, cI (textLim aS).f2, cI (textLim aS).f3, cI (textLim aS).f4]) ?_
 refine TL.c (Step.lba 5 [cI (textLim aS).f0, cI (textLim aS).f1, cI (textLim aS).f2, cI (textLim aS).f3, cI (textLim aS).f4]) ?_
 refine TL.c (Step.cl (xs := [.tmp 20, .tmp 21]) (ps := [(.agg [cI (textLim aS).f0, cI (textLim aS).f1, cI (textLim aS).f2, cI (textLim aS).f3, cI (textLim aS).f4]), (.agg [cI (textLim aS).f0, cI (textLim aS).f1, cI (textLim aS).f2, cI (textLim aS).f3, cI (textLim aS).f4])]) (g := .func 19) false (.cons (.agg (.cons (.d _) (.cons (.d _) (.cons (.d _) (.cons (.d _) (.cons (.d _) .nil)))))) (.cons (.agg (.cons (.d _) (.cons (.d _) (.cons (.d _) (.cons (.d _) (.cons (.d _) .nil)))))) .nil)) (ok_laws_eqLimits (textLim aS) (textLim aS))) ?_
 refine TL.known 22 (c := true) (by simp) rfl ?_
 refine TL.c (Step.not (b := true) rfl rfl (lt_ok rfl) rfl) ?_
 refine TL.mv (pB false) ?_
 refine TL.gm 24 (pB (textLimOk aS)) ?_
 refine TL.gm 24 (pB (textLimOk aS)) ?_
 refine TL.gy 24 (Step.bneq (b := (textLimOk aS)) (c := (textLimOk aS)) rfl rfl (lt_ok rfl) (by kernel_rfl) rfl rfl) ?_
 refine TL.known 27 (c := false) (by simp) rfl ?_
 refine TL.pk false (pB false) ?_
 refine TL.nil ?_
 refine T.wk [(2, (pB false)), (28, (pB false))] [] [] ?_
 refine T.cf ?_
 refine T.skip ?_
 refine T.seq ?_
 refine T.region ?_
 refine TL.as (pB true) ?_
 refine TL.nil ?_
 refine T.ret ?_
 exact ⟨[(false, [.d (.bool true)])], (.cons rfl .nil), rfl, [], (RetC.rd' rfl .nil)⟩
end Go.Proofs.YtppldhkkhadngaaDoor.Rf
