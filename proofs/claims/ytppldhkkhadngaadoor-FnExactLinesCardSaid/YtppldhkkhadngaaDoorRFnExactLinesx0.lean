/- The functions that FnExactLines calls, each held to what it answers. Printed by a program of this session; Lean checks it. -/
import Derived.Test.YtppldhkkhadngaaDoorProg
import Derived.Test.YtppldhkkhadngaaDoorTrFnExactLinesb
import Derived.Shelf.LaysM
import Derived.Shelf.Strings.SplitShaped
import Derived.Lib.SplitLaws
import Derived.Laws.Strings2
import Derived.Laws.Slices
import Derived.Laws.BytesArg
import Derived.Lib.SmallJoins
namespace Go.Proofs.YtppldhkkhadngaaDoor.Rf
open Go.RowKit
set_option linter.unusedVariables false
set_option linter.unnecessarySimpa false
set_option linter.unusedSimpArgs false
set_option maxRecDepth 100000
set_option maxHeartbeats 800000
@[ext] structure SStr where
  f0 : ByteArray
  deriving Inhabited, DecidableEq
def SStr.cells (x : SStr) : List D := [(.str x.f0)]
theorem SStr.len (x : SStr) : x.cells.length = 1 := rfl
def mdg (n : Int) : ByteArray := if h : 0 < n then mdg (n / 10) ++ strOfNums [48 + n % 10] else ByteArray.empty
termination_by n.toNat
decreasing_by omega
def markT (k : Int) : ByteArray := if k ≤ 0 then ⟨#[109, 48]⟩ else ⟨#[109]⟩ ++ mdg k
theorem mdg_zero {n : Int} (h : n ≤ 0) : mdg n = ByteArray.empty := by rw [mdg, dif_neg (by omega)]
theorem mdg_next {m : Int} (h : 0 < m) (s : ByteArray) : mdg (m / 10) ++ (strOfNums [48 + m % 10] ++ s) = mdg m ++ s := by
  rw [← ByteArray.append_assoc]
  congr 1
  rw [mdg.eq_def m, dif_pos h]
theorem mdg_size : ∀ (d : Nat) (n : Int), n < 10 ^ d → (mdg n).size ≤ d
  | 0, n, h => by rw [mdg_zero (by simp at h; omega)]; show ByteArray.empty.size ≤ 0; rw [ByteArray.size_empty]; omega
  | d + 1, n, h => by
    by_cases h0 : 0 < n
    · rw [mdg, dif_pos h0, ByteArray.size_append, strOfNums_size]
      have := mdg_size d (n / 10) (by rw [Int.pow_succ] at h; omega)
      simp only [List.length_cons, List.length_nil]; omega
    · rw [mdg_zero (by omega), ByteArray.size_empty]; omega
theorem mdg_size63 {n : Int} (h : n ≤ 9223372036854775807) : (mdg n).size ≤ 19 := mdg_size 19 n (by rw [show (10 : Int) ^ 19 = 10000000000000000000 from by decide]; omega)
theorem ofRow_d {r : Nat} {p : List (Nat × Nat)} {i j : Nat} {e e' : D} (h : e = e') (hs : e'.isSl = false) : PC.ofRow r p i j e = .d e' := by subst h; simp [PC.ofRow, hs]
def SStr.ce (_x : SStr) : Int := 1
def SStr.me (_x : SStr) (k : Int) : SStr := ⟨markT k⟩
theorem SStr.ce_nn (x : SStr) : 0 ≤ x.ce := by unfold SStr.ce; omega
theorem str_elem {x y : SStr} (h : x.f0.toList = y.f0.toList) : x = y := by
  rw [ByteArray.toList_eq, ByteArray.toList_eq] at h
  obtain ⟨⟨⟨l⟩⟩⟩ := x
  obtain ⟨⟨⟨m⟩⟩⟩ := y
  simp only at h
  subst h
  rfl
theorem cntS_len : ∀ xs : List SStr, cntL SStr.ce xs = xs.length
  | [] => rfl
  | x :: xs => by simp only [cntL, cntS_len xs, SStr.ce, List.length_cons, Int.natCast_succ]; omega
theorem Step.slice_str {P : Program} {C : Ctx} {o : Oper} {E : Env} {t : Nat} {T : TypeId} {x y z : Operand} {s : ByteArray} {k k' : IntKind} {i j : Int} (ho : o.op = .slice T x (some y) (some z) none) (hd : o.dst = some t) (ht : t < C.n) (hT : P.underlying T = some .string) (hx : E.ev x = .one (.d (.str s))) (hy : E.ev y = .one (.d (.int k i))) (hz : E.ev z = .one (.d (.int k' j)))
    (h0 : 0 ≤ i) (h1 : i ≤ j) (h2 : j ≤ s.size) : Step P C o E (E.set t (.one (.d (.str (s.extract i.toNat j.toNat))))) :=
  .value hd ht fun M a w R => by
    refine ⟨.string (s.extract i.toNat j.toNat), ?_, ok_val M E w rfl⟩
    unfold execOp
    rw [ho]
    have hrun : (Instr.sliceAt T (a.eval x) (some (a.eval y)) (some (a.eval z)) none).run P w = .ok (.string (s.extract i.toNat j.toNat)) w := by
      rw [ev_val R hx rfl, ev_val R hy rfl, ev_val R hz rfl, run_sliceAt_string (h := hT)]
      exact run_slice_string w T s k k' i j hT h0 h1 h2
    simp only [Option.map_some, Option.map_none, Sem.run_bind, hrun, Result.andThen, Sem.run_pure]
def byteAt (s : ByteArray) (i : Nat) : Int := ((s.data.toList.getD i 0).toNat : Int)
theorem bsize (s : ByteArray) : s.data.toList.length = s.size := rfl
theorem byteAt_eq {s : ByteArray} {i : Nat} (h : i < s.size) : (s[((i : Nat) : Int).toNat]?).map (fun b => ((b.toNat : Nat) : Int)) = some (byteAt s i) := by
  have h' : i < s.data.toList.length := by rw [bsize]; exact h
  show (s[i]?).map (fun b => ((b.toNat : Nat) : Int)) = some (byteAt s i)
  rw [getElem?_pos s i h, Option.map_some, byteAt, List.getD_eq_getElem?_getD, List.getElem?_eq_getElem h', Option.getD_some]
  rfl
def consH (b : UInt8) : List (List UInt8) → List (List UInt8)
  | [] => [[b]]
  | h :: t => (b :: h) :: t
def preH (p : List UInt8) : List (List UInt8) → List (List UInt8)
  | [] => [p]
  | h :: t => (p ++ h) :: t
def pieces (c : UInt8) : List UInt8 → List (List UInt8)
  | [] => [[]]
  | b :: l => if b = c then [] :: pieces c l else consH b (pieces c l)
theorem pieces_ne (c : UInt8) : ∀ l, pieces c l ≠ []
  | [] => by simp [pieces]
  | b :: l => by
    unfold pieces
    split
    · simp
    · cases h : pieces c l <;> simp [consH]
theorem pieces_len (c : UInt8) : ∀ l, (pieces c l).length ≤ l.length + 1
  | [] => by simp [pieces]
  | b :: l => by
    have ih := pieces_len c l
    unfold pieces
    split
    · simp; omega
    · cases h : pieces c l with
      | nil => simp [consH]
      | cons x y => rw [h] at ih; simp [consH] at ih ⊢; omega
theorem preH_cons (p : List UInt8) (b : UInt8) (x : List (List UInt8)) : preH p (consH b x) = preH (p ++ [b]) x := by cases x <;> simp [preH, consH]
theorem preH_nil {x : List (List UInt8)} (h : x ≠ []) : preH [] x = x := by cases x <;> simp_all [preH]
theorem splitK_pieces (c : UInt8) : ∀ l : List UInt8, Lib.splitK [c] 0 (Lib.count l [c]) l = pieces c l
  | [] => by rw [Lib.count_miss (by simp [Lib.index])]; rfl
  | b :: l => by
    have ih := splitK_pieces c l
    by_cases h : b = c
    · subst h
      have hix : Lib.index (b :: l) [b] = 0 := by rw [Lib.index]; simp [List.isPrefixOf]
      rw [Lib.count_cons_eq, Nat.add_comm, Lib.splitK, hix, if_neg (by decide), pieces, if_pos rfl, ← ih]
      rfl
    · rw [Lib.count_cons_ne b c l h, pieces, if_neg h, ← ih]
      have hp : ([c] : List UInt8).isPrefixOf (b :: l) = false := by simp [List.isPrefixOf, Ne.symm h]
      have hix : Lib.index (b :: l) [c] = if Lib.index l [c] == -1 then -1 else Lib.index l [c] + 1 := by rw [Lib.index, hp]; simp
      cases hk : Lib.count l [c] with
      | zero => rfl
      | succ k =>
        by_cases hm : Lib.index l [c] = -1
        · rw [Lib.count_miss hm] at hk; omega
        · have hge := Lib.index_ge l [c]
          obtain ⟨j, hj⟩ : ∃ j : Nat, Lib.index l [c] = j := ⟨(Lib.index l [c]).toNat, by omega⟩
          have hix' : Lib.index (b :: l) [c] = ((j + 1 : Nat) : Int) := by rw [hix, if_neg (fun e => hm (beq_iff_eq.1 e)), hj]; omega
          rw [Lib.splitK, Lib.splitK, hix', hj, if_neg (fun e => by have := beq_iff_eq.1 e; omega), if_neg (fun e => by have := beq_iff_eq.1 e; omega)]
          simp [consH]
def mkS (l : List UInt8) : SStr := ⟨⟨l.toArray⟩⟩
def pieceS (c : UInt8) (s : ByteArray) : List SStr := (pieces c s.data.toList).map mkS
theorem pieceS_len (c : UInt8) (s : ByteArray) : (pieceS c s).length ≤ s.size + 1 := by
  unfold pieceS
  rw [List.length_map]
  exact pieces_len c _
theorem pieceS_pos (c : UInt8) (s : ByteArray) : 0 < (pieceS c s).length := by
  unfold pieceS
  rw [List.length_map]
  exact List.length_pos_iff.2 (pieces_ne c _)
theorem mkS_data (s : ByteArray) : mkS s.data.toList = ⟨s⟩ := by
  unfold mkS
  congr 1
theorem splitB_pieceS (c : UInt8) (s : ByteArray) : (Lib.splitB ⟨#[c]⟩ 0 (Lib.countB s ⟨#[c]⟩) s).map SStr.mk = pieceS c s := by
  have h := Lib.splitB_data ⟨#[c]⟩ 0 (Lib.countB s ⟨#[c]⟩) s
  have h2 := splitK_pieces c s.data.toList
  unfold pieceS
  rw [← h2]
  have e : (Lib.splitB ⟨#[c]⟩ 0 (Lib.countB s ⟨#[c]⟩) s).map SStr.mk = ((Lib.splitB ⟨#[c]⟩ 0 (Lib.countB s ⟨#[c]⟩) s).map (·.data.toList)).map mkS := by
    rw [List.map_map]
    exact List.map_congr_left fun x _ => (mkS_data x).symm
  rw [e, h]
def restS (c : UInt8) (s : ByteArray) (f i : Nat) : List SStr := (preH ((s.data.toList.take i).drop f) (pieces c (s.data.toList.drop i))).map mkS
theorem ext_eq (s : ByteArray) (f i : Nat) : (⟨s.extract f i⟩ : SStr) = mkS ((s.data.toList.take i).drop f) := by
  rw [← mkS_data, Lib.extract_data, List.drop_take]
theorem restS_zero (c : UInt8) (s : ByteArray) : restS c s 0 0 = pieceS c s := by
  unfold restS pieceS
  rw [List.drop_zero, List.take_zero, List.drop_zero, preH_nil (pieces_ne c _)]
theorem restS_end (c : UInt8) (s : ByteArray) (f i : Nat) (h : i = s.size) : restS c s f i = [⟨s.extract f i⟩] := by
  have hd : s.data.toList.drop i = [] := List.drop_eq_nil_of_le (by rw [h, bsize]; exact Nat.le_refl _)
  unfold restS
  rw [hd, ext_eq]
  simp [pieces, preH]
theorem byteAt_get {s : ByteArray} {i : Nat} (h : i < s.data.toList.length) : byteAt s i = ((s.data.toList[i]).toNat : Int) := by rw [byteAt, List.getD_eq_getElem?_getD, List.getElem?_eq_getElem h]; rfl
theorem restS_hit {c : UInt8} {s : ByteArray} {f i : Nat} (h : i < s.size) (hb : byteAt s i = (c.toNat : Int)) : restS c s f i = ⟨s.extract f i⟩ :: restS c s (i + 1) (i + 1) := by
  have hl : i < s.data.toList.length := by rw [bsize]; exact h
  rw [byteAt_get hl] at hb
  have hc : s.data.toList[i] = c := UInt8.toNat_inj.1 (by omega)
  unfold restS
  rw [List.drop_eq_getElem_cons hl, pieces, if_pos hc, ext_eq]
  have hn : (s.data.toList.take (i + 1)).drop (i + 1) = [] := List.drop_eq_nil_of_le (by rw [List.length_take]; omega)
  rw [hn, preH_nil (pieces_ne c _)]
  simp [preH]
theorem restS_miss {c : UInt8} {s : ByteArray} {f i : Nat} (h : i < s.size) (hf : f ≤ i) (hb : byteAt s i ≠ (c.toNat : Int)) : restS c s f i = restS c s f (i + 1) := by
  have hl : i < s.data.toList.length := by rw [bsize]; exact h
  rw [byteAt_get hl] at hb
  have hc : ¬ s.data.toList[i] = c := fun e => hb (by rw [e])
  unfold restS
  rw [List.drop_eq_getElem_cons hl, pieces, if_neg hc, preH_cons, List.take_succ_eq_append_getElem hl, List.drop_append_of_le_length (by rw [List.length_take]; omega)]
def l10I (c : UInt8) (s : ByteArray) (o : List SStr) (f i : Nat) : Prop := f ≤ i ∧ i ≤ s.size + 1 ∧ o.length ≤ i ∧ ((i ≤ s.size ∧ o ++ restS c s f i = pieceS c s) ∨ (i = s.size + 1 ∧ o = pieceS c s))
theorem l10_start (c : UInt8) (s : ByteArray) : l10I c s [] 0 0 := ⟨Nat.le_refl _, by omega, Nat.le_refl _, .inl ⟨Nat.zero_le _, by rw [List.nil_append, restS_zero]⟩⟩
theorem l10_add {c : UInt8} {s : ByteArray} {o : List SStr} {f i : Nat} (h : l10I c s o f i) (hi : i ≤ s.size) (hb : i = s.size ∨ byteAt s i = (c.toNat : Int)) : l10I c s (o ++ [⟨s.extract f i⟩]) (i + 1) (i + 1) := by
  obtain ⟨h1, h2, h3, h4⟩ := h
  have h4 : o ++ restS c s f i = pieceS c s := by
    rcases h4 with h4 | h4
    · exact h4.2
    · omega
  refine ⟨Nat.le_refl _, by omega, by rw [List.length_append]; simp; omega, ?_⟩
  by_cases he : i = s.size
  · right
    exact ⟨by omega, by rw [← h4, restS_end c s f i he]⟩
  · left
    have hb : byteAt s i = (c.toNat : Int) := hb.resolve_left he
    exact ⟨by omega, by rw [← h4, restS_hit (by omega) hb, List.append_assoc]; rfl⟩
theorem l10_pass {c : UInt8} {s : ByteArray} {o : List SStr} {f i : Nat} (h : l10I c s o f i) (hi : i < s.size) (hb : byteAt s i ≠ (c.toNat : Int)) : l10I c s o f (i + 1) := by
  obtain ⟨h1, h2, h3, h4⟩ := h
  have h4 : o ++ restS c s f i = pieceS c s := by
    rcases h4 with h4 | h4
    · exact h4.2
    · omega
  exact ⟨by omega, by omega, by omega, .inl ⟨by omega, by rw [← h4, restS_miss hi h1 hb]⟩⟩
theorem l10_done {c : UInt8} {s : ByteArray} {o : List SStr} {f i : Nat} (h : l10I c s o f i) (hi : ¬ i ≤ s.size) : o = pieceS c s := by
  rcases h.2.2.2 with h4 | h4
  · omega
  · exact h4.2
theorem own_take {w : World} : ∀ {vs : List Value} {ds : List D} {bs : List Nat}, Own w vs ds bs → ∀ n, ∃ bs', Own w (vs.take n) (ds.take n) bs' ∧ bs'.Sublist bs := by
  intro vs ds bs h
  induction h with
  | nil => intro n; exact ⟨[], by rw [List.take_nil, List.take_nil]; exact .nil, List.Sublist.refl _⟩
  | val h1 _ ih => intro n; cases n with
    | zero => exact ⟨[], .nil, List.nil_sublist _⟩
    | succ n => obtain ⟨b, i1, i2⟩ := ih n; exact ⟨b, .val h1 i1, i2⟩
  | empty h1 h2 h3 _ ih => intro n; cases n with
    | zero => exact ⟨[], .nil, List.nil_sublist _⟩
    | succ n => obtain ⟨b, i1, i2⟩ := ih n; exact ⟨b, .empty h1 h2 h3 i1, i2⟩
  | @sl g cap cs t d vs ds b1 b2 h1 h2 h3 h4 h5 h6 h7 _ _ ih => intro n; cases n with
    | zero => exact ⟨[], .nil, List.nil_sublist _⟩
    | succ n => obtain ⟨b, i1, i2⟩ := ih n; exact ⟨_, .sl h1 h2 h3 h4 h5 h6 h7 i1, List.Sublist.cons_cons _ (List.Sublist.append (List.Sublist.refl _) i2)⟩
theorem cut_own {w : World} {T : TypeId} {v : Value} {d : D} {fp : List Nat} {P : Program} {Ts e z h : Nat} (hT : isSlice P Ts e z = true) (hr : RowOk w T v d fp) (hz : d.z = z) (h1 : h ≤ d.size) {k : IntKind} :
    ∃ v' fp', (Instr.sliceAt Ts v none (some (.int k h)) none).run P w = .ok v' w ∧ RowOk w T v' (d.sub 0 h) fp' ∧ fp'.Sublist fp := by
  obtain ⟨hs, ho, hty⟩ := hr
  cases ho with
  | val hv _ => cases d <;> simp_all [D.val, D.isSl]
  | empty e1 e2 e3 _ =>
    obtain ⟨s1, s2, s3, s4, s5⟩ := D.sub_spec hs e3 (Nat.zero_le h) h1
    have h00 : h = 0 := by omega
    subst h00
    refine ⟨.slice none 0 0, [], ?_, ⟨s1, .empty s1 (by rw [s3]) s2 .nil, fun a n c hv => by injection hv with hv; cases hv⟩, List.nil_sublist _⟩
    rw [run_slice hT w none 0 0 none _ 0 0 (.inl ⟨rfl, rfl⟩) (.inr ⟨k, rfl⟩) (Nat.le_refl _) (Nat.le_refl _) (Nat.le_refl _)]
    rfl
  | @sl g cap cs t d _ _ b1 b2 e1 e2 e3 e4 e5 e6 e7 e8 =>
    cases e8
    obtain ⟨s1, s2, s3, s4, s5⟩ := D.sub_spec hs e6 (Nat.zero_le h) h1
    obtain ⟨b, i1, i2⟩ := own_take e7 (h * z)
    refine ⟨.slice (some ⟨g, 0, none⟩) h cap, g :: (b ++ []), ?_, ⟨s1, ?_, fun a n c hv => ?_⟩, List.Sublist.cons_cons _ (List.Sublist.append i2 (List.Sublist.refl _))⟩
    · rw [run_slice hT w _ d.size cap none _ 0 h (.inl ⟨rfl, rfl⟩) (.inr ⟨k, rfl⟩) (Nat.zero_le _) h1 e3]
      unfold sliced
      simp [Addr.add]
    · have hfl : (d.sub 0 h).flat = d.flat.take (h * z) := by rw [s5, hz]; simp
      have := Own.sl (w := w) (g := g) (cap := cap) (cs := cs) (t := t) (d := d.sub 0 h) (b1 := b) (b2 := []) (vs := []) (ds := []) s1 e2 (by rw [s3]; omega) e4 (by rw [s4]; exact e5) s2 (by
        rw [hfl, List.length_take]
        rw [List.take_take] at i1
        exact i1) .nil
      rw [s3] at this
      exact this
    · injection hv with hv _ _
      injection hv with hv
      subst hv
      exact hty _ _ _ rfl
theorem Step.cut_row {P : Program} {C : Ctx} {o : Oper} {E : Env} {t : Nat} {T e z : Nat} {T' : TypeId} {x y : Operand} {k : IntKind} {i : Int} {r : Nat} {d d' : D} (ho : o.op = .slice T x none (some y) none) (hd : o.dst = some t) (ht : t < C.n) (hT : isSlice P T e z = true) (hx : E.ev x = .one (.row r [])) (hr : E.row r = some (T', d)) (hz : d.z = z)
    (hy : E.ev y = .one (.d (.int k i))) (h0 : 0 ≤ i) (h1 : i.toNat ≤ d.size) (hd' : d.sub 0 i.toNat = d') (hpin : ∀ x ∈ C.pin, x.1 ≠ r) :
    Step P C o E ({ E.mapc (PC.kill r) with rows := (r, (T', d')) :: E.rows }.set t (.one (.row r []))) :=
  .change hd ht fun M a w R => by
    have hxo := ev_ok R x
    rw [hx] at hxo
    have hxv := hxo T' d hr
    simp only [PathTo] at hxv
    obtain ⟨hrow, hnd, hfp⟩ := R.rows r T' d hr
    obtain ⟨v', fp', q1, q2, q3⟩ := cut_own (k := k) hT hrow hz h1
    rw [hd'] at q2
    refine ⟨v', w, _, ?_, R.upd (f := PC.kill r) hr R.fr (Nat.le_refl _) (fun _ _ _ => rfl) q2 (hnd.sublist q3) (fun j hj => .inr ⟨r, hfp j (q3.subset hj), .inl rfl⟩) (fun x hx e => absurd e (hpin x hx)) (fun c => ?_), fun T2 d2 _ => ?_⟩
    · unfold execOp
      rw [ho]
      have hyv : a.eval y = .int k (i.toNat : Int) := by rw [ev_val R hy rfl, Int.toNat_of_nonneg h0]
      simp only [Option.map_none, Option.map_some, hxv, hyv, Sem.run_bind, q1, Result.andThen, Sem.run_pure]
    · rcases PC.kill_ok r c with h | ⟨h, h'⟩
      · exact .inl h
      · exact .inr ⟨h, .inl h'⟩
    · simp only [PathTo]
      simp
def lineS (s : ByteArray) : List SStr := if (((pieceS 10 s).getD (((pieceS 10 s).length : Int) - 1).toNat default).f0.toList == ByteArray.empty.toList) = true then (pieceS 10 s).take (((pieceS 10 s).length : Int) - 1).toNat else pieceS 10 s
theorem lineS_cnt (s : ByteArray) : cntL SStr.ce (lineS s) ≤ s.size + 1 := by
  rw [cntS_len]
  have := pieceS_len 10 s
  unfold lineS
  split
  · rw [List.length_take]; omega
  · omega
theorem lineS_len (s : ByteArray) : (lineS s).length ≤ s.size + 1 := by
  have := lineS_cnt s
  rw [cntS_len] at this
  omega
def Vtab_ (w : World) : Prop := ∃ m, w.cell? ⟨0, 0, none⟩ = some (.int .i64 m)
theorem hkept_ : Kept_ Vtab_ := by
  intro w w' ⟨m, h⟩ hk
  refine ⟨m, ?_⟩
  unfold World.cell? at *
  rw [hk 0 (by
    by_cases hlt : 0 < w.heap.size
    · exact hlt
    · rw [Array.getElem?_eq_none (by omega)] at h; exact absurd h (by simp))]
  exact h
def ex_laysM146_ren : Go.Shelf.Ren := ⟨fun | 146 => 25 | 221 => 35 | 268 => 38 | 138 => 39 | 143 => 40 | 195 => 44 | 197 => 45 | 218 => 46 | 219 => 47 | 260 => 57 | 217 => 58 | 225 => 59 | 224 => 60 | 267 => 61 | 266 => 70 | 314 => 71 | n => n, fun | 9 => 9 | 31 => 28 | 3 => 3 | 4 => 4 | 0 => 0 | 105 => 57 | 21 => 21 | 5 => 5 | 46 => 73 | 119 => 85 | 139 => 88 | 138 => 87 | 146 => 89 | 51 => 82 | n => n, fun | 1 => 0 | 3 => 4 | 4 => 5 | n => n⟩
theorem ex_laysM146 : Go.Proofs.LaysM.n146 Tryd.prog ex_laysM146_ren := {
  mixed := by kernel_rfl
  f138 := Tryd.func39.trans (congrArg some (by kernel_rfl))
  f143 := Tryd.func40.trans (congrArg some (by kernel_rfl))
  f146 := Tryd.func25.trans (congrArg some (by kernel_rfl))
  f195 := Tryd.func44.trans (congrArg some (by kernel_rfl))
  f197 := Tryd.func45.trans (congrArg some (by kernel_rfl))
  f217 := Tryd.func58.trans (congrArg some (by kernel_rfl))
  f218 := Tryd.func46.trans (congrArg some (by kernel_rfl))
  f219 := Tryd.func47.trans (congrArg some (by kernel_rfl))
  f221 := Tryd.func35.trans (congrArg some (by kernel_rfl))
  f224 := Tryd.func60.trans (congrArg some (by kernel_rfl))
  f225 := Tryd.func59.trans (congrArg some (by kernel_rfl))
  f260 := Tryd.func57.trans (congrArg some (by kernel_rfl))
  f266 := Tryd.func70.trans (congrArg some (by kernel_rfl))
  f267 := Tryd.func61.trans (congrArg some (by kernel_rfl))
  f268 := Tryd.func38.trans (congrArg some (by kernel_rfl))
  f314 := Tryd.func71.trans (congrArg some (by kernel_rfl))
  t0 := Tryd.underlying0
  a0 := Tryd.isAgg0
  z0 := Tryd.sizeOf0
  v0 := Tryd.zeroValue0
  t3 := Tryd.underlying3
  a3 := Tryd.isAgg3
  z3 := Tryd.sizeOf3
  v3 := Tryd.zeroValue3
  t4 := Tryd.underlying4
  a4 := Tryd.isAgg4
  z4 := Tryd.sizeOf4
  v4 := Tryd.zeroValue4
  t5 := Tryd.underlying5
  a5 := Tryd.isAgg5
  z5 := Tryd.sizeOf5
  v5 := Tryd.zeroValue5
  t9 := Tryd.underlying9
  a9 := Tryd.isAgg9
  z9 := Tryd.sizeOf9
  v9 := Tryd.zeroValue9
  t21 := Tryd.underlying21
  a21 := Tryd.isAgg21
  z21 := Tryd.sizeOf21
  v21 := Tryd.zeroValue21
  t31 := Tryd.underlying28
  a31 := Tryd.isAgg28
  z31 := Tryd.sizeOf28
  v31 := Tryd.zeroValue28
  t46 := Tryd.underlying73
  a46 := Tryd.isAgg73
  z46 := Tryd.sizeOf73
  v46 := Tryd.zeroValue73
  t51 := Tryd.underlying82
  a51 := Tryd.isAgg82
  z51 := Tryd.sizeOf82
  v51 := Tryd.zeroValue82
  t105 := Tryd.underlying57
  a105 := Tryd.isAgg57
  z105 := Tryd.sizeOf57
  v105 := Tryd.zeroValue57
  t119 := Tryd.underlying85
  a119 := Tryd.isAgg85
  z119 := Tryd.sizeOf85
  t138 := Tryd.underlying87
  a138 := Tryd.isAgg87
  z138 := Tryd.sizeOf87
  v138 := Tryd.zeroValue87
  t139 := Tryd.underlying88
  a139 := Tryd.isAgg88
  z139 := Tryd.sizeOf88
  v139 := Tryd.zeroValue88
  t146 := Tryd.underlying89
  a146 := Tryd.isAgg89
  z146 := Tryd.sizeOf89
  v146 := Tryd.zeroValue89
  g1 := by kernel_rfl
  g3 := by kernel_rfl
  g4 := by kernel_rfl
  i0 := by kernel_rfl
  i3 := by kernel_rfl
  i4 := by kernel_rfl
  i5 := by kernel_rfl
  i9 := by kernel_rfl
  i21 := by kernel_rfl
  i31 := by kernel_rfl
  i46 := by kernel_rfl
  i51 := by kernel_rfl
  i105 := by kernel_rfl
  i138 := by kernel_rfl
  i139 := by kernel_rfl
  i146 := by kernel_rfl
  m1 := by kernel_rfl
  s1_3 := fun w h => Go.Proofs.cell_of_shapedOpen_int (zero := #[.int .i64 0]) (t := 3) h (of_decide_eq_true (by kernel_rfl)) (by kernel_rfl) rfl (by kernel_rfl) (by kernel_rfl) Tryd.underlying3
  m3 := by kernel_rfl
  m4 := by kernel_rfl }
def sepC (s : ByteArray) : UInt8 := s.data.toList.headD 0
theorem own_strs (w : World) : ∀ L : List ByteArray, Own w (L.map Value.string) ((L.map SStr.mk).map SStr.cells).flatten []
  | [] => .nil
  | s :: L => .val rfl (own_strs w L)
theorem ok_strings_Split (s sep : ByteArray) (h0_ : s.size ≤ 1048576) (h1_ : sep.size = 1) (w : World) (hv_ : Vtab_ w) : ROw Tryd.prog 25 [.one (.str s), .one (.str sep)] [(false, [.own 9 (.sl 1 ((pieceS (sepC sep) s).map SStr.cells))])] w := by
  intro Z vals hz ha
  have hstr : ∀ v (s : ByteArray), AOk' w Z v (.one (.str s)) → v = .string s := fun v s hv => by
    cases hv with
    | val h1 h2 => injection h1 with h1; exact h1.symm
    | sl h1 _ _ _ _ _ _ _ => cases h1
  obtain ⟨v1, v2, rfl, hv1, hv2⟩ : ∃ v1 v2, vals = [v1, v2] ∧ AOk' w Z v1 (.one (.str s)) ∧ AOk' w Z v2 (.one (.str sep)) := by
    cases ha with
    | cons h1 h2 => cases h2 with
      | cons h3 h4 => cases h4; exact ⟨_, _, rfl, h1, h3⟩
  have e1 := hstr _ _ hv1
  have e2 := hstr _ _ hv2
  subst e1; subst e2
  obtain ⟨c, rfl⟩ := Lib.one_byte sep h1_
  obtain ⟨m, hm⟩ := hv_
  refine (Any.strings_Split { ex_laysM146 with } ex_laysM146.i9 s ⟨#[c]⟩ m w (by omega) hm (by omega)).mono fun e w' hr => ?_
  obtain ⟨he, hw⟩ := hr
  subst he; subst hw
  have hps : pieceS (sepC ⟨#[c]⟩) s = (Lib.splitB ⟨#[c]⟩ 0 (Lib.countB s ⟨#[c]⟩) s).map SStr.mk := (splitB_pieceS c s).symm
  have hlen : (Lib.splitB ⟨#[c]⟩ 0 (Lib.countB s ⟨#[c]⟩) s).length = Lib.countB s ⟨#[c]⟩ + 1 := Lib.splitB_all ⟨#[c]⟩ (Nat.le_of_eq h1_.symm) 0 _ s rfl
  have hle := pieceS_len (sepC ⟨#[c]⟩) s
  rw [hps] at hle ⊢
  rw [List.length_map, hlen] at hle
  generalize Lib.splitB ⟨#[c]⟩ 0 (Lib.countB s ⟨#[c]⟩) s = L at hlen hle ⊢
  rw [← hlen] at hle ⊢
  have hsz : (D.sl 1 ((L.map SStr.mk).map SStr.cells)).size = L.length := by simp [D.size]
  have hget : (w.alloc (.cells (L.map Value.string).toArray 9)).heap[w.heap.size]? = some (.cells (L.map Value.string).toArray 9 (0, 0)) := heap_last w _
  have hfl : (D.sl 1 ((L.map SStr.mk).map SStr.cells)).flat.length = L.length := by
    rw [D.flat_length (wf_map SStr.len _) rfl, hsz]; simp [D.z]
  refine ⟨(Below.refl _ _).alloc (Nat.le_refl _) _, [.slice (some ⟨w.heap.size, 0, none⟩) L.length L.length], [(false, [.slice (some ⟨w.heap.size, 0, none⟩) L.length L.length])], fun k => if k = w.heap.size then .row 0 else .none, rfl, fun k hk => ?_, .cons rfl .nil, rfl, ?_⟩
  · by_cases h : k = w.heap.size
    · subst h; exact ⟨Nat.le_refl _, by show w.heap.size < (w.heap.push _).size; rw [Array.size_push]; omega⟩
    · exact absurd (if_neg h) hk
  refine ⟨⟨[w.heap.size], ⟨rfl, ?_, ?_⟩, by simp, fun k hk => ?_⟩, trivial⟩
  · have := Own.sl (w := w.alloc (.cells (L.map Value.string).toArray 9)) (g := w.heap.size) (cap := L.length) (cs := (L.map Value.string).toArray) (t := 9) (d := .sl 1 ((L.map SStr.mk).map SStr.cells)) (b1 := []) (b2 := []) (vs := []) (ds := []) rfl hget (by rw [hsz]; exact Nat.le_refl _) (by omega) (by simp [D.z]) (wf_map SStr.len _) (by rw [hfl, List.take_of_length_le (by simp)]; exact own_strs _ L) .nil
    rw [hsz] at this
    exact this
  · intro a n c' hv
    injection hv with h1 h2 h3
    injection h1 with h1
    subst h1
    exact ⟨_, _, hget⟩
  · show (if k = w.heap.size then Tag.row 0 else Tag.none) = _
    rw [if_pos (by simpa using hk)]
theorem ok_laws_eqStringS (a : List SStr) (b : List SStr) : RO Tryd.prog 12 [.one (.sl 1 (a.map SStr.cells)), .one (.sl 1 (b.map SStr.cells))] [(false, [.rd (.bool (decide (a = b)))])] := by
 refine RO.intro Tryd.func12 rfl 26 rfl (le_ok rfl) fun w Z => ?_
 refine T.bnd 0 0 rfl rfl fun hb_0_0 => ?_
 simp only [D.size, List.length_map] at hb_0_0
 refine T.bnd 1 0 rfl rfl fun hb_1_0 => ?_
 simp only [D.size, List.length_map] at hb_1_0
 refine T.seq ?_
 refine T.region ?_
 refine TL.as (pB false) ?_
 refine TL.nil ?_
 refine T.seq ?_
 refine T.seq ?_
 refine T.region ?_
 refine TL.mv (.one (.d (.sl 1 (a.map SStr.cells)))) ?_
 refine TL.c (Step.len' (e := 9) (z := 1) (d := (.sl 1 (a.map SStr.cells))) (n := a.length) rfl rfl (lt_ok rfl) (by kernel_rfl) rfl rfl (by simp [D.size])) ?_
 refine TL.mv (.one (.d (.sl 1 (b.map SStr.cells)))) ?_
 refine TL.c (Step.len' (e := 9) (z := 1) (d := (.sl 1 (b.map SStr.cells))) (n := b.length) rfl rfl (lt_ok rfl) (by kernel_rfl) rfl rfl (by simp [D.size])) ?_
 refine TL.b _ (Bin.neq (k := .i64) (a := (a.length : Int)) (b := (b.length : Int))) ?_
 refine TL.nil ?_
 refine T.ci rfl (fun h1 => ?_) (fun h1 => ?_)
 ·
  refine T.seq ?_
  refine T.region ?_
  refine TL.as (pB false) ?_
  refine TL.nil ?_
  refine T.ret ?_
  refine ⟨[(false, [.d (.bool false)])], (.cons rfl .nil), rfl, [], (RetC.r ?_ .nil)⟩ <;> ((congr 1; symm; first | (apply decide_eq_false; rintro rfl; first | exact absurd rfl ‹¬ _ = _› | exact absurd rfl (of_decide_eq_false (by assumption)) | contradiction | simp_all) | (apply decide_eq_true; exact take_all hx2 (by omega) hx3)))
 refine T.skip ?_
 refine T.seq ?_
 refine T.seq ?_
 refine T.region ?_
 refine TL.as (pI 0) ?_
 refine TL.nil ?_
 refine T.block ?_
 refine T.loop (ι := Nat) (fun xx_ => { tm := [(0, (.one (.d (.sl 1 (a.map SStr.cells))))), (1, (.one (.d (.sl 1 (b.map SStr.cells))))), (5, (pI (xx_ : Int)))], rows := [], boxes := [] }) (fun xx_ => xx_ ≤ a.length ∧ a.length = b.length ∧ a.take xx_ = b.take xx_) (fun xx_ => a.length - xx_) 0 ?_ ?_ ?_
 · refine Env.le_mk ⟨rfl, rfl, ?_, trivial⟩ trivial trivial <;> (first | rfl | (simp; done) | (congr 3; omega))
 · (refine ⟨Nat.zero_le _, by omega, by simp⟩)
 intro i hx
 try dsimp only at hx ⊢
 obtain ⟨hx1, hx2, hx3⟩ := hx
 refine T.seq ?_
 refine T.seq ?_
 refine T.region ?_
 refine TL.mv (pI (i : Int)) ?_
 refine TL.mv (.one (.d (.sl 1 (a.map SStr.cells)))) ?_
 refine TL.c (Step.len' (e := 9) (z := 1) (d := (.sl 1 (a.map SStr.cells))) (n := a.length) rfl rfl (lt_ok rfl) (by kernel_rfl) rfl rfl (by simp [D.size])) ?_
 refine TL.b _ (Bin.lss (k := .i64) (a := (i : Int)) (b := (a.length : Int))) ?_
 refine TL.nil ?_
 refine T.ci rfl (fun h2 => ?_) (fun h2 => ?_)
 ·
  refine T.skip ?_
  refine T.seq ?_
  refine T.block ?_
  refine T.seq ?_
  refine T.draw [⟨17, (.one (.d (.sl 1 (a.map SStr.cells)))), []⟩, ⟨18, (pI (i : Int)), []⟩, ⟨19, (.one (.eptr (.sl 1 (a.map SStr.cells)) i 0)), []⟩, ⟨20, (.one (.d (.str (a.getD i default).f0))), []⟩, ⟨21, (.one (.d (.sl 1 (b.map SStr.cells)))), []⟩, ⟨22, (pI (i : Int)), []⟩, ⟨23, (.one (.eptr (.sl 1 (b.map SStr.cells)) i 0)), []⟩, ⟨24, (.one (.d (.str (b.getD i default).f0))), []⟩, ⟨25, (pB (!((a.getD i default).f0.toList == (b.getD i default).f0.toList))), []⟩] (by kernel_rfl) (by kernel_rfl) ?_ ?_
  ·
   refine .cons (fun E A => A.mv 0 17) ?_
   refine .cons (fun E A => A.mv 5 18) ?_
   refine .cons (fun E A => OpStep.plain rfl (Step.index (e := 9) (z := 1) (i := (i : Int)) (t := 19) rfl rfl (by exact lt_ok rfl) (by kernel_rfl) (A.g 17 rfl) rfl rfl (lt_ok rfl) (A.g 18 rfl) (by first | omega | (simp; omega)) (by simp only [D.size]; first | omega | (simp; omega)))) ?_
   refine .cons (fun E A => OpStep.plain rfl (Step.load (e := (.str (a.getD i default).f0)) (t := 20) rfl rfl (by exact lt_ok rfl) (by kernel_rfl) (A.g 19 rfl) ((cell_map default (by first | omega | (simp; omega))).trans rfl))) ?_
   refine .cons (fun E A => A.mv 1 21) ?_
   refine .cons (fun E A => A.mv 5 22) ?_
   refine .cons (fun E A => OpStep.plain rfl (Step.index (e := 9) (z := 1) (i := (i : Int)) (t := 23) rfl rfl (by exact lt_ok rfl) (by kernel_rfl) (A.g 21 rfl) rfl rfl (lt_ok rfl) (A.g 22 rfl) (by first | omega | (simp; omega)) (by simp only [D.size]; first | omega | (simp; omega)))) ?_
   refine .cons (fun E A => OpStep.plain rfl (Step.load (e := (.str (b.getD i default).f0)) (t := 24) rfl rfl (by exact lt_ok rfl) (by kernel_rfl) (A.g 23 rfl) ((cell_map default (by first | omega | (simp; omega))).trans rfl))) ?_
   refine .cons (fun E A => OpStep.plain rfl (Step.bd 25 (A.g 20 rfl) (A.g 24 rfl) Bin.strne)) ?_
   exact .nil _ _
  refine TL.nil ?_
  refine T.cn rfl (fun h3 => ?_) (fun h3 => ?_)
  ·
   refine T.seq ?_
   refine T.region ?_
   refine TL.as (pB false) ?_
   refine TL.nil ?_
   refine T.ret ?_
   refine ⟨[(false, [.d (.bool false)])], (.cons rfl .nil), rfl, [], (RetC.r ?_ .nil)⟩ <;> ((congr 1; symm; first | (apply decide_eq_false; rintro rfl; first | exact absurd rfl ‹¬ _ = _› | exact absurd rfl (of_decide_eq_false (by assumption)) | contradiction | simp_all) | (apply decide_eq_true; exact take_all hx2 (by omega) hx3)))
  refine T.skip ?_
  refine T.region ?_
  refine TL.mv (pI (i : Int)) ?_
  refine TL.c (Step.bin (r := .int .i64 ((i : Int) + 1)) rfl rfl (lt_ok rfl) rfl rfl (Bin.add (a := (i : Int)) (b := 1) (by first | exact wrap_ok (by first | omega | (simp; omega)) (by first | omega | (simp; omega)) | rfl))) ?_
  refine TL.as (pI ((i : Int) + 1)) ?_
  refine TL.nil ?_
  refine ⟨i + 1, by (refine ⟨by omega, hx2, take_step (d := default) hx2 (by omega) hx3 (by first | assumption | exact str_elem (by simp_all; done))⟩), by omega, Env.le_mk ⟨rfl, rfl, ?_, trivial⟩ trivial trivial⟩ <;> (first | rfl | (simp; done) | (congr 3; omega))
 refine T.exit ?_
 refine T.seq ?_
 refine T.region ?_
 refine TL.as (pB true) ?_
 refine TL.nil ?_
 refine T.ret ?_
 refine ⟨[(false, [.d (.bool true)])], (.cons rfl .nil), rfl, [], (RetC.r ?_ .nil)⟩ <;> ((congr 1; symm; first | (apply decide_eq_false; rintro rfl; first | exact absurd rfl ‹¬ _ = _› | exact absurd rfl (of_decide_eq_false (by assumption)) | contradiction | simp_all) | (apply decide_eq_true; exact take_all hx2 (by omega) hx3)))
theorem ok_laws_markText (k : Int) (h0_ : k ≤ 9223372036854775807) : RO Tryd.prog 26 [.one (.int .i64 k)] [(false, [.rd (.str (markT k))])] := by
 refine RO.intro Tryd.func26 rfl 20 rfl (le_ok rfl) fun w Z => ?_
 refine T.seq ?_
 refine T.region ?_
 refine TL.as (.one (.d (.str ByteArray.empty))) ?_
 refine TL.nil ?_
 refine T.seq ?_
 refine T.seq ?_
 refine T.region ?_
 refine TL.mv (pI k) ?_
 refine TL.b _ (Bin.leq (k := .i64) (a := k) (b := 0)) ?_
 refine TL.nil ?_
 refine T.ci rfl (fun h1 => ?_) (fun h1 => ?_)
 ·
  refine T.seq ?_
  refine T.region ?_
  refine TL.as (.one (.d (.str (⟨#[109, 48]⟩ : ByteArray)))) ?_
  refine TL.nil ?_
  refine T.ret ?_
  refine ⟨[(false, [.d (.str (⟨#[109, 48]⟩ : ByteArray))])], (.cons rfl .nil), rfl, [], (RetC.r ?_ .nil)⟩ <;> (first | rfl | (congr 1; unfold markT; rw [if_neg (by omega), ← hx3, mdg_zero (by omega), ByteArray.empty_append]; done) | (congr 1; unfold markT; rw [if_pos (by omega)]; done))
 refine T.skip ?_
 refine T.seq ?_
 refine T.region ?_
 refine TL.as (.one (.d (.str ByteArray.empty))) ?_
 refine TL.nil ?_
 refine T.seq ?_
 refine T.block ?_
 refine T.loop (ι := ByteArray × Int) (fun xx_ => { tm := [(2, (.one (.d (.str ByteArray.empty)))), (3, (.one (.d (.str (xx_.1))))), (0, (pI (xx_.2)))], rows := [], boxes := [] }) (fun xx_ => 0 ≤ (xx_.2) ∧ (xx_.2) ≤ k ∧ mdg (xx_.2) ++ (xx_.1) = mdg k ∧ (xx_.1).size ≤ 19) (fun xx_ => (xx_.2).toNat) (ByteArray.empty, k) ?_ ?_ ?_
 · refine Env.le_mk ⟨rfl, ?_, ?_, trivial⟩ trivial trivial <;> (first | rfl | (simp; done) | (congr 3; omega))
 · (dsimp only; refine ⟨by omega, by omega, ByteArray.append_empty, by rw [ByteArray.size_empty]; omega⟩)
 intro xx_ hx
 obtain ⟨s, m⟩ := xx_
 try dsimp only at hx ⊢
 obtain ⟨hx1, hx2, hx3, hx4⟩ := hx
 refine T.seq ?_
 refine T.seq ?_
 refine T.region ?_
 refine TL.mv (pI m) ?_
 refine TL.b _ (Bin.gtr (k := .i64) (a := m) (b := 0)) ?_
 refine TL.nil ?_
 refine T.ci rfl (fun h2 => ?_) (fun h2 => ?_)
 ·
  refine T.skip ?_
  refine T.block ?_
  refine T.seq ?_
  refine T.region ?_
  refine TL.mv (pI m) ?_
  refine TL.c (Step.bin (r := .int .i64 (m % 10)) rfl rfl (lt_ok rfl) rfl rfl (Bin.rem (k := .i64) (a := m) (b := 10) (by decide) (Int.tmod_eq_emod_of_nonneg (by first | omega | (rw [strOfNums_size]; simp only [List.length_cons, List.length_nil]; omega) | (rw [show (⟨#[109]⟩ : ByteArray).size = 1 from rfl]; omega))))) ?_
  refine TL.c (Step.bin (r := .int .i64 (48 + (m % 10))) rfl rfl (lt_ok rfl) rfl rfl (Bin.add (a := 48) (b := (m % 10)) (by first | exact wrap_ok (by first | omega | (rw [strOfNums_size]; simp only [List.length_cons, List.length_nil]; omega) | (rw [show (⟨#[109]⟩ : ByteArray).size = 1 from rfl]; omega)) (by first | omega | (rw [strOfNums_size]; simp only [List.length_cons, List.length_nil]; omega) | (rw [show (⟨#[109]⟩ : ByteArray).size = 1 from rfl]; omega)) | rfl))) ?_
  refine TL.c (Step.conv (c := (48 + (m % 10))) rfl rfl (lt_ok rfl) (by kernel_rfl) (by kernel_rfl) rfl (wrap_u8 (by first | omega | (rw [strOfNums_size]; simp only [List.length_cons, List.length_nil]; omega) | (rw [show (⟨#[109]⟩ : ByteArray).size = 1 from rfl]; omega)) (by first | omega | (rw [strOfNums_size]; simp only [List.length_cons, List.length_nil]; omega) | (rw [show (⟨#[109]⟩ : ByteArray).size = 1 from rfl]; omega)))) ?_
  refine TL.c (Step.lit (e := 5) (z := 1) (by_ := 1) (xs := [.tmp 11]) (pss := [[.d (.int .u8 (48 + (m % 10)))]]) (es := [(.int .u8 (48 + (m % 10)))]) (ss := []) (d := (.ints .u8 [48 + (m % 10)])) rfl rfl (lt_ok rfl) (by kernel_rfl) rfl rfl (.cons rfl .nil) (by simp) (le_ok rfl) (le_ok rfl) rfl (.val rfl .nil) rfl (by simp) (by simp) rfl trivial rfl rfl) ?_
  refine TL.c (Step.toStr (e := 5) (xs := [48 + (m % 10)]) rfl rfl (lt_ok rfl) (by kernel_rfl) (by kernel_rfl) (by kernel_rfl) rfl rfl) ?_
  refine TL.mv (.one (.d (.str s))) ?_
  refine TL.c (Step.bin rfl rfl (lt_ok rfl) rfl rfl (Bin.stradd (by first | omega | (rw [strOfNums_size]; simp only [List.length_cons, List.length_nil]; omega) | (rw [show (⟨#[109]⟩ : ByteArray).size = 1 from rfl]; omega)))) ?_
  refine TL.as (.one (.d (.str ((strOfNums [48 + (m % 10)]) ++ s)))) ?_
  refine TL.nil ?_
  refine T.region ?_
  refine TL.mv (pI m) ?_
  refine TL.c (Step.bin (r := .int .i64 (m / 10)) rfl rfl (lt_ok rfl) rfl rfl (Bin.quo (k := .i64) (a := m) (b := 10) (by decide) (by rw [Int.tdiv_eq_ediv_of_nonneg (by first | omega | (rw [strOfNums_size]; simp only [List.length_cons, List.length_nil]; omega) | (rw [show (⟨#[109]⟩ : ByteArray).size = 1 from rfl]; omega))]; exact wrap_ok (by first | omega | (rw [strOfNums_size]; simp only [List.length_cons, List.length_nil]; omega) | (rw [show (⟨#[109]⟩ : ByteArray).size = 1 from rfl]; omega)) (by first | omega | (rw [strOfNums_size]; simp only [List.length_cons, List.length_nil]; omega) | (rw [show (⟨#[109]⟩ : ByteArray).size = 1 from rfl]; omega))))) ?_
  refine TL.as (pI (m / 10)) ?_
  refine TL.nil ?_
  refine ⟨((strOfNums [48 + (m % 10)]) ++ s, m / 10), by (dsimp only; have e_ := mdg_next (m := m) (by omega) s; refine ⟨by omega, by omega, e_.trans hx3, ?_⟩; have z_ := congrArg ByteArray.size (e_.trans hx3); simp only [ByteArray.size_append] at z_ ⊢; have := mdg_size63 (n := k) (by omega); omega), by (dsimp only; omega), Env.le_mk ⟨rfl, ?_, ?_, trivial⟩ trivial trivial⟩ <;> (first | rfl | (simp; done) | (congr 3; omega))
 refine T.exit ?_
 refine T.seq ?_
 refine T.region ?_
 refine TL.mv (.one (.d (.str s))) ?_
 refine TL.c (Step.bin rfl rfl (lt_ok rfl) rfl rfl (Bin.stradd (by first | omega | (rw [strOfNums_size]; simp only [List.length_cons, List.length_nil]; omega) | (rw [show (⟨#[109]⟩ : ByteArray).size = 1 from rfl]; omega)))) ?_
 refine TL.as (.one (.d (.str ((⟨#[109]⟩ : ByteArray) ++ s)))) ?_
 refine TL.nil ?_
 refine T.ret ?_
 refine ⟨[(false, [.d (.str ((⟨#[109]⟩ : ByteArray) ++ s))])], (.cons rfl .nil), rfl, [], (RetC.r ?_ .nil)⟩ <;> (first | rfl | (congr 1; unfold markT; rw [if_neg (by omega), ← hx3, mdg_zero (by omega), ByteArray.empty_append]; done) | (congr 1; unfold markT; rw [if_pos (by omega)]; done))
theorem ok_laws_markStringS (a : List SStr) (k : Int) (h0_ : 0 ≤ k) (h1_ : k + cntL SStr.ce a ≤ 4611686018427387904) : MK Tryd.prog 13 [.one (.mk (.sl 1 (a.map SStr.cells)) (.sl 1 ((mkL SStr.ce SStr.me a k).map SStr.cells))), .one (.rd (.int .i64 k))] [(false, [.rd (.int .i64 (k + cntL SStr.ce a))])] := by
 refine MK.intro Tryd.func13 rfl 20 rfl (le_ok rfl) (le_ok rfl) rfl fun w Z IX pin Ts hp => ?_
 refine T.bndRow 900 rfl fun hb_900 => ?_
 simp only [D.size, List.length_map] at hb_900
 refine T.seq ?_
 refine T.region ?_
 refine TL.as (pI 0) ?_
 refine TL.nil ?_
 refine T.seq ?_
 refine T.seq ?_
 refine T.region ?_
 refine TL.as (pI 0) ?_
 refine TL.nil ?_
 refine T.block ?_
 refine T.loop (ι := Nat) (fun xx_ => { tm := [(0, (.one (.row 900 []))), (4, (pI 0)), (5, (pI (xx_ : Int))), (1, (pI (k + cntL SStr.ce (a.take xx_))))], rows := [(900, ((Ts 0), (.sl 1 (((upTo SStr.ce SStr.me a k xx_).set xx_ (a.getD xx_ default)).map SStr.cells))))], boxes := [] }) (fun xx_ => xx_ ≤ a.length) (fun xx_ => a.length - xx_) 0 ?_ ?_ ?_
 · refine Env.le_mk ⟨rfl, rfl, ?_, ?_, trivial⟩ ⟨?_, trivial⟩ trivial <;> (first | exact congrArg (fun x => some (Ts 0, D.sl 1 (List.map SStr.cells x))) (upTo_next (df := default) (by omega) rfl) | exact congrArg (fun x => some (Ts 0, D.sl 1 (List.map SStr.cells x))) (upTo_first a k default) | rfl | (refine congrArg (fun n => PV.one (.d (.int .i64 n))) ?_; first | omega | (simp; done) | (simp [cntL]; done)))
 · exact Nat.zero_le _
 intro i hx
 try dsimp only at hx ⊢
 refine T.seq ?_
 refine T.seq ?_
 refine T.region ?_
 refine TL.mv (pI (i : Int)) ?_
 refine TL.mv (.one (.row 900 [])) ?_
 refine TL.c (Step.len' (e := 9) (z := 1) (d := (.sl 1 (((upTo SStr.ce SStr.me a k i).set i (a.getD i default)).map SStr.cells))) (n := a.length) rfl rfl (lt_ok rfl) (by kernel_rfl) rfl rfl (by simp [D.size, upTo_length])) ?_
 refine TL.b _ (Bin.lss (k := .i64) (a := (i : Int)) (b := (a.length : Int))) ?_
 refine TL.nil ?_
 refine T.ci rfl (fun h1 => ?_) (fun h1 => ?_)
 ·
  have hc1 := cntL_take_le (cnt := SStr.ce) SStr.ce_nn a (i + 1)
  have hc2 := cntL_take_succ (cnt := SStr.ce) (i := i) default (show i < a.length by omega)
  have hc3 := cntL_nonneg (cnt := SStr.ce) SStr.ce_nn (a.take i)
  have hc4 : SStr.ce (a.getD i default) = 1 := rfl
  refine T.skip ?_
  refine T.seq ?_
  refine T.block ?_
  refine T.seq ?_
  refine T.region ?_
  refine TL.mv (.one (.row 900 [])) ?_
  refine TL.mv (pI (i : Int)) ?_
  refine TL.mv (pI (k + cntL SStr.ce (a.take i))) ?_
  refine TL.c (Step.call (f := 26) (xs := [.tmp 14]) (ps := [(pI (k + cntL SStr.ce (a.take i)))]) false (g := .func 26) rfl rfl (lt_ok rfl) rfl (by kernel_rfl) rfl (.cons (.one (.d _)) .nil) (ok_laws_markText (k + cntL SStr.ce (a.take i)) (by omega)) (.inr rfl) rfl (fun x hx => (hp x hx).2) rfl) ?_
  refine TL.c (Step.index_row (d := (.sl 1 (((upTo SStr.ce SStr.me a k i).set i (a.getD i default)).map SStr.cells))) (e := 9) (z := 1) (i := (i : Int)) rfl rfl (lt_ok rfl) (by kernel_rfl) rfl rfl rfl rfl (lt_ok rfl) rfl (by first | omega | (simp; omega)) (by simp only [D.at_, D.cell, D.size, List.length_set, List.length_map, upTo_length]; first | omega | (simp; omega))) ?_
  refine TL.c (Step.store_row (n := 1) (p := (.one (.d (.str (markT (k + cntL SStr.ce (a.take i))))))) (ps := [.d (.str (markT (k + cntL SStr.ce (a.take i))))]) (es := [(.str (markT (k + cntL SStr.ce (a.take i))))]) (ss := []) (d1 := (.sl 1 (((upTo SStr.ce SStr.me a k i).set i (⟨markT (k + cntL SStr.ce (a.take i))⟩ : SStr)).map SStr.cells))) (d' := (.sl 1 (((upTo SStr.ce SStr.me a k i).set i (⟨markT (k + cntL SStr.ce (a.take i))⟩ : SStr)).map SStr.cells))) rfl rfl (by kernel_rfl) rfl rfl rfl rfl rfl rfl (.val rfl .nil) (by simp) (Putd.fld2 SStr.len (by simp only [upTo_length]; first | omega | (simp; omega)) (lt_ok rfl) rfl) rfl) ?_
  refine TL.nil ?_
  refine T.region ?_
  refine TL.mv (pI (k + cntL SStr.ce (a.take i))) ?_
  refine TL.c (Step.bin (r := .int .i64 ((k + cntL SStr.ce (a.take i)) + 1)) rfl rfl (lt_ok rfl) rfl rfl (Bin.add (a := (k + cntL SStr.ce (a.take i))) (b := 1) (by first | exact wrap_ok (by first | omega | (simp; omega)) (by first | omega | (simp; omega)) | rfl))) ?_
  refine TL.as (pI ((k + cntL SStr.ce (a.take i)) + 1)) ?_
  refine TL.nil ?_
  refine T.region ?_
  refine TL.mv (pI (i : Int)) ?_
  refine TL.c (Step.bin (r := .int .i64 ((i : Int) + 1)) rfl rfl (lt_ok rfl) rfl rfl (Bin.add (a := (i : Int)) (b := 1) (by first | exact wrap_ok (by first | omega | (simp; omega)) (by first | omega | (simp; omega)) | rfl))) ?_
  refine TL.as (pI ((i : Int) + 1)) ?_
  refine TL.nil ?_
  refine ⟨i + 1, by omega, by first | omega | (dsimp only; omega), Env.le_mk ⟨rfl, rfl, ?_, ?_, trivial⟩ ⟨?_, trivial⟩ trivial⟩ <;> (first | exact congrArg (fun x => some (Ts 0, D.sl 1 (List.map SStr.cells x))) (upTo_next (df := default) (by omega) rfl) | exact congrArg (fun x => some (Ts 0, D.sl 1 (List.map SStr.cells x))) (upTo_first a k default) | rfl | (refine congrArg (fun n => PV.one (.d (.int .i64 n))) ?_; first | omega | (simp; done) | (simp [cntL]; done)))
 refine T.exit ?_
 refine T.seq ?_
 refine T.region ?_
 refine TL.mv (pI (k + cntL SStr.ce (a.take i))) ?_
 refine TL.as (pI (k + cntL SStr.ce (a.take i))) ?_
 refine TL.nil ?_
 refine T.ret ?_
 refine ⟨⟨⟨[(false, [cI (k + cntL SStr.ce (a.take i))])], (.cons rfl .nil), rfl, [], (RetC.r ?_ .nil)⟩, rfl⟩, (.mk' (by exact congrArg (fun x => some (Ts 0, D.sl 1 (List.map SStr.cells x))) (upTo_end (by omega))) (.rd .nil'))⟩ <;> ((congr 1; rw [cntL_all (by omega)]))
theorem ok_laws_heldStringS (a : List SStr) (b : List SStr) (k : Int) (h0_ : 0 ≤ k) (h1_ : k + cntL SStr.ce a ≤ 4611686018427387904) (h2_ : b = mkL SStr.ce SStr.me a k) : RO Tryd.prog 14 [.one (.sl 1 (b.map SStr.cells)), .one (.int .i64 k)] [(false, [.rd (.int .i64 (k + cntL SStr.ce a))])] := by
 refine RO.intro Tryd.func14 rfl 22 rfl (le_ok rfl) fun w Z => ?_
 refine T.bnd 0 0 rfl rfl fun hb_0_0 => ?_
 simp only [D.size, List.length_map] at hb_0_0
 have hl_ : b.length = a.length := by rw [h2_, mkL_length]
 have hg_ : ∀ i, i < a.length → b.getD i default = SStr.me (a.getD i default) (k + cntL SStr.ce (a.take i)) := fun i hi => by rw [h2_, mkL_getD _ _ _ _ hi]
 refine T.seq ?_
 refine T.region ?_
 refine TL.as (pI 0) ?_
 refine TL.nil ?_
 refine T.seq ?_
 refine T.seq ?_
 refine T.region ?_
 refine TL.as (pI 0) ?_
 refine TL.nil ?_
 refine T.block ?_
 refine T.loop (ι := Nat) (fun xx_ => { tm := [(0, (.one (.d (.sl 1 (b.map SStr.cells))))), (5, (pI (xx_ : Int))), (1, (pI (k + cntL SStr.ce (a.take xx_))))], rows := [], boxes := [] }) (fun xx_ => xx_ ≤ a.length) (fun xx_ => a.length - xx_) 0 ?_ ?_ ?_
 · refine Env.le_mk ⟨rfl, ?_, ?_, trivial⟩ trivial trivial <;> (first | rfl | (refine congrArg (fun n => PV.one (.d (.int .i64 n))) ?_; first | omega | (simp; done) | (simp [cntL]; done)))
 · exact Nat.zero_le _
 intro i hx
 try dsimp only at hx ⊢
 refine T.seq ?_
 refine T.seq ?_
 refine T.region ?_
 refine TL.mv (pI (i : Int)) ?_
 refine TL.mv (.one (.d (.sl 1 (b.map SStr.cells)))) ?_
 refine TL.c (Step.len' (e := 9) (z := 1) (d := (.sl 1 (b.map SStr.cells))) (n := b.length) rfl rfl (lt_ok rfl) (by kernel_rfl) rfl rfl (by simp [D.size])) ?_
 refine TL.b _ (Bin.lss (k := .i64) (a := (i : Int)) (b := (b.length : Int))) ?_
 refine TL.nil ?_
 refine T.ci rfl (fun h1 => ?_) (fun h1 => ?_)
 ·
  have hc1 := cntL_take_le (cnt := SStr.ce) SStr.ce_nn a (i + 1)
  have hc2 := cntL_take_succ (cnt := SStr.ce) (i := i) default (show i < a.length by omega)
  have hc3 := cntL_nonneg (cnt := SStr.ce) SStr.ce_nn (a.take i)
  have he_ := hg_ i (by omega)
  have hc4 : SStr.ce (a.getD i default) = 1 := rfl
  have he0 : (b.getD i default).f0 = markT (k + cntL SStr.ce (a.take i)) := by rw [he_]; rfl
  refine T.skip ?_
  refine T.seq ?_
  refine T.block ?_
  refine T.seq ?_
  refine T.seq ?_
  refine T.draw [⟨12, (.one (.d (.sl 1 (b.map SStr.cells)))), []⟩, ⟨13, (pI (i : Int)), []⟩, ⟨14, (.one (.eptr (.sl 1 (b.map SStr.cells)) i 0)), []⟩, ⟨15, (.one (.d (.str (b.getD i default).f0))), []⟩, ⟨16, (pI (k + cntL SStr.ce (a.take i))), []⟩, ⟨17, (.one (.d (.str (markT (k + cntL SStr.ce (a.take i)))))), []⟩, ⟨18, (pB (!((b.getD i default).f0.toList == (markT (k + cntL SStr.ce (a.take i))).toList))), []⟩] (by kernel_rfl) (by kernel_rfl) ?_ ?_
  ·
   refine .cons (fun E A => A.mv 0 12) ?_
   refine .cons (fun E A => A.mv 5 13) ?_
   refine .cons (fun E A => OpStep.plain rfl (Step.index (e := 9) (z := 1) (i := (i : Int)) (t := 14) rfl rfl (by exact lt_ok rfl) (by kernel_rfl) (A.g 12 rfl) rfl rfl (lt_ok rfl) (A.g 13 rfl) (by first | omega | (simp; omega)) (by simp only [D.size]; first | omega | (simp; omega)))) ?_
   refine .cons (fun E A => OpStep.plain rfl (Step.load (e := (.str (b.getD i default).f0)) (t := 15) rfl rfl (by exact lt_ok rfl) (by kernel_rfl) (A.g 14 rfl) ((cell_map default (by first | omega | (simp; omega))).trans rfl))) ?_
   refine .cons (fun E A => A.mv 1 16) ?_
   refine .cons (fun E A => OpStep.plain rfl (Step.cd (xs := [.tmp 16]) (ps := [(pI (k + cntL SStr.ce (a.take i)))]) (g := .func 26) false 17 (evs_cons (A.g 16 rfl) (rfl)) (.cons (.one (.d _)) .nil) (ok_laws_markText (k + cntL SStr.ce (a.take i)) (by omega)) (At.freshRows A rfl))) ?_
   refine .cons (fun E A => OpStep.plain rfl (Step.bd 18 (A.g 15 rfl) (A.g 17 rfl) Bin.strne)) ?_
   exact .nil _ _
  refine TL.nil ?_
  refine T.cn rfl (fun h2 => ?_) (fun h2 => ?_)
  ·
   refine T.seq ?_
   refine T.region ?_
   refine TL.as (pI (-1)) ?_
   refine TL.nil ?_
   refine T.ret ?_
   refine ⟨[(false, [cI (-1)])], (.cons rfl .nil), rfl, [], (RetC.r ?_ .nil)⟩ <;> (first | (congr 1; rw [cntL_all (by omega)]) | (exfalso; omega) | (exfalso; have he2_ := congrArg SStr.f0 (hg_ i (by omega)); simp only [SStr.me] at he2_; simp_all; done))
  refine T.skip ?_
  refine T.region ?_
  refine TL.mv (pI (k + cntL SStr.ce (a.take i))) ?_
  refine TL.c (Step.bin (r := .int .i64 ((k + cntL SStr.ce (a.take i)) + 1)) rfl rfl (lt_ok rfl) rfl rfl (Bin.add (a := (k + cntL SStr.ce (a.take i))) (b := 1) (by first | exact wrap_ok (by first | omega | (simp; omega)) (by first | omega | (simp; omega)) | rfl))) ?_
  refine TL.as (pI ((k + cntL SStr.ce (a.take i)) + 1)) ?_
  refine TL.nil ?_
  refine T.region ?_
  refine TL.mv (pI (i : Int)) ?_
  refine TL.c (Step.bin (r := .int .i64 ((i : Int) + 1)) rfl rfl (lt_ok rfl) rfl rfl (Bin.add (a := (i : Int)) (b := 1) (by first | exact wrap_ok (by first | omega | (simp; omega)) (by first | omega | (simp; omega)) | rfl))) ?_
  refine TL.as (pI ((i : Int) + 1)) ?_
  refine TL.nil ?_
  refine ⟨i + 1, by omega, by first | omega | (dsimp only; omega), Env.le_mk ⟨rfl, ?_, ?_, trivial⟩ trivial trivial⟩ <;> (first | rfl | (refine congrArg (fun n => PV.one (.d (.int .i64 n))) ?_; first | omega | (simp; done) | (simp [cntL]; done)))
 refine T.exit ?_
 refine T.seq ?_
 refine T.region ?_
 refine TL.mv (pI (k + cntL SStr.ce (a.take i))) ?_
 refine TL.as (pI (k + cntL SStr.ce (a.take i))) ?_
 refine TL.nil ?_
 refine T.ret ?_
 refine ⟨[(false, [cI (k + cntL SStr.ce (a.take i))])], (.cons rfl .nil), rfl, [], (RetC.r ?_ .nil)⟩ <;> (first | (congr 1; rw [cntL_all (by omega)]) | (exfalso; omega) | (exfalso; have he2_ := congrArg SStr.f0 (hg_ i (by omega)); simp only [SStr.me] at he2_; simp_all; done))
theorem ok_spec_l10Split (s : ByteArray) (by_ : Int) (h0_ : s.size ≤ 1048576) (h1_ : 0 ≤ by_ ∧ by_ ≤ 255) : RO Tryd.prog 24 [.one (.str s), .one (.int .u8 by_)] [(false, [.own 9 (.sl 1 ((pieceS (UInt8.ofNat (Int.toNat by_)) s).map SStr.cells))])] := by
 refine RO.intro Tryd.func24 rfl 36 rfl (le_ok rfl) fun w Z => ?_
 have hc_ : ((UInt8.ofNat (Int.toNat by_)).toNat : Int) = by_ := by rw [UInt8.toNat_ofNat_of_lt' (by show Int.toNat by_ < 256; omega)]; omega
 refine T.seq ?_
 refine T.region ?_
 refine TL.as (.one (.nil)) ?_
 refine TL.nil ?_
 refine T.seq ?_
 refine T.region ?_
 refine TL.c (Step.lit (e := 9) (z := 1) (by_ := 16) (xs := []) (pss := []) (es := []) (ss := []) (d := (.sl 1 [])) rfl rfl (lt_ok rfl) (by kernel_rfl) rfl rfl .nil (by simp) (le_ok rfl) (le_ok rfl) rfl .nil rfl (by simp) (by simp) rfl (D.wf_nil _) rfl rfl) ?_
 refine TL.as (.one (.row 8 [])) ?_
 refine TL.nil ?_
 refine T.seq ?_
 refine T.region ?_
 refine TL.as (pI 0) ?_
 refine TL.nil ?_
 refine T.seq ?_
 refine T.seq ?_
 refine T.region ?_
 refine TL.as (pI 0) ?_
 refine TL.nil ?_
 refine T.block ?_
 refine T.loop (ι := (List SStr) × Nat × Nat) (fun xx_ => { tm := [(0, (.one (.d (.str s)))), (1, (.one (.d (.int .u8 by_)))), (4, (.one (.nil))), (5, (.one (.row 8 []))), (6, (pI ((xx_.2.1) : Int))), (7, (pI ((xx_.2.2) : Int)))], rows := [(8, (9, (.sl 1 ((xx_.1).map SStr.cells))))], boxes := [] }) (fun xx_ => l10I (UInt8.ofNat (Int.toNat by_)) s (xx_.1) (xx_.2.1) (xx_.2.2)) (fun xx_ => s.size + 1 - (xx_.2.2)) ([], 0, 0) ?_ ?_ ?_
 · refine Env.le_mk ⟨rfl, rfl, rfl, rfl, ?_, ?_, trivial⟩ ⟨?_, trivial⟩ trivial <;> (first | rfl | (simp; done) | (congr 3; omega))
 · exact l10_start _ _
 intro xx_ hx
 obtain ⟨o, f, i⟩ := xx_
 try dsimp only at hx ⊢
 have hx1 := hx.1
 have hx2 := hx.2.1
 have hx3 := hx.2.2.1
 refine T.seq ?_
 refine T.seq ?_
 refine T.region ?_
 refine TL.mv (pI (i : Int)) ?_
 refine TL.mv (.one (.d (.str s))) ?_
 refine TL.c (Step.len_str rfl rfl (lt_ok rfl) (by kernel_rfl) rfl) ?_
 refine TL.b _ (Bin.leq (k := .i64) (a := (i : Int)) (b := (s.size : Int))) ?_
 refine TL.nil ?_
 refine T.ci rfl (fun h1 => ?_) (fun h1 => ?_)
 ·
  refine T.skip ?_
  refine T.seq ?_
  refine T.block ?_
  refine T.seq ?_
  refine T.region ?_
  refine TL.mv (pI (i : Int)) ?_
  refine TL.mv (.one (.d (.str s))) ?_
  refine TL.c (Step.len_str rfl rfl (lt_ok rfl) (by kernel_rfl) rfl) ?_
  refine TL.b _ (Bin.eql (k := .i64) (a := (i : Int)) (b := (s.size : Int))) ?_
  refine TL.mv (pB (decide ((i : Int) = (s.size : Int)))) ?_
  rcases Bool.eq_false_or_eq_true (decide ((i : Int) = (s.size : Int))) with hb2 | hb2
  ·
   refine TL.known 19 hb2 rfl ?_
   refine TL.gf 19 ?_
   refine TL.gf 19 ?_
   refine TL.gf 19 ?_
   refine TL.gf 19 ?_
   refine TL.gf 19 ?_
   refine TL.pk true (pB true) ?_
   refine TL.nil ?_
   refine T.ct ?_
   refine T.seq ?_
   refine T.region ?_
   refine TL.mv (.one (.row 8 [])) ?_
   refine TL.mv (.one (.d (.str s))) ?_
   refine TL.mv (pI (f : Int)) ?_
   refine TL.mv (pI (i : Int)) ?_
   refine TL.c (Step.slice_str (i := (f : Int)) (j := (i : Int)) rfl rfl (lt_ok rfl) (by kernel_rfl) rfl rfl rfl (by first | omega | (simp; omega)) (by first | omega | (simp; omega)) (by first | omega | (simp; omega))) ?_
   refine TL.c (Step.lit (e := 9) (z := 1) (by_ := 16) (xs := [.tmp 30]) (pss := [[.d (.str (s.extract f i))]]) (es := [(.str (s.extract f i))]) (ss := []) (d := (.sl 1 ([(⟨s.extract f i⟩ : SStr)].map SStr.cells))) rfl rfl (lt_ok rfl) (by kernel_rfl) rfl rfl (.cons rfl .nil) (by simp) (le_ok rfl) (le_ok rfl) rfl (.val rfl .nil) rfl (by simp) (by simp) rfl (wf_map SStr.len _) rfl rfl) ?_
   refine TL.c (Step.append (e := 9) (z := 1) (by_ := 16) (r := 8) (d := (.sl 1 (o.map SStr.cells))) (dy := (.sl 1 ([(⟨s.extract f i⟩ : SStr)].map SStr.cells))) (d' := (.sl 1 ((o ++ [(⟨s.extract f i⟩ : SStr)]).map SStr.cells))) (ss := [31]) rfl rfl (lt_ok rfl) (by kernel_rfl) rfl rfl rfl (lt_ok rfl) rfl (.move rfl) (by simp) app_sl (by simp only [D.size, List.length_map]; first | omega | (simp only [List.length_append, List.length_cons, List.length_nil]; omega) | (simp; omega) | (simp only [List.length_append] at *; omega)) (by simp only [D.size, List.length_map]; first | omega | (simp only [List.length_append, List.length_cons, List.length_nil]; omega) | (simp; omega) | (simp only [List.length_append] at *; omega)) (by simp)) ?_
   refine TL.as (.one (.row 8 [])) ?_
   refine TL.nil ?_
   refine T.region ?_
   refine TL.mv (pI (i : Int)) ?_
   refine TL.c (Step.bin (r := .int .i64 ((i : Int) + 1)) rfl rfl (lt_ok rfl) rfl rfl (Bin.add (a := (i : Int)) (b := 1) (by first | exact wrap_ok (by first | omega | (simp; omega)) (by first | omega | (simp; omega)) | rfl))) ?_
   refine TL.as (pI ((i : Int) + 1)) ?_
   refine TL.nil ?_
   refine T.region ?_
   refine TL.mv (pI (i : Int)) ?_
   refine TL.c (Step.bin (r := .int .i64 ((i : Int) + 1)) rfl rfl (lt_ok rfl) rfl rfl (Bin.add (a := (i : Int)) (b := 1) (by first | exact wrap_ok (by first | omega | (simp; omega)) (by first | omega | (simp; omega)) | rfl))) ?_
   refine TL.as (pI ((i : Int) + 1)) ?_
   refine TL.nil ?_
   refine ⟨(o ++ [(⟨s.extract f i⟩ : SStr)], i + 1, i + 1), by (try dsimp only; try simp only [decide_eq_true_eq, decide_eq_false_iff_not] at *; first | exact l10_add hx (by omega) (by omega) | exact l10_pass hx (by omega) (by omega)), by (dsimp only; omega), Env.le_mk ⟨rfl, rfl, rfl, rfl, ?_, ?_, trivial⟩ ⟨?_, trivial⟩ trivial⟩ <;> (first | rfl | (simp; done) | (congr 3; omega))
  refine TL.known 19 hb2 rfl ?_
  refine TL.gm 19 (.one (.d (.str s))) ?_
  refine TL.gm 19 (pI (i : Int)) ?_
  refine TL.gy 19 (Step.index_str (c := (byteAt s i)) rfl rfl (lt_ok rfl) (by kernel_rfl) rfl rfl (by first | omega | (simp; omega)) (byteAt_eq (by try simp only [decide_eq_true_eq, decide_eq_false_iff_not] at *; omega))) ?_
  refine TL.gm 19 (.one (.d (.int .u8 by_))) ?_
  refine TL.gy 19 (Step.bin rfl rfl (lt_ok rfl) rfl rfl (Bin.eql (k := .u8) (a := (byteAt s i)) (b := by_))) ?_
  refine TL.pk false (pB (decide ((byteAt s i) = by_))) ?_
  refine TL.nil ?_
  refine T.ci rfl (fun h3 => ?_) (fun h3 => ?_)
  ·
   refine T.seq ?_
   refine T.region ?_
   refine TL.mv (.one (.row 8 [])) ?_
   refine TL.mv (.one (.d (.str s))) ?_
   refine TL.mv (pI (f : Int)) ?_
   refine TL.mv (pI (i : Int)) ?_
   refine TL.c (Step.slice_str (i := (f : Int)) (j := (i : Int)) rfl rfl (lt_ok rfl) (by kernel_rfl) rfl rfl rfl (by first | omega | (simp; omega)) (by first | omega | (simp; omega)) (by first | omega | (simp; omega))) ?_
   refine TL.c (Step.lit (e := 9) (z := 1) (by_ := 16) (xs := [.tmp 30]) (pss := [[.d (.str (s.extract f i))]]) (es := [(.str (s.extract f i))]) (ss := []) (d := (.sl 1 ([(⟨s.extract f i⟩ : SStr)].map SStr.cells))) rfl rfl (lt_ok rfl) (by kernel_rfl) rfl rfl (.cons rfl .nil) (by simp) (le_ok rfl) (le_ok rfl) rfl (.val rfl .nil) rfl (by simp) (by simp) rfl (wf_map SStr.len _) rfl rfl) ?_
   refine TL.c (Step.append (e := 9) (z := 1) (by_ := 16) (r := 8) (d := (.sl 1 (o.map SStr.cells))) (dy := (.sl 1 ([(⟨s.extract f i⟩ : SStr)].map SStr.cells))) (d' := (.sl 1 ((o ++ [(⟨s.extract f i⟩ : SStr)]).map SStr.cells))) (ss := [31]) rfl rfl (lt_ok rfl) (by kernel_rfl) rfl rfl rfl (lt_ok rfl) rfl (.move rfl) (by simp) app_sl (by simp only [D.size, List.length_map]; first | omega | (simp only [List.length_append, List.length_cons, List.length_nil]; omega) | (simp; omega) | (simp only [List.length_append] at *; omega)) (by simp only [D.size, List.length_map]; first | omega | (simp only [List.length_append, List.length_cons, List.length_nil]; omega) | (simp; omega) | (simp only [List.length_append] at *; omega)) (by simp)) ?_
   refine TL.as (.one (.row 8 [])) ?_
   refine TL.nil ?_
   refine T.region ?_
   refine TL.mv (pI (i : Int)) ?_
   refine TL.c (Step.bin (r := .int .i64 ((i : Int) + 1)) rfl rfl (lt_ok rfl) rfl rfl (Bin.add (a := (i : Int)) (b := 1) (by first | exact wrap_ok (by first | omega | (simp; omega)) (by first | omega | (simp; omega)) | rfl))) ?_
   refine TL.as (pI ((i : Int) + 1)) ?_
   refine TL.nil ?_
   refine T.region ?_
   refine TL.mv (pI (i : Int)) ?_
   refine TL.c (Step.bin (r := .int .i64 ((i : Int) + 1)) rfl rfl (lt_ok rfl) rfl rfl (Bin.add (a := (i : Int)) (b := 1) (by first | exact wrap_ok (by first | omega | (simp; omega)) (by first | omega | (simp; omega)) | rfl))) ?_
   refine TL.as (pI ((i : Int) + 1)) ?_
   refine TL.nil ?_
   refine ⟨(o ++ [(⟨s.extract f i⟩ : SStr)], i + 1, i + 1), by (try dsimp only; try simp only [decide_eq_true_eq, decide_eq_false_iff_not] at *; first | exact l10_add hx (by omega) (by omega) | exact l10_pass hx (by omega) (by omega)), by (dsimp only; omega), Env.le_mk ⟨rfl, rfl, rfl, rfl, ?_, ?_, trivial⟩ ⟨?_, trivial⟩ trivial⟩ <;> (first | rfl | (simp; done) | (congr 3; omega))
  refine T.skip ?_
  refine T.region ?_
  refine TL.mv (pI (i : Int)) ?_
  refine TL.c (Step.bin (r := .int .i64 ((i : Int) + 1)) rfl rfl (lt_ok rfl) rfl rfl (Bin.add (a := (i : Int)) (b := 1) (by first | exact wrap_ok (by first | omega | (simp; omega)) (by first | omega | (simp; omega)) | rfl))) ?_
  refine TL.as (pI ((i : Int) + 1)) ?_
  refine TL.nil ?_
  refine ⟨(o, f, i + 1), by (try dsimp only; try simp only [decide_eq_true_eq, decide_eq_false_iff_not] at *; first | exact l10_add hx (by omega) (by omega) | exact l10_pass hx (by omega) (by omega)), by (dsimp only; omega), Env.le_mk ⟨rfl, rfl, rfl, rfl, rfl, ?_, trivial⟩ ⟨rfl, trivial⟩ trivial⟩ <;> (first | rfl | (simp; done) | (congr 3; omega))
 refine T.exit ?_
 refine T.seq ?_
 refine T.region ?_
 refine TL.mv (.one (.row 8 [])) ?_
 refine TL.as (.one (.row 8 [])) ?_
 refine TL.nil ?_
 refine T.ret ?_
 refine ⟨[(false, [.row 8 []])], (.cons rfl .nil), rfl, [8], (RetC.o ?_ .nil)⟩ <;> (first | rfl | (congr 2; exact l10_done hx (by omega)) | exact congrArg (fun x => some (9, D.sl 1 (List.map SStr.cells x))) (l10_done hx (by omega)))
theorem ok_spec_Lines (s : ByteArray) (h0_ : s.size ≤ 1048576) : RO Tryd.prog 15 [.one (.str s)] [(false, [.own 9 (.sl 1 ((lineS s).map SStr.cells))])] := by
 refine RO.intro Tryd.func15 rfl 19 rfl (le_ok rfl) fun w Z => ?_
 refine T.seq ?_
 refine T.region ?_
 refine TL.as (.one (.nil)) ?_
 refine TL.nil ?_
 refine T.seq ?_
 refine T.region ?_
 refine TL.mv (.one (.d (.str s))) ?_
 have nn1 := pieceS_len (UInt8.ofNat (Int.toNat 10)) s
 have nn2_p := pieceS_pos (UInt8.ofNat (Int.toNat 10)) s
 refine TL.c (Step.cl (xs := [.tmp 4, .const (.int .u8 10)]) (ps := [(.one (.d (.str s))), (.one (.d (.int .u8 10)))]) (g := .func 24) false (.cons (.one (.d _)) (.cons (.one (.d _)) .nil)) (ok_spec_l10Split s 10 (by first | assumption | omega) (by omega))) ?_
 refine TL.as (.one (.row 1005 [])) ?_
 refine TL.nil ?_
 refine T.seq ?_
 refine T.seq ?_
 refine T.region ?_
 refine TL.mv (.one (.row 1005 [])) ?_
 refine TL.mv (.one (.row 1005 [])) ?_
 refine TL.c (Step.len' (e := 9) (z := 1) (d := (.sl 1 ((pieceS (UInt8.ofNat (Int.toNat 10)) s).map SStr.cells))) (n := (pieceS (UInt8.ofNat (Int.toNat 10)) s).length) rfl rfl (lt_ok rfl) (by kernel_rfl) rfl rfl (by simp [D.size])) ?_
 refine TL.c (Step.bin (r := .int .i64 (((pieceS (UInt8.ofNat (Int.toNat 10)) s).length : Int) - 1)) rfl rfl (lt_ok rfl) rfl rfl (Bin.sub (a := ((pieceS (UInt8.ofNat (Int.toNat 10)) s).length : Int)) (b := 1) (by first | exact wrap_ok (by first | omega | (simp; omega)) (by first | omega | (simp; omega)) | rfl))) ?_
 refine TL.c (Step.index_row (e := 9) (z := 1) (i := (((pieceS (UInt8.ofNat (Int.toNat 10)) s).length : Int) - 1)) rfl rfl (lt_ok rfl) (by kernel_rfl) rfl rfl rfl rfl (lt_ok rfl) rfl (by first | omega | (simp; omega)) (by simp only [D.at_, D.cell, D.size]; first | omega | (simp; omega))) ?_
 refine TL.c (Step.load_row (c := .d (.str ((pieceS (UInt8.ofNat (Int.toNat 10)) s).getD (((pieceS (UInt8.ofNat (Int.toNat 10)) s).length : Int) - 1).toNat default).f0)) rfl rfl (lt_ok rfl) (by kernel_rfl) rfl rfl (ofRow_d ((cell_map default (by first | omega | (simp; omega))).trans rfl) rfl)) ?_
 refine TL.c (Step.bin rfl rfl (lt_ok rfl) rfl rfl Bin.streq) ?_
 refine TL.nil ?_
 refine T.cond (b := ((pieceS (UInt8.ofNat (Int.toNat 10)) s).getD (((pieceS (UInt8.ofNat (Int.toNat 10)) s).length : Int) - 1).toNat default).f0.toList == ByteArray.empty.toList) rfl (fun h3 => ?_) (fun h3 => ?_)
 ·
  refine T.region ?_
  refine TL.mv (.one (.row 1005 [])) ?_
  refine TL.mv (.one (.row 1005 [])) ?_
  refine TL.c (Step.len' (e := 9) (z := 1) (d := (.sl 1 ((pieceS (UInt8.ofNat (Int.toNat 10)) s).map SStr.cells))) (n := (pieceS (UInt8.ofNat (Int.toNat 10)) s).length) rfl rfl (lt_ok rfl) (by kernel_rfl) rfl rfl (by simp [D.size])) ?_
  refine TL.c (Step.bin (r := .int .i64 (((pieceS (UInt8.ofNat (Int.toNat 10)) s).length : Int) - 1)) rfl rfl (lt_ok rfl) rfl rfl (Bin.sub (a := ((pieceS (UInt8.ofNat (Int.toNat 10)) s).length : Int)) (b := 1) (by first | exact wrap_ok (by first | omega | (simp; omega)) (by first | omega | (simp; omega)) | rfl))) ?_
  refine TL.c (Step.cut_row (e := 9) (z := 1) (i := (((pieceS (UInt8.ofNat (Int.toNat 10)) s).length : Int) - 1)) (r := 1005) (d := (.sl 1 ((pieceS (UInt8.ofNat (Int.toNat 10)) s).map SStr.cells))) (d' := (.sl 1 (((pieceS (UInt8.ofNat (Int.toNat 10)) s).take (((pieceS (UInt8.ofNat (Int.toNat 10)) s).length : Int) - 1).toNat).map SStr.cells))) rfl rfl (lt_ok rfl) (by kernel_rfl) rfl rfl rfl rfl (by first | omega | (simp; omega)) (by simp only [D.size, List.length_map]; first | omega | (simp; omega)) (by simp only [D.sub, List.drop_zero, Nat.sub_zero, List.map_take]) (by simp)) ?_
  refine TL.as (.one (.row 1005 [])) ?_
  refine TL.nil ?_
  refine T.seq ?_
  refine T.region ?_
  refine TL.mv (.one (.row 1005 [])) ?_
  refine TL.as (.one (.row 1005 [])) ?_
  refine TL.nil ?_
  refine T.ret ?_
  refine ⟨[(false, [.row 1005 []])], (.cons rfl .nil), rfl, [1005], (RetC.o ?_ .nil)⟩ <;> (first | rfl | (refine congrArg (fun x => D.sl 1 (List.map SStr.cells x)) ?_; unfold lineS; first | (rw [if_pos (by assumption)]; rfl) | (exact (if_neg (fun e_ => Bool.false_ne_true (Eq.trans (Eq.symm (by assumption)) e_))).symm)))
 refine T.skip ?_
 refine T.seq ?_
 refine T.region ?_
 refine TL.mv (.one (.row 1005 [])) ?_
 refine TL.as (.one (.row 1005 [])) ?_
 refine TL.nil ?_
 refine T.ret ?_
 refine ⟨[(false, [.row 1005 []])], (.cons rfl .nil), rfl, [1005], (RetC.o ?_ .nil)⟩ <;> (first | rfl | (refine congrArg (fun x => D.sl 1 (List.map SStr.cells x)) ?_; unfold lineS; first | (rw [if_pos (by assumption)]; rfl) | (exact (if_neg (fun e_ => Bool.false_ne_true (Eq.trans (Eq.symm (by assumption)) e_))).symm)))
theorem ok_impl_Lines (s : ByteArray) (h0_ : s.size ≤ 1048576) (w : World) (hv_ : Vtab_ w) : ROw Tryd.prog 16 [.one (.str s)] [(false, [.own 9 (.sl 1 ((lineS s).map SStr.cells))])] w := by
 refine ROw.intro Tryd.func16 rfl 19 w rfl (le_ok rfl) fun Z => ?_
 have hvs_ := kept_frame hkept_ hv_ Z 19
 refine T.seq ?_
 refine T.region ?_
 refine TL.as (.one (.nil)) ?_
 refine TL.nil ?_
 refine T.seq ?_
 refine T.region ?_
 refine TL.mv (.one (.d (.str s))) ?_
 have nn1 := pieceS_len (sepC (⟨#[10]⟩ : ByteArray)) s
 have nn2_p := pieceS_pos (sepC (⟨#[10]⟩ : ByteArray)) s
 refine TL.c (Step.callW (f := 25) (xs := [.tmp 4, .const (.string (⟨#[10]⟩ : ByteArray))]) (ps := [(.one (.d (.str s))), (.one (.d (.str (⟨#[10]⟩ : ByteArray))))]) false (g := .func 25) rfl rfl (lt_ok rfl) rfl (by kernel_rfl) rfl (.cons (.one (.d _)) (.cons (.one (.d _)) .nil)) (fun w_ hF_ => ok_strings_Split s (⟨#[10]⟩ : ByteArray) (by first | assumption | omega) (by rfl) w_ (hvs_ w_ hF_)) (.inr rfl) rfl (by simp) rfl) ?_
 refine TL.as (.one (.row 1005 [])) ?_
 refine TL.nil ?_
 refine T.seq ?_
 refine T.seq ?_
 refine T.region ?_
 refine TL.mv (.one (.row 1005 [])) ?_
 refine TL.mv (.one (.row 1005 [])) ?_
 refine TL.c (Step.len' (e := 9) (z := 1) (d := (.sl 1 ((pieceS (sepC (⟨#[10]⟩ : ByteArray)) s).map SStr.cells))) (n := (pieceS (sepC (⟨#[10]⟩ : ByteArray)) s).length) rfl rfl (lt_ok rfl) (by kernel_rfl) rfl rfl (by simp [D.size])) ?_
 refine TL.c (Step.bin (r := .int .i64 (((pieceS (sepC (⟨#[10]⟩ : ByteArray)) s).length : Int) - 1)) rfl rfl (lt_ok rfl) rfl rfl (Bin.sub (a := ((pieceS (sepC (⟨#[10]⟩ : ByteArray)) s).length : Int)) (b := 1) (by first | exact wrap_ok (by first | omega | (simp; omega)) (by first | omega | (simp; omega)) | rfl))) ?_
 refine TL.c (Step.index_row (e := 9) (z := 1) (i := (((pieceS (sepC (⟨#[10]⟩ : ByteArray)) s).length : Int) - 1)) rfl rfl (lt_ok rfl) (by kernel_rfl) rfl rfl rfl rfl (lt_ok rfl) rfl (by first | omega | (simp; omega)) (by simp only [D.at_, D.cell, D.size]; first | omega | (simp; omega))) ?_
 refine TL.c (Step.load_row (c := .d (.str ((pieceS (sepC (⟨#[10]⟩ : ByteArray)) s).getD (((pieceS (sepC (⟨#[10]⟩ : ByteArray)) s).length : Int) - 1).toNat default).f0)) rfl rfl (lt_ok rfl) (by kernel_rfl) rfl rfl (ofRow_d ((cell_map default (by first | omega | (simp; omega))).trans rfl) rfl)) ?_
 refine TL.c (Step.bin rfl rfl (lt_ok rfl) rfl rfl Bin.streq) ?_
 refine TL.nil ?_
 refine T.cond (b := ((pieceS (sepC (⟨#[10]⟩ : ByteArray)) s).getD (((pieceS (sepC (⟨#[10]⟩ : ByteArray)) s).length : Int) - 1).toNat default).f0.toList == ByteArray.empty.toList) rfl (fun h3 => ?_) (fun h3 => ?_)
 ·
  refine T.region ?_
  refine TL.mv (.one (.row 1005 [])) ?_
  refine TL.mv (.one (.row 1005 [])) ?_
  refine TL.c (Step.len' (e := 9) (z := 1) (d := (.sl 1 ((pieceS (sepC (⟨#[10]⟩ : ByteArray)) s).map SStr.cells))) (n := (pieceS (sepC (⟨#[10]⟩ : ByteArray)) s).length) rfl rfl (lt_ok rfl) (by kernel_rfl) rfl rfl (by simp [D.size])) ?_
  refine TL.c (Step.bin (r := .int .i64 (((pieceS (sepC (⟨#[10]⟩ : ByteArray)) s).length : Int) - 1)) rfl rfl (lt_ok rfl) rfl rfl (Bin.sub (a := ((pieceS (sepC (⟨#[10]⟩ : ByteArray)) s).length : Int)) (b := 1) (by first | exact wrap_ok (by first | omega | (simp; omega)) (by first | omega | (simp; omega)) | rfl))) ?_
  refine TL.c (Step.cut_row (e := 9) (z := 1) (i := (((pieceS (sepC (⟨#[10]⟩ : ByteArray)) s).length : Int) - 1)) (r := 1005) (d := (.sl 1 ((pieceS (sepC (⟨#[10]⟩ : ByteArray)) s).map SStr.cells))) (d' := (.sl 1 (((pieceS (sepC (⟨#[10]⟩ : ByteArray)) s).take (((pieceS (sepC (⟨#[10]⟩ : ByteArray)) s).length : Int) - 1).toNat).map SStr.cells))) rfl rfl (lt_ok rfl) (by kernel_rfl) rfl rfl rfl rfl (by first | omega | (simp; omega)) (by simp only [D.size, List.length_map]; first | omega | (simp; omega)) (by simp only [D.sub, List.drop_zero, Nat.sub_zero, List.map_take]) (by simp)) ?_
  refine TL.as (.one (.row 1005 [])) ?_
  refine TL.nil ?_
  refine T.seq ?_
  refine T.region ?_
  refine TL.mv (.one (.row 1005 [])) ?_
  refine TL.as (.one (.row 1005 [])) ?_
  refine TL.nil ?_
  refine T.ret ?_
  refine ⟨[(false, [.row 1005 []])], (.cons rfl .nil), rfl, [1005], (RetC.o ?_ .nil)⟩ <;> (first | rfl | (refine congrArg (fun x => D.sl 1 (List.map SStr.cells x)) ?_; unfold lineS; first | (rw [if_pos (by assumption)]; rfl) | (exact (if_neg (fun e_ => Bool.false_ne_true (Eq.trans (Eq.symm (by assumption)) e_))).symm)))
 refine T.skip ?_
 refine T.seq ?_
 refine T.region ?_
 refine TL.mv (.one (.row 1005 [])) ?_
 refine TL.as (.one (.row 1005 [])) ?_
 refine TL.nil ?_
 refine T.ret ?_
 refine ⟨[(false, [.row 1005 []])], (.cons rfl .nil), rfl, [1005], (RetC.o ?_ .nil)⟩ <;> (first | rfl | (refine congrArg (fun x => D.sl 1 (List.map SStr.cells x)) ?_; unfold lineS; first | (rw [if_pos (by assumption)]; rfl) | (exact (if_neg (fun e_ => Bool.false_ne_true (Eq.trans (Eq.symm (by assumption)) e_))).symm)))
theorem ok_laws_FnExactLines (aS : ByteArray) (h0_ : aS.size ≤ 9223372036854775807) (w : World) (hv_ : Vtab_ w) : ROw Tryd.prog 5 [.one (.str aS)] [(false, [.rd (.bool true)])] w := by
 refine ROw.intro Tryd.func5 rfl 44 w rfl (le_ok rfl) fun Z => ?_
 have hvs_ := kept_frame hkept_ hv_ Z 44
 refine T.seq ?_
 refine T.region ?_
 refine TL.as (pB false) ?_
 refine TL.nil ?_
 refine T.seq ?_
 refine T.seq ?_
 refine T.region ?_
 refine TL.mv (.one (.d (.str aS))) ?_
 refine TL.c (Step.len_str rfl rfl (lt_ok rfl) (by kernel_rfl) rfl) ?_
 refine TL.b _ (Bin.gtr (k := .i64) (a := (aS.size : Int)) (b := 1048576)) ?_
 refine TL.nil ?_
 refine T.ci rfl (fun h1 => ?_) (fun h1 => ?_)
 ·
  refine T.seq ?_
  refine T.region ?_
  refine TL.as (pB true) ?_
  refine TL.nil ?_
  refine T.ret ?_
  exact ⟨[(false, [.d (.bool true)])], (.cons rfl .nil), rfl, [], (RetC.rd' rfl .nil)⟩
 refine T.skip ?_
 refine T.seq ?_
 refine T.region ?_
 refine TL.mv (.one (.d (.str aS))) ?_
 have nn2 := lineS_len aS
 have nn3_c := lineS_cnt aS
 refine TL.c (Step.cl (xs := [.tmp 11]) (ps := [(.one (.d (.str aS)))]) (g := .func 15) false (.cons (.one (.d _)) .nil) (ok_spec_Lines aS (by first | assumption | omega))) ?_
 refine TL.as (.one (.row 1012 [])) ?_
 refine TL.nil ?_
 refine T.seq ?_
 refine T.region ?_
 refine TL.mv (.one (.d (.str aS))) ?_
 have nn4 := lineS_len aS
 have nn5_c := lineS_cnt aS
 refine TL.c (Step.callW (f := 16) (xs := [.tmp 13]) (ps := [(.one (.d (.str aS)))]) false (g := .func 16) rfl rfl (lt_ok rfl) rfl (by kernel_rfl) rfl (.cons (.one (.d _)) .nil) (fun w_ hF_ => ok_impl_Lines aS (by first | assumption | omega) w_ (hvs_ w_ hF_)) (.inr rfl) rfl (by simp) rfl) ?_
 refine TL.as (.one (.row 1014 [])) ?_
 refine TL.nil ?_
 refine T.seq ?_
 refine T.seq ?_
 refine T.region ?_
 refine TL.mv (.one (.row 1014 [])) ?_
 refine TL.mv (.one (.row 1012 [])) ?_
 refine TL.c (Step.cl (xs := [.tmp 15, .tmp 16]) (ps := [(.one (.row 1014 [])), (.one (.row 1012 []))]) (g := .func 12) false (.cons (.one (.row rfl rfl rfl rfl)) (.cons (.one (.row rfl rfl rfl rfl)) .nil)) (ok_laws_eqStringS (lineS aS) (lineS aS))) ?_
 refine TL.known 17 (c := true) (by simp) rfl ?_
 refine TL.c (Step.not (b := true) rfl rfl (lt_ok rfl) rfl) ?_
 refine TL.nil ?_
 refine T.cf ?_
 refine T.skip ?_
 refine T.seq ?_
 refine T.region ?_
 refine TL.as (pI 1) ?_
 refine TL.nil ?_
 refine T.seq ?_
 refine T.region ?_
 refine TL.mv (.one (.row 1014 [])) ?_
 refine TL.mv (pI 1) ?_
 have nn6 := cntL_nonneg SStr.ce_nn (lineS aS)
 refine TL.c (Step.callM2 (xs := [.tmp 19, .tmp 20]) (ps := [(.one (.row 1014 [])), (pI 1)]) (js := [(1014, (.sl 1 ((mkL SStr.ce SStr.me (lineS aS) 1).map SStr.cells)))]) (g := .func 13) (ok_laws_markStringS (lineS aS) 1 (by omega) (by first | omega | (have := SStr.cL_le (xs := (lineS aS)) (by assumption); omega))) rfl rfl (lt_ok rfl) rfl (by kernel_rfl) rfl rfl (.row (T := 9) (d := (.sl 1 ((lineS aS).map SStr.cells))) (e' := (.sl 1 ((mkL SStr.ce SStr.me (lineS aS) 1).map SStr.cells))) (d' := (.sl 1 ((mkL SStr.ce SStr.me (lineS aS) 1).map SStr.cells))) rfl rfl rfl rfl rfl (by simp [D.size, mkL_length]) rfl rfl (.d .nil)) rfl) ?_
 refine TL.as (pI (1 + cntL SStr.ce (lineS aS))) ?_
 refine TL.nil ?_
 refine T.seq ?_
 refine T.region ?_
 refine TL.as (pI 1) ?_
 refine TL.nil ?_
 refine T.seq ?_
 refine T.region ?_
 refine TL.mv (.one (.row 1014 [])) ?_
 refine TL.mv (pI 1) ?_
 have nn7 := cntL_nonneg SStr.ce_nn (lineS aS)
 refine TL.c (Step.cl (xs := [.tmp 22, .tmp 23]) (ps := [(.one (.row 1014 [])), (pI 1)]) (g := .func 14) false (.cons (.one (.row rfl rfl rfl rfl)) (.cons (.one (.d _)) .nil)) (ok_laws_heldStringS (lineS aS) (mkL SStr.ce SStr.me (lineS aS) 1) 1 (by omega) (by first | omega | (have := SStr.cL_le (xs := (lineS aS)) (by assumption); omega)) (by first | rfl | assumption | (repeat' (first | rfl | apply And.intro))))) ?_
 refine TL.as (pI (1 + cntL SStr.ce (lineS aS))) ?_
 refine TL.nil ?_
 refine T.seq ?_
 refine T.seq ?_
 refine T.region ?_
 refine TL.mv (pI (1 + cntL SStr.ce (lineS aS))) ?_
 refine TL.b _ (Bin.lss (k := .i64) (a := (1 + cntL SStr.ce (lineS aS))) (b := 0)) ?_
 refine TL.known 26 (c := false) (decide_eq_false (by omega)) rfl ?_
 refine TL.nil ?_
 refine T.cf ?_
 refine T.skip ?_
 refine T.seq ?_
 refine T.seq ?_
 refine T.region ?_
 refine TL.mv (pI (1 + cntL SStr.ce (lineS aS))) ?_
 refine TL.mv (pI (1 + cntL SStr.ce (lineS aS))) ?_
 refine TL.b _ (Bin.neq (k := .i64) (a := (1 + cntL SStr.ce (lineS aS))) (b := (1 + cntL SStr.ce (lineS aS)))) ?_
 refine TL.known 29 (c := false) (by simp) rfl ?_
 refine TL.nil ?_
 refine T.cf ?_
 refine T.skip ?_
 refine T.seq ?_
 refine T.region ?_
 refine TL.mv (.one (.d (.str aS))) ?_
 have nn8 := lineS_len aS
 have nn9_c := lineS_cnt aS
 refine TL.c (Step.callW (f := 16) (xs := [.tmp 30]) (ps := [(.one (.d (.str aS)))]) false (g := .func 16) rfl rfl (lt_ok rfl) rfl (by kernel_rfl) rfl (.cons (.one (.d _)) .nil) (fun w_ hF_ => ok_impl_Lines aS (by first | assumption | omega) w_ (hvs_ w_ hF_)) (.inr rfl) rfl (by simp) rfl) ?_
 refine TL.as (.one (.row 1031 [])) ?_
 refine TL.nil ?_
 refine T.seq ?_
 refine T.seq ?_
 refine T.region ?_
 refine TL.mv (.one (.row 1031 [])) ?_
 refine TL.mv (.one (.row 1012 [])) ?_
 refine TL.c (Step.cl (xs := [.tmp 32, .tmp 33]) (ps := [(.one (.row 1031 [])), (.one (.row 1012 []))]) (g := .func 12) false (.cons (.one (.row rfl rfl rfl rfl)) (.cons (.one (.row rfl rfl rfl rfl)) .nil)) (ok_laws_eqStringS (lineS aS) (lineS aS))) ?_
 refine TL.known 34 (c := true) (by simp) rfl ?_
 refine TL.c (Step.not (b := true) rfl rfl (lt_ok rfl) rfl) ?_
 refine TL.nil ?_
 refine T.cf ?_
 refine T.skip ?_
 refine T.seq ?_
 refine T.region ?_
 refine TL.as (pI 1) ?_
 refine TL.nil ?_
 refine T.seq ?_
 refine T.region ?_
 refine TL.mv (.one (.row 1014 [])) ?_
 refine TL.mv (pI 1) ?_
 have nn10 := cntL_nonneg SStr.ce_nn (lineS aS)
 refine TL.c (Step.cl (xs := [.tmp 36, .tmp 37]) (ps := [(.one (.row 1014 [])), (pI 1)]) (g := .func 14) false (.cons (.one (.row rfl rfl rfl rfl)) (.cons (.one (.d _)) .nil)) (ok_laws_heldStringS (lineS aS) (mkL SStr.ce SStr.me (lineS aS) 1) 1 (by omega) (by first | omega | (have := SStr.cL_le (xs := (lineS aS)) (by assumption); omega)) (by first | rfl | assumption | (repeat' (first | rfl | apply And.intro))))) ?_
 refine TL.as (pI (1 + cntL SStr.ce (lineS aS))) ?_
 refine TL.nil ?_
 refine T.seq ?_
 refine T.seq ?_
 refine T.region ?_
 refine TL.mv (pI (1 + cntL SStr.ce (lineS aS))) ?_
 refine TL.b _ (Bin.lss (k := .i64) (a := (1 + cntL SStr.ce (lineS aS))) (b := 0)) ?_
 refine TL.known 40 (c := false) (decide_eq_false (by omega)) rfl ?_
 refine TL.nil ?_
 refine T.cf ?_
 refine T.skip ?_
 refine T.seq ?_
 refine T.seq ?_
 refine T.region ?_
 refine TL.mv (pI (1 + cntL SStr.ce (lineS aS))) ?_
 refine TL.mv (pI (1 + cntL SStr.ce (lineS aS))) ?_
 refine TL.b _ (Bin.neq (k := .i64) (a := (1 + cntL SStr.ce (lineS aS))) (b := (1 + cntL SStr.ce (lineS aS)))) ?_
 refine TL.known 43 (c := false) (by simp) rfl ?_
 refine TL.nil ?_
 refine T.cf ?_
 refine T.skip ?_
 refine T.seq ?_
 refine T.region ?_
 refine TL.as (pB true) ?_
 refine TL.nil ?_
 refine T.ret ?_
 exact ⟨[(false, [.d (.bool true)])], (.cons rfl .nil), rfl, [], (RetC.rd' rfl .nil)⟩
end Go.Proofs.YtppldhkkhadngaaDoor.Rf
