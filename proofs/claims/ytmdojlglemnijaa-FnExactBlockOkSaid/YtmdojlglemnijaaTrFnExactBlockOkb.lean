/- A logic of our own over the kit's 'wp', as much of it as this claim uses. Plain definitions and theorems. -/
import Derived.Test.YtmdojlglemnijaaTrFnExactBlockOka
namespace Go.Proofs.Ytmdojlglemnijaa.Rf
open Go.RowKit
set_option linter.unusedVariables false
set_option linter.unnecessarySimpa false
set_option linter.unusedSimpArgs false
open Go.RowKit Go.ChangeShapes Go.WideShapes Go.ChangeAt
theorem bitsGo_end (b : List Int) {n i : Nat} (h : n ≤ i) : bitsGo b (n - i) i = [] := by rw [show n - i = 0 from by omega]; rfl
theorem onesSum_drop (b : List Int) {i : Nat} (h : i < b.length) : onesSum (b.drop i) = ones (b.getD i 0) + onesSum (b.drop (i + 1)) := by
  rw [drop_cons' (df := 0) h]; rfl
theorem shr_ok {a b : Int} {n : Nat} (h0 : 0 ≤ b) (h : b < n) : a.fdiv (2 ^ (min b.toNat n)) = a / 2 ^ b.toNat := by
  rw [Nat.min_eq_left (by omega)]
  exact Int.fdiv_eq_ediv_of_nonneg _ (Int.le_of_lt (Int.pow_pos (by decide)))
theorem and1_u8 {a : Int} (h0 : 0 ≤ a) (h1 : a ≤ 255) : IntKind.u8.wrap (BitVec.ofInt IntKind.u8.bits a &&& BitVec.ofInt IntKind.u8.bits 1).toNat = a % 2 := by
  have key : ∀ n : Fin 256, IntKind.u8.wrap (BitVec.ofInt IntKind.u8.bits ((n.val : Nat) : Int) &&& BitVec.ofInt IntKind.u8.bits 1).toNat = ((n.val : Nat) : Int) % 2 := by decide +kernel
  have := key ⟨a.toNat, by omega⟩
  rwa [show ((a.toNat : Nat) : Int) = a from by omega] at this
theorem Step.index_str {P : Program} {C : Ctx} {o : Oper} {E : Env} {t : Nat} {T : TypeId} {x y : Operand} {s : ByteArray} {k : IntKind} {i c : Int} (ho : o.op = .index T x y) (hd : o.dst = some t) (ht : t < C.n) (hT : P.underlying T = some .string) (hx : E.ev x = .one (.d (.str s))) (hy : E.ev y = .one (.d (.int k i)))
    (h0 : 0 ≤ i) (hc : (s[i.toNat]?).map (fun b => ((b.toNat : Nat) : Int)) = some c) : Step P C o E (E.set t (.one (.d (.int .u8 c)))) :=
  .value hd ht fun M a w R => by
    refine ⟨.int .u8 c, ?_, ok_val M E w rfl⟩
    unfold execOp
    rw [ho]
    obtain ⟨b, hb, hbc⟩ := Option.map_eq_some_iff.1 hc
    have hrun : (Instr.index T (a.eval x) (a.eval y)).run P w = .ok (.int .u8 c) w := by
      rw [ev_val R hx rfl, ev_val R hy rfl]
      simp only [Instr.index, asIntOf, Sem.run_bind, Sem.run_pure, Result.andThen, run_underlying hT]
      rw [if_pos h0, hb]
      simp only [Sem.run_pure, ← hbc]
    simp only [Sem.run_bind, hrun, Result.andThen, Sem.run_pure]
theorem mem_len {xs : List (List Int)} {q : Nat} (h : ∀ y ∈ xs, y.length ≤ q) (i : Nat) : (xs.getD i []).length ≤ q := by
  rw [List.getD_eq_getElem?_getD]
  cases hx : xs[i]? with
  | none => simp
  | some x => simpa using h x (List.mem_of_getElem? hx)
def PC.ren (r s : Nat) : PC → PC
  | .row x p => .row (if x = r then s else x) p
  | .rptr x p i j => .rptr (if x = r then s else x) p i j
  | c => c
def Env.ren (E : Env) (r s : Nat) : Env := { E.mapc (PC.ren r s) with rows := E.rows.map fun x => (if x.1 = r then s else x.1, x.2) }
theorem ren_row {E : Env} {r s x : Nat} {T : TypeId} {d : D} (hs : lk E.rows s = none) (h : (E.ren r s).row x = some (T, d)) : (x = s ∧ E.row r = some (T, d)) ∨ (x ≠ s ∧ x ≠ r ∧ E.row x = some (T, d)) := by
  have key : ∀ l : List (Nat × (TypeId × D)), lk l s = none → lk (l.map fun x => (if x.1 = r then s else x.1, x.2)) x = some (T, d) → (x = s ∧ lk l r = some (T, d)) ∨ (x ≠ s ∧ x ≠ r ∧ lk l x = some (T, d)) := by
    intro l
    induction l with
    | nil => intro _ h; simp [lk] at h
    | cons y l ih =>
      intro h0 h1
      obtain ⟨k, v⟩ := y
      simp only [lk] at h0
      split at h0
      · cases h0
      · rename_i hk
        simp only [List.map_cons, lk] at h1
        by_cases e : k = r
        · rw [if_pos e] at h1
          by_cases e2 : s = x
          · rw [if_pos e2] at h1
            left
            exact ⟨e2.symm, by simp only [lk]; rw [if_pos e]; exact h1⟩
          · rw [if_neg e2] at h1
            rcases ih h0 h1 with ⟨p, _⟩ | ⟨p, q, t⟩
            · exact absurd p.symm e2
            · right
              exact ⟨p, q, by simp only [lk]; rw [if_neg (fun h => q (h.symm.trans e))]; exact t⟩
        · rw [if_neg e] at h1
          by_cases e2 : k = x
          · rw [if_pos e2] at h1
            right
            refine ⟨fun h => hk (e2.trans h), fun h => e (e2.trans h), ?_⟩
            simp only [lk]; rw [if_pos e2]; exact h1
          · rw [if_neg e2] at h1
            rcases ih h0 h1 with ⟨p, t⟩ | ⟨p, q, t⟩
            · left; exact ⟨p, by simp only [lk]; rw [if_neg e]; exact t⟩
            · right; exact ⟨p, q, by simp only [lk]; rw [if_neg e2]; exact t⟩
  exact key E.rows hs h
open Classical in
theorem RelM.ren {C : Ctx} {M : Maps} {E : Env} {a : Act} {w : World} (R : RelM C M E a w) {r s : Nat} (hf : E.noref' s = true) (hpr : ∀ x ∈ C.pin, x.1 ≠ s) : ∃ M', RelM C M' (E.ren r s) a w := by
  simp only [Env.noref', Bool.and_eq_true, List.all_eq_true, Option.isNone_iff_eq_none] at hf
  obtain ⟨⟨f1, f2⟩, f3⟩ := hf
  refine ⟨{ M with hdl := fun x => if x = s then M.hdl r else M.hdl x, fp := fun x => if x = s then M.fp r else M.fp x, own := fun k => if M.own k = .row r then .row s else M.own k }, ?_⟩
  generalize hM : ({ M with hdl := fun x => if x = s then M.hdl r else M.hdl x, fp := fun x => if x = s then M.fp r else M.fp x, own := fun k => if M.own k = .row r then .row s else M.own k } : Maps) = M'
  have hblk : M'.blk = M.blk := by subst hM; rfl
  have hown : ∀ k, M'.own k = if M.own k = .row r then .row s else M.own k := fun k => by subst hM; rfl
  have hfroz : ∀ k, M.own k = .froz → M'.own k = .froz := fun k h => by rw [hown, if_neg (by rw [h]; simp)]; exact h
  have hbox : ∀ t, (E.ren r s).box t = (E.box t).map fun x => (x.1, x.2.map (PC.ren r s)) := fun t => Env.box_mapc E (PC.ren r s) t
  have hget : ∀ t, (E.ren r s).get t = (E.get t).mapc (PC.ren r s) := fun t => Env.get_mapc E (PC.ren r s) rfl t
  have hh : ∀ x, M'.hdl x = if x = s then M.hdl r else M.hdl x := fun x => by subst hM; rfl
  have hp : ∀ x, M'.fp x = if x = s then M.fp r else M.fp x := fun x => by subst hM; rfl
  have hc : ∀ c : PC, c.ment s = false → ∀ v, COk M E w v c → COk M' (E.ren r s) w v (c.ren r s) := fun c hm v h => by
    cases c with
    | d x => exact Rd.keep h (fun _ _ => rfl) hfroz
    | nil => exact h
    | und => trivial
    | ptr b off => simp only [PC.ren, COk] at h ⊢; rw [hblk]; exact h
    | eptr x i j =>
      obtain ⟨ad, cap, h1, h2⟩ := h
      exact ⟨ad, cap, Rd.keep h1 (fun _ _ => rfl) hfroz, h2⟩
    | row x p =>
      have hxs : x ≠ s := by simp only [PC.ment, beq_eq_false_iff_ne] at hm; exact fun e => hm e.symm
      intro T d hT
      by_cases e : x = r
      · simp only [PC.ren, if_pos e] at hT ⊢
        rcases ren_row f3 hT with ⟨_, h2⟩ | ⟨h2, _⟩
        · rw [hh, if_pos rfl]; subst e; exact h T d h2
        · exact absurd rfl h2
      · simp only [PC.ren, if_neg e] at hT ⊢
        rcases ren_row f3 hT with ⟨h1, _⟩ | ⟨_, _, h2⟩
        · exact absurd h1 hxs
        · rw [hh, if_neg hxs]; exact h T d h2
    | rptr x p i j =>
      have hxs : x ≠ s := by simp only [PC.ment, beq_eq_false_iff_ne] at hm; exact fun e => hm e.symm
      intro T d hT
      by_cases e : x = r
      · simp only [PC.ren, if_pos e] at hT ⊢
        rcases ren_row f3 hT with ⟨_, h2⟩ | ⟨h2, _⟩
        · rw [hh, if_pos rfl]; subst e; exact h T d h2
        · exact absurd rfl h2
      · simp only [PC.ren, if_neg e] at hT ⊢
        rcases ren_row f3 hT with ⟨h1, _⟩ | ⟨_, _, h2⟩
        · exact absurd h1 hxs
        · rw [hh, if_neg hxs]; exact h T d h2
  have hall : ∀ (vs : List Value) (ps : List PC), (∀ c ∈ ps, c.ment s = false) → All2 (COk M E w) vs ps → All2 (COk M' (E.ren r s) w) vs (ps.map (PC.ren r s)) := fun vs ps hm h => by
    induction h with
    | nil => exact .nil
    | @cons v c vs ps h1 _ ih => exact .cons (hc c (hm c (by simp)) v h1) (ih fun c' hc' => hm c' (by simp [hc']))
  refine { tn := R.tn, df := R.df, fr := R.fr, ba := R.ba, lt := ?_, z0 := fun k hk => hfroz k (R.z0 k hk), zb := ?_, wr := ?_, tm := ?_, rows := ?_, boxes := ?_, pin := ?_, bpin := ?_ }
  · intro k hk
    refine R.lt k fun h => hk ?_
    rw [hown, if_neg (by rw [h]; simp)]; exact h
  · intro k hk
    refine R.zb k ?_
    rw [hown] at hk
    split at hk
    · cases hk
    · exact hk
  · intro k hk hk'
    refine R.wr k (fun h => hk ?_) (fun h => hk' (hfroz k h))
    rw [hown, if_neg (by rw [h]; simp)]; exact h
  · intro t
    rw [hget]
    have h := R.tm t
    have hm : ∀ c ∈ (E.get t).cells, c.ment s = false := fun c hcm => by
      rcases Env.get_mem hcm with rfl | ⟨x, hx, hcx⟩
      · rfl
      · simpa using f1 x hx c hcx
    generalize E.get t = p at h hm
    cases p with
    | one c => exact hc c (hm c (by simp [PV.cells])) _ h
    | agg cs => obtain ⟨arr, e, h⟩ := h; exact ⟨arr, e, hall _ _ (fun c hcm => hm c (by simpa [PV.cells] using hcm)) h⟩
    | tup vs =>
      obtain ⟨arr, e, h⟩ := h
      refine ⟨arr, e, ?_⟩
      clear e
      generalize arr.toList = l at h
      show All2 _ l (vs.map _)
      have hm' : ∀ y ∈ vs, ∀ c ∈ y.2, c.ment s = false := fun y hy c hcy => hm c (by simp only [PV.cells, List.mem_flatMap]; exact ⟨y, hy, hcy⟩)
      clear hm
      induction h with
      | nil => exact .nil
      | @cons v y l vs h1 _ ih =>
        refine .cons ?_ (ih fun y' hy' => hm' y' (by simp [hy']))
        have hy := hm' y (by simp)
        obtain ⟨b, cs⟩ := y
        match b, cs, h1, hy with
        | true, cs, ⟨arr', e', h'⟩, hy => exact ⟨arr', e', hall _ _ hy h'⟩
        | false, [c], h', hy => exact hc c (hy c (by simp)) _ h'
  · intro x T d hx
    rcases ren_row f3 hx with ⟨rfl, h2⟩ | ⟨h1, h3, h2⟩
    · obtain ⟨k1, k2, k3⟩ := R.rows r T d h2
      rw [hh, hp, if_pos rfl, if_pos rfl]
      exact ⟨k1, k2, fun k hk => by rw [hown, if_pos (k3 k hk)]⟩
    · obtain ⟨k1, k2, k3⟩ := R.rows x T d h2
      rw [hh, hp, if_neg h1, if_neg h1]
      exact ⟨k1, k2, fun k hk => by rw [hown, if_neg (by rw [k3 k hk]; intro h; injection h with h; exact h3 h)]; exact k3 k hk⟩
  · intro b T ps' hb
    rw [hbox] at hb
    obtain ⟨⟨T2, ps⟩, h1, h2⟩ := Option.map_eq_some_iff.1 hb
    injection h2 with e1 e2
    subst e1 e2
    obtain ⟨k1, cs, k2, k3⟩ := R.boxes b _ ps h1
    rw [hblk]
    exact ⟨by rw [hown, if_neg (by rw [k1]; simp)]; exact k1, cs, k2, hall _ _ (fun c hcm => by simpa using f2 (b, _, ps) (lk_mem h1) c hcm) k3⟩
  · intro x v hxv T d hx
    rcases ren_row f3 hx with ⟨rfl, _⟩ | ⟨h1, _, h2⟩
    · exact absurd rfl (hpr (x, v) hxv)
    · rw [hh, if_neg h1]; exact R.pin x v hxv T d h2
  · intro b v hpb hn T ps hb
    rw [hbox] at hb
    obtain ⟨⟨T2, ps2⟩, h1, _⟩ := Option.map_eq_some_iff.1 hb
    rw [hblk]
    exact R.bpin b v hpb hn T2 ps2 h1
theorem TL.ren {P : Program} {C : Ctx} {ops : Array Oper} {l : List Oper} {E : Env} {Q : Env → Prop} (r s : Nat) (hf : E.noref' s = true) (hpr : ∀ x ∈ C.pin, x.1 ≠ s) (h : TL P C ops l (E.ren r s) Q) : TL P C ops l E Q := fun a w ⟨M, R⟩ => by
  obtain ⟨M', R'⟩ := R.ren (r := r) hf hpr
  exact h a w ⟨M', R'⟩
theorem undef_tup {M : Maps} {E : Env} {w : World} : POk M E w undef (.tup []) := ⟨#[], rfl, .nil⟩
theorem OpStep.off {P : Program} {C : Ctx} {ops : Array Oper} {o : Oper} {E : Env} {j t u : Nat} {want b : Bool} (hg : o.guard = some (j, want)) (hj : (ops[j]?).bind (·.dst) = some t) (ht : t < C.n) (hb : E.get t = .one (.d (.bool b))) (hne : b ≠ want) (hd : o.dst = some u) (hu : u < C.n) : OpStep P C ops o E (E.set u (.tup [])) := fun a w R K Q hK => by
  rw [if_neg (by simp [Region.wanted, hg, guard_val R hj ht hb, hne])]
  obtain ⟨M, R0⟩ := R
  refine hK _ _ ⟨M, ?_⟩
  rw [hd]
  exact R0.put hu undef_tup
theorem TL.goff {P : Program} {C : Ctx} {ops : Array Oper} {o : Oper} {l : List Oper} {E : Env} {Q : Env → Prop} {j u : Nat} {want b : Bool} (t : Nat) (hg : o.guard = some (j, want)) (hj : (ops[j]?).bind (·.dst) = some t) (ht : t < C.n) (hb : E.get t = .one (.d (.bool b))) (hne : (b == want) = false) (hd : o.dst = some u) (hu : u < C.n) (h : TL P C ops l (E.set u (.tup [])) Q) : TL P C ops (o :: l) E Q := by
  intro a w R QQ hQ
  refine wpList_step fun K hK => ?_
  have hv := guard_val R hj ht hb
  have hne' : ¬ b = want := by simpa using hne
  rw [if_neg (by simp [Region.wanted, hg, hv, hne'])]
  obtain ⟨M, R0⟩ := R
  refine hK _ _ (h _ _ ⟨M, ?_⟩ QQ hQ)
  rw [hd]
  exact R0.put hu undef_tup
def isArr (P : Program) (T e n z : Nat) : Bool := (match P.underlying T with
  | some (.array n' e') => n' == n && e' == e
  | _ => false) && (P.info? e).map (·.size) == some z
theorem isArr_spec {P : Program} {T e n z : Nat} (h : isArr P T e n z = true) : P.underlying T = some (.array n e) ∧ (P.info? e).map (·.size) = some z := by
  unfold isArr at h
  simp only [Bool.and_eq_true, beq_iff_eq] at h
  obtain ⟨h1, h2⟩ := h
  refine ⟨?_, h2⟩
  split at h1
  · rename_i n' e' he; simp at h1; obtain ⟨rfl, rfl⟩ := h1; exact he
  · exact absurd h1 (by simp)
theorem Step.allocArr {P : Program} {C : Ctx} {o : Oper} {E : Env} {t : Nat} {T : TypeId} {zs : List Value} {zd : List D} {d : D} (ho : o.op = .alloc T) (hd : o.dst = some t) (ht : t < C.n)
    (hz : zeroCells P T = some zs) (hzd : ZeroOk zs zd) (hfl : d.flat = zd) (hs : d.isSl = true) (hw : d.wf) (h0 : 0 < d.size) (h63 : d.size ≤ 9223372036854775807) (hdz : 0 < d.z) (hf : E.noref' t = true) (hpin : ∀ x ∈ C.pin, x.1 ≠ t) :
    Step P C o E ({ E with rows := (t, (T, d)) :: E.rows }.set t (.one (.rptr t [] 0 0))) :=
  .change hd ht fun M a w R => by
    obtain ⟨z, hz1, hz2⟩ := Option.map_eq_some_iff.1 hz
    obtain ⟨i, hi, hiz⟩ := Option.bind_eq_some_iff.1 hz1
    obtain ⟨M', R', hM⟩ := R.newRow (r := t) (e := T) (d := d) (cs := z.cells) (b := []) hf hpin hs hw h63 (by rw [hz2, hfl]; exact hzd.own w) (by simp) (by simp)
    refine ⟨.pointer (some ⟨w.heap.size, 0, none⟩), _, M', ?_, R', fun T2 d2 h2 => ?_⟩
    · unfold execOp
      rw [ho]
      simp [Instr.alloc, zeroValue, typeInfo, hi, hiz, newVar, newRow]
    · have h2 : lk ((t, (T, d)) :: E.rows) t = some (T2, d2) := h2
      simp only [lk, if_true, Option.some.injEq, Prod.mk.injEq] at h2
      obtain ⟨rfl, rfl⟩ := h2
      exact ⟨w.heap.size, d.size, by simp only [PathTo]; exact hM.symm, h0, hdz, by simp⟩
theorem run_indexArr {P : Program} {T e n z : Nat} (hT : isArr P T e n z = true) (w : World) (g : Nat) (k : IntKind) (i : Int) (h0 : 0 ≤ i) (h1 : i < n) : (Instr.indexAt T (.pointer (some ⟨g, 0, none⟩)) (.int k i)).run P w = .ok (.pointer (some ⟨g, i.toNat * z, none⟩)) w := by
  obtain ⟨hu, hz⟩ := isArr_spec hT
  have hsz := run_size hz w
  unfold Instr.indexAt
  simp [asIntOf, run_underlying hu, Instr.sureAddr, hsz, h0, h1, Sem.run_bind, Result.andThen, Addr.add]
  intro h; exact h.symm
theorem Step.index_arr {P : Program} {C : Ctx} {o : Oper} {E : Env} {t : Nat} {T e T' n : TypeId} {z : Nat} {x y : Operand} {r : Nat} {d : D} {k : IntKind} {i : Int} (ho : o.op = .indexAddr T x y) (hd : o.dst = some t) (ht : t < C.n)
    (hT : isArr P T e n z = true) (hx : E.ev x = .one (.rptr r [] 0 0)) (hr : E.row r = some (T', d)) (hn : d.size = n) (hz : d.z = z) (hz0 : 0 < z) (hy : E.ev y = .one (.d (.int k i))) (h0 : 0 ≤ i) (h1 : i < n) :
    Step P C o E (E.set t (.one (.rptr r [] i.toNat 0))) :=
  .value hd ht fun M a w R => by
    have h := ev_ok R x
    rw [hx] at h
    obtain ⟨g, cap, hp, _, _, he⟩ := h T' d hr
    have he : a.eval x = .pointer (some ⟨g, 0, none⟩) := by rw [he]; simp
    refine ⟨.pointer (some ⟨g, i.toNat * z, none⟩), ?_, fun T2 d2 h2 => ?_⟩
    · unfold execOp
      rw [ho]
      simp only [he, ev_val R hy rfl, Sem.run_bind, run_indexArr hT w g k i h0 h1, Result.andThen, Sem.run_pure]
    · rw [hr] at h2
      injection h2 with h2
      injection h2 with _ h2
      subst h2
      exact ⟨g, cap, hp, by simp only [D.at_]; omega, by simp only [D.at_]; omega, by simp only [D.at_]; rw [hz, Nat.add_zero]⟩
theorem Putd.all {k : IntKind} {xs ys : List Int} (h : ys.length = xs.length) : Putd (.ints k xs) 0 0 (ys.map (.int k)) (.ints k ys) := by
  refine ⟨by simp [D.flat, D.z, h], ?_, by simp [D.size, h], rfl, trivial, rfl⟩
  simp [D.flat, D.z, h]
theorem rd_ints {w : World} {Z : Nat → Prop} {k : IntKind} : ∀ (ys : List Int) (cs : List Value), Rd w Z cs (ys.map (.int k)) → cs = ys.map (Value.int k)
  | [], _, h => by cases h; rfl
  | y :: ys, cs, h => by
    cases h with
    | val hv h2 => simp only [D.val, Option.some.injEq] at hv; subst hv; rw [rd_ints ys _ h2]; rfl
    | sl h1 _ _ _ _ _ _ _ => simp [D.isSl] at h1
theorem own_ints (w : World) (k : IntKind) : ∀ ys : List Int, Own w (ys.map (Value.int k)) (ys.map (D.int k)) []
  | [] => .nil
  | y :: ys => .val rfl (own_ints w k ys)
theorem TL.copyArr {P : Program} {C : Ctx} {ops : Array Oper} {o1 o2 o3 : Oper} {l : List Oper} {E : Env} {Q : Env → Prop} {T e n t1 t2 t3 r : Nat} {T' S1 S2 : TypeId} {x y : Operand} {k : IntKind} {xs ys : List Int}
    (g1 : o1.guard = none) (g2 : o2.guard = none) (g3 : o3.guard = none) (ho1 : o1.op = .slice T x none none none) (hd1 : o1.dst = some t1) (ht1 : t1 < C.n) (ho2 : o2.op = .move y) (hd2 : o2.dst = some t2) (ht2 : t2 < C.n)
    (ho3 : o3.op = .call { callee := .builtin .copy, args := #[.tmp t1, .tmp t2], argTypes := #[S1, S2] }) (hd3 : o3.dst = some t3) (ht3 : t3 < C.n) (hT : isArr P T e n 1 = true) (hS : isSlice P S1 e 1 = true) (hne : t1 ≠ t2) (hx : E.ev x = .one (.rptr r [] 0 0)) (hr : E.row r = some (T', .ints k xs)) (hn : xs.length = n)
    (hy : (E.set t1 (.one .und)).ev y = .one (.d (.ints k ys))) (hl : ys.length = xs.length) (hq : 0 < n)
    (h : TL P C ops l (({ ((E.set t1 (.one .und)).set t2 (.one (.d (.ints k ys)))).mapc (PC.killDeep r) with rows := (r, (T', .ints k ys)) :: E.rows } : Env).set t3 (.one .und)) Q) : TL P C ops (o1 :: o2 :: o3 :: l) E Q := by
  intro a w ⟨M, R⟩ QQ hQ
  have hxo := ev_ok R x
  rw [hx] at hxo
  obtain ⟨g, cap, hp, _, _, hev⟩ := hxo T' _ hr
  have hev : a.eval x = .pointer (some ⟨g, 0, none⟩) := by rw [hev]; simp
  obtain ⟨hu, hz⟩ := isArr_spec hT
  have hrun1 : (execOp a.eval o1).run P w = .ok (.value (.slice (some ⟨g, 0, none⟩) n n)) w := by
    unfold execOp
    rw [ho1]
    simp [hev, Instr.sliceAt, run_underlying hu, Instr.sureAddr, Instr.sliceBounds, run_size hz w, Sem.run_bind, Result.andThen]
    exact fun _ => rfl
  have R1 : RelM C M (E.set t1 (.one .und)) (a.put (some t1) (.slice (some ⟨g, 0, none⟩) n n)) w := R.put ht1 trivial
  generalize ha1 : a.put (some t1) (.slice (some ⟨g, 0, none⟩) n n) = a1 at R1
  have hv1 : a1.tmps.getD t1 undef = .slice (some ⟨g, 0, none⟩) n n := by
    rw [← ha1]
    show (a.tmps.setIfInBounds t1 _).getD t1 undef = _
    rw [getD_set, if_pos ⟨rfl, by rw [R.tn]; exact ht1⟩]
  have hyd := ev_d R1 hy
  have R2 : RelM C M ((E.set t1 (.one .und)).set t2 (.one (.d (.ints k ys)))) (a1.put (some t2) (a1.eval y)) w := R1.put ht2 hyd
  generalize ha2 : a1.put (some t2) (a1.eval y) = a2 at R2
  have hv2 : a2.tmps.getD t2 undef = a1.eval y := by
    rw [← ha2]
    show (a1.tmps.setIfInBounds t2 _).getD t2 undef = _
    rw [getD_set, if_pos ⟨rfl, by rw [R1.tn]; exact ht2⟩]
  have hv12 : a2.tmps.getD t1 undef = .slice (some ⟨g, 0, none⟩) n n := by
    rw [← ha2]
    show (a1.tmps.setIfInBounds t2 _).getD t1 undef = _
    rw [getD_set, if_neg (fun h => hne h.1.symm)]
    exact hv1
  obtain ⟨ad, cap2, cs, hc1, _, hc2, hc3, _⟩ := rd_some hyd rfl (by simp only [D.size]; omega)
  have hcs := rd_ints ys cs hc3
  generalize hE2 : ((E.set t1 (.one .und)).set t2 (.one (.d (.ints k ys))) : Env) = E2 at R2 h
  have hr2 : E2.row r = some (T', .ints k xs) := by rw [← hE2]; exact hr
  have hrows : E2.rows = E.rows := by rw [← hE2]; rfl
  obtain ⟨⟨r1, r2, r3⟩, r4, r5⟩ := R2.rows r T' _ hr2
  have hcl : cs.length = n := by rw [hcs, List.length_map, hl, hn]
  obtain ⟨cur, ty, fp', k1, k2, k3, k4, k5, k6⟩ := store_own (q := []) (i := 0) (j := 0) (d1 := .ints k ys) (d' := .ints k ys) r2 r4 hp (own_ints w k ys) (by simp) (by simp) (Putd.all hl) rfl
  simp only [D.at_, D.z, Nat.zero_mul, Nat.zero_add, List.length_map] at k2 k4
  have hrun3 : (execOp a2.eval o3).run P w = .ok (.value (goInt cs.length)) (w.setRow g (cur.toList.take 0 ++ cs ++ cur.toList.drop (0 + cs.length)).toArray) := by
    have hS' := isSlice_spec hS
    have := run_copy_row P w S1 S2 o3.type e g 0 n n ad ys.length cap2 cur ty cs hS'.1 hS'.2 k1 (by rw [hcl, hl, hn]; exact (Nat.min_self n).symm) hc2 (by rw [hcs, List.length_map]; omega) (fun v hv => by rw [hcs] at hv; obtain ⟨q, _, rfl⟩ := List.mem_map.1 hv; rfl)
    unfold execOp
    rw [ho3]
    have e1 : a2.eval (.tmp t1) = .slice (some ⟨g, 0, none⟩) n n := hv12
    have e2 : a2.eval (.tmp t2) = .slice (some ad) ys.length cap2 := hv2.trans hc1
    simp only [resolve, invoke, builtin, Sem.run_bind, Sem.run_pure, Result.andThen, List.map_toArray, List.map_cons, List.map_nil, e1, e2, this]
  simp only [Nat.zero_add] at hrun3
  rw [hcs, List.length_map] at hrun3
  generalize hw' : w.setRow g (cur.toList.take 0 ++ ys.map (Value.int k) ++ cur.toList.drop ys.length).toArray = w' at k4 hrun3
  have hown : M.own g = .row r := r5 g k3
  have hother : ∀ k, k ≠ g → w'.heap[k]? = w.heap[k]? := fun k hk => by rw [← hw']; exact setRow_other w g k _ hk
  have hsame : w'.heap[g]? = some (.cells (cur.toList.take 0 ++ ys.map (Value.int k) ++ cur.toList.drop ys.length).toArray ty (0, 0)) := by rw [← hw']; exact setRow_heap w g cur _ ty (0, 0) k1
  have hfr : Frame_ C w' := ⟨by rw [← hw']; exact R.fr.os, by rw [← hw']; exact R.fr.tape, by rw [← hw']; exact R.fr.output, by rw [← hw', setRow_size]; exact R.fr.size, fun k hk hi => by
    rw [hother k (fun e => by
      subst e
      rcases R.wr k (by rw [hown]; simp) (by rw [hown]; simp) with h | h
      · exact hi h
      · omega)]
    exact R.fr.block k hk hi⟩
  have R3 := R2.upd (f := PC.killDeep r) (w' := w') (v' := M.hdl r) (T' := T') (d' := .ints k ys) (fp' := fp') hr2 hfr (by rw [← hw', setRow_size]; exact Nat.le_refl _) (fun k h0 hs => hother k fun e => by subst e; exact (hs r hown).1 rfl)
    ⟨rfl, k4, fun ad2 nn cc hv => by
      obtain ⟨cs0, fr0, h6⟩ := r3 ad2 nn cc hv
      by_cases e : ad2.block = g
      · rw [e] at h6 ⊢
        rw [k1] at h6
        injection h6 with h6
        injection h6 with e1 e2 e3
        subst e2
        exact ⟨_, _, hsame⟩
      · exact ⟨cs0, fr0, (hother _ e).trans h6⟩⟩ k5 (fun q hq => by
      rcases k6 q hq with h | h
      · exact .inr ⟨r, r5 q h, .inl rfl⟩
      · cases h) (fun y' hy' e => by
      have := R2.pin y'.1 y'.2 hy' T' _ (by rw [e]; exact hr2)
      rw [e] at this
      exact this) (fun c => by
      rcases PC.killDeep_ok r c with h | ⟨h, h'⟩
      · exact .inl h
      · refine .inr ⟨h, ?_⟩
        rcases h' with h' | h'
        · exact .inl h'
        · exact .inr ⟨rfl, hl, rfl, h'⟩)
  rw [hrows] at R3
  refine wpList_plain g1 fun K hK => ?_
  unfold Oper.wp
  rw [hrun1, Oper.upon_value, hd1, ha1]
  refine hK _ _ (wpList_plain g2 fun K hK => ?_)
  have hrun2 : (execOp a1.eval o2).run P w = .ok (.value (a1.eval y)) w := by unfold execOp; rw [ho2]; rfl
  unfold Oper.wp
  rw [hrun2, Oper.upon_value, hd2, ha2]
  refine hK _ _ (wpList_plain g3 fun K hK => ?_)
  unfold Oper.wp
  rw [hrun3, Oper.upon_value, hd3]
  exact hK _ _ (h _ _ ⟨_, R3.put ht3 trivial⟩ QQ hQ)
def placesArr (P : Program) (T : TypeId) : Option (List Value × Nat) :=
  match P.info? T, P.underlying T with
  | some it, some (.array _ e) => match it.zero, P.info? e with
    | some z, some i => some (z.cells.toList, i.size)
    | _, _ => none
  | _, _ => none
theorem Step.buildArr {P : Program} {C : Ctx} {o : Oper} {E : Env} {t : Nat} {T : TypeId} {parts : Array (Nat × Operand)} {zs : List Value} {size : Nat} {pss : List (Nat × List PC)} {ps' : List PC} (ho : o.op = .build T parts) (hd : o.dst = some t) (ht : t < C.n)
    (hT : placesArr P T = some (zs, size)) (hfl : All2 (fun x y => x.1 = y.1 ∧ (E.ev x.2).flat = some y.2) parts.toList pss) (hf : (pss.all fun y => y.2.all E.fine) = true) (hz : (zs.all fun v => match PC.ofValue v with | .und => false | _ => true) = true) (hfill : fillP (fun i => some (i * size, size)) (zs.map PC.ofValue) pss = some ps') :
    Step P C o E (E.set t (.agg ps')) :=
  .value hd ht fun M a w R => by
    have hparts : All2 (fun (x : Nat × Value) (y : Nat × List PC) => x.1 = y.1 ∧ All2 (COk M E w) x.2.cells.toList y.2) (parts.map fun (i, x) => (i, a.eval x)).toList pss := by
      rw [Array.toList_map]
      generalize parts.toList = l at hfl
      clear hfill ho
      induction hfl with
      | nil => exact .nil
      | @cons x y l pss h1 _ ih =>
        rw [List.all_cons, Bool.and_eq_true] at hf
        refine .cons ⟨h1.1, ?_⟩ (ih hf.2)
        exact (cells_ok R (ev_ok R x.2) h1.2 hf.1).1
    obtain ⟨cells', h1, h2⟩ := fill_ok (place := fun i => some (i * size, size)) _ _ zs.toArray _ _ (zeros_ok M E w zs hz) hparts hfill
    unfold placesArr at hT
    cases hit : P.info? T with
    | none => simp [hit] at hT
    | some it =>
      cases hu : P.underlying T with
      | none => simp [hit, hu] at hT
      | some d =>
        cases d <;> try (simp [hit, hu] at hT; done)
        case array n e =>
          cases hz2 : it.zero with
          | none => simp [hit, hu, hz2] at hT
          | some z =>
            cases hp : P.info? e with
            | none => simp [hit, hu, hz2, hp] at hT
            | some i =>
              simp only [hit, hu, hz2, hp, Option.some.injEq, Prod.mk.injEq] at hT
              obtain ⟨rfl, rfl⟩ := hT
              refine ⟨.agg cells', ?_, cells', rfl, h2⟩
              unfold execOp
              rw [ho]
              have h1 : Instr.fill (fun j => some (j * i.size, i.size)) z.cells (List.map (fun x => (x.fst, a.eval x.snd)) parts.toList) = some cells' := by
                have h1 := h1
                rw [Array.toList_map] at h1
                simpa using h1
              simp [Instr.build, zeroValue, typeInfo, hit, hz2, run_underlying hu, sizeOf, hp, Sem.run_bind, Result.andThen]
              rw [h1]
              rfl
def bor (a b : Int) : Int := IntKind.i64.wrap (BitVec.ofInt IntKind.i64.bits a ||| BitVec.ofInt IntKind.i64.bits b).toNat
def bxor (a b : Int) : Int := IntKind.i64.wrap (BitVec.ofInt IntKind.i64.bits a ^^^ BitVec.ofInt IntKind.i64.bits b).toNat
def band (a b : Int) : Int := IntKind.i64.wrap (BitVec.ofInt IntKind.i64.bits a &&& BitVec.ofInt IntKind.i64.bits b).toNat
def bshl (a n : Int) : Int := IntKind.i64.wrap (a * 2 ^ (min n.toNat IntKind.i64.bits))
def bshr (a n : Int) : Int := a.fdiv (2 ^ (min n.toNat IntKind.i64.bits))
def wadd (a b : Int) : Int := IntKind.i64.wrap (a + b)
def turnW (x n : Int) : Int := band (bor (bshr x n) (bshl x (32 - n))) 4294967295
theorem ofInt_nat (n : Nat) : (BitVec.ofInt 64 (n : Int)) = BitVec.ofNat 64 n := BitVec.ofInt_natCast 64 n
theorem ofInt_wrap (v : BitVec IntKind.i64.bits) : BitVec.ofInt IntKind.i64.bits (IntKind.i64.wrap ((v.toNat : Nat) : Int)) = v := by
  apply BitVec.eq_of_toNat_eq
  rw [BitVec.toNat_ofInt, IntKind.wrap_i64]
  have h : v.toNat < 2 ^ 64 := v.isLt
  show ((((v.toNat : Int) + 9223372036854775808) % 18446744073709551616 - 9223372036854775808) % ((2 ^ 64 : Nat) : Int)).toNat = v.toNat
  omega
theorem band_W (x : Int) : 0 ≤ band x 4294967295 ∧ band x 4294967295 ≤ 4294967295 := by
  unfold band
  have h : (BitVec.ofInt IntKind.i64.bits x &&& BitVec.ofInt IntKind.i64.bits 4294967295).toNat ≤ 4294967295 := by
    rw [BitVec.toNat_and]
    exact Nat.le_trans Nat.and_le_right (by decide)
  generalize (BitVec.ofInt IntKind.i64.bits x &&& BitVec.ofInt IntKind.i64.bits 4294967295).toNat = n at h
  rw [wrap_ok (by omega) (by omega)]
  omega
theorem bor_W {x y : Int} (hx : 0 ≤ x ∧ x ≤ 4294967295) (hy : 0 ≤ y ∧ y ≤ 4294967295) : 0 ≤ bor x y ∧ bor x y ≤ 4294967295 := by
  obtain ⟨a, rfl⟩ : ∃ a : Nat, x = a := ⟨x.toNat, by omega⟩
  obtain ⟨b, rfl⟩ : ∃ b : Nat, y = b := ⟨y.toNat, by omega⟩
  have h : (BitVec.ofInt IntKind.i64.bits (a : Int) ||| BitVec.ofInt IntKind.i64.bits (b : Int)).toNat ≤ 4294967295 := by
    rw [BitVec.toNat_or]
    have e : ∀ q : Nat, q < 2 ^ 32 → (BitVec.ofInt IntKind.i64.bits ((q : Nat) : Int)).toNat = q := fun q hq => by
      rw [BitVec.toNat_ofInt]; show ((q : Int) % ((2 ^ 64 : Nat) : Int)).toNat = q; omega
    rw [e a (by omega), e b (by omega)]
    have := Nat.or_lt_two_pow (x := a) (y := b) (n := 32) (by omega) (by omega)
    omega
  unfold bor
  generalize (BitVec.ofInt IntKind.i64.bits (a : Int) ||| BitVec.ofInt IntKind.i64.bits (b : Int)).toNat = n at h
  rw [wrap_ok (by omega) (by omega)]
  omega
theorem bshl_W {a : Int} (h0 : 0 ≤ a ∧ a ≤ 255) : (0 ≤ bshl a 24 ∧ bshl a 24 ≤ 4294967295) ∧ (0 ≤ bshl a 16 ∧ bshl a 16 ≤ 4294967295) ∧ (0 ≤ bshl a 8 ∧ bshl a 8 ≤ 4294967295) := by
  have e1 : bshl a 24 = a * 16777216 := wrap_ok (x := a * 16777216) (by omega) (by omega)
  have e2 : bshl a 16 = a * 65536 := wrap_ok (x := a * 65536) (by omega) (by omega)
  have e3 : bshl a 8 = a * 256 := wrap_ok (x := a * 256) (by omega) (by omega)
  rw [e1, e2, e3]
  omega
theorem bv_maj (A B C : BitVec IntKind.i64.bits) : (A &&& B) ||| (A &&& C) ||| (B &&& C) = (A &&& B) ^^^ (A &&& C) ^^^ (B &&& C) := by
  apply BitVec.eq_of_getLsbD_eq
  intro i hi
  simp only [BitVec.getLsbD_or, BitVec.getLsbD_and, BitVec.getLsbD_xor]
  cases A.getLsbD i <;> cases B.getLsbD i <;> cases C.getLsbD i <;> rfl
theorem bv_ch {E A B M : BitVec IntKind.i64.bits} (h : ∀ i, E.getLsbD i = true → M.getLsbD i = true) : (E &&& A) ||| ((E ^^^ M) &&& B) = (E &&& A) ^^^ ((M ^^^ E) &&& B) := by
  apply BitVec.eq_of_getLsbD_eq
  intro i hi
  have := h i
  simp only [BitVec.getLsbD_or, BitVec.getLsbD_and, BitVec.getLsbD_xor]
  cases hE : E.getLsbD i <;> cases A.getLsbD i <;> cases B.getLsbD i <;> cases hM : M.getLsbD i <;> simp_all
theorem maj_eq (a b c : Int) : bor (bor (band a b) (band a c)) (band b c) = bxor (bxor (band a b) (band a c)) (band b c) := by
  simp only [bor, bxor, band, ofInt_wrap, bv_maj]
theorem word_bits {e : Int} (h : 0 ≤ e ∧ e ≤ 4294967295) (i : Nat) : (BitVec.ofInt 64 e).getLsbD i = true → (BitVec.ofInt 64 4294967295).getLsbD i = true := by
  obtain ⟨n, rfl⟩ : ∃ n : Nat, e = n := ⟨e.toNat, by omega⟩
  intro hb
  have h1 : (BitVec.ofInt 64 (n : Int)).getLsbD i = (BitVec.ofNat 64 n).getLsbD i := by rw [ofInt_nat]
  rw [h1, BitVec.getLsbD_ofNat, Bool.and_eq_true, decide_eq_true_eq] at hb
  have h2 : (BitVec.ofInt 64 (4294967295 : Int)).getLsbD i = (BitVec.ofNat 64 (2 ^ 32 - 1)).getLsbD i := by rfl
  rw [h2, BitVec.getLsbD_ofNat, Nat.testBit_two_pow_sub_one, Bool.and_eq_true, decide_eq_true_eq, decide_eq_true_eq]
  refine ⟨hb.1, Nat.lt_of_not_le fun hle => ?_⟩
  have h3 := Nat.testBit_lt_two_pow (x := n) (i := i) (Nat.lt_of_lt_of_le (show n < 2 ^ 32 by omega) (Nat.pow_le_pow_right (by omega) hle))
  rw [h3] at hb
  exact absurd hb.2 (by decide)
theorem ch_eq {e : Int} (h : 0 ≤ e ∧ e ≤ 4294967295) (a b : Int) : bor (band e a) (band (bxor e 4294967295) b) = bxor (band e a) (band (bxor 4294967295 e) b) := by
  simp only [bor, bxor, band, ofInt_wrap]
  rw [bv_ch (E := BitVec.ofInt IntKind.i64.bits e) (M := BitVec.ofInt IntKind.i64.bits 4294967295) (word_bits h)]
def wordsOk (h : List Int) : Bool := h.all fun x => decide (0 ≤ x ∧ x ≤ 4294967295)
theorem words_step {l : List Int} {i : Nat} (hi : i < l.length) (h : wordsOk (l.take i) = true) (hx : 0 ≤ l.getD i 0 ∧ l.getD i 0 ≤ 4294967295) : wordsOk (l.take (i + 1)) = true := by
  rw [take_succ' (df := 0) hi]; simp only [wordsOk, List.all_append, List.all_cons, List.all_nil, Bool.and_true, Bool.and_eq_true] at h ⊢; exact ⟨h, decide_eq_true hx⟩
theorem words_no {l : List Int} {i : Nat} (hi : i < l.length) (hx : ¬ (0 ≤ l.getD i 0 ∧ l.getD i 0 ≤ 4294967295)) : wordsOk l = false := by
  cases h : wordsOk l with
  | false => rfl
  | true =>
    rw [wordsOk, List.all_eq_true] at h
    have := h (l.getD i 0) (by rw [List.getD_eq_getElem?_getD, List.getElem?_eq_getElem hi]; exact List.getElem_mem hi)
    exact absurd (of_decide_eq_true this) hx
theorem words_at {l : List Int} (h : wordsOk l = true) (i : Nat) : 0 ≤ l.getD i 0 ∧ l.getD i 0 ≤ 4294967295 := by
  rw [List.getD_eq_getElem?_getD]
  cases hx : l[i]? with
  | none => simp
  | some x => rw [wordsOk, List.all_eq_true] at h; exact of_decide_eq_true (h x (List.mem_of_getElem? hx))
def shaInit : List Int := [1779033703, 3144134277, 1013904242, 2773480762, 1359893119, 2600822924, 528734635, 1541459225]
def shaK : List Int := [1116352408, 1899447441, 3049323471, 3921009573, 961987163, 1508970993, 2453635748, 2870763221, 3624381080, 310598401, 607225278, 1426881987, 1925078388, 2162078206, 2614888103, 3248222580, 3835390401, 4022224774, 264347078, 604807628, 770255983, 1249150122, 1555081692, 1996064986, 2554220882, 2821834349, 2952996808, 3210313671, 3336571891, 3584528711, 113926993, 338241895, 666307205, 773529912, 1294757372, 1396182291, 1695183700, 1986661051, 2177026350, 2456956037, 2730485921, 2820302411, 3259730800, 3345764771, 3516065817, 3600352804, 4094571909, 275423344, 430227734, 506948616, 659060556, 883997877, 958139571, 1322822218, 1537002063, 1747873779, 1955562222, 2024104815, 2227730452, 2361852424, 2428436474, 2756734187, 3204031479, 3329325298]
def wAt (b : List Int) (i : Nat) : Int := bor (bor (bor (bshl (b.getD (4 * (i : Int)).toNat 0) 24) (bshl (b.getD (4 * (i : Int) + 1).toNat 0) 16)) (bshl (b.getD (4 * (i : Int) + 2).toNat 0) 8)) (b.getD (4 * (i : Int) + 3).toNat 0)
def w16 (b : List Int) : Nat → List Int
  | 0 => []
  | i + 1 => w16 b i ++ [wAt b i]
def nextW (A : List Int) (i : Nat) : Int := band (wadd (wadd (wadd (A.getD (16 + (i : Int) - 16).toNat 0) (bxor (bxor (turnW (A.getD (16 + (i : Int) - 15).toNat 0) 7) (turnW (A.getD (16 + (i : Int) - 15).toNat 0) 18)) (bshr (A.getD (16 + (i : Int) - 15).toNat 0) 3))) (A.getD (16 + (i : Int) - 7).toNat 0)) (bxor (bxor (turnW (A.getD (16 + (i : Int) - 2).toNat 0) 17) (turnW (A.getD (16 + (i : Int) - 2).toNat 0) 19)) (bshr (A.getD (16 + (i : Int) - 2).toNat 0) 10))) 4294967295
def wN (b : List Int) : Nat → List Int
  | 0 => w16 b 16
  | i + 1 => wN b i ++ [nextW (wN b i) i]
theorem w16_len (b : List Int) : ∀ i, (w16 b i).length = i
  | 0 => rfl
  | i + 1 => by rw [w16, List.length_append, w16_len b i]; rfl
theorem wN_len (b : List Int) : ∀ i, (wN b i).length = 16 + i
  | 0 => w16_len b 16
  | i + 1 => by rw [wN, List.length_append, wN_len b i]; rfl
theorem getD_app {A : List Int} {x : Int} (n : Nat) : (A ++ [x]).getD n 0 = if n < A.length then A.getD n 0 else if n = A.length then x else 0 := by
  simp only [List.getD_eq_getElem?_getD]
  split
  · rw [List.getElem?_append_left (by assumption)]
  · split
    · rw [List.getElem?_append_right (by omega), show n - A.length = 0 from by omega]; rfl
    · rw [List.getElem?_append_right (by omega), List.getElem?_eq_none (by simp; omega)]; rfl
theorem wAt_W {b : List Int} (h : U8s b) (i : Nat) : 0 ≤ wAt b i ∧ wAt b i ≤ 4294967295 := by
  have h3 := getD_u8 h (4 * (i : Int) + 3).toNat
  exact bor_W (bor_W (bor_W (bshl_W (getD_u8 h _)).1 (bshl_W (getD_u8 h _)).2.1) (bshl_W (getD_u8 h _)).2.2) (by omega)
theorem w16_W {b : List Int} (h : U8s b) : ∀ (i q : Nat), 0 ≤ (w16 b i).getD q 0 ∧ (w16 b i).getD q 0 ≤ 4294967295
  | 0, q => by simp [w16]
  | i + 1, q => by
    have h1 := w16_W h i q
    have h2 := wAt_W h i
    rw [w16, getD_app]
    split
    · exact h1
    · split
      · exact h2
      · simp
theorem wN_W {b : List Int} (h : U8s b) : ∀ (i q : Nat), 0 ≤ (wN b i).getD q 0 ∧ (wN b i).getD q 0 ≤ 4294967295
  | 0, q => w16_W h 16 q
  | i + 1, q => by
    have h1 := wN_W h i q
    rw [wN, getD_app]
    split
    · exact h1
    · split
      · exact band_W _
      · simp
theorem getD_rep {A : List Int} {n q : Nat} (h : q < A.length) : (A ++ List.replicate n 0).getD q 0 = A.getD q 0 := by
  simp only [List.getD_eq_getElem?_getD]
  rw [List.getElem?_append_left h]
theorem arr_W {A : List Int} (h : ∀ q, 0 ≤ A.getD q 0 ∧ A.getD q 0 ≤ 4294967295) (n q : Nat) : 0 ≤ (A ++ List.replicate n 0).getD q 0 ∧ (A ++ List.replicate n 0).getD q 0 ≤ 4294967295 := by
  by_cases hq : q < A.length
  · rw [getD_rep hq]; exact h q
  · simp only [List.getD_eq_getElem?_getD]
    rw [List.getElem?_append_right (by omega), List.getElem?_replicate]
    split <;> simp
theorem set_fill {A : List Int} {n q : Nat} {x : Int} (hq : q = A.length) : (A ++ List.replicate (n + 1) 0).set q x = (A ++ [x]) ++ List.replicate n 0 := by
  subst hq
  rw [List.replicate_succ, List.set_append_right _ _ (Nat.le_refl _), Nat.sub_self, List.set_cons_zero, List.append_assoc]; rfl
theorem nextW_rep {A : List Int} {i n : Nat} (h : A.length = 16 + i) : nextW (A ++ List.replicate n 0) i = nextW A i := by
  unfold nextW
  rw [getD_rep (q := (16 + (i : Int) - 16).toNat) (by omega), getD_rep (q := (16 + (i : Int) - 15).toNat) (by omega), getD_rep (q := (16 + (i : Int) - 7).toNat) (by omega), getD_rep (q := (16 + (i : Int) - 2).toNat) (by omega)]
theorem w16_set (b : List Int) {i : Nat} (hi : i < 16) : (w16 b i ++ List.replicate (64 - i) 0).set i (wAt b i) = w16 b (i + 1) ++ List.replicate (64 - (i + 1)) 0 := by
  rw [show 64 - i = (64 - (i + 1)) + 1 from by omega, set_fill (w16_len b i).symm]; rfl
theorem wN_set (b : List Int) {i : Nat} (hi : i < 48) : (wN b i ++ List.replicate (48 - i) 0).set (16 + (i : Int)).toNat (nextW (wN b i ++ List.replicate (48 - i) 0) i) = wN b (i + 1) ++ List.replicate (48 - (i + 1)) 0 := by
  rw [nextW_rep (wN_len b i), show 48 - i = (48 - (i + 1)) + 1 from by omega, set_fill (by rw [wN_len]; omega)]; rfl
def aI (b : List Int) (i : Nat) : List Int := w16 b i ++ List.replicate (64 - i) 0
theorem aI_len (b : List Int) {i : Nat} (h : i ≤ 16) : (aI b i).length = 64 := by unfold aI; rw [List.length_append, w16_len, List.length_replicate]; omega
theorem aI_zero (b : List Int) : List.replicate 64 0 = aI b 0 := rfl
theorem aI_set (b : List Int) {i : Nat} (hi : i < 16) : (aI b i).set i (wAt b i) = aI b (i + 1) := w16_set b hi
def wI (b : List Int) (i : Nat) : List Int := wN b i ++ List.replicate (48 - i) 0
theorem wI_len (b : List Int) {i : Nat} (h : i ≤ 48) : (wI b i).length = 64 := by unfold wI; rw [List.length_append, wN_len, List.length_replicate]; omega
theorem wI_zero (b : List Int) : aI b 16 = wI b 0 := rfl
theorem wI_set (b : List Int) {i : Nat} (hi : i < 48) : (wI b i).set (16 + (i : Int)).toNat (nextW (wI b i) i) = wI b (i + 1) := wN_set b hi
theorem wI_W {b : List Int} (h : U8s b) (i q : Nat) : 0 ≤ (wI b i).getD q 0 ∧ (wI b i).getD q 0 ≤ 4294967295 := arr_W (wN_W h i) _ q
theorem wI_all (b : List Int) : wI b 48 = wN b 48 := by unfold wI; simp
def stepV (v : List Int) (k w : Int) : List Int :=
  [band (wadd (wadd (wadd (wadd (wadd (v.getD 7 0) (bxor (bxor (turnW (v.getD 4 0) 6) (turnW (v.getD 4 0) 11)) (turnW (v.getD 4 0) 25))) (bxor (band (v.getD 4 0) (v.getD 5 0)) (band (bxor 4294967295 (v.getD 4 0)) (v.getD 6 0)))) k) w) (wadd (bxor (bxor (turnW (v.getD 0 0) 2) (turnW (v.getD 0 0) 13)) (turnW (v.getD 0 0) 22)) (bxor (bxor (band (v.getD 0 0) (v.getD 1 0)) (band (v.getD 0 0) (v.getD 2 0))) (band (v.getD 1 0) (v.getD 2 0))))) 4294967295,
   v.getD 0 0, v.getD 1 0, v.getD 2 0,
   band (wadd (v.getD 3 0) (wadd (wadd (wadd (wadd (v.getD 7 0) (bxor (bxor (turnW (v.getD 4 0) 6) (turnW (v.getD 4 0) 11)) (turnW (v.getD 4 0) 25))) (bxor (band (v.getD 4 0) (v.getD 5 0)) (band (bxor 4294967295 (v.getD 4 0)) (v.getD 6 0)))) k) w)) 4294967295,
   v.getD 4 0, v.getD 5 0, v.getD 6 0]
def stepI (v : List Int) (k w : Int) : List Int :=
  [band (wadd (wadd (wadd (wadd (wadd (v.getD 7 0) (bxor (bxor (turnW (v.getD 4 0) 6) (turnW (v.getD 4 0) 11)) (turnW (v.getD 4 0) 25))) (bor (band (v.getD 4 0) (v.getD 5 0)) (band (bxor (v.getD 4 0) 4294967295) (v.getD 6 0)))) k) w) (wadd (bxor (bxor (turnW (v.getD 0 0) 2) (turnW (v.getD 0 0) 13)) (turnW (v.getD 0 0) 22)) (bor (bor (band (v.getD 0 0) (v.getD 1 0)) (band (v.getD 0 0) (v.getD 2 0))) (band (v.getD 1 0) (v.getD 2 0))))) 4294967295,
   v.getD 0 0, v.getD 1 0, v.getD 2 0,
   band (wadd (v.getD 3 0) (wadd (wadd (wadd (wadd (v.getD 7 0) (bxor (bxor (turnW (v.getD 4 0) 6) (turnW (v.getD 4 0) 11)) (turnW (v.getD 4 0) 25))) (bor (band (v.getD 4 0) (v.getD 5 0)) (band (bxor (v.getD 4 0) 4294967295) (v.getD 6 0)))) k) w)) 4294967295,
   v.getD 4 0, v.getD 5 0, v.getD 6 0]
theorem stepI_eq {v : List Int} {k w : Int} (h : 0 ≤ v.getD 4 0 ∧ v.getD 4 0 ≤ 4294967295) : stepI v k w = stepV v k w := by
  unfold stepI stepV
  rw [ch_eq h, maj_eq]
def vN (h w : List Int) : Nat → List Int
  | 0 => h
  | i + 1 => stepV (vN h w i) (shaK.getD i 0) (w.getD i 0)
theorem vN_len {h w : List Int} (h8 : h.length = 8) : ∀ i, (vN h w i).length = 8
  | 0 => h8
  | i + 1 => rfl
theorem vN_W {h w : List Int} (hh : wordsOk h = true) : ∀ (i q : Nat), 0 ≤ (vN h w i).getD q 0 ∧ (vN h w i).getD q 0 ≤ 4294967295
  | 0, q => words_at hh q
  | i + 1, q => by
    have ih := vN_W (w := w) hh i
    match q with
    | 0 => exact band_W _
    | 1 => exact ih 0
    | 2 => exact ih 1
    | 3 => exact ih 2
    | 4 => exact band_W _
    | 5 => exact ih 4
    | 6 => exact ih 5
    | 7 => exact ih 6
    | q + 8 => exact ⟨Int.le_refl _, show (0 : Int) ≤ 4294967295 by decide⟩
def outs (h v : List Int) : Nat → List Int
  | 0 => []
  | i + 1 => outs h v i ++ [band (wadd (h.getD i 0) (v.getD i 0)) 4294967295]
theorem outs_len (h v : List Int) : ∀ i, (outs h v i).length = i
  | 0 => rfl
  | i + 1 => by rw [outs, List.length_append, outs_len h v i]; rfl
def shaBlock (h b : List Int) : List Int := if h.length = 8 ∧ b.length = 64 ∧ wordsOk h = true then outs h (vN h (wN b 48) 64) 8 else []
theorem shaBlock_len (h b : List Int) : (shaBlock h b).length ≤ 8 := by
  unfold shaBlock
  split
  · rw [outs_len]; omega
  · simp
theorem shaBlock_no {h b : List Int} (hn : ¬ (h.length = 8 ∧ b.length = 64 ∧ wordsOk h = true)) : shaBlock h b = [] := if_neg hn
theorem shaBlock_yes {h b : List Int} (hn : h.length = 8 ∧ b.length = 64 ∧ wordsOk h = true) : shaBlock h b = outs h (vN h (wN b 48) 64) 8 := if_pos hn
def padK (n : Nat) : Nat := (119 - n % 64) % 64
def padB (n : Nat) : Nat → List Int
  | 0 => []
  | i + 1 => padB n i ++ [bshr (8 * (n : Int)) (8 * (7 - (i : Int))) % 256]
theorem padB_len (n : Nat) : ∀ i, (padB n i).length = i
  | 0 => rfl
  | i + 1 => by rw [padB, List.length_append, padB_len n i]; rfl
def shaPad (b : List Int) : List Int := b ++ [128] ++ List.replicate (padK b.length) 0 ++ padB b.length 8
theorem shaPad_len (b : List Int) : (shaPad b).length = b.length + 1 + padK b.length + 8 := by simp [shaPad, padB_len]; omega
theorem shaPad_mod (b : List Int) : (shaPad b).length % 64 = 0 ∧ (shaPad b).length ≤ b.length + 72 := by rw [shaPad_len]; unfold padK; omega
theorem padB_u8 (n : Nat) : ∀ i, U8s (padB n i)
  | 0 => fun x hx => by cases hx
  | i + 1 => fun x hx => by
    rcases List.mem_append.1 hx with hx | hx
    · exact padB_u8 n i x hx
    · rcases List.mem_singleton.1 hx with rfl; omega
theorem shaPad_u8 {b : List Int} (h : U8s b) : U8s (shaPad b) := fun x hx => by
  rcases List.mem_append.1 hx with hx | hx
  · rcases List.mem_append.1 hx with hx | hx
    · rcases List.mem_append.1 hx with hx | hx
      · exact h x hx
      · rcases List.mem_singleton.1 hx with rfl; omega
    · rw [List.eq_of_mem_replicate hx]; omega
  · exact padB_u8 _ _ x hx
theorem u8_sub {b : List Int} (h : U8s b) (x y : Nat) : U8s ((b.drop x).take y) := fun z hz => h z (List.mem_of_mem_drop (List.mem_of_mem_take hz))
def hN (p : List Int) : Nat → List Int
  | 0 => shaInit
  | i + 1 => shaBlock (hN p i) ((p.drop (64 * (i : Int)).toNat).take ((64 * (i : Int) + 64).toNat - (64 * (i : Int)).toNat))
theorem hN_len (p : List Int) : ∀ i, (hN p i).length ≤ 8
  | 0 => show shaInit.length ≤ 8 by decide
  | i + 1 => shaBlock_len _ _
def outB (h : List Int) : Nat → List Int
  | 0 => []
  | i + 1 => outB h i ++ [bshr (h.getD i 0) 24 % 256, bshr (h.getD i 0) 16 % 256, bshr (h.getD i 0) 8 % 256, h.getD i 0 % 256]
theorem outB_len (h : List Int) : ∀ i, (outB h i).length = 4 * i
  | 0 => rfl
  | i + 1 => by rw [outB, List.length_append, outB_len h i]; simp; omega
theorem outB_u8 (h : List Int) : ∀ i, U8s (outB h i)
  | 0 => fun x hx => by cases hx
  | i + 1 => fun x hx => by
    rcases List.mem_append.1 hx with hx | hx
    · exact outB_u8 h i x hx
    · simp only [List.mem_cons, List.not_mem_nil, or_false] at hx
      omega
def shaH (b : List Int) : List Int := hN (shaPad b) ((shaPad b).length / 64)
def sha (b : List Int) : List Int := outB (shaH b) (shaH b).length
theorem sha_len (b : List Int) : (sha b).length ≤ 32 := by
  have := hN_len (shaPad b) ((shaPad b).length / 64)
  unfold sha
  rw [outB_len]
  unfold shaH
  omega
theorem sha_u8 (b : List Int) : U8s (sha b) := outB_u8 _ _
end Go.Proofs.Ytmdojlglemnijaa.Rf
