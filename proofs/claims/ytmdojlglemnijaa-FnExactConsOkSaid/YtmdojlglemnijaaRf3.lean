/- A logic of our own over the kit's 'wp': third part: one operation takes one state to the next. Plain definitions and theorems. -/
import Derived.Test.YtmdojlglemnijaaRf2
namespace Go.Proofs.Ytmdojlglemnijaa.Rf
open Go.RowKit
set_option linter.unusedVariables false
set_option linter.unnecessarySimpa false
set_option linter.unusedSimpArgs false

theorem COk.mono {C : Ctx} {M M' : Maps} {E E' : Env} {a : Act} {w w' : World} (R : RelM C M E a w) {v : Value} {c : PC} (h : COk M E w v c)
    (hZ : ∀ k, M.own k = .froz → M'.own k = .froz ∧ w'.heap[k]? = w.heap[k]?) (hb : ∀ b off, c = .ptr b off → M'.blk b = M.blk b)
    (hr : ∀ r, c.ment r = true → ∀ T d, E'.row r = some (T, d) → E.row r = some (T, d) ∧ M'.hdl r = M.hdl r ∧ ∀ k ∈ M.fp r, w'.heap[k]? = w.heap[k]?) : COk M' E' w' v c := by
  cases c with
  | d x => exact Rd.keep h (fun k hk => (hZ k hk).2) (fun k hk => (hZ k hk).1)
  | nil => exact h
  | row r p =>
    intro T d hT
    obtain ⟨h1, h2, h3⟩ := hr r (by simp [PC.ment]) T d hT
    rw [h2]
    exact PathTo.keep p _ d v _ (R.rows r T d h1).1.2.1 (h T d h1) h3
  | und => trivial
  | ptr b off => simp only [COk] at h ⊢; rw [hb b off rfl]; exact h
  | eptr x i j =>
    obtain ⟨ad, cap, h1, h2⟩ := h
    exact ⟨ad, cap, Rd.keep h1 (fun k hk => (hZ k hk).2) (fun k hk => (hZ k hk).1), h2⟩
  | rptr r p i j =>
    intro T d hT
    obtain ⟨h1, h2, h3⟩ := hr r (by simp [PC.ment]) T d hT
    obtain ⟨g, cap, h4, h5⟩ := h T d h1
    refine ⟨g, cap, ?_, h5⟩
    rw [h2]
    exact PathTo.keep p _ d _ _ (R.rows r T d h1).1.2.1 h4 h3

def PC.isPtr (b : Nat) : PC → Bool
  | .ptr b' _ => b == b'
  | _ => false
def PV.cells : PV → List PC
  | .one c => [c]
  | .agg cs => cs
  | .tup vs => vs.flatMap (·.2)
theorem POk.mono {M M' : Maps} {E E' : Env} {w w' : World} {v : Value} {p : PV} (h : POk M E w v p) (H : ∀ c ∈ p.cells, ∀ v, COk M E w v c → COk M' E' w' v c) : POk M' E' w' v p := by
  cases p with
  | one c => exact H c (by simp [PV.cells]) v h
  | agg cs =>
    obtain ⟨arr, h1, h2⟩ := h
    exact ⟨arr, h1, h2.imp fun a b hb hab => H b (by simpa [PV.cells] using hb) a hab⟩
  | tup vs =>
    obtain ⟨arr, h1, h2⟩ := h
    refine ⟨arr, h1, h2.imp fun a b hb hab => ?_⟩
    obtain ⟨f, cs⟩ := b
    have hc : ∀ c ∈ cs, c ∈ (PV.tup vs).cells := fun c hc => by
      simp only [PV.cells, List.mem_flatMap]
      exact ⟨(f, cs), hb, hc⟩
    match f, cs, hab with
    | true, cs, ⟨arr', k1, k2⟩ => exact ⟨arr', k1, k2.imp fun a b hb' hab' => H b (hc b hb') a hab'⟩
    | false, [c], hab => exact H c (hc c (by simp)) a hab

/-! ### Operands -/
def PV.ofValue : Value → PV
  | .int k n => .one (.d (.int k n))
  | .bool b => .one (.d (.bool b))
  | .string s => .one (.d (.str s))
  | .slice none 0 0 => .one .nil
  | _ => .one .und
def Env.ev (E : Env) : Operand → PV
  | .tmp t => E.get t
  | .const v => PV.ofValue v
  | .func f => .one (.d (.fn f))
  | .global _ => .one .und
theorem ev_ok {C : Ctx} {M : Maps} {E : Env} {a : Act} {w : World} (R : RelM C M E a w) (x : Operand) : POk M E w (a.eval x) (E.ev x) := by
  cases x with
  | tmp t => exact R.tm t
  | const v =>
    simp only [Env.ev, Act.eval]
    unfold PV.ofValue
    split
    · exact Rd.val rfl .nil
    · exact Rd.val rfl .nil
    · exact Rd.val rfl .nil
    · exact rfl
    · trivial
  | func f => exact Rd.val rfl .nil
  | global g => trivial
theorem ev_d {C : Ctx} {M : Maps} {E : Env} {a : Act} {w : World} (R : RelM C M E a w) {x : Operand} {d : D} (h : E.ev x = .one (.d d)) : Rd w (fun k => M.own k = .froz) [a.eval x] [d] := by
  have := ev_ok R x
  rw [h] at this
  exact this
theorem rd_val {w : World} {Z : Nat → Prop} {v u : Value} {d : D} (h : Rd w Z [v] [d]) (hd : d.val = some u) : v = u := by
  cases h with
  | val hv _ => rw [hd] at hv; injection hv with hv; exact hv.symm
  | sl h1 _ _ _ _ _ _ _ => cases d <;> simp [D.isSl] at h1 <;> simp [D.val] at hd
theorem ev_val {C : Ctx} {M : Maps} {E : Env} {a : Act} {w : World} (R : RelM C M E a w) {x : Operand} {d : D} {u : Value} (h : E.ev x = .one (.d d)) (hd : d.val = some u) : a.eval x = u := rd_val (ev_d R h) hd
theorem ok_val (M : Maps) (E : Env) (w : World) {d : D} {u : Value} (hd : d.val = some u) : POk M E w u (.one (.d d)) := Rd.val hd .nil

/-! ### One operation -/
def Step (P : Program) (C : Ctx) (o : Oper) (E E' : Env) : Prop :=
  ∀ a w, Rel C E a w → ∀ (K : Act → World → Prop) (Q : Exit → Act → World → Prop), (∀ a' w', Rel C E' a' w' → K a' w') → o.wp P a w K Q

theorem getD_set (a : Array Value) (t u : Nat) (v : Value) : (a.setIfInBounds t v).getD u undef = if t = u ∧ t < a.size then v else a.getD u undef := by
  simp only [Array.getD_eq_getD_getElem?, Array.getElem?_setIfInBounds]
  by_cases h : t = u
  · subst h
    by_cases h2 : t < a.size
    · simp [h2]
    · simp [h2, Array.getElem?_eq_none]
  · simp [h]

theorem RelM.put {C : Ctx} {M : Maps} {E : Env} {a : Act} {w : World} (R : RelM C M E a w) {t : Nat} {v : Value} {p : PV} (ht : t < C.n) (hp : POk M E w v p) : RelM C M (E.set t p) (a.put (some t) v) w := by
  have hE : ∀ c : PC, ∀ v, COk M E w v c → COk M (E.set t p) w v c := fun c v h => by cases c <;> exact h
  refine { R with tn := ?_, df := ?_, tm := ?_, boxes := ?_ }
  · simp [Act.put, R.tn]
  · exact R.df
  · intro u
    rw [Env.get_set]
    show POk M (E.set t p) w ((a.tmps.setIfInBounds t v).getD u undef) _
    rw [getD_set]
    by_cases h : t = u
    · subst h
      simp only [true_and, if_true]
      rw [if_pos (by rw [R.tn]; exact ht)]
      exact hp.mono fun c _ v h => hE c v h
    · rw [if_neg (fun h' => h h'.1), if_neg h]
      exact (R.tm u).mono fun c _ v h => hE c v h
  · intro b T ps hb
    obtain ⟨h1, cs, h2, h3⟩ := R.boxes b T ps hb
    exact ⟨h1, cs, h2, h3.imp fun v c _ h => hE c v h⟩


/-- What yields a value and leaves the world. -/
theorem Step.value {P : Program} {C : Ctx} {o : Oper} {E : Env} {t : Nat} {p : PV} (hd : o.dst = some t) (ht : t < C.n)
    (h : ∀ M a w, RelM C M E a w → ∃ v, (execOp a.eval o).run P w = .ok (.value v) w ∧ POk M E w v p) : Step P C o E (E.set t p) := by
  intro a w ⟨M, R⟩ K Q hK
  obtain ⟨v, hr, hp⟩ := h M a w R
  unfold Oper.wp
  rw [hr, Oper.upon_value, hd]
  exact hK _ _ ⟨M, R.put ht hp⟩
/-- What yields a value and changes the memory. -/
theorem Step.change {P : Program} {C : Ctx} {o : Oper} {E E1 : Env} {t : Nat} {p : PV} (hd : o.dst = some t) (ht : t < C.n)
    (h : ∀ M a w, RelM C M E a w → ∃ v w' M', (execOp a.eval o).run P w = .ok (.value v) w' ∧ RelM C M' E1 a w' ∧ POk M' E1 w' v p) : Step P C o E (E1.set t p) := by
  intro a w ⟨M, R⟩ K Q hK
  obtain ⟨v, w', M', hr, R', hp⟩ := h M a w R
  unfold Oper.wp
  rw [hr, Oper.upon_value, hd]
  exact hK _ _ ⟨M', R'.put ht hp⟩
theorem Step.skip {P : Program} {C : Ctx} {o : Oper} {E E1 : Env} (hd : o.dst = none)
    (h : ∀ M a w, RelM C M E a w → ∃ w' M', (execOp a.eval o).run P w = .ok .skip w' ∧ RelM C M' E1 a w') : Step P C o E E1 := by
  intro a w ⟨M, R⟩ K Q hK
  obtain ⟨w', M', hr, R'⟩ := h M a w R
  unfold Oper.wp
  rw [hr, Oper.upon_skip, hd]
  exact hK _ _ ⟨M', R'⟩

theorem Step.move {P : Program} {C : Ctx} {o : Oper} {E : Env} {t : Nat} {x : Operand} {p : PV} (ho : o.op = .move x) (hd : o.dst = some t) (ht : t < C.n) (hx : E.ev x = p) : Step P C o E (E.set t p) :=
  .value hd ht fun M a w R => ⟨a.eval x, by unfold execOp; rw [ho]; rfl, by rw [← hx]; exact ev_ok R x⟩
theorem Step.assign {P : Program} {C : Ctx} {o : Oper} {E : Env} {t : Nat} {x : Operand} {p : PV} (ho : o.op = .assign x) (hd : o.dst = some t) (ht : t < C.n) (hx : E.ev x = p) : Step P C o E (E.set t p) :=
  .value hd ht fun M a w R => ⟨a.eval x, by unfold execOp; rw [ho]; rfl, by rw [← hx]; exact ev_ok R x⟩

/-- Operators on values of one cell. -/
def Bin (op : BinOp) (x y r : D) : Prop := ∃ vx vy vr, x.val = some vx ∧ y.val = some vy ∧ r.val = some vr ∧ ∀ (P : Program) (w : World) (t : TypeId) (ox oy : Operand), ((do eqGuard op t ox oy vx vy; binOp op t vx vy : Sem Value)).run P w = .ok vr w
theorem Step.bin {P : Program} {C : Ctx} {o : Oper} {E : Env} {t : Nat} {op : BinOp} {tx ty : TypeId} {x y : Operand} {dx dy r : D} (ho : o.op = .binOp op tx x y ty) (hd : o.dst = some t) (ht : t < C.n)
    (hx : E.ev x = .one (.d dx)) (hy : E.ev y = .one (.d dy)) (hb : Bin op dx dy r) : Step P C o E (E.set t (.one (.d r))) := by
  obtain ⟨vx, vy, vr, h1, h2, h3, h4⟩ := hb
  refine .value hd ht fun M a w R => ⟨vr, ?_, ok_val M E w h3⟩
  unfold execOp
  rw [ho]
  simp only [Sem.run_bind, Sem.run_pure]
  rw [ev_val R hx h1, ev_val R hy h2]
  have := h4 P w tx x y
  simp only [Sem.run_bind] at this
  rw [this]
  rfl
section
variable {k : IntKind} {a b c : Int}
theorem Bin.add (h : k.wrap (a + b) = c) : Bin .add (.int k a) (.int k b) (.int k c) := ⟨_, _, _, rfl, rfl, rfl, fun P w t ox oy => by simp [eqGuard, binOp, Op.intArith, h]⟩
theorem Bin.sub (h : k.wrap (a - b) = c) : Bin .sub (.int k a) (.int k b) (.int k c) := ⟨_, _, _, rfl, rfl, rfl, fun P w t ox oy => by simp [eqGuard, binOp, Op.intArith, h]⟩
theorem Bin.mul (h : k.wrap (a * b) = c) : Bin .mul (.int k a) (.int k b) (.int k c) := ⟨_, _, _, rfl, rfl, rfl, fun P w t ox oy => by simp [eqGuard, binOp, Op.intArith, h]⟩
theorem Bin.quo (h0 : b ≠ 0) (h : k.wrap (a.tdiv b) = c) : Bin .quo (.int k a) (.int k b) (.int k c) := ⟨_, _, _, rfl, rfl, rfl, fun P w t ox oy => by simp [eqGuard, binOp, Op.intDiv, h0, h]⟩
theorem Bin.rem (h0 : b ≠ 0) (h : a.tmod b = c) : Bin .rem (.int k a) (.int k b) (.int k c) := ⟨_, _, _, rfl, rfl, rfl, fun P w t ox oy => by simp [eqGuard, binOp, Op.intDiv, h0, h]⟩
theorem Bin.and (h : k.wrap (BitVec.ofInt k.bits a &&& BitVec.ofInt k.bits b).toNat = c) : Bin .and (.int k a) (.int k b) (.int k c) := ⟨_, _, _, rfl, rfl, rfl, fun P w t ox oy => by simp [eqGuard, binOp, Op.intBits, ← h]⟩
theorem Bin.or (h : k.wrap (BitVec.ofInt k.bits a ||| BitVec.ofInt k.bits b).toNat = c) : Bin .or (.int k a) (.int k b) (.int k c) := ⟨_, _, _, rfl, rfl, rfl, fun P w t ox oy => by simp [eqGuard, binOp, Op.intBits, ← h]⟩
theorem Bin.xor (h : k.wrap (BitVec.ofInt k.bits a ^^^ BitVec.ofInt k.bits b).toNat = c) : Bin .xor (.int k a) (.int k b) (.int k c) := ⟨_, _, _, rfl, rfl, rfl, fun P w t ox oy => by simp [eqGuard, binOp, Op.intBits, ← h]⟩
theorem Bin.andNot (h : k.wrap (BitVec.ofInt k.bits a &&& ~~~ BitVec.ofInt k.bits b).toNat = c) : Bin .andNot (.int k a) (.int k b) (.int k c) := ⟨_, _, _, rfl, rfl, rfl, fun P w t ox oy => by simp [eqGuard, binOp, Op.intBits, ← h]⟩
theorem Bin.shl {k' : IntKind} (h0 : ¬ b < 0) (h : k.wrap (a * 2 ^ (min b.toNat k.bits)) = c) : Bin .shl (.int k a) (.int k' b) (.int k c) := ⟨_, _, _, rfl, rfl, rfl, fun P w t ox oy => by simp [eqGuard, binOp, Op.shift, h0, h]⟩
theorem Bin.shr {k' : IntKind} (h0 : ¬ b < 0) (h : a.fdiv (2 ^ (min b.toNat k.bits)) = c) : Bin .shr (.int k a) (.int k' b) (.int k c) := ⟨_, _, _, rfl, rfl, rfl, fun P w t ox oy => by simp [eqGuard, binOp, Op.shift, h0, h]⟩
theorem Bin.eql : Bin .eql (.int k a) (.int k b) (.bool (decide (a = b))) := ⟨_, _, _, rfl, rfl, rfl, fun P w t ox oy => by simp [eqGuard, binOp, Op.intCmp]; rfl⟩
theorem Bin.neq : Bin .neq (.int k a) (.int k b) (.bool (decide (a ≠ b))) := ⟨_, _, _, rfl, rfl, rfl, fun P w t ox oy => by simp [eqGuard, binOp, Op.intCmp, bne]; by_cases h : a = b <;> simp [h]⟩
theorem Bin.lss : Bin .lss (.int k a) (.int k b) (.bool (decide (a < b))) := ⟨_, _, _, rfl, rfl, rfl, fun P w t ox oy => by simp [eqGuard, binOp, Op.intCmp]⟩
theorem Bin.leq : Bin .leq (.int k a) (.int k b) (.bool (decide (a ≤ b))) := ⟨_, _, _, rfl, rfl, rfl, fun P w t ox oy => by simp [eqGuard, binOp, Op.intCmp]⟩
theorem Bin.gtr : Bin .gtr (.int k a) (.int k b) (.bool (decide (b < a))) := ⟨_, _, _, rfl, rfl, rfl, fun P w t ox oy => by simp [eqGuard, binOp, Op.intCmp]⟩
theorem Bin.geq : Bin .geq (.int k a) (.int k b) (.bool (decide (b ≤ a))) := ⟨_, _, _, rfl, rfl, rfl, fun P w t ox oy => by simp [eqGuard, binOp, Op.intCmp]⟩
theorem Bin.streq {s u : ByteArray} : Bin .eql (.str s) (.str u) (.bool (s.toList == u.toList)) := ⟨_, _, _, rfl, rfl, rfl, fun P w t ox oy => by simp [eqGuard, binOp, Op.stringOp]⟩
theorem Bin.strne {s u : ByteArray} : Bin .neq (.str s) (.str u) (.bool (!(s.toList == u.toList))) := ⟨_, _, _, rfl, rfl, rfl, fun P w t ox oy => by simp [eqGuard, binOp, Op.stringOp]⟩
theorem Bin.stradd {s u : ByteArray} (h : s.size + u.size ≤ 9223372036854775807) : Bin .add (.str s) (.str u) (.str (s ++ u)) := ⟨_, _, _, rfl, rfl, rfl, fun P w t ox oy => by
  have hm : IntKind.i64.max = 9223372036854775807 := rfl
  have : ¬ (((s.size + u.size : Nat) : Int) > IntKind.i64.max) := by rw [hm]; omega
  simp only [eqGuard, binOp, Op.stringOp]
  rw [if_neg this]
  rfl⟩
end
theorem Step.not {P : Program} {C : Ctx} {o : Oper} {E : Env} {t : Nat} {tx : TypeId} {x : Operand} {b : Bool} (ho : o.op = .unOp .not tx x) (hd : o.dst = some t) (ht : t < C.n)
    (hx : E.ev x = .one (.d (.bool b))) : Step P C o E (E.set t (.one (.d (.bool !b)))) :=
  .value hd ht fun M a w R => ⟨.bool !b, by unfold execOp; rw [ho]; simp only [ev_val R hx rfl, Op.unary]; rfl, ok_val M E w rfl⟩
theorem Step.neg {P : Program} {C : Ctx} {o : Oper} {E : Env} {t : Nat} {tx : TypeId} {x : Operand} {k : IntKind} {n c : Int} (ho : o.op = .unOp .neg tx x) (hd : o.dst = some t) (ht : t < C.n)
    (hx : E.ev x = .one (.d (.int k n))) (h : k.wrap (0 - n) = c) : Step P C o E (E.set t (.one (.d (.int k c)))) :=
  .value hd ht fun M a w R => ⟨.int k c, by unfold execOp; rw [ho]; simp only [ev_val R hx rfl, Op.unary, Op.intArith, h]; rfl, ok_val M E w rfl⟩
theorem Step.pick {P : Program} {C : Ctx} {o : Oper} {E : Env} {t : Nat} {x y z : Operand} {b : Bool} {p : PV} (ho : o.op = .pick x y z) (hd : o.dst = some t) (ht : t < C.n)
    (hx : E.ev x = .one (.d (.bool b))) (hp : E.ev (bif b then y else z) = p) : Step P C o E (E.set t p) :=
  .value hd ht fun M a w R => ⟨a.eval (bif b then y else z), by
    unfold execOp
    rw [ho]
    simp only [ev_val R hx rfl, asBool]
    cases b <;> rfl, by rw [← hp]; exact ev_ok R _⟩
theorem Step.extract {P : Program} {C : Ctx} {o : Oper} {E : Env} {t i : Nat} {x : Operand} {vs : List (Bool × List PC)} {p : PV} (ho : o.op = .extract x i) (hd : o.dst = some t) (ht : t < C.n)
    (hx : E.ev x = .tup vs) (hp : (match vs[i]? with | some (true, cs) => some (PV.agg cs) | some (false, [c]) => some (.one c) | _ => none) = some p) : Step P C o E (E.set t p) :=
  .value hd ht fun M a w R => by
    have := ev_ok R x
    rw [hx] at this
    obtain ⟨arr, h1, h2⟩ := this
    cases hi : vs[i]? with
    | none => rw [hi] at hp; exact absurd hp (by simp)
    | some y =>
      rw [hi] at hp
      obtain ⟨v, hv, hok⟩ := h2.get i y hi
      refine ⟨v, ?_, ?_⟩
      · unfold execOp
        rw [ho]
        have hv' : arr[i]? = some v := by simpa using hv
        simp only [h1, Instr.extract, hv']
        rfl
      · match y, hp, hok with
        | (true, cs), hp, hok => simp only [Option.some.injEq] at hp; subst hp; exact hok
        | (false, [c]), hp, hok => simp only [Option.some.injEq] at hp; subst hp; exact hok
/-- int(x), byte(x). -/
theorem Step.conv {P : Program} {C : Ctx} {o : Oper} {E : Env} {t : Nat} {ts td : TypeId} {x : Operand} {k k' : IntKind} {n c : Int} (ho : o.op = .convert ts td x) (hd : o.dst = some t) (ht : t < C.n)
    (hs : P.underlying ts = some (.int k)) (hdt : P.underlying td = some (.int k')) (hx : E.ev x = .one (.d (.int k n))) (h : k'.wrap n = c) : Step P C o E (E.set t (.one (.d (.int k' c)))) :=
  .value hd ht fun M a w R => ⟨.int k' c, by
    unfold execOp
    rw [ho]
    simp only [ev_val R hx rfl, convert, Sem.run_bind, run_underlying hs, run_underlying hdt, Result.andThen, Conv.intToInt, h]
    rfl, ok_val M E w rfl⟩

end Go.Proofs.Ytmdojlglemnijaa.Rf
