/- A logic of our own over the kit's 'wp': sixth part: variables in memory: made, loaded, stored into, their fields. Plain definitions and theorems. -/
import Derived.Test.YtmdojlglemnijaaRf5
namespace Go.Proofs.Ytmdojlglemnijaa.Rf
open Go.RowKit
set_option linter.unusedVariables false
set_option linter.unnecessarySimpa false
set_option linter.unusedSimpArgs false

def PV.flat : PV → Option (List PC)
  | .one c => some [c]
  | .agg cs => some cs
  | .tup _ => none
/-- A cell that is known to hold a value of one cell. -/
def Env.fine (E : Env) : PC → Bool
  | .und => false
  | .row r p => match E.row r with | some (_, d) => (d.at_ p).isSl | none => false
  | .rptr r _ _ _ => (E.row r).isSome
  | _ => true
theorem fine_one {C : Ctx} {M : Maps} {E : Env} {a : Act} {w : World} (R : RelM C M E a w) {v : Value} {c : PC} (h : COk M E w v c) (hf : E.fine c = true) : v.oneCell' = true ∧ v.cells = #[v] := by
  cases c with
  | d x =>
    cases h with
    | val hv _ => cases x <;> simp [D.val] at hv <;> subst hv <;> exact ⟨rfl, rfl⟩
    | sl _ _ _ _ _ _ _ _ => exact ⟨rfl, rfl⟩
  | nil => simp only [COk] at h; subst h; exact ⟨rfl, rfl⟩
  | row r p =>
    simp only [Env.fine] at hf
    split at hf
    · rename_i T d hr
      obtain ⟨b, ho, _⟩ := row_at R hr (h T d hr)
      obtain ⟨A, cap, e, _⟩ := own_form ho hf
      rw [e]; exact ⟨rfl, rfl⟩
    · exact absurd hf (by simp)
  | und => exact absurd hf (by simp [Env.fine])
  | ptr b off => simp only [COk] at h; subst h; exact ⟨rfl, rfl⟩
  | eptr x i j => obtain ⟨_, _, _, _, _, e⟩ := h; subst e; exact ⟨rfl, rfl⟩
  | rptr r p i j =>
    simp only [Env.fine] at hf
    obtain ⟨⟨T, d⟩, hr⟩ := Option.isSome_iff_exists.1 hf
    obtain ⟨_, _, _, _, _, e⟩ := h T d hr
    subst e; exact ⟨rfl, rfl⟩
/-- The cells of a value. -/
theorem cells_ok {C : Ctx} {M : Maps} {E : Env} {a : Act} {w : World} (R : RelM C M E a w) {v : Value} {p : PV} {ps : List PC} (h : POk M E w v p) (hp : p.flat = some ps) (hf : ps.all E.fine = true) : All2 (COk M E w) v.cells.toList ps ∧ ∀ u ∈ v.cells.toList, u.oneCell' = true := by
  rw [List.all_eq_true] at hf
  have key : All2 (COk M E w) v.cells.toList ps := by
    cases p with
    | one c =>
      simp only [PV.flat, Option.some.injEq] at hp
      subst hp
      rw [(fine_one R h (hf c (by simp))).2]
      exact .cons h .nil
    | agg cs =>
      simp only [PV.flat, Option.some.injEq] at hp
      subst hp
      obtain ⟨arr, rfl, h2⟩ := h
      exact h2
    | tup vs => simp [PV.flat] at hp
  refine ⟨key, fun u hu => ?_⟩
  obtain ⟨j, hj⟩ := List.mem_iff_getElem?.1 hu
  have hlt : j < ps.length := by rw [← key.length]; exact (List.getElem?_eq_some_iff.1 hj).1
  obtain ⟨u', hu', hok⟩ := key.get j ps[j] (List.getElem?_eq_getElem hlt)
  rw [hj] at hu'
  injection hu' with hu'
  subst hu'
  exact (fine_one R hok (hf _ (List.getElem_mem hlt))).1

theorem heap_last (w : World) (o : Obj) : (w.alloc o).heap[w.heap.size]? = some o := by show (w.heap.push o)[w.heap.size]? = _; simp
theorem own_new {C : Ctx} {M : Maps} {E : Env} {a : Act} {w : World} (R : RelM C M E a w) {k : Nat} (hk : w.heap.size ≤ k) : M.own k = .none := by
  cases h : M.own k with
  | none => rfl
  | _ => have := R.lt k (by rw [h]; simp); omega
/-- A new variable. -/
theorem RelM.newBox {C : Ctx} {M : Maps} {E : Env} {a : Act} {w : World} (R : RelM C M E a w) {b : Nat} {T : TypeId} {ps : List PC} {cs : Array Value} (hf : E.nobox b = true) (hps : All2 (COk M E w) cs.toList ps) (hnp : ps.all (fun c => !c.isBox b) = true) (hbn : ∀ x ∈ C.pin, C.n ≤ x.1 → x.1 ≠ b) :
    ∃ M', RelM C M' { E with boxes := (b, (T, ps)) :: E.boxes } a (w.alloc (.cells cs T)) ∧ M'.blk b = w.heap.size := by
  have hb : Below w.heap.size w (w.alloc (.cells cs T)) := (Below.refl _ w).alloc (Nat.le_refl _) _
  have R1 := R.grow hb
  have hk : ∀ k, M.own k ≠ .none → (w.alloc (.cells cs T)).heap[k]? = w.heap[k]? := fun k h => hb.block k (R.lt k h)
  refine ⟨_, R1.addBox hf (heap_last w _) (own_new R (Nat.le_refl _)) R.ba (hps.imp fun v c _ h => ?_) hnp hbn, by simp⟩
  exact h.mono R (fun k h => ⟨h, hk k (by rw [h]; simp)⟩) (fun _ _ _ => rfl) (fun r _ T d hT => ⟨hT, rfl, fun k hk' => hk k (by rw [(R.rows r T d hT).2.2 k hk']; simp)⟩)

theorem Step.box {P : Program} {C : Ctx} {o : Oper} {E : Env} {t : Nat} {T : TypeId} {x : Operand} {p : PV} {ps : List PC} (ho : o.op = .box T x) (hd : o.dst = some t) (ht : t < C.n)
    (hx : E.ev x = p) (hp : p.flat = some ps) (hf : ps.all E.fine = true) (hb : E.nobox t = true) (hnp : ps.all (fun c => !c.isBox t) = true) :
    Step P C o E ({ E with boxes := (t, (T, ps)) :: E.boxes }.set t (.one (.ptr t 0))) :=
  .change hd ht fun M a w R => by
    have h := ev_ok R x
    rw [hx] at h
    obtain ⟨M', R', hM⟩ := R.newBox (T := T) hb (cells_ok R h hp hf).1 hnp (fun x _ hx => by omega)
    refine ⟨_, _, M', ?_, R', rfl⟩
    unfold execOp
    rw [ho, hM]
    simp [Instr.box, newVar, newRow]
def zeroCells (P : Program) (T : TypeId) : Option (List Value) := ((P.info? T).bind (·.zero)).map (·.cells.toList)
def PC.ofValue (v : Value) : PC := match PV.ofValue v with | .one c => c | _ => .und
theorem zero_ok (M : Maps) (E : Env) (w : World) (v : Value) (h : PC.ofValue v ≠ .und) : COk M E w v (.ofValue v) := by
  unfold PC.ofValue PV.ofValue at h ⊢
  cases v with
  | bool b => exact Rd.val rfl .nil
  | int k n => exact Rd.val rfl .nil
  | string s => exact Rd.val rfl .nil
  | slice A n c =>
    cases A with
    | none =>
      cases n with
      | zero =>
        cases c with
        | zero => exact rfl
        | succ c => trivial
      | succ n => trivial
    | some A => trivial
  | _ => trivial
def isZero (P : Program) (T : TypeId) (ps : List PC) : Prop := ∃ cs, zeroCells P T = some cs ∧ ps = cs.map PC.ofValue
theorem Step.alloc {P : Program} {C : Ctx} {o : Oper} {E : Env} {t : Nat} {T : TypeId} {cs : List Value} {ps : List PC} (ho : o.op = .alloc T) (hd : o.dst = some t) (ht : t < C.n)
    (hz : zeroCells P T = some cs) (hps : cs.map PC.ofValue = ps) (hu : ps.all E.fine = true) (hb : E.nobox t = true) (hnp : ps.all (fun c => !c.isBox t) = true) :
    Step P C o E ({ E with boxes := (t, (T, ps)) :: E.boxes }.set t (.one (.ptr t 0))) :=
  .change hd ht fun M a w R => by
    obtain ⟨z, hz1, hz2⟩ := Option.map_eq_some_iff.1 hz
    obtain ⟨i, hi, hiz⟩ := Option.bind_eq_some_iff.1 hz1
    rw [List.all_eq_true] at hu
    have hall : All2 (COk M E w) z.cells.toList ps := by
      rw [hz2, ← hps]
      refine All2.of_get _ _ (by simp) fun j v c hv hc => ?_
      rw [List.getElem?_map, hv] at hc
      simp only [Option.map_some, Option.some.injEq] at hc
      subst hc
      refine zero_ok M E w v fun hund => ?_
      have := hu (PC.ofValue v) (by rw [← hps]; exact List.mem_map.2 ⟨v, List.mem_of_getElem? hv, rfl⟩)
      rw [hund] at this
      exact absurd this (by simp [Env.fine])
    obtain ⟨M', R', hM⟩ := R.newBox (T := T) hb hall hnp (fun x _ hx => by omega)
    refine ⟨_, _, M', ?_, R', rfl⟩
    unfold execOp
    rw [ho, hM]
    simp [Instr.alloc, zeroValue, typeInfo, hi, hiz, newVar, newRow]

theorem Step.load_box {P : Program} {C : Ctx} {o : Oper} {E : Env} {t : Nat} {T T' : TypeId} {x : Operand} {b off : Nat} {ps : List PC} {c : PC} (ho : o.op = .load T x) (hd : o.dst = some t) (ht : t < C.n)
    (hT : isOne P T = true) (hx : E.ev x = .one (.ptr b off)) (hb : E.box b = some (T', ps)) (hc : ps[off]? = some c) : Step P C o E (E.set t (.one c)) :=
  .value hd ht fun M a w R => by
    have h := ev_ok R x
    rw [hx] at h
    obtain ⟨h1, cs, h2, h3⟩ := R.boxes b T' ps hb
    obtain ⟨v, hv, hok⟩ := h3.get off c hc
    refine ⟨v, ?_, hok⟩
    unfold execOp
    rw [ho]
    have h' : a.eval x = .pointer (some ⟨M.blk b, off, none⟩) := h
    have hcell : w.cell? ⟨M.blk b, off, none⟩ = some v := by
      have : cs[off]? = some v := by simpa using hv
      simp [World.cell?, h2, this]
    simp only [h', Sem.run_bind, run_load1 hT hcell, Result.andThen, Sem.run_pure]
theorem Step.load_box_agg {P : Program} {C : Ctx} {o : Oper} {E : Env} {t : Nat} {T T' : TypeId} {x : Operand} {b off n : Nat} {ps qs : List PC} (ho : o.op = .load T x) (hd : o.dst = some t) (ht : t < C.n)
    (hT : isMany P T n = true) (hx : E.ev x = .one (.ptr b off)) (hb : E.box b = some (T', ps)) (hq : (ps.drop off).take n = qs) (hl : qs.length = n) : Step P C o E (E.set t (.agg qs)) :=
  .value hd ht fun M a w R => by
    have h := ev_ok R x
    rw [hx] at h
    obtain ⟨h1, cs, h2, h3⟩ := R.boxes b T' ps hb
    have h' : a.eval x = .pointer (some ⟨M.blk b, off, none⟩) := h
    have hlen : ((cs.toList.drop off).take n).length = n := by
      have := congrArg List.length hq
      rw [hl, List.length_take, List.length_drop] at this
      rw [List.length_take, List.length_drop, h3.length]; omega
    refine ⟨.agg ((cs.toList.drop off).take n).toArray, ?_, _, rfl, ?_⟩
    · unfold execOp
      rw [ho]
      have := run_loadN hT (w := w) (ad := ⟨M.blk b, off, none⟩) hlen (fun j v hv => by
        rw [List.getElem?_take] at hv
        split at hv
        · rw [List.getElem?_drop] at hv
          have : (⟨M.blk b, off, none⟩ : Addr).add j = ⟨M.blk b, off + j, none⟩ := by unfold Addr.add; split <;> simp_all
          rw [this]
          have hv' : cs[off + j]? = some v := by simpa using hv
          simp [World.cell?, h2, hv']
        · exact absurd hv (by simp))
      simp only [h', Sem.run_bind, this, Result.andThen, Sem.run_pure]
    · subst hq
      refine All2.of_get _ _ (by simp [h3.length]) fun j v c hv hc => ?_
      rw [List.getElem?_take] at hc
      simp only [List.getElem?_take] at hv
      split at hc
      · rename_i hj
        rw [if_pos hj] at hv
        rw [List.getElem?_drop] at hv hc
        obtain ⟨v', hv', hok⟩ := h3.get _ c hc
        rw [hv] at hv'
        injection hv' with hv'
        subst hv'
        exact hok
      · exact absurd hc (by simp)

theorem isField_spec {P : Program} {T f off n : Nat} {one : Bool} (h : isField P T f off n one = true) : ∃ fs fd, P.underlying T = some (.struct fs) ∧ fs[f]? = some fd ∧ fd.offset = off ∧ (P.info? fd.type).map (·.size) = some n ∧ (if one then isOne P fd.type = true else isMany P fd.type n = true) := by
  unfold isField at h
  split at h
  · rename_i fs hu
    split at h
    · rename_i fd hfd
      simp only [Bool.and_eq_true, beq_iff_eq] at h
      obtain ⟨h1, h2, h3⟩ := h
      exact ⟨fs, fd, hu, hfd, h1, h2, by cases one <;> simpa using h3⟩
    · exact absurd h (by simp)
  · exact absurd h (by simp)
theorem run_fieldAt {P : Program} {T f off n : Nat} {one : Bool} (h : isField P T f off n one = true) (hn : n ≠ 0) (w : World) (ad : Addr) : (Instr.fieldAt T (.pointer (some ad)) f).run P w = .ok (.pointer (some (ad.add off))) w := by
  obtain ⟨fs, fd, h1, h2, h3, h4, h5⟩ := isField_spec h
  simp [Instr.fieldAt, run_underlying h1, h2, Instr.sureAddr, fieldPlace, run_size h4, hn, h3, Result.andThen]
theorem Step.fieldAddr {P : Program} {C : Ctx} {o : Oper} {E : Env} {t : Nat} {T f off n b q : Nat} {one : Bool} {x : Operand} (ho : o.op = .fieldAddr T x f) (hd : o.dst = some t) (ht : t < C.n)
    (hf : isField P T f off n one = true) (hn : n ≠ 0) (hx : E.ev x = .one (.ptr b q)) : Step P C o E (E.set t (.one (.ptr b (q + off)))) :=
  .value hd ht fun M a w R => by
    have h := ev_ok R x
    rw [hx] at h
    have h' : a.eval x = .pointer (some ⟨M.blk b, q, none⟩) := h
    refine ⟨_, ?_, rfl⟩
    unfold execOp
    rw [ho]
    have e : (⟨M.blk b, q, none⟩ : Addr).add off = ⟨M.blk b, q + off, none⟩ := by unfold Addr.add; split <;> simp_all
    simp only [h', Sem.run_bind, run_fieldAt hf hn w, Result.andThen, Sem.run_pure, e]
theorem Step.fieldAddr_e {P : Program} {C : Ctx} {o : Oper} {E : Env} {t : Nat} {T f off n i j : Nat} {d : D} {one : Bool} {x : Operand} (ho : o.op = .fieldAddr T x f) (hd : o.dst = some t) (ht : t < C.n)
    (hf : isField P T f off n one = true) (hn : n ≠ 0) (hx : E.ev x = .one (.eptr d i j)) (hz : j + off < d.z) : Step P C o E (E.set t (.one (.eptr d i (j + off)))) :=
  .value hd ht fun M a w R => by
    have h := ev_ok R x
    rw [hx] at h
    obtain ⟨ad, cap, h1, h2, h3, h4⟩ := h
    refine ⟨_, ?_, ad, cap, h1, h2, hz, rfl⟩
    unfold execOp
    rw [ho]
    simp only [h4, Sem.run_bind, run_fieldAt hf hn w, Result.andThen, Sem.run_pure, add_add', Nat.add_assoc]
theorem Step.fieldAddr_r {P : Program} {C : Ctx} {o : Oper} {E : Env} {t : Nat} {T T' f off n i j r : Nat} {p : List (Nat × Nat)} {d : D} {one : Bool} {x : Operand} (ho : o.op = .fieldAddr T x f) (hd : o.dst = some t) (ht : t < C.n)
    (hf : isField P T f off n one = true) (hn : n ≠ 0) (hx : E.ev x = .one (.rptr r p i j)) (hr : E.row r = some (T', d)) (hz : j + off < (d.at_ p).z) : Step P C o E (E.set t (.one (.rptr r p i (j + off)))) :=
  .value hd ht fun M a w R => by
    have h := ev_ok R x
    rw [hx] at h
    obtain ⟨g, cap, h1, h2, h3, h4⟩ := h T' d hr
    refine ⟨.pointer (some ⟨g, i * (d.at_ p).z + j + off, none⟩), ?_, fun T2 d2 h2' => ?_⟩
    · unfold execOp
      rw [ho]
      have e : (⟨g, i * (d.at_ p).z + j, none⟩ : Addr).add off = ⟨g, i * (d.at_ p).z + j + off, none⟩ := by unfold Addr.add; split <;> simp_all
      simp only [h4, Sem.run_bind, run_fieldAt hf hn w, Result.andThen, Sem.run_pure, e]
    · rw [hr] at h2'
      injection h2' with h2'
      injection h2' with _ h2'
      subst h2'
      exact ⟨g, cap, h1, h2, hz, by rw [Nat.add_assoc]⟩
theorem Step.field {P : Program} {C : Ctx} {o : Oper} {E : Env} {t : Nat} {T f off n : Nat} {x : Operand} {ps : List PC} {c : PC} (ho : o.op = .field T x f) (hd : o.dst = some t) (ht : t < C.n)
    (hf : isField P T f off n true = true) (hx : E.ev x = .agg ps) (hc : ps[off]? = some c) : Step P C o E (E.set t (.one c)) :=
  .value hd ht fun M a w R => by
    have h := ev_ok R x
    rw [hx] at h
    obtain ⟨arr, h1, h2⟩ := h
    obtain ⟨fs, fd, k1, k2, k3, k4, k5⟩ := isField_spec hf
    obtain ⟨v, hv, hok⟩ := h2.get off c hc
    have hv' : arr[off]? = some v := by simpa using hv
    refine ⟨v, ?_, hok⟩
    unfold execOp
    rw [ho]
    simp only [if_true] at k5
    simp [h1, Instr.field, run_underlying k1, k2, asAgg, part, isOne_spec k5, k3, hv', Result.andThen]
theorem Step.field_agg {P : Program} {C : Ctx} {o : Oper} {E : Env} {t : Nat} {T f off n : Nat} {x : Operand} {ps qs : List PC} (ho : o.op = .field T x f) (hd : o.dst = some t) (ht : t < C.n)
    (hf : isField P T f off n false = true) (hx : E.ev x = .agg ps) (hq : (ps.drop off).take n = qs) : Step P C o E (E.set t (.agg qs)) :=
  .value hd ht fun M a w R => by
    have h := ev_ok R x
    rw [hx] at h
    obtain ⟨arr, h1, h2⟩ := h
    obtain ⟨fs, fd, k1, k2, k3, k4, k5⟩ := isField_spec hf
    refine ⟨.agg (arr.extract off (off + n)), ?_, _, rfl, ?_⟩
    · unfold execOp
      rw [ho]
      simp only [Bool.false_eq_true, if_false] at k5
      simp [h1, Instr.field, run_underlying k1, k2, asAgg, part, (isMany_spec k5 w).1, run_size k4, k3, Result.andThen]
    · subst hq
      have : (arr.extract off (off + n)).toList = (arr.toList.drop off).take n := by simp [List.extract_eq_take_drop, Nat.add_sub_cancel_left]
      rw [this]
      refine All2.of_get _ _ (by simp [h2.length]) fun j v c hv hc => ?_
      rw [List.getElem?_take] at hv hc
      split at hc
      · rename_i hj
        rw [if_pos hj] at hv
        rw [List.getElem?_drop] at hv hc
        obtain ⟨v', hv', hok⟩ := h2.get _ c hc
        rw [hv] at hv'
        injection hv' with hv'
        subst hv'
        exact hok
      · exact absurd hc (by simp)
theorem Step.nilCheck {P : Program} {C : Ctx} {o : Oper} {E : Env} {t : Nat} {x : Operand} {b off : Nat} (ho : o.op = .nilCheck x) (hd : o.dst = some t) (ht : t < C.n) (hx : E.ev x = .one (.ptr b off)) : Step P C o E (E.set t (.one (.ptr b off))) :=
  .value hd ht fun M a w R => by
    have h := ev_ok R x
    rw [hx] at h
    have h' : a.eval x = .pointer (some ⟨M.blk b, off, none⟩) := h
    exact ⟨_, by unfold execOp; rw [ho]; simp [h'], rfl⟩

end Go.Proofs.Ytmdojlglemnijaa.Rf
