/- A logic of our own over the kit's 'wp': fourth part: operations that read: lengths, indices, loads, fields, slices of slices. Plain definitions and theorems. -/
import Derived.Test.YtmdojlglemnijaaRf3
namespace Go.Proofs.Ytmdojlglemnijaa.Rf
open Go.RowKit
set_option linter.unusedVariables false
set_option linter.unnecessarySimpa false
set_option linter.unusedSimpArgs false

/-- Is a type of one cell, no struct, no array? -/
def isOne (P : Program) (T : TypeId) : Bool := match P.underlying T with
  | some (.struct _) | some (.array ..) => false
  | some _ => true
  | none => false
/-- A struct or an array of n cells. -/
def isMany (P : Program) (T : TypeId) (n : Nat) : Bool := (match P.underlying T with
  | some (.struct _) | some (.array ..) => true
  | _ => false) && (P.info? T).map (·.size) == some n
/-- A slice type with elements of z cells. -/
def isSlice (P : Program) (T e : TypeId) (z : Nat) : Bool := (match P.underlying T with
  | some (.slice e') => e' == e
  | _ => false) && (P.info? e).map (·.size) == some z
/-- Field f: where, how many cells, of one cell? -/
def isField (P : Program) (T : TypeId) (f off n : Nat) (one : Bool) : Bool := match P.underlying T with
  | some (.struct fs) => match fs[f]? with
    | some fd => fd.offset == off && ((P.info? fd.type).map (·.size) == some n && (if one then isOne P fd.type else isMany P fd.type n))
    | none => false
  | _ => false

theorem isSlice_spec {P : Program} {T e : TypeId} {z : Nat} (h : isSlice P T e z = true) : P.underlying T = some (.slice e) ∧ (P.info? e).map (·.size) = some z := by
  unfold isSlice at h
  simp only [Bool.and_eq_true, beq_iff_eq] at h
  obtain ⟨h1, h2⟩ := h
  refine ⟨?_, h2⟩
  split at h1
  · rename_i e' he; simp at h1; subst h1; exact he
  · exact absurd h1 (by simp)
theorem run_size {P : Program} {e : TypeId} {z : Nat} (h : (P.info? e).map (·.size) = some z) (w : World) : (sizeOf e).run P w = .ok z w := by
  obtain ⟨i, hi, hz⟩ := Option.map_eq_some_iff.1 h
  simp [sizeOf, typeInfo, hi, hz]

/-- The data of a slice. -/
def Env.cont (E : Env) : PC → Option D
  | .d x => if x.isSl then some x else none
  | .row r p => (E.row r).bind fun y => let d := y.2.at_ p; if d.isSl then some d else none
  | _ => none

theorem own_form {w : World} {v : Value} {d : D} {bs : List Nat} (h : Own w [v] [d] bs) (hs : d.isSl = true) : ∃ A cap, v = .slice A d.size cap ∧ d.size ≤ 9223372036854775807 := by
  cases h with
  | val hv _ => cases d <;> simp [D.isSl] at hs <;> simp [D.val] at hv
  | empty h1 h2 h3 _ => exact ⟨none, 0, by rw [h2], by omega⟩
  | sl h1 h2 h3 h4 h5 h6 h7 h8 => exact ⟨_, _, rfl, by omega⟩
theorem rd_form {w : World} {Z : Nat → Prop} {v : Value} {d : D} (h : Rd w Z [v] [d]) (hs : d.isSl = true) : ∃ A cap, v = .slice A d.size cap ∧ d.size ≤ 9223372036854775807 ∧ d.size ≤ cap := by
  cases h with
  | val hv _ => cases d <;> simp [D.isSl] at hs <;> simp [D.val] at hv
  | sl h1 h2 h3 _ _ _ _ _ => exact ⟨_, _, rfl, h2, h3⟩
theorem own_some {w : World} {v : Value} {d : D} {bs : List Nat} (h : Own w [v] [d] bs) (hs : d.isSl = true) (h0 : 0 < d.size) : ∃ g cap, v = .slice (some ⟨g, 0, none⟩) d.size cap := by
  cases h with
  | val hv _ => cases d <;> simp [D.isSl] at hs <;> simp [D.val] at hv
  | empty h1 h2 h3 _ => omega
  | sl h1 h2 h3 h4 h5 h6 h7 h8 => exact ⟨_, _, rfl⟩
theorem rd_some {w : World} {Z : Nat → Prop} {v : Value} {d : D} (h : Rd w Z [v] [d]) (hs : d.isSl = true) (h0 : 0 < d.size) : ∃ ad cap cs, v = .slice (some ad) d.size cap ∧ Z ad.block ∧ (∀ (j : Nat) c, cs[j]? = some c → w.cell? (ad.add j) = some c) ∧ Rd w Z cs d.flat ∧ d.wf := by
  cases h with
  | val hv _ => cases d <;> simp [D.isSl] at hs <;> simp [D.val] at hv
  | @sl A cap d cs vs ds h1 h2 h3 h4 h5 h6 h7 h8 =>
    obtain ⟨ad, rfl, hz⟩ := h5 (by omega)
    exact ⟨ad, cap, cs, rfl, hz, fun j c hc => by obtain ⟨ad', e1, e2⟩ := h6 j c hc; injection e1 with e1; subst e1; exact e2, h7, h4⟩
/-- What lies at a path of a live row. -/
theorem row_at {C : Ctx} {M : Maps} {E : Env} {a : Act} {w : World} (R : RelM C M E a w) {r : Nat} {p : List (Nat × Nat)} {T : TypeId} {d : D} (hr : E.row r = some (T, d)) {v : Value} (h : PathTo w (M.hdl r) d p v) :
    ∃ b, Own w [v] [d.at_ p] b ∧ ∀ k ∈ b, M.own k = .row r := by
  obtain ⟨h1, _, h3⟩ := R.rows r T d hr
  obtain ⟨b1, b, b2, e, ho, _⟩ := Own.lend p _ _ _ _ h1.2.1 h
  exact ⟨b, ho, fun k hk => h3 k (by rw [e]; simp [hk])⟩
theorem cont_form {C : Ctx} {M : Maps} {E : Env} {a : Act} {w : World} (R : RelM C M E a w) {v : Value} {c : PC} {d : D} (hc : COk M E w v c) (hd : E.cont c = some d) : ∃ A cap, v = .slice A d.size cap ∧ d.size ≤ 9223372036854775807 := by
  cases c with
  | d x =>
    simp only [Env.cont] at hd
    split at hd
    · rename_i hs; injection hd with hd; subst hd; obtain ⟨A, cap, h1, h2, _⟩ := rd_form hc hs; exact ⟨A, cap, h1, h2⟩
    · exact absurd hd (by simp)
  | row r p =>
    simp only [Env.cont] at hd
    obtain ⟨⟨T, d'⟩, h1, h2⟩ := Option.bind_eq_some_iff.1 hd
    dsimp only at h2
    split at h2
    · rename_i hs
      injection h2 with h2
      subst h2
      obtain ⟨b, ho, _⟩ := row_at R h1 (hc T d' h1)
      exact own_form ho hs
    · exact absurd h2 (by simp)
  | _ => simp [Env.cont] at hd

theorem Step.len {P : Program} {C : Ctx} {o : Oper} {E : Env} {t : Nat} {T e : TypeId} {z : Nat} {x : Operand} {c : PC} {d : D} (ho : o.op = .call { callee := .builtin .len, args := #[x], argTypes := #[T] }) (hd : o.dst = some t) (ht : t < C.n)
    (hT : isSlice P T e z = true) (hx : E.ev x = .one c) (hc : E.cont c = some d) : Step P C o E (E.set t (.one (.d (.int .i64 d.size)))) :=
  .value hd ht fun M a w R => by
    have h := ev_ok R x
    rw [hx] at h
    obtain ⟨A, cap, h1, h2⟩ := cont_form R h hc
    refine ⟨.int .i64 d.size, ?_, ok_val M E w rfl⟩
    unfold execOp
    rw [ho]
    simp only [resolve, invoke, builtin, Sem.run_bind, Sem.run_pure, Result.andThen]
    simp [Builtin.len_, run_underlying (isSlice_spec hT).1, h1, goInt, Result.andThen]
theorem Step.len_nil {P : Program} {C : Ctx} {o : Oper} {E : Env} {t : Nat} {T e : TypeId} {z : Nat} {x : Operand} (ho : o.op = .call { callee := .builtin .len, args := #[x], argTypes := #[T] }) (hd : o.dst = some t) (ht : t < C.n)
    (hT : isSlice P T e z = true) (hx : E.ev x = .one .nil) : Step P C o E (E.set t (.one (.d (.int .i64 0)))) :=
  .value hd ht fun M a w R => by
    have h := ev_ok R x
    rw [hx] at h
    have h1 : a.eval x = .slice none 0 0 := h
    refine ⟨.int .i64 0, ?_, ok_val M E w rfl⟩
    unfold execOp
    rw [ho]
    simp only [resolve, invoke, builtin, Sem.run_bind, Sem.run_pure, Result.andThen]
    simp [Builtin.len_, run_underlying (isSlice_spec hT).1, h1, goInt, Result.andThen]
theorem Step.len_str {P : Program} {C : Ctx} {o : Oper} {E : Env} {t : Nat} {T : TypeId} {x : Operand} {s : ByteArray} (ho : o.op = .call { callee := .builtin .len, args := #[x], argTypes := #[T] }) (hd : o.dst = some t) (ht : t < C.n)
    (hT : P.underlying T = some .string) (hx : E.ev x = .one (.d (.str s))) : Step P C o E (E.set t (.one (.d (.int .i64 s.size)))) :=
  .value hd ht fun M a w R => by
    refine ⟨.int .i64 s.size, ?_, ok_val M E w rfl⟩
    unfold execOp
    rw [ho]
    simp only [resolve, invoke, builtin, Sem.run_bind, Sem.run_pure, Result.andThen]
    simp [Builtin.len_, run_underlying hT, ev_val R hx rfl, goInt, Result.andThen]

/-- The address of a cell of a slice. -/
theorem run_indexAt {P : Program} {T e : TypeId} {z : Nat} (hT : isSlice P T e z = true) (w : World) (A : Addr) (n cap : Nat) (k : IntKind) (i : Int) (h0 : 0 ≤ i) (h1 : i < n) :
    (Instr.indexAt T (.slice (some A) n cap) (.int k i)).run P w = .ok (.pointer (some (A.add (i.toNat * z)))) w := by
  obtain ⟨hu, hz⟩ := isSlice_spec hT
  have : (Instr.indexAt T (.slice (some A) n cap) (.int k i)).run P w = if 0 ≤ i ∧ i < n then ((sizeOf e).run P w).andThen fun s w => .ok (.pointer (some (A.add (i.toNat * s)))) w
      else (boundsPanic k i n .index).run P w := by
    have h := run_indexAt_slice (P := P) (w := w) T A n cap k i (by rw [hu]; simp [Program.elem, hu])
    rw [h]
    simp [Program.elem, hu]
  rw [this, if_pos ⟨h0, h1⟩, run_size hz]
  rfl
theorem Step.index {P : Program} {C : Ctx} {o : Oper} {E : Env} {t : Nat} {T e : TypeId} {z : Nat} {x y : Operand} {d : D} {k : IntKind} {i : Int} (ho : o.op = .indexAddr T x y) (hd : o.dst = some t) (ht : t < C.n)
    (hT : isSlice P T e z = true) (hx : E.ev x = .one (.d d)) (hs : d.isSl = true) (hz : d.z = z) (hz0 : 0 < z) (hy : E.ev y = .one (.d (.int k i))) (h0 : 0 ≤ i) (h1 : i < d.size) : Step P C o E (E.set t (.one (.eptr d i.toNat 0))) :=
  .value hd ht fun M a w R => by
    have h := ev_d R hx
    obtain ⟨ad, cap, cs, h2, _⟩ := rd_some h hs (by omega)
    rw [h2] at h
    refine ⟨_, ?_, ad, cap, h, by omega, by omega, rfl⟩
    unfold execOp
    rw [ho]
    simp only [h2, ev_val R hy rfl, Sem.run_bind, run_indexAt hT w ad d.size cap k i h0 h1, Result.andThen, Sem.run_pure, hz, Nat.add_zero]
theorem Step.index_row {P : Program} {C : Ctx} {o : Oper} {E : Env} {t : Nat} {T e T' : TypeId} {z : Nat} {x y : Operand} {r : Nat} {p : List (Nat × Nat)} {d : D} {k : IntKind} {i : Int} (ho : o.op = .indexAddr T x y) (hd : o.dst = some t) (ht : t < C.n)
    (hT : isSlice P T e z = true) (hx : E.ev x = .one (.row r p)) (hr : E.row r = some (T', d)) (hs : (d.at_ p).isSl = true) (hz : (d.at_ p).z = z) (hz0 : 0 < z) (hy : E.ev y = .one (.d (.int k i))) (h0 : 0 ≤ i) (h1 : i < (d.at_ p).size) :
    Step P C o E (E.set t (.one (.rptr r p i.toNat 0))) :=
  .value hd ht fun M a w R => by
    have h := ev_ok R x
    rw [hx] at h
    have hp := h T' d hr
    obtain ⟨b, hown, _⟩ := row_at R hr hp
    obtain ⟨g, cap, he⟩ := own_some hown hs (by omega)
    refine ⟨.pointer (some ⟨g, i.toNat * z, none⟩), ?_, fun T2 d2 h2 => ?_⟩
    · unfold execOp
      rw [ho]
      simp only [he, ev_val R hy rfl, Sem.run_bind, run_indexAt hT w ⟨g, 0, none⟩ _ cap k i h0 h1, Result.andThen, Sem.run_pure, add_plain']
    · rw [hr] at h2
      injection h2 with h2
      injection h2 with _ h2
      subst h2
      exact ⟨g, cap, by rw [← he]; exact hp, by omega, by omega, by rw [hz, Nat.add_zero]⟩


theorem isOne_spec {P : Program} {T : TypeId} (h : isOne P T = true) (w : World) : (isAgg T).run P w = .ok false w := by
  unfold isOne at h
  cases hu : P.underlying T with
  | none => rw [hu] at h; exact absurd h (by simp)
  | some d => rw [hu] at h; cases d <;> first | (simp [isAgg, underlying, hu]; done) | (simp at h; done)
theorem isMany_spec {P : Program} {T : TypeId} {n : Nat} (h : isMany P T n = true) (w : World) : (isAgg T).run P w = .ok true w ∧ (P.info? T).map (·.size) = some n := by
  unfold isMany at h
  simp only [Bool.and_eq_true, beq_iff_eq] at h
  obtain ⟨h1, h2⟩ := h
  refine ⟨?_, h2⟩
  cases hu : P.underlying T with
  | none => rw [hu] at h1; exact absurd h1 (by simp)
  | some d => rw [hu] at h1; cases d <;> first | (simp [isAgg, underlying, hu]; done) | (simp at h1; done)
theorem run_load1 {P : Program} {T : TypeId} (h : isOne P T = true) {w : World} {ad : Addr} {v : Value} (hc : w.cell? ad = some v) : (Instr.loadAt T (.pointer (some ad))).run P w = .ok v w := by
  simp [Instr.loadAt, Instr.sureAddr, loadVar, isOne_spec h, hc]
theorem run_loadN {P : Program} {T : TypeId} {n : Nat} (h : isMany P T n = true) {w : World} {ad : Addr} {cs : List Value} (hl : cs.length = n) (hc : ∀ (j : Nat) v, cs[j]? = some v → w.cell? (ad.add j) = some v) :
    (Instr.loadAt T (.pointer (some ad))).run P w = .ok (.agg cs.toArray) w := by
  obtain ⟨h1, h2⟩ := isMany_spec h w
  have := run_loadCells_list (P := P) (w := w) ad cs hc
  simp [Instr.loadAt, Instr.sureAddr, loadVar, h1, run_size h2, ← hl, this]
theorem add_add' (a : Addr) (x y : Nat) : (a.add x).add y = a.add (x + y) := by
  unfold Addr.add
  split
  · rename_i h; subst h; simp
  · rename_i h; split
    · rename_i h'; subst h'; simp [h]
    · rename_i h'; rw [if_neg (by omega)]; simp [Nat.add_assoc]

/-- One cell out of a slice that is read. -/
theorem Step.load {P : Program} {C : Ctx} {o : Oper} {E : Env} {t : Nat} {T : TypeId} {x : Operand} {d : D} {i j : Nat} {e : D} (ho : o.op = .load T x) (hd : o.dst = some t) (ht : t < C.n)
    (hT : isOne P T = true) (hx : E.ev x = .one (.eptr d i j)) (he : d.cell i j = e) : Step P C o E (E.set t (.one (.d e))) :=
  .value hd ht fun M a w R => by
    have h := ev_ok R x
    rw [hx] at h
    obtain ⟨ad, cap, h1, h2, h3, h4⟩ := h
    have hs : d.isSl = true := by cases d <;> simp [D.size] at h2 <;> rfl
    obtain ⟨ad', cap', cs, k1, k2, k3, k4, k5⟩ := rd_some h1 hs (by omega)
    injection k1 with e1 _ _
    injection e1 with e1
    subst e1
    obtain ⟨v, hv, hok⟩ := k4.get _ _ (D.flat_get k5 hs h2 h3)
    refine ⟨v, ?_, by rw [← he]; exact hok⟩
    unfold execOp
    rw [ho]
    simp only [h4, Sem.run_bind, run_load1 hT (k3 _ _ hv), Result.andThen, Sem.run_pure]
/-- A whole element. -/
theorem Step.load_agg {P : Program} {C : Ctx} {o : Oper} {E : Env} {t : Nat} {T : TypeId} {x : Operand} {d : D} {i n : Nat} {cs : List PC} (ho : o.op = .load T x) (hd : o.dst = some t) (ht : t < C.n)
    (hT : isMany P T n = true) (hx : E.ev x = .one (.eptr d i 0)) (hn : d.z = n) (he : ((List.range n).map fun j => PC.d (d.cell i j)) = cs) : Step P C o E (E.set t (.agg cs)) :=
  .value hd ht fun M a w R => by
    have h := ev_ok R x
    rw [hx] at h
    obtain ⟨ad, cap, h1, h2, h3, h4⟩ := h
    have hs : d.isSl = true := by cases d <;> simp [D.size] at h2 <;> rfl
    obtain ⟨ad', cap', vs, k1, k2, k3, k4, k5⟩ := rd_some h1 hs (by omega)
    injection k1 with e1 _ _
    injection e1 with e1
    subst e1
    have hle : i * d.z + d.z ≤ vs.length := by
      rw [k4.length, D.flat_length k5 hs, ← Nat.succ_mul]
      exact Nat.mul_le_mul_right _ (by omega)
    have hlen : ((vs.drop (i * d.z)).take n).length = n := by rw [List.length_take, List.length_drop]; omega
    refine ⟨.agg ((vs.drop (i * d.z)).take n).toArray, ?_, _, rfl, ?_⟩
    · unfold execOp
      rw [ho]
      have := run_loadN hT (w := w) (ad := ad.add (i * d.z + 0)) hlen (fun j v hv => by
        rw [List.getElem?_take] at hv
        split at hv
        · rw [List.getElem?_drop] at hv
          rw [add_add', Nat.add_zero]
          exact k3 _ _ hv
        · exact absurd hv (by simp))
      simp only [h4, Sem.run_bind, this, Result.andThen, Sem.run_pure]
    · subst he
      refine All2.of_get _ _ (by simpa using hlen) fun j v c hv hc => ?_
      have hj : j < n := by
        have := (List.getElem?_eq_some_iff.1 hc).1
        simpa using this
      have hc' : c = PC.d (d.cell i j) := by
        simp [List.getElem?_map, List.getElem?_range hj] at hc
        exact hc.symm
      subst hc'
      obtain ⟨v', hv', hok⟩ := k4.get _ _ (D.flat_get k5 hs h2 (show j < d.z by omega))
      have : v = v' := by
        have hv2 : ((vs.drop (i * d.z)).take n)[j]? = some v := by simpa using hv
        rw [List.getElem?_take, if_pos hj, List.getElem?_drop, hv'] at hv2
        injection hv2 with hv2
        exact hv2.symm
      subst this
      exact hok

theorem D.at_snoc (p : List (Nat × Nat)) (i j : Nat) : ∀ d : D, d.at_ (p ++ [(i, j)]) = (d.at_ p).cell i j := by
  induction p with
  | nil => intro d; rfl
  | cons x p ih => intro d; obtain ⟨a, b⟩ := x; simp only [List.cons_append, D.at_]; exact ih _
theorem PathTo.snoc {w : World} {i j : Nat} {g cap : Nat} {cs : Array Value} {t : TypeId} {c : Value} : ∀ (p : List (Nat × Nat)) (v : Value) (d : D), PathTo w v d p (.slice (some ⟨g, 0, none⟩) (d.at_ p).size cap) → w.heap[g]? = some (.cells cs t (0, 0)) → i < (d.at_ p).size → j < (d.at_ p).z →
    cs[i * (d.at_ p).z + j]? = some c → PathTo w v d (p ++ [(i, j)]) c
  | [], v, d, h, h1, h2, h3, h4 => ⟨g, cap, cs, t, c, h.symm, h1, h2, h3, h4, rfl⟩
  | (a, b) :: p, v, d, ⟨g', cap', cs', t', c', k1, k2, k3, k4, k5, k6⟩, h1, h2, h3, h4 => ⟨g', cap', cs', t', c', k1, k2, k3, k4, k5, PathTo.snoc p c' _ k6 h1 h2 h3 h4⟩
/-- The cells of a row at a path. -/
theorem row_cells {C : Ctx} {M : Maps} {E : Env} {a : Act} {w : World} (R : RelM C M E a w) {r : Nat} {p : List (Nat × Nat)} {T : TypeId} {d : D} (hr : E.row r = some (T, d)) {g cap : Nat} (h : PathTo w (M.hdl r) d p (.slice (some ⟨g, 0, none⟩) (d.at_ p).size cap)) :
    (d.at_ p).wf ∧ (d.at_ p).isSl = true ∧ M.own g = .row r ∧ ∃ cs t b, w.heap[g]? = some (.cells cs t (0, 0)) ∧ (d.at_ p).size * (d.at_ p).z ≤ cs.size ∧ Own w (cs.toList.take (d.at_ p).flat.length) (d.at_ p).flat b := by
  obtain ⟨b, ho, hb⟩ := row_at R hr h
  obtain ⟨k1, k2, _, k3, k4, cs, t, b', k5, k6, k7, rfl⟩ := own_sl ho
  exact ⟨k2, k1, hb g (by simp), cs, t, b', k5, by rw [k6]; exact Nat.mul_le_mul_right _ k3, k7⟩
/-- What a cell of an owned row is for a slot. -/
def PC.ofRow (r : Nat) (p : List (Nat × Nat)) (i j : Nat) (e : D) : PC := if e.isSl then .row r (p ++ [(i, j)]) else .d e
theorem own_val {w : World} {Z : Nat → Prop} {v : Value} {d : D} {bs : List Nat} (h : Own w [v] [d] bs) (hs : d.isSl = false) : Rd w Z [v] [d] := by
  cases h with
  | val hv _ => exact .val hv .nil
  | empty h1 _ _ _ => rw [hs] at h1; exact absurd h1 (by simp)
  | sl h1 _ _ _ _ _ _ _ => rw [hs] at h1; exact absurd h1 (by simp)
theorem row_cell {C : Ctx} {M : Maps} {E : Env} {a : Act} {w : World} (R : RelM C M E a w) {r : Nat} {p : List (Nat × Nat)} {T : TypeId} {d : D} (hr : E.row r = some (T, d)) {g cap : Nat} (h : PathTo w (M.hdl r) d p (.slice (some ⟨g, 0, none⟩) (d.at_ p).size cap))
    {i j : Nat} (hi : i < (d.at_ p).size) (hj : j < (d.at_ p).z) : ∃ v, w.cell? ⟨g, i * (d.at_ p).z + j, none⟩ = some v ∧ COk M E w v (.ofRow r p i j ((d.at_ p).cell i j)) := by
  obtain ⟨h1, h2, h3, cs, t, b, h4, h5, h6⟩ := row_cells R hr h
  obtain ⟨v, c1, b0, c2, hv, _, ho, _⟩ := h6.lend1 _ _ (D.flat_get h1 h2 hi hj)
  have hv' : cs[i * (d.at_ p).z + j]? = some v := by
    rw [List.getElem?_take] at hv
    split at hv
    · simpa using hv
    · exact absurd hv (by simp)
  refine ⟨v, by simp [World.cell?, h4, hv'], ?_⟩
  unfold PC.ofRow
  split
  · intro T' d' hr'
    rw [hr] at hr'
    injection hr' with hr'
    injection hr' with _ hr'
    subst hr'
    exact PathTo.snoc p _ d h h4 hi hj hv'
  · rename_i hs
    exact own_val ho (by simpa using hs)
theorem Step.load_row {P : Program} {C : Ctx} {o : Oper} {E : Env} {t : Nat} {T T' : TypeId} {x : Operand} {d : D} {r : Nat} {p : List (Nat × Nat)} {i j : Nat} {c : PC} (ho : o.op = .load T x) (hd : o.dst = some t) (ht : t < C.n)
    (hT : isOne P T = true) (hx : E.ev x = .one (.rptr r p i j)) (hr : E.row r = some (T', d)) (he : PC.ofRow r p i j ((d.at_ p).cell i j) = c) : Step P C o E (E.set t (.one c)) :=
  .value hd ht fun M a w R => by
    have h := ev_ok R x
    rw [hx] at h
    obtain ⟨g, cap, h1, h2, h3, h4⟩ := h T' d hr
    obtain ⟨v, hv, hok⟩ := row_cell R hr h1 h2 h3
    refine ⟨v, ?_, by rw [← he]; exact hok⟩
    unfold execOp
    rw [ho]
    simp only [h4, Sem.run_bind, run_load1 hT hv, Result.andThen, Sem.run_pure]
theorem Step.load_row_agg {P : Program} {C : Ctx} {o : Oper} {E : Env} {t : Nat} {T T' : TypeId} {x : Operand} {d : D} {r : Nat} {p : List (Nat × Nat)} {i n : Nat} {cs : List PC} (ho : o.op = .load T x) (hd : o.dst = some t) (ht : t < C.n)
    (hT : isMany P T n = true) (hx : E.ev x = .one (.rptr r p i 0)) (hr : E.row r = some (T', d)) (hn : (d.at_ p).z = n) (he : ((List.range n).map fun j => PC.ofRow r p i j ((d.at_ p).cell i j)) = cs) : Step P C o E (E.set t (.agg cs)) :=
  .value hd ht fun M a w R => by
    have h := ev_ok R x
    rw [hx] at h
    obtain ⟨g, cap, h1, h2, h3, h4⟩ := h T' d hr
    have hcell := fun j (hj : j < n) => row_cell R hr h1 h2 (j := j) (by omega)
    obtain ⟨vs, hvl, hvs⟩ : ∃ vs : List Value, vs.length = n ∧ ∀ (j : Nat) v, vs[j]? = some v → w.cell? ⟨g, i * (d.at_ p).z + j, none⟩ = some v ∧ COk M E w v (.ofRow r p i j ((d.at_ p).cell i j)) := by
      refine ⟨(List.range n).map fun j => (w.cell? ⟨g, i * (d.at_ p).z + j, none⟩).getD undef, by simp, fun j v hv => ?_⟩
      have hj : j < n := by
        have := (List.getElem?_eq_some_iff.1 hv).1
        simpa using this
      obtain ⟨v', hv1, hv2⟩ := hcell j hj
      have : v = v' := by
        simp [List.getElem?_map, List.getElem?_range hj, hv1] at hv
        exact hv.symm
      subst this
      exact ⟨hv1, hv2⟩
    refine ⟨.agg vs.toArray, ?_, _, rfl, ?_⟩
    · unfold execOp
      rw [ho]
      have := run_loadN hT (w := w) (ad := ⟨g, i * (d.at_ p).z + 0, none⟩) hvl (fun j v hv => by
        have : (⟨g, i * (d.at_ p).z + 0, none⟩ : Addr).add j = ⟨g, i * (d.at_ p).z + j, none⟩ := by unfold Addr.add; split <;> simp_all
        rw [this]
        exact (hvs j v hv).1)
      simp only [h4, Sem.run_bind, this, Result.andThen, Sem.run_pure]
    · subst he
      refine All2.of_get _ _ (by simp [hvl]) fun j v c hv hc => ?_
      have hj : j < n := by
        have := (List.getElem?_eq_some_iff.1 hc).1
        simpa using this
      have hc' : c = .ofRow r p i j ((d.at_ p).cell i j) := by
        simp [List.getElem?_map, List.getElem?_range hj] at hc
        exact hc.symm
      subst hc'
      exact (hvs j v (by simpa using hv)).2
end Go.Proofs.Ytmdojlglemnijaa.Rf
