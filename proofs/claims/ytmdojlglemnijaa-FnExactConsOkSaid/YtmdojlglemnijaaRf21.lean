/- A logic of our own over the kit's 'wp': struct literals; arithmetic of bits. Plain definitions and theorems. -/
import Derived.Test.YtmdojlglemnijaaRf20
namespace Go.Proofs.Ytmdojlglemnijaa.Rf
open Go.RowKit
set_option linter.unusedVariables false
set_option linter.unnecessarySimpa false
set_option linter.unusedSimpArgs false
/-- The zero cells of a struct, and where its fields lie. -/
def placesOf (P : Program) (T : TypeId) : Option (List Value × List (Nat × Nat)) :=
  match P.info? T, P.underlying T with
  | some it, some (.struct fields) =>
    match it.zero, fields.toList.mapM (fun f => (P.info? f.type).map fun i => (f.offset, i.size)) with
    | some z, some places => some (z.cells.toList, places)
    | _, _ => none
  | _, _ => none
theorem built_of {P : Program} {T : TypeId} {zs : List Value} {places : List (Nat × Nat)} (h : placesOf P T = some (zs, places)) (parts : List (Nat × Value)) : P.built T parts = Instr.fill (places.toArray[·]?) zs.toArray parts := by
  unfold placesOf at h
  unfold Program.built
  cases hit : P.info? T with
  | none => simp [hit] at h
  | some it =>
    cases hu : P.underlying T with
    | none => simp [hit, hu] at h
    | some d =>
      cases d <;> try (simp [hit, hu] at h; done)
      case struct fields =>
        cases hz : it.zero with
        | none => simp [hit, hu, hz] at h
        | some z =>
          cases hp : fields.toList.mapM (fun f => (P.info? f.type).map fun i => (f.offset, i.size)) with
          | none => simp [hit, hu, hz, hp] at h
          | some pl =>
            simp only [hit, hu, hz, hp, Option.some.injEq, Prod.mk.injEq] at h
            obtain ⟨rfl, rfl⟩ := h
            simp [hz, hp]
def fillP (place : Nat → Option (Nat × Nat)) (ps : List PC) : List (Nat × List PC) → Option (List PC)
  | [] => some ps
  | (i, q) :: rest => match place i with
    | none => none
    | some (off, size) => if q.length = size ∧ off + size ≤ ps.length then fillP place (ps.take off ++ q ++ ps.drop (off + size)) rest else none
theorem fill_ok {R : Value → PC → Prop} {place : Nat → Option (Nat × Nat)} : ∀ (parts : List (Nat × Value)) (pp : List (Nat × List PC)) (cells : Array Value) (ps ps' : List PC), All2 R cells.toList ps → All2 (fun x y => x.1 = y.1 ∧ All2 R x.2.cells.toList y.2) parts pp → fillP place ps pp = some ps' →
    ∃ cells', Instr.fill place cells parts = some cells' ∧ All2 R cells'.toList ps'
  | [], _, cells, ps, ps', hc, hp, h => by
    cases hp
    simp only [fillP, Option.some.injEq] at h
    subst h
    exact ⟨cells, rfl, hc⟩
  | (i, v) :: parts, _, cells, ps, ps', hc, hp, h => by
    cases hp with
    | @cons _ y _ pp h1 h2 =>
      obtain ⟨j, q⟩ := y
      obtain ⟨e, hq⟩ := h1
      dsimp only at e hq
      subst e
      simp only [fillP] at h
      cases hpl : place i with
      | none => rw [hpl] at h; cases h
      | some os =>
        obtain ⟨off, size⟩ := os
        rw [hpl] at h
        dsimp only at h
        split at h
        · rename_i hcond
          obtain ⟨c1, c2⟩ := hcond
          have hvl : v.cells.size = q.length := by have := hq.length; simpa using this
          have hcl : cells.size = ps.length := by have := hc.length; simpa using this
          have hf := fold_set' v.cells off cells (by omega)
          have hR : All2 R (v.cells.zipIdx.foldl (fun cs x => cs.setIfInBounds (off + x.2) x.1) cells).toList (ps.take off ++ q ++ ps.drop (off + size)) := by
            rw [hf]
            refine (((hc.take off).append hq).append ?_)
            rw [show off + v.cells.size = off + size from by omega]
            exact hc.drop _
          obtain ⟨cells', k1, k2⟩ := fill_ok parts pp _ _ ps' hR h2 h
          refine ⟨cells', ?_, k2⟩
          simp only [Instr.fill, hpl]
          rw [if_neg (by simp only [ne_eq, decide_not, Bool.or_eq_true, Bool.not_eq_true', decide_eq_false_iff_not, decide_eq_true_eq]; omega)]
          exact k1
        · cases h
theorem zeros_ok (M : Maps) (E : Env) (w : World) : ∀ zs : List Value, (zs.all fun v => match PC.ofValue v with | .und => false | _ => true) = true → All2 (COk M E w) zs (zs.map PC.ofValue)
  | [], _ => .nil
  | v :: zs, h => by
    simp only [List.all_cons, Bool.and_eq_true] at h
    refine .cons (zero_ok M E w v ?_) (zeros_ok M E w zs h.2)
    intro e
    rw [e] at h
    exact absurd h.1 (by simp)
/-- A struct literal. -/
theorem Step.build {P : Program} {C : Ctx} {o : Oper} {E : Env} {t : Nat} {T : TypeId} {parts : Array (Nat × Operand)} {zs : List Value} {places : List (Nat × Nat)} {pss : List (Nat × List PC)} {ps' : List PC} (ho : o.op = .build T parts) (hd : o.dst = some t) (ht : t < C.n)
    (hT : placesOf P T = some (zs, places)) (hfl : All2 (fun x y => x.1 = y.1 ∧ (E.ev x.2).flat = some y.2) parts.toList pss) (hf : (pss.all fun y => y.2.all E.fine) = true) (hz : (zs.all fun v => match PC.ofValue v with | .und => false | _ => true) = true) (hfill : fillP (places.toArray[·]?) (zs.map PC.ofValue) pss = some ps') :
    Step P C o E (E.set t (.agg ps')) :=
  .value hd ht fun M a w R => by
    have hparts : All2 (fun (x : Nat × Value) (y : Nat × List PC) => x.1 = y.1 ∧ All2 (COk M E w) x.2.cells.toList y.2) (parts.map fun (i, x) => (i, a.eval x)).toList pss := by
      rw [Array.toList_map]
      generalize parts.toList = l at hfl
      clear hfill ho
      induction hfl with
      | nil => exact .nil
      | @cons x y l pss h1 _ ih =>
        rw [List.all_cons, Bool.and_eq_true] at hf
        refine .cons ⟨h1.1, ?_⟩ (ih hf.2)
        exact (cells_ok R (ev_ok R x.2) h1.2 hf.1).1
    obtain ⟨cells', k1, k2⟩ := fill_ok (R := COk M E w) _ _ zs.toArray _ ps' (by simpa using zeros_ok M E w zs hz) hparts hfill
    refine ⟨.agg cells', ?_, ⟨cells', rfl, k2⟩⟩
    unfold execOp
    rw [ho]
    have hrun := run_build w T (parts.map fun (i, x) => (i, a.eval x)) cells' (by rw [built_of hT]; exact k1)
    simp only [Sem.run_bind, hrun, Result.andThen, Sem.run_pure]
end Go.Proofs.Ytmdojlglemnijaa.Rf
