/- A logic of our own over the kit's 'wp': a nil cell of a variable as an empty row of one's own. Plain definitions and theorems. -/
import Derived.Test.YtmdojlglemnijaaRf28
namespace Go.Proofs.Ytmdojlglemnijaa.Rf
open Go.RowKit
set_option linter.unusedVariables false
set_option linter.unnecessarySimpa false
set_option linter.unusedSimpArgs false
theorem cok_rows {M : Maps} {E E' : Env} {w : World} (h : E'.rows = E.rows) {c : PC} {v : Value} (hc : COk M E w v c) : COk M E' w v c := by
  have hr : ∀ r, E'.row r = E.row r := fun r => by unfold Env.row; rw [h]
  cases c with
  | row r p => intro T d hT; exact hc T d (by rw [← hr]; exact hT)
  | rptr r p i j => intro T d hT; exact hc T d (by rw [← hr]; exact hT)
  | d x => exact hc
  | nil => exact hc
  | und => trivial
  | ptr b off => exact hc
  | eptr x i j => exact hc
def Env.nilrow (E : Env) (b off r : Nat) (T TB : TypeId) (d : D) (ps : List PC) : Env := { tm := E.tm, rows := (r, (T, d)) :: E.rows, boxes := (b, (TB, ps.set off (.row r []))) :: E.boxes }
theorem RelM.nilrow {C : Ctx} {M : Maps} {E : Env} {a : Act} {w : World} (R : RelM C M E a w) {b off r : Nat} {T TB : TypeId} {d : D} {ps : List PC} (hb : E.box b = some (TB, ps)) (ho : ps[off]? = some .nil) (hf : E.noref' r = true) (hp : ∀ x ∈ C.pin, x.1 ≠ r)
    (h1 : d.isSl = true) (h0 : d.size = 0) (hw : d.wf) : ∃ M', RelM C M' (E.nilrow b off r T TB d ps) a w := by
  have R1 := R.addRow (T := T) (v := .slice none 0 0) (fp := []) hf hp ⟨h1, .empty h1 h0 hw .nil, fun a n c hv => by cases hv⟩ .nil (fun k hk => by cases hk)
  generalize hM : ({ M with hdl := fun x => if x = r then Value.slice none 0 0 else M.hdl x, fp := fun x => if x = r then [] else M.fp x, own := fun k => if k ∈ ([] : List Nat) then Tag.row r else M.own k } : Maps) = M1 at R1
  have hh : M1.hdl r = .slice none 0 0 := by subst hM; simp
  refine ⟨M1, { R1 with tm := ?_, rows := R1.rows, boxes := ?_, pin := R1.pin, bpin := ?_ }⟩
  · intro t
    exact (R1.tm t).mono fun c _ v h => cok_rows (E' := E.nilrow b off r T TB d ps) rfl h
  · intro b' T' ps' hb'
    by_cases e : b = b'
    · subst e
      have : (TB, ps.set off (.row r [])) = (T', ps') := by simpa [Env.nilrow, Env.box, lk] using hb'
      injection this with e1 e2
      subst e1 e2
      obtain ⟨k1, cs, k2, k3⟩ := R1.boxes b TB ps hb
      refine ⟨k1, cs, k2, ?_⟩
      have k4 := k3.imp fun v c _ h => cok_rows (E' := E.nilrow b off r T TB d ps) rfl h
      obtain ⟨v, hv, hcv⟩ := k4.get off .nil ho
      have k5 := k4.set (a := v) (b := .row r []) (fun T2 d2 _ => by show v = M1.hdl r; rw [hh]; exact hcv) off
      have : cs.toList.set off v = cs.toList := by
        apply List.ext_getElem?
        intro q
        rw [List.getElem?_set]
        split
        · rename_i e; subst e
          split
          · exact hv.symm
          · rename_i hh; rw [List.getElem?_eq_none (by omega)]
        · rfl
      rw [this] at k5
      exact k5
    · have hb2 : E.box b' = some (T', ps') := by
        have h := hb'
        simp only [Env.nilrow, Env.box, lk, if_neg e] at h
        exact h
      obtain ⟨k1, cs, k2, k3⟩ := R1.boxes b' T' ps' hb2
      exact ⟨k1, cs, k2, k3.imp fun v c _ h => cok_rows (E' := E.nilrow b off r T TB d ps) rfl h⟩
  · intro b' v hpb hn T' ps' hb'
    by_cases e : b = b'
    · subst e; exact R1.bpin b v hpb hn TB ps hb
    · refine R1.bpin b' v hpb hn T' ps' ?_
      have h := hb'
      simp only [Env.nilrow, Env.box, lk, if_neg e] at h
      exact h
theorem T.nilrow {P : Program} {C : Ctx} {c : Code} {E : Env} {Q : Exit → Env → Prop} (b off r : Nat) (T_ TB : TypeId) (d : D) (ps : List PC) (hb : E.box b = some (TB, ps)) (ho : ps[off]? = some .nil) (hf : E.noref' r = true) (hp : ∀ x ∈ C.pin, x.1 ≠ r) (h1 : d.isSl = true) (h0 : d.size = 0) (hw : d.wf)
    (h : T P C c (E.nilrow b off r T_ TB d ps) Q) : T P C c E Q := fun a w ⟨M, R⟩ => by
  obtain ⟨M', R'⟩ := R.nilrow (T := T_) hb ho hf hp h1 h0 hw
  exact h a w ⟨M', R'⟩
end Go.Proofs.Ytmdojlglemnijaa.Rf
