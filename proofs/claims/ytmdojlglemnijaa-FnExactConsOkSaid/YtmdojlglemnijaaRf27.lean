/- A logic of our own over the kit's 'wp': operations that wait for a bool which never came. Plain definitions and theorems. -/
import Derived.Test.YtmdojlglemnijaaRf26
namespace Go.Proofs.Ytmdojlglemnijaa.Rf
open Go.RowKit
set_option linter.unusedVariables false
set_option linter.unnecessarySimpa false
set_option linter.unusedSimpArgs false
theorem tup_undef {C : Ctx} {M : Maps} {E : Env} {a : Act} {w : World} (R : RelM C M E a w) {t : Nat} (h : E.get t = .tup []) : a.tmps.getD t undef = undef := by
  have := R.tm t
  rw [h] at this
  obtain ⟨arr, e, h2⟩ := this
  cases hl : arr.toList with
  | nil => rw [e]; have : arr = #[] := by apply Array.ext'; simpa using hl
           rw [this]; rfl
  | cons x xs => rw [hl] at h2; cases h2
theorem undef_tup {M : Maps} {E : Env} {w : World} : POk M E w undef (.tup []) := ⟨#[], rfl, .nil⟩
theorem guard_none {C : Ctx} {E : Env} {a : Act} {w : World} {ops : Array Oper} {j t : Nat} (R : Rel C E a w) (hj : (ops[j]?).bind (·.dst) = some t) (ht : t < C.n) (hb : E.get t = .tup []) : yielded ops a.tmps j = none := by
  obtain ⟨M, R0⟩ := R
  have hv := tup_undef R0 hb
  have hlt : t < a.tmps.size := by rw [R0.tn]; exact ht
  have : a.tmps[t]? = some undef := by
    rw [Array.getElem?_eq_getElem hlt]
    simp [Array.getD_eq_getD_getElem?, Array.getElem?_eq_getElem hlt] at hv
    rw [hv]
  unfold yielded
  simp only [hj, Option.bind_some, this]
  rfl
theorem OpStep.off {P : Program} {C : Ctx} {ops : Array Oper} {o : Oper} {E : Env} {j t u : Nat} {want b : Bool} (hg : o.guard = some (j, want)) (hj : (ops[j]?).bind (·.dst) = some t) (ht : t < C.n) (hb : E.get t = .one (.d (.bool b))) (hne : b ≠ want) (hd : o.dst = some u) (hu : u < C.n) : OpStep P C ops o E (E.set u (.tup [])) := fun a w R K Q hK => by
  rw [if_neg (by simp [Region.wanted, hg, guard_val R hj ht hb, hne])]
  obtain ⟨M, R0⟩ := R
  refine hK _ _ ⟨M, ?_⟩
  rw [hd]
  exact R0.put hu undef_tup
theorem OpStep.offU {P : Program} {C : Ctx} {ops : Array Oper} {o : Oper} {E : Env} {j t u : Nat} {want : Bool} (hg : o.guard = some (j, want)) (hj : (ops[j]?).bind (·.dst) = some t) (ht : t < C.n) (hb : E.get t = .tup []) (hd : o.dst = some u) (hu : u < C.n) : OpStep P C ops o E (E.set u (.tup [])) := fun a w R K Q hK => by
  rw [if_neg (by simp [Region.wanted, hg, guard_none R hj ht hb])]
  obtain ⟨M, R0⟩ := R
  refine hK _ _ ⟨M, ?_⟩
  rw [hd]
  exact R0.put hu undef_tup
theorem TL.goff {P : Program} {C : Ctx} {ops : Array Oper} {o : Oper} {l : List Oper} {E : Env} {Q : Env → Prop} {j u : Nat} {want b : Bool} (t : Nat) (hg : o.guard = some (j, want)) (hj : (ops[j]?).bind (·.dst) = some t) (ht : t < C.n) (hb : E.get t = .one (.d (.bool b))) (hne : (b == want) = false) (hd : o.dst = some u) (hu : u < C.n) (h : TL P C ops l (E.set u (.tup [])) Q) : TL P C ops (o :: l) E Q := by
  intro a w R QQ hQ
  refine wpList_step fun K hK => ?_
  have hv := guard_val R hj ht hb
  have hne' : ¬ b = want := by simpa using hne
  rw [if_neg (by simp [Region.wanted, hg, hv, hne'])]
  obtain ⟨M, R0⟩ := R
  refine hK _ _ (h _ _ ⟨M, ?_⟩ QQ hQ)
  rw [hd]
  exact R0.put hu undef_tup
theorem TL.goffU {P : Program} {C : Ctx} {ops : Array Oper} {o : Oper} {l : List Oper} {E : Env} {Q : Env → Prop} {j u : Nat} {want : Bool} (t : Nat) (hg : o.guard = some (j, want)) (hj : (ops[j]?).bind (·.dst) = some t) (ht : t < C.n) (hb : E.get t = .tup []) (hd : o.dst = some u) (hu : u < C.n) (h : TL P C ops l (E.set u (.tup [])) Q) : TL P C ops (o :: l) E Q := by
  intro a w R QQ hQ
  refine wpList_step fun K hK => ?_
  rw [if_neg (by simp [Region.wanted, hg, guard_none R hj ht hb])]
  obtain ⟨M, R0⟩ := R
  refine hK _ _ (h _ _ ⟨M, ?_⟩ QQ hQ)
  rw [hd]
  exact R0.put hu undef_tup
end Go.Proofs.Ytmdojlglemnijaa.Rf
