/- A logic of our own over the kit's 'wp', as much of it as this claim uses. Plain definitions and theorems. -/
import Derived.Test.YtppldhkkhadngaaDoorTrFnExactCuta
namespace Go.Proofs.YtppldhkkhadngaaDoor.Rf
open Go.RowKit
set_option linter.unusedVariables false
set_option linter.unnecessarySimpa false
set_option linter.unusedSimpArgs false
open Go.RowKit Go.ChangeShapes Go.WideShapes Go.ChangeAt
theorem TL.gf {P : Program} {C : Ctx} {ops : Array Oper} {o : Oper} {l : List Oper} {E : Env} {Q : Env → Prop} {j u : Nat} {want b : Bool} (t : Nat) (h : TL P C ops l (E.set u (.tup [])) Q) (hg : o.guard = some (j, want) := by exact rfl) (hj : (ops[j]?).bind (·.dst) = some t := by exact rfl) (ht : t < C.n := by exact lt_ok rfl) (hb : E.get t = .one (.d (.bool b)) := by exact rfl) (hne : (b == want) = false := by exact rfl) (hd : o.dst = some u := by exact rfl) (hu : u < C.n := by exact lt_ok rfl) : TL P C ops (o :: l) E Q := TL.goff t hg hj ht hb hne hd hu h
theorem TL.b {P : Program} {C : Ctx} {ops : Array Oper} {o : Oper} {l : List Oper} {E : Env} {Q : Env → Prop} {t : Nat} {op : BinOp} {tx ty : TypeId} {x y : Operand} {dx dy : D} (r : D) (hb : Bin op dx dy r) (h : TL P C ops l (E.set t (.one (.d r))) Q) (ho : o.op = .binOp op tx x y ty := by exact rfl) (hg : o.guard = none := by exact rfl) (hd : o.dst = some t := by exact rfl) (ht : t < C.n := by exact lt_ok rfl) (hx : E.ev x = .one (.d dx) := by exact rfl) (hy : E.ev y = .one (.d dy) := by exact rfl) : TL P C ops (o :: l) E Q := TL.cons hg (Step.bin ho hd ht hx hy hb) h
theorem T.ci {P : Program} {C : Ctx} {x : Operand} {c d : Code} {E : Env} {Q : Exit → Env → Prop} {p : Prop} [Decidable p] (hx : E.ev x = .one (.d (.bool (decide p)))) (h1 : p → T P C c E Q) (h2 : ¬p → T P C d E Q) : T P C (.cond x c d) E Q := T.cond hx (fun h => h1 (of_decide_eq_true h)) (fun h => h2 (of_decide_eq_false h))
theorem T.cn {P : Program} {C : Ctx} {x : Operand} {c d : Code} {E : Env} {Q : Exit → Env → Prop} {b : Bool} (hx : E.ev x = .one (.d (.bool (!b)))) (h1 : b = false → T P C c E Q) (h2 : b = true → T P C d E Q) : T P C (.cond x c d) E Q := T.cond hx (fun h => h1 (by simpa using h)) (fun h => h2 (by simpa using h))
theorem T.ct {P : Program} {C : Ctx} {x : Operand} {c d : Code} {E : Env} {Q : Exit → Env → Prop} (h1 : T P C c E Q) (hx : E.ev x = .one (.d (.bool true)) := by exact rfl) : T P C (.cond x c d) E Q := T.cond (b := true) hx (fun _ => h1) (fun h => by cases h)
theorem T.cf {P : Program} {C : Ctx} {x : Operand} {c d : Code} {E : Env} {Q : Exit → Env → Prop} (h1 : T P C d E Q) (hx : E.ev x = .one (.d (.bool false)) := by exact rfl) : T P C (.cond x c d) E Q := T.cond (b := false) hx (fun h => by cases h) (fun _ => h1)
theorem RetC.r {E : Env} {x y : D} {ps : List PC} {rcs : List RC} {ss : List Nat} (h : x = y) (hr : RetC E ps rcs ss) : RetC E (.d x :: ps) (.rd y :: rcs) ss := RetC.rd' h hr
theorem RetC.o {E : Env} {r : Nat} {T : TypeId} {d e : D} {ps : List PC} {rcs : List RC} {ss : List Nat} (h : d = e) (hc : RetC E ps rcs ss) (hr : E.row r = some (T, d) := by exact rfl) (hn : ss.contains r = false := by exact rfl) : RetC E (.row r [] :: ps) (.own T e :: rcs) (r :: ss) := RetC.own' hr h hn hc
end Go.Proofs.YtppldhkkhadngaaDoor.Rf
