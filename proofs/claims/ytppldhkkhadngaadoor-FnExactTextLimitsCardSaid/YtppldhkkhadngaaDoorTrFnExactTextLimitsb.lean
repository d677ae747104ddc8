/- A logic of our own over the kit's 'wp', as much of it as this claim uses. Plain definitions and theorems. -/
import Derived.Test.YtppldhkkhadngaaDoorTrFnExactTextLimitsa
namespace Go.Proofs.YtppldhkkhadngaaDoor.Rf
open Go.RowKit
set_option linter.unusedVariables false
set_option linter.unnecessarySimpa false
set_option linter.unusedSimpArgs false
open Go.RowKit Go.ChangeShapes Go.WideShapes Go.ChangeAt
theorem RetC.o {E : Env} {r : Nat} {T : TypeId} {d e : D} {ps : List PC} {rcs : List RC} {ss : List Nat} (h : d = e) (hc : RetC E ps rcs ss) (hr : E.row r = some (T, d) := by exact rfl) (hn : ss.contains r = false := by exact rfl) : RetC E (.row r [] :: ps) (.own T e :: rcs) (r :: ss) := RetC.own' hr h hn hc
theorem Step.sb {P : Program} {C : Ctx} {o : Oper} {E : Env} {T T' : TypeId} {x y : Operand} {b off : Nat} {p : PV} {ps qs : List PC} (n : Nat) (ps' : List PC) (ho : o.op = .store T x y := by exact rfl) (hd : o.dst = none := by exact rfl)
    (hT : (P.info? T).map (·.size) = some n := by kernel_rfl) (hx : E.ev x = .one (.ptr b off) := by exact rfl) (hb : E.box b = some (T', ps) := by exact rfl) (hy : E.ev y = p := by exact rfl) (hp : p.flat = some qs := by exact rfl) (hn : qs.length = n := by exact rfl) (hf : qs.all E.fine = true := by exact rfl) (hfit : off + n ≤ ps.length := by exact le_ok rfl)
    (hps : ps.take off ++ qs ++ ps.drop (off + n) = ps' := by exact rfl) : Step P C o E { E with boxes := (b, (T', ps')) :: E.boxes } := Step.store_box ho hd hT hx hb hy hp hn hf hfit hps
theorem Step.bx {P : Program} {C : Ctx} {o : Oper} {E : Env} {t : Nat} {T : TypeId} {x : Operand} {p : PV} (ps : List PC) (ho : o.op = .box T x := by exact rfl) (hd : o.dst = some t := by exact rfl) (ht : t < C.n := by exact lt_ok rfl)
    (hx : E.ev x = p := by exact rfl) (hp : p.flat = some ps := by exact rfl) (hf : ps.all E.fine = true := by exact rfl) (hb : E.nobox t = true := by exact rfl) (hnp : ps.all (fun c => !c.isBox t) = true := by exact rfl) :
    Step P C o E ({ E with boxes := (t, (T, ps)) :: E.boxes }.set t (.one (.ptr t 0))) := Step.box ho hd ht hx hp hf hb hnp
theorem Step.al {P : Program} {C : Ctx} {o : Oper} {E : Env} {t : Nat} {T : TypeId} (ps : List PC) (ho : o.op = .alloc T := by exact rfl) (hd : o.dst = some t := by exact rfl) (ht : t < C.n := by exact lt_ok rfl)
    (hz : (zeroCells P T).map (·.map PC.ofValue) = some ps := by kernel_rfl) (hu : ps.all E.fine = true := by exact rfl) (hb : E.nobox t = true := by exact rfl) (hnp : ps.all (fun c => !c.isBox t) = true := by exact rfl) :
    Step P C o E ({ E with boxes := (t, (T, ps)) :: E.boxes }.set t (.one (.ptr t 0))) := by
  obtain ⟨cs, h1, h2⟩ := Option.map_eq_some_iff.1 hz
  exact Step.alloc ho hd ht h1 h2 hu hb hnp
theorem Step.lba {P : Program} {C : Ctx} {o : Oper} {E : Env} {t : Nat} {T T' : TypeId} {x : Operand} {b off : Nat} {ps : List PC} (n : Nat) (qs : List PC) (ho : o.op = .load T x := by exact rfl) (hd : o.dst = some t := by exact rfl) (ht : t < C.n := by exact lt_ok rfl)
    (hT : isMany P T n = true := by kernel_rfl) (hx : E.ev x = .one (.ptr b off) := by exact rfl) (hb : E.box b = some (T', ps) := by exact rfl) (hq : (ps.drop off).take n = qs := by exact rfl) (hl : qs.length = n := by exact rfl) : Step P C o E (E.set t (.agg qs)) := Step.load_box_agg ho hd ht hT hx hb hq hl
theorem Step.lb {P : Program} {C : Ctx} {o : Oper} {E : Env} {t : Nat} {T T' : TypeId} {x : Operand} {b off : Nat} {ps : List PC} (c : PC) (ho : o.op = .load T x := by exact rfl) (hd : o.dst = some t := by exact rfl) (ht : t < C.n := by exact lt_ok rfl)
    (hT : isOne P T = true := by kernel_rfl) (hx : E.ev x = .one (.ptr b off) := by exact rfl) (hb : E.box b = some (T', ps) := by exact rfl) (hc : ps[off]? = some c := by exact rfl) : Step P C o E (E.set t (.one c)) := Step.load_box ho hd ht hT hx hb hc
theorem Step.fd {P : Program} {C : Ctx} {o : Oper} {E : Env} {t T f b q : Nat} {x : Operand} (off n : Nat) (one : Bool) (ho : o.op = .fieldAddr T x f := by exact rfl) (hd : o.dst = some t := by exact rfl) (ht : t < C.n := by exact lt_ok rfl)
    (hf : isField P T f off n one = true := by kernel_rfl) (hn : n ≠ 0 := by exact Nat.succ_ne_zero _) (hx : E.ev x = .one (.ptr b q) := by exact rfl) : Step P C o E (E.set t (.one (.ptr b (q + off)))) := Step.fieldAddr ho hd ht hf hn hx
end Go.Proofs.YtppldhkkhadngaaDoor.Rf
