/- A logic of our own over the kit's 'wp': calls, with what the callee answers said first. Plain definitions and theorems. -/
import Derived.Test.YtmdojlglemnijaaRf29
namespace Go.Proofs.Ytmdojlglemnijaa.Rf
open Go.RowKit
set_option linter.unusedVariables false
theorem Step.callX2 {P : Program} {C : Ctx} {o : Oper} {E : Env} {t f b : Nat} {T : TypeId} {ats : Array TypeId} {g : Operand} {xs : List Operand} {ps : List PV} {args : List XA} {bps : List PC} {cs cs' : List RC} {res : Res} {ss : List Nat} (hbxc : BX P f args T cs cs' res) (ho : o.op = .call { callee := .value g, args := xs.toArray, argTypes := ats }) (hd : o.dst = some t) (ht : t < C.n)
    (hg : E.ev g = .one (.d (.fn f))) (hfn : isFn P f = true) (hev : xs.map E.ev = ps) (hargs : All2 (XArg E b) ps args) (hb : E.box b = some (T, bps)) (hcs : XCells E bps cs ss) (hn : cs'.length = bps.length)
    (hfr : (E.handX b T bps.length ss).freshRows t 0 (cs' ++ res.flatMap (·.2)) = true) (hpin : ∀ x ∈ C.pin, x.1 < 1000) (hsh : res.all (fun x => x.1 || x.2.length == 1) = true) :
    Step P C o E (({ (E.handX b T bps.length ss).addRows t 0 (cs' ++ res.flatMap (·.2)) with boxes := (b, (T, pcs t 0 cs')) :: ((E.handX b T bps.length ss).addRows t 0 (cs' ++ res.flatMap (·.2))).boxes } : Env).set t (.ofRes (respvs t cs'.length res))) :=
  Step.callX ho hd ht hg hfn hev hargs hb hcs hbxc hn hfr hpin hsh
theorem Step.callXX2 {P : Program} {C : Ctx} {o : Oper} {E : Env} {t f b : Nat} {T : TypeId} {ats : Array TypeId} {g : Operand} {xs : List Operand} {ps : List PV} {args : List XA} {bps : List PC} {cs cs' : List RC} {res : Res} {ss : List Nat} (hbxc : BX P f args T cs cs' res) (ho : o.op = .call { callee := .value g, args := xs.toArray, argTypes := ats }) (hd : o.dst = some t) (ht : t < C.n)
    (hg : E.ev g = .one (.d (.fn f))) (hfn : isFn P f = true) (hev : xs.map E.ev = ps) (hargs : All2 (XArg E b) ps args) (hb : E.box b = some (T, bps)) (hcs : XCells E bps cs ss) (hn : cs'.length = bps.length)
    (hfr : (E.handX b T bps.length ss).freshRows t 0 (cs' ++ res.flatMap (·.2)) = true) (hpin : ∀ x ∈ C.pin, x.1 < 1000) (hsh : res.all (fun x => x.1 || x.2.length == 1) = true) (hss : ∀ s ∈ ss, ∀ x ∈ rowsOf t 0 (cs' ++ res.flatMap (·.2)), x.1 ≠ s) :
    Step P C o E (({ dst := some t, pv := .ofRes (respvs t cs'.length res), rows := rowsOf t 0 (cs' ++ res.flatMap (·.2)), dead := ss, box := some (b, (T, pcs t 0 cs')) } : EffX).app E) :=
  Step.callXX ho hd ht hg hfn hev hargs hb hcs hbxc hn hfr hpin hsh hss
theorem Step.callM2 {P : Program} {C : Ctx} {o : Oper} {E : Env} {t f : Nat} {ats : Array TypeId} {g : Operand} {xs : List Operand} {ps : List PV} {args : List MA} {js : List (Nat × D)} {x : D} {u : Value} (hmk : MK P f args [(false, [.rd x])]) (ho : o.op = .call { callee := .value g, args := xs.toArray, argTypes := ats }) (hd : o.dst = some t) (ht : t < C.n)
    (hg : E.ev g = .one (.d (.fn f))) (hfn : isFn P f = true) (hev : xs.map E.ev = ps) (hsh : shOk ps args = true) (hcs : MCells E (ps.flatMap PV.mcells) (args.flatMap MA.cells) js) (hx : x.val = some u) :
    Step P C o E ((E.marked (killJ js) (lk js)).set t (.one (.d x))) :=
  Step.callM ho hd ht hg hfn hev hsh hcs hmk hx
end Go.Proofs.Ytmdojlglemnijaa.Rf
