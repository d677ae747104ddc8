/- A logic of our own over the kit's 'wp', as much of it as this claim uses. Plain definitions and theorems. -/
import Derived.Test.YtjohlfccejljlaaGreatTrFnExactTailb
namespace Go.Proofs.YtjohlfccejljlaaGreat.Rf
open Go.RowKit
set_option linter.unusedVariables false
set_option linter.unnecessarySimpa false
set_option linter.unusedSimpArgs false
open Go.RowKit Go.ChangeShapes Go.WideShapes Go.ChangeAt
theorem StepsX.many {P : Program} {C : Ctx} {E0 : Env} {l : List Oper} {fs : List EffX} : ∀ {k i : Nat} {os : List Oper} {gs : List EffX}, StepsX P C E0 l fs (i + k) (os.drop k) (gs.drop k) → k ≤ os.length → k ≤ gs.length → chkX P C.n E0 l fs i (os.take k) = (gs.take k).map some → StepsX P C E0 l fs i os gs
 | 0, i, os, gs, h, _, _, _ => by simpa using h
 | k + 1, i, [], gs, h, h1, _, _ => by simp at h1
 | k + 1, i, o :: os, [], h, _, h2, _ => by simp at h2
 | k + 1, i, o :: os, g :: gs, h, h1, h2, hc => by
  rw [List.take_succ_cons, List.take_succ_cons, chkX, List.map_cons, List.cons.injEq] at hc
  refine .cons (fun E A => effG_ok (effX_ok A hc.1)) (StepsX.many (k := k) ?_ (by simpa using h1) (by simpa using h2) hc.2)
  rw [List.drop_succ_cons, List.drop_succ_cons] at h
  rwa [show i + (k + 1) = i + 1 + k from by omega] at h
theorem StepsX.sk {P : Program} {C : Ctx} {E0 : Env} {l : List Oper} {fs : List EffX} {i : Nat} {os : List Oper} {gs : List EffX} (k : Nat) (h : StepsX P C E0 l fs (i + k) (os.drop k) (gs.drop k)) (h1 : k ≤ os.length := by exact le_ok rfl) (h2 : k ≤ gs.length := by exact le_ok rfl) (hc : chkX P C.n E0 l fs i (os.take k) = (gs.take k).map some := by kernel_rfl) : StepsX P C E0 l fs i os gs := StepsX.many h h1 h2 hc
theorem AtX.g {E0 : Env} {l : List Oper} {fs : List EffX} {i : Nat} {E : Env} (A : AtX E0 l fs i E) (t : Nat) {p : PV} (hs : seenT l fs i t = true := by kernel_rfl) (hp : (mkF E0 (reach l i) fs).get t = p := by kernel_rfl) : Env.ev E (.tmp t) = p := (A.get t hs).trans hp
theorem AtX.b {E0 : Env} {l : List Oper} {fs : List EffX} {i : Nat} {E : Env} (A : AtX E0 l fs i E) (b : Nat) {x : TypeId × List PC} (hs : seenB l fs i b = true := by kernel_rfl) (hp : (mkF E0 (reach l i) fs).box b = some x := by kernel_rfl) : E.box b = some x := (A.box b hs).trans hp
theorem AtX.r {E0 : Env} {l : List Oper} {fs : List EffX} {i : Nat} {E : Env} (A : AtX E0 l fs i E) (r : Nat) {x : TypeId × D} (hs : seenR l fs i r = true := by kernel_rfl) (hp : (mkF E0 (reach l i) fs).row r = some x := by kernel_rfl) : E.row r = some x := (A.row r hs).trans hp
theorem AtX.fn {E0 : Env} {l : List Oper} {fs : List EffX} {i : Nat} {E : Env} (A : AtX E0 l fs i E) {q : List PC} (hs : q.all (seenC l fs i) = true := by kernel_rfl) (hp : q.all (mkF E0 (reach l i) fs).fine = true := by kernel_rfl) : q.all E.fine = true := by
  rw [← hp]
  refine fine_congr fun c hc r hm => ?_
  rw [List.all_eq_true] at hs
  have hcs := hs c hc
  cases c with
  | row r' p => have e : r = r' := by simpa [PC.ment] using hm
                subst e; exact A.row _ hcs
  | rptr r' p i j => have e : r = r' := by simpa [PC.ment] using hm
                     subst e; exact A.row _ hcs
  | _ => simp [PC.ment] at hm
theorem Step.cz {P : Program} {C : Ctx} {o : Oper} {E : Env} {t f : Nat} {ats : Array TypeId} {g : Operand} {xs : List Operand} {args : List A} {res : Res} (hro : RO P f args res) (ho : o.op = .call { callee := .value g, args := xs.toArray, argTypes := ats } := by exact rfl) (hd : o.dst = some t := by exact rfl) (ht : t < C.n := by exact lt_ok rfl)
  (hg : E.ev g = .one (.d (.fn f)) := by exact rfl) (hfn : isFn P f = true := by kernel_rfl) (hargs : All2 (ArgP E false) (xs.map E.ev) args := by repeat' first | exact .nil | refine .cons ?_ ?_ | exact .one (.d _) | exact .one (.row rfl rfl rfl rfl) | refine .agg ?_ | exact .one (.nil rfl rfl trivial) | exact .one (.nil rfl rfl (D.wf_nil _)) | exact .d _ | exact .row rfl rfl rfl rfl | exact .nil rfl rfl trivial | exact .nil rfl rfl (D.wf_nil _))
  (hsc : false = true ∨ resScal res = true := by exact .inr rfl) (hfr : E.freshRows t 0 (res.flatMap (·.2)) = true := by exact rfl) (hpin : ∀ x ∈ C.pin, x.1 < 1000 := by simp) (hsh : res.all (fun x => x.1 || x.2.length == 1) = true := by exact rfl) : Step P C o E ((E.addRows t 0 (res.flatMap (·.2))).set t (.ofRes (respvs t 0 res))) := Step.cl false hargs hro ho hd ht hg hfn rfl hsc hfr hpin hsh
theorem Step.x2 {P : Program} {C : Ctx} {o : Oper} {E : Env} {t f : Nat} {T : TypeId} {ats : Array TypeId} {g : Operand} {xs : List Operand} {args : List XA} {bps : List PC} {cs cs' : List RC} {res : Res} (b : Nat) (hbxc : BX P f args T cs cs' res) (ho : o.op = .call { callee := .value g, args := xs.toArray, argTypes := ats } := by exact rfl) (hd : o.dst = some t := by exact rfl) (ht : t < C.n := by exact lt_ok rfl)
  (hg : E.ev g = .one (.d (.fn f)) := by exact rfl) (hfn : isFn P f = true := by kernel_rfl) (hargs : All2 (XArg E b) (xs.map E.ev) args := by repeat' first | exact .nil | refine .cons ?_ ?_ | exact .bx | exact .rd (.one (.d _)) | refine .rd (.agg ?_) | exact .d _) (hb : E.box b = some (T, bps) := by exact rfl) (hcs : XCells E bps cs [] := by exact .rd (.rd (.rd .nil))) (hn : cs'.length = bps.length := by exact rfl)
  (hfr : (E.handX b T bps.length []).freshRows t 0 (cs' ++ res.flatMap (·.2)) = true := by exact rfl) (hpin : ∀ x ∈ C.pin, x.1 < 1000 := by first | (simp; done) | exact fun x hx => by have := hp x hx; omega) (hsh : res.all (fun x => x.1 || x.2.length == 1) = true := by exact rfl) : Step P C o E (({ (E.handX b T bps.length []).addRows t 0 (cs' ++ res.flatMap (·.2)) with boxes := (b, (T, pcs t 0 cs')) :: ((E.handX b T bps.length []).addRows t 0 (cs' ++ res.flatMap (·.2))).boxes } : Env).set t (.ofRes (respvs t cs'.length res))) := Step.callX2 hbxc ho hd ht hg hfn rfl hargs hb hcs hn hfr hpin hsh
theorem Step.ln {P : Program} {C : Ctx} {o : Oper} {E : Env} {t : Nat} {T : TypeId} {x : Operand} {c : PC} (e z : Nat) (d : D) (ho : o.op = .call { callee := .builtin .len, args := #[x], argTypes := #[T] } := by exact rfl) (hd : o.dst = some t := by exact rfl) (ht : t < C.n := by exact lt_ok rfl)
  (hT : isSlice P T e z = true := by kernel_rfl) (hx : E.ev x = .one c := by exact rfl) (hc : E.cont c = some d := by exact rfl) : Step P C o E (E.set t (.one (.d (.int .i64 d.size)))) := Step.len ho hd ht hT hx hc
theorem Step.ap {P : Program} {C : Ctx} {o : Oper} {E : Env} {t : Nat} {T : Nat} {x y : Operand} {r : Nat} {d : D} {c : PC} {ss : List Nat} (e z by_ : Nat) (dy d' : D) (hs : AppSrc E c dy ss) (ho : o.op = .call { callee := .builtin .append, args := #[x, y], argTypes := #[T, T] } := by exact rfl) (hd : o.dst = some t := by exact rfl) (ht : t < C.n := by exact lt_ok rfl)
  (hT : isElem P T e z by_ = true := by kernel_rfl) (hx : E.ev x = .one (.row r []) := by exact rfl) (hr : E.row r = some (e, d) := by exact rfl) (hz : d.z = z := by exact rfl) (hz0 : 0 < z := by exact lt_ok rfl) (hy : E.ev y = .one c := by exact rfl) (hrs : r ∉ ss := by simp)
  (hap : d.app dy = some d' := by first | exact rfl | exact app_sl) (h63 : (d.size + dy.size) * by_ ≤ 140737488355328 := by simp only [D.size, List.length_map]; first | omega | (simp only [List.length_append, List.length_cons, List.length_nil]; omega) | (simp; omega) | (simp only [List.length_append] at *; omega)) (h64 : d.size + dy.size ≤ 9223372036854775807 := by simp only [D.size, List.length_map]; first | omega | (simp only [List.length_append, List.length_cons, List.length_nil]; omega) | (simp; omega) | (simp only [List.length_append] at *; omega)) (hpin : ∀ x ∈ C.pin, x.1 ≠ r := by first | (simp; done) | exact fun x hx => by have := hp x hx; omega) : Step P C o E ({ (E.drops ss).mapc (PC.kill r) with rows := (r, (e, d')) :: (E.drops ss).rows }.set t (.one (.row r []))) := Step.append ho hd ht hT hx hr hz hz0 hy hs hrs hap h63 h64 hpin
theorem Step.lt {P : Program} {C : Ctx} {o : Oper} {E : Env} {t n : Nat} {T : Nat} {parts : Array (Nat × Operand)} (e z by_ : Nat) (xs : List Operand) (pss : List (List PC)) {es : List D} (d : D) (ho : o.op = .buildSlice T n parts := by exact rfl) (hd : o.dst = some t := by exact rfl) (ht : t < C.n := by exact lt_ok rfl)
  (hT : isElem P T e z by_ = true := by kernel_rfl) (hp : parts.toList = xs.zipIdx.map fun x => (x.2, x.1) := by exact rfl) (hn : xs.length = n := by exact rfl) (hfl : Flats E xs pss := by repeat' first | exact .nil | refine .cons rfl ?_) (hz : ∀ ps ∈ pss, ps.length = z := by simp) (hb : n * z ≤ 16777216 := by exact le_ok rfl) (hn63 : n ≤ 9223372036854775807 := by exact le_ok rfl) (hf : pss.flatten.all E.fine = true := by exact rfl)
  (hde : d.flat = es := by exact rfl) (hm : Moved E pss.flatten es [] := by repeat' first | exact .nil | refine .val rfl ?_ | refine .empty rfl rfl trivial ?_ | refine .empty rfl rfl (D.wf_nil _) ?_) (hr : (E.drops []).noref' t = true := by exact rfl) (hts : t ∉ ([] : List Nat) := by simp) (hpin : ∀ x ∈ C.pin, x.1 ≠ t := by simp) (hs : d.isSl = true := by exact rfl) (hw : d.wf := by first | exact trivial | exact D.wf_nil _) (hsz : d.size = n := by exact rfl) : Step P C o E ({ E.drops [] with rows := (t, (e, d)) :: (E.drops []).rows }.set t (.one (.row t []))) := Step.lit ho hd ht hT hp hn hfl hz hb hn63 hf hm hr hts hpin hs hw hsz hde
theorem TL.ad {P : Program} {C : Ctx} {ops : Array Oper} {o : Oper} {l : List Oper} {E : Env} {Q : Env → Prop} {t : Nat} {tx ty : TypeId} {x y : Operand} {k : IntKind} {a b : Int} (c : Int) (h : TL P C ops l (E.set t (.one (.d (.int k c)))) Q) (ho : o.op = .binOp .add tx x y ty := by exact rfl) (hg : o.guard = none := by exact rfl) (hd : o.dst = some t := by exact rfl) (ht : t < C.n := by exact lt_ok rfl) (hx : E.ev x = .one (.d (.int k a)) := by exact rfl) (hy : E.ev y = .one (.d (.int k b)) := by exact rfl)
  (hw : k.wrap (a + b) = c := by first | exact wrap_ok (by first | omega | (simp only [D.size]; omega) | (simp; omega)) (by first | omega | (simp only [D.size]; omega) | (simp; omega)) | rfl) : TL P C ops (o :: l) E Q := TL.cons hg (Step.bin ho hd ht hx hy (Bin.add hw)) h
theorem TL.sb {P : Program} {C : Ctx} {ops : Array Oper} {o : Oper} {l : List Oper} {E : Env} {Q : Env → Prop} {t : Nat} {tx ty : TypeId} {x y : Operand} {k : IntKind} {a b : Int} (c : Int) (h : TL P C ops l (E.set t (.one (.d (.int k c)))) Q) (ho : o.op = .binOp .sub tx x y ty := by exact rfl) (hg : o.guard = none := by exact rfl) (hd : o.dst = some t := by exact rfl) (ht : t < C.n := by exact lt_ok rfl) (hx : E.ev x = .one (.d (.int k a)) := by exact rfl) (hy : E.ev y = .one (.d (.int k b)) := by exact rfl)
  (hw : k.wrap (a - b) = c := by first | exact wrap_ok (by first | omega | (simp only [D.size]; omega) | (simp; omega)) (by first | omega | (simp only [D.size]; omega) | (simp; omega)) | rfl) : TL P C ops (o :: l) E Q := TL.cons hg (Step.bin ho hd ht hx hy (Bin.sub hw)) h
theorem TL.ml {P : Program} {C : Ctx} {ops : Array Oper} {o : Oper} {l : List Oper} {E : Env} {Q : Env → Prop} {t : Nat} {tx ty : TypeId} {x y : Operand} {k : IntKind} {a b : Int} (c : Int) (h : TL P C ops l (E.set t (.one (.d (.int k c)))) Q) (ho : o.op = .binOp .mul tx x y ty := by exact rfl) (hg : o.guard = none := by exact rfl) (hd : o.dst = some t := by exact rfl) (ht : t < C.n := by exact lt_ok rfl) (hx : E.ev x = .one (.d (.int k a)) := by exact rfl) (hy : E.ev y = .one (.d (.int k b)) := by exact rfl)
  (hw : k.wrap (a * b) = c := by first | exact wrap_ok (by first | omega | (simp only [D.size]; omega) | (simp; omega)) (by first | omega | (simp only [D.size]; omega) | (simp; omega)) | rfl) : TL P C ops (o :: l) E Q := TL.cons hg (Step.bin ho hd ht hx hy (Bin.mul hw)) h
def movedF (E : Env) : List PC → List D → Option (List D × List Nat)
 | [], [] => some ([], [])
 | .d x :: ps, _ :: es => match movedF E ps es with
  | some (l, ss) => bif x.val.isSome then some (x :: l, ss) else none
  | none => none
 | .row s [] :: ps, _ :: es => match E.row s, movedF E ps es with
  | some (_, d), some (l, ss) => bif ss.contains s then none else some (d :: l, s :: ss)
  | _, _ => none
 | _, _ => none
theorem movedF_ok {E : Env} : ∀ {ps : List PC} {es0 es : List D} {ss : List Nat}, movedF E ps es0 = some (es, ss) → Moved E ps es ss
 | [], es0, es, ss, h => by
  cases es0 with
  | nil => simp only [movedF, Option.some.injEq, Prod.mk.injEq] at h; obtain ⟨rfl, rfl⟩ := h; exact .nil
  | cons _ _ => simp [movedF] at h
 | .d x :: ps, [], es, ss, h => by simp [movedF] at h
 | .d x :: ps, e :: es0, es, ss, h => by
  simp only [movedF] at h
  cases hq : movedF E ps es0 with
  | none => rw [hq] at h; cases h
  | some q =>
   obtain ⟨l, s2⟩ := q
   rw [hq] at h
   cases hv : x.val.isSome with
   | false => simp [hv] at h
   | true => simp only [hv, cond_true, Option.some.injEq, Prod.mk.injEq] at h; obtain ⟨rfl, rfl⟩ := h; exact .val hv (movedF_ok hq)
 | .row s [] :: ps, [], es, ss, h => by simp [movedF] at h
 | .row s [] :: ps, e :: es0, es, ss, h => by
  simp only [movedF] at h
  cases hr : E.row s with
  | none => rw [hr] at h; simp at h
  | some u =>
   obtain ⟨T, d⟩ := u
   cases hq : movedF E ps es0 with
   | none => rw [hr, hq] at h; simp at h
   | some q =>
    obtain ⟨l, s2⟩ := q
    rw [hr, hq] at h
    cases hv : s2.contains s with
    | true => simp only [hv, cond_true] at h; cases h
    | false =>
     simp only [hv, cond_false, Option.some.injEq, Prod.mk.injEq] at h
     obtain ⟨rfl, rfl⟩ := h
     exact .row hr (fun hm => by rw [List.contains_iff_mem.mpr hm] at hv; cases hv) (movedF_ok hq)
 | .row s (_ :: _) :: ps, es0, es, ss, h => by cases es0 <;> simp [movedF] at h
 | .nil :: ps, es0, es, ss, h => by cases es0 <;> simp [movedF] at h
 | .und :: ps, es0, es, ss, h => by cases es0 <;> simp [movedF] at h
 | .ptr _ _ :: ps, es0, es, ss, h => by cases es0 <;> simp [movedF] at h
 | .eptr _ _ _ :: ps, es0, es, ss, h => by cases es0 <;> simp [movedF] at h
 | .rptr _ _ _ _ :: ps, es0, es, ss, h => by cases es0 <;> simp [movedF] at h
theorem Step.lk {P : Program} {C : Ctx} {o : Oper} {E : Env} {t n : Nat} {T : Nat} {parts : Array (Nat × Operand)} (e z by_ : Nat) (xs : List Operand) (pss : List (List PC)) (ss : List Nat) (d : D) (ho : o.op = .buildSlice T n parts := by exact rfl) (hd : o.dst = some t := by exact rfl) (ht : t < C.n := by exact lt_ok rfl)
  (hT : isElem P T e z by_ = true := by kernel_rfl) (hp : parts.toList = xs.zipIdx.map fun x => (x.2, x.1) := by exact rfl) (hn : xs.length = n := by exact rfl) (hfl : Flats E xs pss := by repeat' first | exact .nil | refine .cons rfl ?_) (hz : ∀ ps ∈ pss, ps.length = z := by simp) (hb : n * z ≤ 16777216 := by exact le_ok rfl) (hn63 : n ≤ 9223372036854775807 := by exact le_ok rfl) (hf : pss.flatten.all E.fine = true := by kernel_rfl)
  (hm : movedF E pss.flatten d.flat = some (d.flat, ss) := by kernel_rfl) (hr : (E.drops ss).noref' t = true := by kernel_rfl) (hts : t ∉ ss := by simp) (hpin : ∀ x ∈ C.pin, x.1 ≠ t := by simp) (hs : d.isSl = true := by exact rfl) (hw : d.wf := by first | exact trivial | exact D.wf_nil _) (hsz : d.size = n := by exact rfl) : Step P C o E ({ E.drops ss with rows := (t, (e, d)) :: (E.drops ss).rows }.set t (.one (.row t []))) := Step.lit ho hd ht hT hp hn hfl hz hb hn63 hf (movedF_ok hm) hr hts hpin hs hw hsz rfl
theorem Step.ak {P : Program} {C : Ctx} {o : Oper} {E : Env} {t : Nat} {T : Nat} {x y : Operand} (e z by_ r s : Nat) (d dy d' : D) (ho : o.op = .call { callee := .builtin .append, args := #[x, y], argTypes := #[T, T] } := by exact rfl) (hd : o.dst = some t := by exact rfl) (ht : t < C.n := by exact lt_ok rfl)
  (hT : isElem P T e z by_ = true := by kernel_rfl) (hx : E.ev x = .one (.row r []) := by kernel_rfl) (hr : E.row r = some (e, d) := by kernel_rfl) (hz : d.z = z := by exact rfl) (hz0 : 0 < z := by exact lt_ok rfl) (hy : E.ev y = .one (.row s []) := by kernel_rfl) (hs : E.row s = some (e, dy) := by kernel_rfl) (hrs : r ∉ [s] := by simp)
  (hap : d.app dy = some d' := by exact app_sl) (h63 : (d.size + dy.size) * by_ ≤ 140737488355328 := by simp only [D.size, List.length_map]; first | omega | (simp only [List.length_append, List.length_cons, List.length_nil]; omega) | (simp; omega) | (simp only [List.length_append] at *; omega)) (h64 : d.size + dy.size ≤ 9223372036854775807 := by simp only [D.size, List.length_map]; first | omega | (simp only [List.length_append, List.length_cons, List.length_nil]; omega) | (simp; omega) | (simp only [List.length_append] at *; omega)) (hpin : ∀ x ∈ C.pin, x.1 ≠ r := by first | (simp; done) | exact fun x hx => by have := hp x hx; omega) : Step P C o E ({ (E.drops [s]).mapc (PC.kill r) with rows := (r, (e, d')) :: (E.drops [s]).rows }.set t (.one (.row r []))) := Step.append ho hd ht hT hx hr hz hz0 hy (.move hs) hrs hap h63 h64 hpin
theorem AtX.frs {E0 : Env} {l : List Oper} {fs : List EffX} {i : Nat} {E : Env} (A : AtX E0 l fs i E) {t : Nat} {rcs : List RC} (hr : ((effAt fs i).rows.map (·.1)).reverse = rowIds t 0 rcs := by kernel_rfl) : E.freshRows t 0 rcs = true := by
 refine fresh_of rcs 0 fun r hm => ?_
 rw [← hr, List.mem_reverse] at hm
 obtain ⟨x, hx, rfl⟩ := List.mem_map.1 hm
 exact A.fresh x hx
end Go.Proofs.YtjohlfccejljlaaGreat.Rf
