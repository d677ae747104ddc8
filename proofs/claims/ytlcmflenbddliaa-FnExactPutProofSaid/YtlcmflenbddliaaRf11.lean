/- A logic of our own over the kit's 'wp': eleventh part: a call by what the callee is held to. Plain definitions and theorems. -/
import Derived.Test.YtlcmflenbddliaaRf10
namespace Go.Proofs.Ytlcmflenbddliaa.Rf
open Go.RowKit
set_option linter.unusedVariables false
set_option linter.unnecessarySimpa false
set_option linter.unusedSimpArgs false

def Env.freshRows (E : Env) (t : Nat) : Nat → List RC → Bool
  | _, [] => true
  | j, .rd _ :: rcs => E.freshRows t (j + 1) rcs
  | j, .own _ _ :: rcs => E.noref' (rid t j) && E.freshRows t (j + 1) rcs
theorem rid_inj {t i j : Nat} (h : rid t i = rid t j) : i = j := by simp only [rid] at h; omega
theorem noref_more {E : Env} {r s : Nat} {x : TypeId × D} (h : E.noref' r = true) (hne : s ≠ r) : ({ E with rows := (s, x) :: E.rows } : Env).noref' r = true := by
  simp only [Env.noref', lk] at h ⊢
  rw [if_neg hne]
  exact h
theorem fresh_more {E : Env} {t i : Nat} {x : TypeId × D} : ∀ (rcs : List RC) (j : Nat), i < j → E.freshRows t j rcs = true → ({ E with rows := (rid t i, x) :: E.rows } : Env).freshRows t j rcs = true
  | [], j, _, h => rfl
  | .rd _ :: rcs, j, hj, h => fresh_more rcs (j + 1) (by omega) h
  | .own _ _ :: rcs, j, hj, h => by
    simp only [Env.freshRows, Bool.and_eq_true] at h ⊢
    exact ⟨noref_more h.1 fun e => by have := rid_inj e; omega, fresh_more rcs (j + 1) (by omega) h.2⟩
theorem pcs_ment {t i : Nat} : ∀ (rcs : List RC) (j : Nat), i < j → ∀ c ∈ pcs t j rcs, c.ment (rid t i) = false
  | [], j, _, c, hc => by simp [pcs] at hc
  | rc :: rcs, j, hj, c, hc => by
    simp only [pcs, List.mem_cons] at hc
    rcases hc with rfl | hc
    · cases rc with
      | rd d => rfl
      | own T d => simp only [RC.pc, PC.ment]; simp; intro e; have := rid_inj e; omega
    · exact pcs_ment rcs (j + 1) (by omega) c hc

theorem RelM.addCells {C : Ctx} {a : Act} {w : World} {Z : Nat → Prop} {O : Nat → Tag} {t : Nat} (hpin : ∀ x ∈ C.pin, x.1 < 1000) : ∀ (rcs : List RC) (vs : List Value) (j : Nat) (M : Maps) (E : Env), RelM C M E a w → RCs w Z O j vs rcs → (∀ k, Z k ∨ O k = .froz → M.own k = .froz) →
    (∀ k i, O k = .row i → j ≤ i → M.own k = .none ∧ (C.IX k ∨ C.base ≤ k)) → E.freshRows t j rcs = true →
    ∃ M', RelM C M' (E.addRows t j rcs) a w ∧ All2 (COk M' (E.addRows t j rcs) w) vs (pcs t j rcs) ∧ (∀ r, (E.row r).isSome = true → M'.hdl r = M.hdl r ∧ (E.addRows t j rcs).row r = E.row r) ∧ (∀ k, M.own k = .froz → M'.own k = .froz) ∧ M'.blk = M.blk
  | [], [], j, M, E, R, _, _, _, _ => ⟨M, R, .nil, fun r h => ⟨rfl, rfl⟩, fun k h => h, rfl⟩
  | [], _ :: _, _, _, _, _, h, _, _, _ => h.elim
  | _ :: _, [], _, _, _, _, h, _, _, _ => h.elim
  | .rd d :: rcs, v :: vs, j, M, E, R, h, hZ, hO, hf => by
    obtain ⟨M', R', h1, h2, h3, h4⟩ := RelM.addCells hpin rcs vs (j + 1) M E R h.2 hZ (fun k i ho hi => hO k i ho (by omega)) hf
    refine ⟨M', R', .cons ?_ h1, h2, h3, h4⟩
    exact Rd.keep (h.1 : Rd w _ [v] [d]) (fun _ _ => rfl) fun k hk => h3 k (hZ k hk)
  | .own T d :: rcs, v :: vs, j, M, E, R, h, hZ, hO, hf => by
    obtain ⟨⟨fp, k1, k2, k3⟩, hrest⟩ := h
    simp only [Env.freshRows, Bool.and_eq_true] at hf
    have hpin' : ∀ x ∈ C.pin, x.1 ≠ rid t j := fun x hx e => by have := hpin x hx; simp only [rid] at e; omega
    obtain ⟨M1, R1, g1, g2, g3, g5, g4⟩ : ∃ M1 : Maps, RelM C M1 { E with rows := (rid t j, (T, d)) :: E.rows } a w ∧ M1.hdl (rid t j) = v ∧ (∀ r, r ≠ rid t j → M1.hdl r = M.hdl r) ∧ (∀ k, M.own k = .froz → M1.own k = .froz) ∧ M1.blk = M.blk ∧ (∀ k, k ∉ fp → M1.own k = M.own k) :=
      ⟨_, R.addRow hf.1 hpin' k1 k2 (fun k hk => .inl (hO k j (k3 k hk) (Nat.le_refl _))), by simp, fun r hr => by simp [hr], fun k hk => by
        simp only
        rw [if_neg (fun hm => by rw [(hO k j (k3 k hm) (Nat.le_refl _)).1] at hk; cases hk)]
        exact hk, rfl, fun k hk => by simp [hk]⟩
    have hE0 : E.row (rid t j) = none := by
      have := hf.1
      simp only [Env.noref', Bool.and_eq_true, Option.isNone_iff_eq_none] at this
      exact this.2
    obtain ⟨M', R', h1, h2, h3, h4⟩ := RelM.addCells hpin rcs vs (j + 1) M1 _ R1 hrest (fun k hk => g3 k (hZ k hk)) (fun k i ho hi => by
      obtain ⟨p1, p2⟩ := hO k i ho (by omega)
      refine ⟨?_, p2⟩
      rw [g4 k fun hm => by have := k3 k hm; rw [ho] at this; injection this with this; omega]
      exact p1) (fresh_more rcs (j + 1) (by omega) hf.2)
    have hlive : (({ E with rows := (rid t j, (T, d)) :: E.rows } : Env).row (rid t j)).isSome = true := by simp [Env.row, lk]
    refine ⟨M', R', .cons ?_ h1, fun r hr => ?_, fun k hk => h3 k (g3 k hk), h4.trans g5⟩
    · intro T2 d2 hr2
      simp only [PathTo]
      rw [(h2 _ hlive).1, g1]
    · have hne : r ≠ rid t j := by rintro rfl; rw [hE0] at hr; exact absurd hr (by simp)
      have hrow : ({ E with rows := (rid t j, (T, d)) :: E.rows } : Env).row r = E.row r := by simp only [Env.row, lk]; rw [if_neg (fun e => hne e.symm)]
      obtain ⟨p1, p2⟩ := h2 r (by rw [hrow]; exact hr)
      exact ⟨p1.trans (g2 r hne), p2.trans hrow⟩

/-- What a slot is for an argument; 'f': read alone. -/
inductive ArgC (E : Env) (f : Bool) : PC → D → Prop
  | d (x : D) : ArgC E f (.d x) x
  | nil {x : D} : x.isSl = true → x.size = 0 → x.wf → ArgC E f .nil x
  | row {r : Nat} {p : List (Nat × Nat)} {T : TypeId} {d e : D} : f = false → E.row r = some (T, d) → d.at_ p = e → e.isSl = true → ArgC E f (.row r p) e
inductive ArgP (E : Env) (f : Bool) : PV → A → Prop
  | one {c : PC} {d : D} : ArgC E f c d → ArgP E f (.one c) (.one d)
  | agg {cs : List PC} {ds : List D} : All2 (ArgC E f) cs ds → ArgP E f (.agg cs) (.agg ds)
theorem argC_ok {C : Ctx} {M : Maps} {E : Env} {a : Act} {w : World} (R : RelM C M E a w) {f : Bool} {c : PC} {d : D} (h : ArgC E f c d) {v : Value} (hc : COk M E w v c) : Rd w (fun k => M.own k = .froz ∨ (f = false ∧ ∃ r, M.own k = .row r)) [v] [d] := by
  cases h with
  | d => exact Rd.keep hc (fun _ _ => rfl) fun k hk => .inl hk
  | nil h1 h2 h3 =>
    have e : v = .slice none 0 0 := hc
    subst e
    exact (Own.empty (w := w) h1 h2 h3 .nil).rd (by simp)
  | @row r p T d0 _ hf h1 h2 h3 =>
    subst h2
    obtain ⟨b, ho, hb⟩ := row_at R h1 (hc T d0 h1)
    exact ho.rd fun k hk => .inr ⟨hf, r, hb k hk⟩
theorem argP_ok {C : Ctx} {M : Maps} {E : Env} {a : Act} {w : World} (R : RelM C M E a w) {f : Bool} {p : PV} {x : A} (h : ArgP E f p x) {v : Value} (hc : POk M E w v p) : AOk' w (fun k => M.own k = .froz ∨ (f = false ∧ ∃ r, M.own k = .row r)) v x := by
  cases h with
  | one h => exact argC_ok R h hc
  | @agg cs ds h =>
    obtain ⟨arr, rfl, hc⟩ := hc
    refine ⟨arr, rfl, ?_⟩
    generalize arr.toList = l at hc
    induction h generalizing l with
    | nil => cases hc; exact .nil
    | cons h1 _ ih =>
      cases hc with
      | cons k1 k2 => exact Rd.append (argC_ok R h1 k1) (ih _ k2)

def isFn (P : Program) (f : FuncId) : Bool := match P.funcs[f]? with
  | some fn => !(fn.name == "runtime.NumGoroutine") && fn.body.isSome
  | none => false
theorem run_callFn {P : Program} {f : FuncId} (h : isFn P f = true) (args : Array Value) (w : World) : (callFunc f args).run P w = .ok (.enter f args) w := by
  unfold isFn at h
  split at h
  · rename_i fn hfn
    simp only [Bool.and_eq_true, Bool.not_eq_true', Option.isSome_iff_ne_none] at h
    obtain ⟨h1, h2⟩ := h
    cases hb : fn.body with
    | none => exact absurd hb h2
    | some c =>
      unfold callFunc
      have h1' : ¬ fn.name = "runtime.NumGoroutine" := by simpa using h1
      simp [Sem.run_bind, hfn, h1', hb, Result.andThen]
  · exact absurd h (by simp)

/-- Results that are read hang on nothing that is owned. -/
def resScal (res : Res) : Bool := (res.flatMap (·.2)).all fun rc => match rc with | .rd d => d.val.isSome | .own .. => true
theorem rcs_scal {w : World} {Z Z' : Nat → Prop} {O : Nat → Tag} : ∀ (rcs : List RC) (vs : List Value) (j : Nat), rcs.all (fun rc => match rc with | .rd d => d.val.isSome | .own .. => true) = true → RCs w Z O j vs rcs → RCs w Z' O j vs rcs
  | [], [], j, _, h => h
  | [], _ :: _, _, _, h => h.elim
  | _ :: _, [], _, _, h => h.elim
  | .rd d :: rcs, v :: vs, j, hs, h => by
    simp only [List.all_cons, Bool.and_eq_true] at hs
    obtain ⟨u, hu⟩ := Option.isSome_iff_exists.1 hs.1
    refine ⟨?_, rcs_scal rcs vs (j + 1) hs.2 h.2⟩
    have := rd_val (h.1 : Rd w _ [v] [d]) hu
    subst this
    exact Rd.val hu .nil
  | .own T d :: rcs, v :: vs, j, hs, h => by
    simp only [List.all_cons, Bool.and_eq_true] at hs
    exact ⟨h.1, rcs_scal rcs vs (j + 1) hs.2 h.2⟩
theorem rcs_mono {w : World} {Z Z' : Nat → Prop} {O : Nat → Tag} (hz : ∀ k, Z k → Z' k) : ∀ (rcs : List RC) (vs : List Value) (j : Nat), RCs w Z O j vs rcs → RCs w Z' O j vs rcs
  | [], [], j, h => h
  | [], _ :: _, _, h => h.elim
  | _ :: _, [], _, h => h.elim
  | .rd d :: rcs, v :: vs, j, h => ⟨Rd.keep (h.1 : Rd w _ [v] [d]) (fun _ _ => rfl) fun k hk => hk.imp (hz k) id, rcs_mono hz rcs vs (j + 1) h.2⟩
  | .own T d :: rcs, v :: vs, j, h => ⟨h.1, rcs_mono hz rcs vs (j + 1) h.2⟩

/-- The slot's word for what comes back. -/
def PV.ofRes : List (Bool × List PC) → PV
  | [(false, [c])] => .one c
  | [(true, cs)] => .agg cs
  | vs => .tup vs
theorem Step.call {P : Program} {C : Ctx} {o : Oper} {E : Env} {t f : Nat} {ats : Array TypeId} {g : Operand} {xs : List Operand} {ps : List PV} {args : List A} {res : Res} (fz : Bool) (ho : o.op = .call { callee := .value g, args := xs.toArray, argTypes := ats }) (hd : o.dst = some t) (ht : t < C.n)
    (hg : E.ev g = .one (.d (.fn f))) (hfn : isFn P f = true) (hev : xs.map E.ev = ps) (hargs : All2 (ArgP E fz) ps args) (hro : RO P f args res) (hsc : fz = true ∨ resScal res = true) (hfr : E.freshRows t 0 (res.flatMap (·.2)) = true) (hpin : ∀ x ∈ C.pin, x.1 < 1000) (hsh : res.all (fun x => x.1 || x.2.length == 1) = true) :
    Step P C o E ((E.addRows t 0 (res.flatMap (·.2))).set t (.ofRes (respvs t 0 res))) := by
  intro a w ⟨M, R⟩ K Q hK
  have hrun : (execOp a.eval o).run P w = .ok (.enter f (xs.map a.eval).toArray) w := by
    unfold execOp
    rw [ho]
    have hgv : a.eval g = .func (.func f) #[] #[] := ev_val R hg rfl
    simp only [resolve, hgv, Deferred.ofValue, Sem.run_bind, Sem.run_pure, Result.andThen, invoke, List.map_toArray]
    simp [run_callFn hfn]
  unfold Oper.wp
  rw [hrun, Oper.upon_enter]
  have hall : All2 (AOk' w (fun k => M.own k = .froz ∨ (fz = false ∧ ∃ r, M.own k = .row r))) (xs.map a.eval) args := by
    subst hev
    clear hrun hfr hro ho
    induction xs generalizing args with
    | nil => cases hargs; exact .nil
    | cons x xs ih =>
      cases hargs with
      | cons h1 h2 => exact .cons (argP_ok R h1 (ev_ok R x)) (ih h2)
  refine (hro w _ (xs.map a.eval) (fun k hk => ?_) hall).mono fun e w' hret => ?_
  · rcases hk with h | ⟨_, r, h⟩
    · exact R.lt k (by rw [h]; simp)
    · exact R.lt k (by rw [h]; simp)
  · obtain ⟨hbel, vs, bcs, O, rfl, hOb, hpk, hshape, hrcs⟩ := hret
    have R1 := R.grow hbel
    obtain ⟨M1, R2, q1, q2, q3⟩ : ∃ M1 : Maps, RelM C M1 E a w' ∧ (∀ k, M.own k = .froz ∨ O k = .froz → M1.own k = .froz) ∧ (∀ k i, O k = .row i → M1.own k = .none) ∧ (∀ k, w.heap.size ≤ k → C.base ≤ k) := by
      have hnew : ∀ k, O k ≠ .none → M.own k = .none := fun k hk => own_new R (hOb k hk).1
      refine ⟨_, R1.addFroz (fun k => O k = .froz) (fun k hk => hnew k (by rw [hk]; simp)) (fun k hk => by have := (hOb k (by rw [hk]; simp)).1; have := R.ba; omega) (fun k hk => (hOb k (by rw [hk]; simp)).2), fun k hk => ?_, fun k i hk => ?_, fun k hk => by have := R.ba; omega⟩
      · simp only
        split
        · rfl
        · rename_i hn; rcases hk with h | h
          · exact h
          · exact absurd h hn
      · simp only
        rw [if_neg (by rw [hk]; simp)]
        exact hnew k (by rw [hk]; simp)
    have hrcs' : RCs w' (fun k => M.own k = .froz) O 0 (bcs.flatMap (·.2)) (res.flatMap (·.2)) := by
      rcases hsc with h | h
      · exact rcs_mono (fun k hk => by
          rcases hk with hk | ⟨hk, _⟩
          · exact hk
          · rw [h] at hk; cases hk) _ _ _ hrcs
      · exact rcs_scal _ _ _ h hrcs
    obtain ⟨M', R', h1, _, _⟩ := RelM.addCells (t := t) hpin _ _ 0 M1 E R2 hrcs' q1 (fun k i ho _ => ⟨q2 k i ho, .inr (q3 k (hOb k (by rw [ho]; simp)).1)⟩) hfr
    refine hK _ _ ⟨M', ?_⟩
    rw [hd]
    refine R'.put ht ?_
    -- the value
    rw [← respvs_flat] at h1
    have h2 := unflat _ _ (by rw [hshape, respvs_shape]) h1
    have hlen : ∀ x ∈ respvs t 0 res, x.1 = true ∨ x.2.length = 1 := by
      intro x hx
      have : (x.1, x.2.length) ∈ shape res := by rw [← respvs_shape t res 0]; exact List.mem_map.2 ⟨x, hx, rfl⟩
      obtain ⟨y, hy, e⟩ := List.mem_map.1 this
      rw [List.all_eq_true] at hsh
      have := hsh y hy
      injection e with e1 e2
      simp only [Bool.or_eq_true, beq_iff_eq] at this
      rw [← e1, ← e2]; exact this
    have h3 : All2 (TOk M' (E.addRows t 0 (res.flatMap (·.2))) w') vs (respvs t 0 res) := by
      clear hrcs hrcs' hshape h1 hK hfr hsh
      generalize respvs t 0 res = pss at h2 hlen ⊢
      induction hpk generalizing pss with
      | nil => cases h2; exact .nil
      | @cons v x vs bcs p1 _ ih =>
        cases h2 with
        | @cons _ y _ pss k1 k2 =>
          refine .cons ?_ (ih _ k2 fun z hz => hlen z (by simp [hz]))
          obtain ⟨b, cs⟩ := x
          obtain ⟨b', ps⟩ := y
          obtain ⟨rfl, k1⟩ := k1
          cases b with
          | true => exact ⟨cs.toArray, by simpa [Packs] using p1, by simpa using k1⟩
          | false =>
            have e : cs = [v] := by simpa [Packs] using p1
            subst e
            cases k1 with
            | cons j1 j2 => cases j2; exact j1
    clear h1 h2 hrcs hrcs' hshape hfr hsh hK hpk
    generalize respvs t 0 res = pss at h3 hlen ⊢
    cases h3 with
    | nil => exact ⟨#[], rfl, .nil⟩
    | @cons v y vs pss k1 k2 =>
      cases k2 with
      | nil =>
        obtain ⟨b, ps⟩ := y
        cases b with
        | true => exact k1
        | false =>
          match ps, k1 with
          | [c], k1 => exact k1
      | @cons v2 y2 vs pss k2 k3 =>
        have e : PV.ofRes (y :: y2 :: pss) = .tup (y :: y2 :: pss) := by
          obtain ⟨b, ps⟩ := y
          cases b <;> simp [PV.ofRes]
        rw [e]
        exact ⟨(v :: v2 :: vs).toArray, rfl, .cons k1 (.cons k2 k3)⟩

end Go.Proofs.Ytlcmflenbddliaa.Rf
