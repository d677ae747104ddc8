/- A logic of our own over the kit's 'wp': twelfth part: regions, code, loops, a function's body. Plain definitions and theorems. -/
import Derived.Test.YtlcmflenbddliaaRf11
namespace Go.Proofs.Ytlcmflenbddliaa.Rf
open Go.RowKit
set_option linter.unusedVariables false
set_option linter.unnecessarySimpa false
set_option linter.unusedSimpArgs false

/-- From the state E the code ends in states of which Q holds. -/
def T (P : Program) (C : Ctx) (c : Code) (E : Env) (Q : Exit → Env → Prop) : Prop := ∀ a w, Rel C E a w → c.wp P (fun e a' w' => ∃ E', Q e E' ∧ Rel C E' a' w') a w
/-- The same for the operations of a region that stand in a row. -/
def TL (P : Program) (C : Ctx) (ops : Array Oper) (l : List Oper) (E : Env) (Q : Env → Prop) : Prop :=
  ∀ a w, Rel C E a w → ∀ QQ : Exit → Act → World → Prop, (∀ a' w' E', Q E' → Rel C E' a' w' → QQ .normal a' w') → wpList P ops QQ l a w

theorem TL.nil {P : Program} {C : Ctx} {ops : Array Oper} {E : Env} {Q : Env → Prop} (h : Q E) : TL P C ops [] E Q := fun a w R QQ hQ => hQ a w E h R
theorem TL.cons {P : Program} {C : Ctx} {ops : Array Oper} {o : Oper} {l : List Oper} {E E1 : Env} {Q : Env → Prop} (hg : o.guard = none) (hs : Step P C o E E1) (h : TL P C ops l E1 Q) : TL P C ops (o :: l) E Q := by
  intro a w R QQ hQ
  refine wpList_plain hg fun K hK => hs a w R K QQ fun a' w' R' => hK a' w' (h a' w' R' QQ hQ)
/-- An operation that waits for a bool. -/
theorem TL.guard {P : Program} {C : Ctx} {ops : Array Oper} {o : Oper} {l : List Oper} {E E1 : Env} {Q : Env → Prop} {j t : Nat} {want b : Bool} (hg : o.guard = some (j, want)) (hj : (ops[j]?).bind (·.dst) = some t) (ht : t < C.n) (hb : E.get t = .one (.d (.bool b)))
    (hyes : b = want → Step P C o E E1 ∧ TL P C ops l E1 Q) (hno : b ≠ want → ∀ u, o.dst = some u → u < C.n → TL P C ops l (E.set u (.one .und)) Q) (hdst : ∃ u, o.dst = some u ∧ u < C.n) : TL P C ops (o :: l) E Q := by
  intro a w R QQ hQ
  obtain ⟨M, R0⟩ := R
  have hv : a.tmps.getD t undef = .bool b := by
    have := R0.tm t
    rw [hb] at this
    exact rd_val this rfl
  have hy : yielded ops a.tmps j = some b := by
    unfold yielded
    have hlt : t < a.tmps.size := by rw [R0.tn]; exact ht
    have : a.tmps[t]? = some (.bool b) := by
      rw [Array.getElem?_eq_getElem hlt]
      have h2 := hv
      simp [Array.getD_eq_getD_getElem?, Array.getElem?_eq_getElem hlt] at h2
      rw [h2]
    simp only [hj, Option.bind_some, this]
  refine wpList_step fun K hK => ?_
  by_cases h : b = want
  · obtain ⟨h1, h2⟩ := hyes h
    rw [if_pos (by simp [Region.wanted, hg, hy, h])]
    exact h1 a w ⟨M, R0⟩ K QQ fun a' w' R' => hK a' w' (h2 a' w' R' QQ hQ)
  · rw [if_neg (by simp [Region.wanted, hg, hy, h])]
    obtain ⟨u, hu, hun⟩ := hdst
    refine hK _ _ (hno h u hu hun _ _ ⟨M, ?_⟩ QQ hQ)
    rw [hu]
    exact R0.put hun trivial
theorem T.region {P : Program} {C : Ctx} {id : Nat} {l : List Oper} {E : Env} {Q : Exit → Env → Prop} (h : TL P C l.toArray l E (Q .normal)) : T P C (.region id l.toArray false) E Q := by
  intro a w R
  exact wp_region_lit (h a w R _ fun a' w' E' hq R' => ⟨E', hq, R'⟩)
theorem T.weaken {P : Program} {C : Ctx} {c : Code} {E E' : Env} {Q : Exit → Env → Prop} (hl : E'.le E) (h : T P C c E' Q) : T P C c E Q := fun a w R => h a w (R.weaken hl)
theorem T.freeze {P : Program} {C : Ctx} {c : Code} {E : Env} {r : Nat} {Ty : TypeId} {d : D} {Q : Exit → Env → Prop} (hr : E.row r = some (Ty, d)) (hio : ∀ k, ¬ C.IX k) (h : T P C c (E.freeze r d) Q) : T P C c E Q := fun a w ⟨M, R⟩ => by
  obtain ⟨M', R'⟩ := R.freeze hr hio
  exact h a w ⟨M', R'⟩
theorem TL.weaken {P : Program} {C : Ctx} {ops : Array Oper} {l : List Oper} {E E' : Env} {Q : Env → Prop} (hl : E'.le E) (h : TL P C ops l E' Q) : TL P C ops l E Q := fun a w R => h a w (R.weaken hl)
theorem TL.freeze {P : Program} {C : Ctx} {ops : Array Oper} {l : List Oper} {E : Env} {r : Nat} {Ty : TypeId} {d : D} {Q : Env → Prop} (hr : E.row r = some (Ty, d)) (hio : ∀ k, ¬ C.IX k) (h : TL P C ops l (E.freeze r d) Q) : TL P C ops l E Q := fun a w ⟨M, R⟩ => by
  obtain ⟨M', R'⟩ := R.freeze hr hio
  exact h a w ⟨M', R'⟩
theorem T.skip {P : Program} {C : Ctx} {E : Env} {Q : Exit → Env → Prop} (h : Q .normal E) : T P C .skip E Q := fun a w R => wp_skip ⟨E, h, R⟩
theorem T.ret {P : Program} {C : Ctx} {E : Env} {Q : Exit → Env → Prop} (h : Q .ret E) : T P C .ret E Q := fun a w R => wp_ret ⟨E, h, R⟩
theorem T.exit {P : Program} {C : Ctx} {E : Env} {id : Nat} {Q : Exit → Env → Prop} (h : Q (.exit id) E) : T P C (.exit id) E Q := fun a w R => wp_exit ⟨E, h, R⟩
def QThen (Q1 : Env → Prop) (Q : Exit → Env → Prop) : Exit → Env → Prop
  | .normal, E => Q1 E
  | e, E => Q e E
theorem T.seq {P : Program} {C : Ctx} {c d : Code} {E : Env} {Q : Exit → Env → Prop} (h : T P C c E (QThen (fun E' => T P C d E' Q) Q)) : T P C (.seq c d) E Q := by
  intro a w R
  refine wp_seq (wp_mono (h a w R) fun e a' w' ⟨E', hq, R'⟩ => ?_)
  cases e with
  | normal => exact hq a' w' R'
  | _ => exact ⟨E', hq, R'⟩
theorem T.cond {P : Program} {C : Ctx} {x : Operand} {c d : Code} {E : Env} {Q : Exit → Env → Prop} {b : Bool} (hx : E.ev x = .one (.d (.bool b))) (h1 : b = true → T P C c E Q) (h2 : b = false → T P C d E Q) : T P C (.cond x c d) E Q := by
  intro a w R
  obtain ⟨M, R0⟩ := R
  exact wp_cond_split (ev_val R0 hx rfl) (fun h => h1 h a w ⟨M, R0⟩) (fun h => h2 h a w ⟨M, R0⟩)
def QBlock (id : Nat) (Q : Exit → Env → Prop) : Exit → Env → Prop
  | .exit id', E => if id' = id then Q .normal E else Q (.exit id') E
  | e, E => Q e E
theorem T.block {P : Program} {C : Ctx} {id : Nat} {c : Code} {E : Env} {Q : Exit → Env → Prop} (h : T P C c E (QBlock id Q)) : T P C (.block id c) E Q := by
  intro a w R
  refine wp_block (wp_mono (h a w R) fun e a' w' ⟨E', hq, R'⟩ => ?_)
  cases e with
  | exit id' =>
    simp only [QBlock] at hq
    simp only [Exit.inBlock]
    split at hq
    · rename_i e; rw [if_pos e]; exact ⟨E', hq, R'⟩
    · rename_i e; rw [if_neg e]; exact ⟨E', hq, R'⟩
  | _ => exact ⟨E', hq, R'⟩
/-- A loop: a family of states at its head, each round comes to a later one. -/
theorem T.loop {P : Program} {C : Ctx} {c : Code} {E : Env} {Q : Exit → Env → Prop} {ι : Type} (I : ι → Env) (H : ι → Prop) (μ : ι → Nat) (i0 : ι) (h0 : (I i0).le E) (hH : H i0)
    (h : ∀ i, H i → T P C c (I i) (QThen (fun E' => ∃ j, H j ∧ μ j < μ i ∧ (I j).le E') Q)) : T P C (.loop c) E Q := by
  intro a w R
  have key : ∀ n i, μ i = n → H i → ∀ a w, Rel C (I i) a w → ∀ (b : Frame) (k : List Item) (cs : List Frame), ∃ e a' w', (∃ E', Q e E' ∧ Rel C E' a' w') ∧ Arrives P (lone (b.at a (.code c :: .inLoop c :: k)) cs w) b k cs e a' w' := by
    intro n
    induction n using Nat.strongRecOn with
    | _ n ih =>
      intro i hi hHi a w R b k cs
      obtain ⟨e, a1, w1, hq, harr⟩ := h i hHi a w R b (.inLoop c :: k) cs
      obtain ⟨E1, hq, R1⟩ := hq
      cases e with
      | normal =>
        obtain ⟨j, hj, hlt, hle⟩ := hq
        obtain ⟨e2, a2, w2, hq2, harr2⟩ := ih (μ j) (hi ▸ hlt) j rfl hj a1 w1 (R1.weaken hle) b k cs
        exact ⟨e2, a2, w2, hq2, .of_steps (Steps.trans harr (.one step_inLoop)) harr2⟩
      | exit id => exact ⟨_, a1, w1, ⟨E1, hq, R1⟩, .pass (x := .inLoop c) rfl (fun _ _ => .inl (by simp)) harr⟩
      | goto l => exact ⟨_, a1, w1, ⟨E1, hq, R1⟩, .pass (x := .inLoop c) rfl (fun _ _ => .inl (by simp)) harr⟩
      | ret => exact ⟨_, a1, w1, ⟨E1, hq, R1⟩, .pass (x := .inLoop c) rfl (fun _ _ => .inl (by simp)) harr⟩
      | panic ch => exact ⟨_, a1, w1, ⟨E1, hq, R1⟩, .pass (x := .inLoop c) rfl (fun _ _ => .inl (by simp)) harr⟩
      | outgrown => exact ⟨_, a1, w1, ⟨E1, hq, R1⟩, .pass (x := .inLoop c) rfl (fun _ _ => .inl (by simp)) harr⟩
  intro b k cs
  obtain ⟨e, a', w', hq, harr⟩ := key _ i0 rfl hH a w (R.weaken h0) b k cs
  exact ⟨e, a', w', hq, .of_steps (.one step_loop) harr⟩

/-! ### A function's body -/
/-- What a result's place holds. -/
def retPC (P : Program) (E : Env) : ResultVar → Option (Bool × List PC)
  | .tmp t => match E.get t with
    | .one c => some (false, [c])
    | .agg cs => some (true, cs)
    | _ => none
  | .cell t T => match E.get t with
    | .one (.ptr b 0) => match E.box b with
      | some (_, ps) => if isMany P T ps.length then some (true, ps) else if isOne P T && ps.length == 1 then some (false, ps) else none
      | none => none
    | _ => none
/-- Cells that are handed back. -/
inductive RetC (E : Env) : List PC → List RC → List Nat → Prop
  | nil : RetC E [] [] []
  | rd {x : D} {ps : List PC} {rcs : List RC} {ss : List Nat} : RetC E ps rcs ss → RetC E (.d x :: ps) (.rd x :: rcs) ss
  | nilrd {x : D} {ps : List PC} {rcs : List RC} {ss : List Nat} : x.isSl = true → x.size = 0 → x.wf → RetC E ps rcs ss → RetC E (.nil :: ps) (.rd x :: rcs) ss
  | nilown {x : D} {T : TypeId} {ps : List PC} {rcs : List RC} {ss : List Nat} : x.isSl = true → x.size = 0 → x.wf → RetC E ps rcs ss → RetC E (.nil :: ps) (.own T x :: rcs) ss
  | own {r : Nat} {T : TypeId} {d : D} {ps : List PC} {rcs : List RC} {ss : List Nat} : E.row r = some (T, d) → r ∉ ss → RetC E ps rcs ss → RetC E (.row r [] :: ps) (.own T d :: rcs) (r :: ss)
def RetOk (P : Program) (fn : Func) (res : Res) (E : Env) : Prop := ∃ pss : List (Bool × List PC), All2 (fun rv x => retPC P E rv = some x) fn.results.toList pss ∧ shape pss = shape res ∧ ∃ ss, RetC E (pss.flatMap (·.2)) (res.flatMap (·.2)) ss
/-- The state in which a function begins. -/
def A.pv : A → PV
  | .one d => .one (.d d)
  | .agg ds => .agg (ds.map .d)
def Env.start (args : List A) : Env := { tm := args.zipIdx.map fun x => (x.2, x.1.pv) }
def QRet (P : Program) (fn : Func) (res : Res) : Exit → Env → Prop
  | .normal, E => RetOk P fn res E
  | .ret, E => RetOk P fn res E
  | _, _ => False

theorem lk_zip {α β : Type} (f : α → β) : ∀ (l : List α) (k t : Nat), lk ((l.zipIdx k).map fun x => (x.2, f x.1)) (k + t) = (l[t]?).map f
  | [], k, t => rfl
  | a :: l, k, t => by
    simp only [List.zipIdx_cons, List.map_cons, lk]
    cases t with
    | zero => simp
    | succ t =>
      rw [if_neg (by omega)]
      have := lk_zip f l (k + 1) t
      rw [show k + (t + 1) = k + 1 + t from by omega, this]
      simp
theorem rd_one {w : World} {Z : Nat → Prop} {vs : List Value} {ds : List D} (h : Rd w Z vs ds) {M : Maps} {E : Env} (hz : ∀ k, Z k → M.own k = .froz) : All2 (COk M E w) vs (ds.map .d) := by
  refine All2.of_get _ _ (by rw [h.length]; simp) fun j v c hv hc => ?_
  rw [List.getElem?_map] at hc
  obtain ⟨d, hd, rfl⟩ := Option.map_eq_some_iff.1 hc
  obtain ⟨v', hv', hok⟩ := h.get j d hd
  rw [hv] at hv'
  injection hv' with hv'
  subst hv'
  exact hok.keep (fun _ _ => rfl) hz
open Classical in
/-- The first state holds. -/
theorem start_ok {w : World} {Z : Nat → Prop} {vals : List Value} {args : List A} {n : Nat} (hz : ∀ k, Z k → k < w.heap.size) (h : All2 (AOk' w Z) vals args) (hn : vals.length ≤ n) :
    Rel ⟨w.heap.size, w, Z, fun _ => False, [], n⟩ (Env.start args) { tmps := vals.toArray ++ Array.replicate (n - vals.toArray.size) undef, defers := [] } w := by
  refine ⟨⟨fun _ => undef, fun _ => [], fun _ => 0, fun k => if Z k then .froz else .none⟩, ?_⟩
  refine { tn := by simp; omega, df := rfl, fr := ⟨rfl, rfl, rfl, Nat.le_refl _, fun _ _ _ => rfl⟩, ba := Nat.le_refl _, lt := ?_, z0 := fun k hk => by have hk' : Z k := hk; simp [hk'], zb := ?_, wr := ?_, tm := ?_, rows := ?_, boxes := ?_, pin := ?_, bpin := fun b v hp => by cases hp }
  · intro k hk
    simp only at hk
    split at hk
    · rename_i hz'; exact hz k hz'
    · exact absurd rfl hk
  · intro k hk
    simp only at hk
    split at hk
    · rename_i hz'; exact .inl hz'
    · cases hk
  · intro k hk hk'
    simp only at hk hk'
    split at hk
    · rename_i hz'; rw [if_pos hz'] at hk'; exact absurd rfl hk'
    · exact absurd rfl hk
  · intro t
    have hget : (Env.start args).get t = ((args[t]?).map A.pv).getD (.one .und) := by
      unfold Env.get Env.start
      have := lk_zip A.pv args 0 t
      rw [Nat.zero_add] at this
      simp only
      rw [this]
    rw [hget]
    cases hx : args[t]? with
    | none => trivial
    | some x =>
      obtain ⟨v, hv, hok⟩ := h.get t x hx
      have hval : ({ tmps := vals.toArray ++ Array.replicate (n - vals.toArray.size) undef, defers := [] } : Act).tmps.getD t undef = v := by
        have hlt : t < vals.length := (List.getElem?_eq_some_iff.1 hv).1
        have : (vals.toArray ++ Array.replicate (n - vals.toArray.size) undef)[t]? = some v := by
          rw [Array.getElem?_append_left (by simpa using hlt)]; simpa using hv
        simp only [Array.getD_eq_getD_getElem?, this, Option.getD_some]
      rw [hval]
      cases x with
      | one d => exact Rd.keep (hok : Rd w Z [v] [d]) (fun _ _ => rfl) fun k hk => by simp [hk]
      | agg ds =>
        obtain ⟨arr, rfl, hr⟩ := hok
        exact ⟨arr, rfl, rd_one hr fun k hk => by simp [hk]⟩
  · intro r T d hr; simp [Env.row, Env.start, lk] at hr
  · intro b T ps hb; simp [Env.box, Env.start, lk] at hb
  · intro r v hrv; cases hrv

def rvSem (tmps : Array Value) : ResultVar → Sem Value
  | .tmp t => pure (tmps.getD t undef)
  | .cell q t => do loadVar t (← asAddr (tmps.getD q undef))
/-- What the results' places hold, out of the memory. -/
theorem ret_one {P : Program} {C : Ctx} {M : Maps} {E : Env} {a : Act} {w : World} (R : RelM C M E a w) {rv : ResultVar} {x : Bool × List PC} (h : retPC P E rv = some x) :
    ∃ v cs, (rvSem a.tmps rv).run P w = .ok v w ∧ Packs v (x.1, cs) ∧ All2 (COk M E w) cs x.2 := by
  cases rv with
  | tmp t =>
    simp only [retPC] at h
    have ht := R.tm t
    split at h
    · rename_i c hc
      injection h with h; subst h
      rw [hc] at ht
      exact ⟨a.tmps.getD t undef, [a.tmps.getD t undef], rfl, rfl, .cons ht .nil⟩
    · rename_i cs hc
      injection h with h; subst h
      rw [hc] at ht
      obtain ⟨arr, e, h2⟩ := ht
      refine ⟨a.tmps.getD t undef, arr.toList, rfl, ?_, h2⟩
      simp [Packs, e]
    · exact absurd h (by simp)
  | cell t T =>
    simp only [retPC] at h
    have ht := R.tm t
    split at h
    · rename_i b hc
      rw [hc] at ht
      have hptr : a.tmps.getD t undef = .pointer (some ⟨M.blk b, 0, none⟩) := ht
      split at h
      · rename_i T' ps hb
        obtain ⟨h1, cs, h2, h3⟩ := R.boxes b T' ps hb
        split at h
        · rename_i hT
          injection h with h; subst h
          have hl : cs.toList.length = ps.length := h3.length
          have := run_loadN (P := P) hT (w := w) (ad := ⟨M.blk b, 0, none⟩) hl (fun j v hv => by rw [cell_at h2]; simpa using hv)
          refine ⟨.agg cs.toList.toArray, cs.toList, ?_, by simp [Packs], h3⟩
          simp only [rvSem, hptr]
          simp only [Instr.loadAt, Instr.sureAddr, Sem.run_bind, Sem.run_pure, Result.andThen] at this
          simp only [asAddr, Sem.run_bind, Sem.run_pure, Result.andThen]
          exact this
        · split at h
          · rename_i hT
            injection h with h; subst h
            simp only [Bool.and_eq_true, beq_iff_eq] at hT
            obtain ⟨hT1, hT2⟩ := hT
            have hl : cs.toList.length = 1 := by rw [h3.length, hT2]
            obtain ⟨v, hv⟩ : ∃ v, cs.toList = [v] := by
              match cs.toList, hl with
              | [v], _ => exact ⟨v, rfl⟩
            have hcell : w.cell? ⟨M.blk b, 0, none⟩ = some v := by
              have := cell_at h2 0
              rw [add_plain'] at this
              rw [this, ← Array.getElem?_toList, hv]
              rfl
            refine ⟨v, [v], ?_, rfl, by rw [hv] at h3; exact h3⟩
            simp only [rvSem, hptr]
            have := run_load1 (P := P) hT1 hcell
            simp only [Instr.loadAt, Instr.sureAddr, Sem.run_bind, Sem.run_pure, Result.andThen] at this
            simp only [asAddr, Sem.run_bind, Sem.run_pure, Result.andThen]
            exact this
          · exact absurd h (by simp)
      · exact absurd h (by simp)
    · exact absurd h (by simp)

theorem ret_all {P : Program} {C : Ctx} {M : Maps} {E : Env} {a : Act} {w : World} (R : RelM C M E a w) {rvs : List ResultVar} {pss : List (Bool × List PC)} (h : All2 (fun rv x => retPC P E rv = some x) rvs pss) :
    ∃ vs bcs, (rvs.mapM (rvSem a.tmps)).run P w = .ok vs w ∧ All2 Packs vs bcs ∧ shape bcs = shape pss ∧ All2 (COk M E w) (bcs.flatMap (·.2)) (pss.flatMap (·.2)) := by
  induction h with
  | nil => exact ⟨[], [], rfl, .nil, rfl, .nil⟩
  | @cons rv x rvs pss h1 _ ih =>
    obtain ⟨vs, bcs, k1, k2, k3, k4⟩ := ih
    obtain ⟨v, cs, j1, j2, j3⟩ := ret_one R h1
    refine ⟨v :: vs, (x.1, cs) :: bcs, ?_, .cons j2 k2, ?_, ?_⟩
    · rw [List.mapM_cons]
      simp only [Sem.run_bind, j1, Result.andThen, k1, Sem.run_pure]
    · simp only [shape, List.map_cons] at k3 ⊢
      rw [k3, j3.length]
    · simp only [List.flatMap_cons]
      exact j3.append k4
theorem results_eq (fn : Func) (tmps : Array Value) : results fn tmps = (fn.results.mapM (rvSem tmps) >>= fun vs => pure (if h : vs.size = 1 then vs[0] else .tuple vs)) := by
  unfold results
  congr 1
theorem results_run {P : Program} {fn : Func} {tmps : Array Value} {w : World} {vs : List Value} (h : (fn.results.toList.mapM (rvSem tmps)).run P w = .ok vs w) : (results fn tmps).run P w = .ok (packed vs) w := by
  rw [results_eq]
  simp only [Array.mapM_eq_mapM_toList, Sem.run_bind]
  have h' : (Functor.map List.toArray (fn.results.toList.mapM (rvSem tmps))).run P w = .ok vs.toArray w := by
    rw [← bind_pure_comp]
    simp only [Sem.run_bind, h, Result.andThen, Sem.run_pure]
  rw [h']
  simp only [Result.andThen, Sem.run_pure]
  match vs with
  | [] => simp [packed]
  | [v] => simp [packed]
  | v :: u :: vs => simp [packed]
/-- The cells that are handed back, once each. -/
theorem retC_ok {C : Ctx} {M : Maps} {E : Env} {a : Act} {w : World} (R : RelM C M E a w) {ps : List PC} {rcs : List RC} {ss : List Nat} (h : RetC E ps rcs ss) : ∀ (vs : List Value) (j : Nat), All2 (COk M E w) vs ps → ∃ O : Nat → Tag, (∀ k, O k ≠ .none → ∃ s ∈ ss, M.own k = .row s) ∧ (∀ k i, O k = .row i → j ≤ i) ∧ (∀ k, O k ≠ .froz) ∧ RCs w (fun k => M.own k = .froz) O j vs rcs := by
  induction h with
  | nil => intro vs j h; cases h; exact ⟨fun _ => .none, by simp, by simp, by simp, trivial⟩
  | @rd x ps rcs ss _ ih =>
    intro vs j h
    cases h with
    | cons h1 h2 =>
      obtain ⟨O, k1, k2, k3, k4⟩ := ih _ (j + 1) h2
      exact ⟨O, k1, fun k i h => by have := k2 k i h; omega, k3, Rd.keep (h1 : Rd w _ _ [x]) (fun _ _ => rfl) fun k hk => .inl hk, k4⟩
  | @nilrd x ps rcs ss e1 e2 e3 _ ih =>
    intro vs j h
    cases h with
    | cons h1 h2 =>
      obtain ⟨O, k1, k2, k3, k4⟩ := ih _ (j + 1) h2
      have e : _ = Value.slice none 0 0 := h1
      subst e
      exact ⟨O, k1, fun k i h => by have := k2 k i h; omega, k3, (Own.empty (w := w) e1 e2 e3 .nil).rd (by simp), k4⟩
  | @nilown x T ps rcs ss e1 e2 e3 _ ih =>
    intro vs j h
    cases h with
    | cons h1 h2 =>
      obtain ⟨O, k1, k2, k3, k4⟩ := ih _ (j + 1) h2
      have e : _ = Value.slice none 0 0 := h1
      subst e
      exact ⟨O, k1, fun k i h => by have := k2 k i h; omega, k3, ⟨[], ⟨e1, .empty e1 e2 e3 .nil, fun ad n c h => by injection h with h; cases h⟩, by simp, by simp⟩, k4⟩
  | @own r T d ps rcs ss hr hn _ ih =>
    intro vs j h
    cases h with
    | @cons v _ vs _ h1 h2 =>
      obtain ⟨O, k1, k2, k3, k4⟩ := ih _ (j + 1) h2
      obtain ⟨p1, p2, p3⟩ := R.rows r T d hr
      have e := h1 T d hr
      simp only [PathTo] at e
      subst e
      classical
      have hdis : ∀ k ∈ M.fp r, O k = .none := fun k hk => by
        cases hO : O k with
        | none => rfl
        | _ =>
          obtain ⟨s, hs, ho⟩ := k1 k (by rw [hO]; simp)
          rw [p3 k hk] at ho
          injection ho with ho
          subst ho
          exact absurd hs hn
      have hmono : ∀ (rcs : List RC) (vs : List Value) (i : Nat), RCs w (fun k => M.own k = .froz) O i vs rcs → RCs w (fun k => M.own k = .froz) (fun k => if k ∈ M.fp r then .row j else O k) i vs rcs := by
        intro rcs
        induction rcs with
        | nil => intro vs i h; cases vs; exact h; exact h.elim
        | cons rc rcs ihr =>
          intro vs i h
          cases vs with
          | nil => exact h.elim
          | cons v vs =>
            refine ⟨?_, ihr vs (i + 1) h.2⟩
            cases rc with
            | rd d => exact Rd.keep (h.1 : Rd w _ [v] [d]) (fun _ _ => rfl) fun k hk => hk.imp id fun h => absurd h (k3 k)
            | own T d =>
              obtain ⟨fp, q1, q2, q3⟩ := h.1
              exact ⟨fp, q1, q2, fun k hk => by
                simp only
                rw [if_neg (fun hm => by have := hdis k hm; rw [q3 k hk] at this; cases this)]
                exact q3 k hk⟩
      refine ⟨fun k => if k ∈ M.fp r then .row j else O k, fun k hk => ?_, fun k i h => ?_, fun k => ?_, ⟨M.fp r, p1, p2, fun k hk => by simp [hk]⟩, hmono _ _ _ k4⟩
      · simp only at hk
        split at hk
        · rename_i hm; exact ⟨r, by simp, p3 k hm⟩
        · obtain ⟨s, hs, ho⟩ := k1 k hk; exact ⟨s, by simp [hs], ho⟩
      · simp only at h
        split at h
        · injection h with h; omega
        · have := k2 k i h; omega
      · simp only
        split
        · simp
        · exact k3 k

/-- A function is held to what its body comes to. -/
theorem RO.intro {P : Program} {f : FuncId} {fn : Func} {c : Code} {args : List A} {res : Res} (hf : P.funcs[f]? = some fn) (hb : fn.body = some c) (n : Nat) (hn : fn.ntmps = n) (ha : args.length ≤ n)
    (h : ∀ (w : World) (Z : Nat → Prop), T P ⟨w.heap.size, w, Z, fun _ => False, [], n⟩ c (Env.start args) (QRet P fn res)) : RO P f args res := by
  intro w Z vals hz hargs
  have hl : vals.length = args.length := hargs.length
  refine calls_of_wp hf hb ?_
  have hst := start_ok (n := n) hz hargs (by omega)
  have := h w Z _ _ hst
  rw [hn]
  refine wp_mono this fun e a w' ⟨E, hq, M, R⟩ => ?_
  have key : RetOk P fn res E → bodyPost P fn (Returns w Z res) .ret a w' := fun ⟨pss, h1, h2, ss, h3⟩ => by
    obtain ⟨vs, bcs, k1, k2, k3, k4⟩ := ret_all R h1
    obtain ⟨O, o1, _, o3, o4⟩ := retC_ok R h3 _ 0 k4
    have hbel : Below w.heap.size w w' := ⟨R.fr.os, R.fr.tape, R.fr.output, R.fr.size, fun k hk => R.fr.block k hk fun h => h⟩
    classical
    refine ⟨R.df, packed vs, results_run k1, hbel, vs, bcs, fun k => if M.own k = .froz ∧ ¬ Z k then .froz else O k, rfl, fun k hk => ?_, k2, k3.trans h2, ?_⟩
    · simp only at hk
      split at hk
      · rename_i hm
        refine ⟨?_, R.lt k (by rw [hm.1]; simp)⟩
        rcases R.zb k hm.1 with h | h
        · exact absurd h hm.2
        · exact h
      · obtain ⟨s, _, ho⟩ := o1 k hk
        refine ⟨?_, R.lt k (by rw [ho]; simp)⟩
        rcases R.wr k (by rw [ho]; simp) (by rw [ho]; simp) with h | h
        · exact h.elim
        · exact h
    · have hmono : ∀ (rcs : List RC) (vs : List Value) (i : Nat), RCs w' (fun k => M.own k = .froz) O i vs rcs → RCs w' Z (fun k => if M.own k = .froz ∧ ¬ Z k then .froz else O k) i vs rcs := by
        intro rcs
        induction rcs with
        | nil => intro vs i h; cases vs; exact h; exact h.elim
        | cons rc rcs ihr =>
          intro vs i h
          cases vs with
          | nil => exact h.elim
          | cons v vs =>
            refine ⟨?_, ihr vs (i + 1) h.2⟩
            cases rc with
            | rd d =>
              refine Rd.keep (h.1 : Rd w' _ [v] [d]) (fun _ _ => rfl) fun k hk => ?_
              · rcases hk with hk | hk
                · by_cases hzk : Z k
                  · exact .inl hzk
                  · right; simp [hk, hzk]
                · exact absurd hk (o3 k)
            | own T d =>
              obtain ⟨fp, q1, q2, q3⟩ := h.1
              exact ⟨fp, q1, q2, fun k hk => by
                simp only
                rw [if_neg (fun hm => by
                  obtain ⟨s, _, ho⟩ := o1 k (by rw [q3 k hk]; simp)
                  rw [hm.1] at ho; cases ho)]
                exact q3 k hk⟩
      exact hmono _ _ _ o4
  cases e with
  | normal => exact key hq
  | ret => exact key hq
  | _ => exact hq.elim
end Go.Proofs.Ytlcmflenbddliaa.Rf
