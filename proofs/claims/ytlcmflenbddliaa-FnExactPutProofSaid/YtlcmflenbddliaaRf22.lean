/- A logic of our own over the kit's 'wp': functions that are handed a pointer to a variable. Plain definitions and theorems. -/
import Derived.Test.YtlcmflenbddliaaRf21
namespace Go.Proofs.Ytlcmflenbddliaa.Rf
open Go.RowKit
set_option linter.unusedVariables false
set_option linter.unnecessarySimpa false
set_option linter.unusedSimpArgs false
/-- An argument: read, or the pointer. -/
inductive XA where
  | rd (a : A)
  | bx
def XOk (w : World) (Z : Nat → Prop) (g : Nat) (v : Value) : XA → Prop
  | .rd a => AOk' w Z v a
  | .bx => v = .pointer (some ⟨g, 0, none⟩)
structure GivesX (w : World) (O : Nat → Tag) (w' : World) : Prop where
  os : w'.os = w.os
  tape : w'.tape = w.tape
  output : w'.output = w.output
  size : w.heap.size ≤ w'.heap.size
  block : ∀ k, k < w.heap.size → O k = .none → w'.heap[k]? = w.heap[k]?
def ReturnsX (w : World) (Z : Nat → Prop) (O : Nat → Tag) (g : Nat) (T : TypeId) (cs' : List RC) (res : Res) (e : Ending) (w' : World) : Prop :=
  GivesX w O w' ∧ ∃ (vs : List Value) (bcs : List (Bool × List Value)) (O' : Nat → Tag) (arr' : Array Value), e = .returned (packed vs) ∧ (∀ k, O' k ≠ .none → k < w'.heap.size ∧ (O k ≠ .none ∨ w.heap.size ≤ k)) ∧ (∀ k, O' k = .froz → w.heap.size ≤ k) ∧ O' g = .box 0 ∧ w'.heap[g]? = some (.cells arr' T (0, 0)) ∧
    All2 Packs vs bcs ∧ shape bcs = shape res ∧ RCs w' Z O' 0 (arr'.toList ++ bcs.flatMap (·.2)) (cs' ++ res.flatMap (·.2))
/-- A function that is handed a pointer to a variable with the cells cs; it leaves cs' there. -/
def BX (P : Program) (f : FuncId) (args : List XA) (T : TypeId) (cs cs' : List RC) (res : Res) : Prop :=
  ∀ (w : World) (Z : Nat → Prop) (O : Nat → Tag) (vals : List Value) (g : Nat) (arr : Array Value), (∀ k, Z k → k < w.heap.size) → (∀ k, O k ≠ .none → k < w.heap.size) → (∀ k, Z k → O k = .none) → (∀ k, O k ≠ .froz) → O g = .box 0 → w.heap[g]? = some (.cells arr T (0, 0)) → RCs w Z O 0 arr.toList cs → All2 (XOk w Z g) vals args →
    Calls P f vals.toArray w (ReturnsX w Z O g T cs' res)

/-! ### The call -/
open Classical in
/-- Blocks of rows that are no more are let go. -/
theorem RelM.forget {C : Ctx} {M : Maps} {E : Env} {a : Act} {w : World} (R : RelM C M E a w) : RelM C { M with own := fun k => if ∃ s, M.own k = .row s ∧ E.row s = none then .none else M.own k } E a w := by
  generalize hM : ({ M with own := fun k => if ∃ s, M.own k = .row s ∧ E.row s = none then .none else M.own k } : Maps) = M'
  have hhdl : M'.hdl = M.hdl := by subst hM; rfl
  have hfp : M'.fp = M.fp := by subst hM; rfl
  have hblk : M'.blk = M.blk := by subst hM; rfl
  have hcase : ∀ k, M'.own k = M.own k ∨ (M'.own k = .none ∧ ∃ s, M.own k = .row s ∧ E.row s = none) := fun k => by
    by_cases e : ∃ s, M.own k = .row s ∧ E.row s = none
    · right; exact ⟨by subst hM; simp only; rw [if_pos e], e⟩
    · left; subst hM; simp only; rw [if_neg e]
  have hkeep : ∀ k, (∀ s, M.own k = .row s → (E.row s).isSome = true) → M'.own k = M.own k := fun k h => by
    rcases hcase k with e | ⟨_, s, h1, h2⟩
    · exact e
    · have := h s h1; rw [h2] at this; cases this
  have hfroz : ∀ k, M.own k = .froz → M'.own k = .froz := fun k h => by rw [hkeep k fun s hs => by rw [h] at hs; cases hs]; exact h
  have hc : ∀ c : PC, ∀ v, COk M E w v c → COk M' E w v c := fun c v h => h.mono R (fun k hk => ⟨hfroz k hk, rfl⟩) (fun _ _ _ => by rw [hblk]) (fun x _ T d hT => ⟨hT, by rw [hhdl], fun _ _ => rfl⟩)
  refine { tn := R.tn, df := R.df, fr := R.fr, ba := R.ba, lt := ?_, z0 := fun k hk => hfroz k (R.z0 k hk), zb := ?_, wr := ?_, tm := fun t => (R.tm t).mono fun c _ v h => hc c v h, rows := ?_, boxes := ?_, pin := fun r v hp T d hr => by rw [hhdl]; exact R.pin r v hp T d hr, bpin := by subst hM; exact R.bpin }
  · intro k hk
    rcases hcase k with e | ⟨e, _⟩
    · exact R.lt k (by rw [← e]; exact hk)
    · exact absurd e hk
  · intro k hk
    rcases hcase k with e | ⟨e, _⟩
    · exact R.zb k (by rw [← e]; exact hk)
    · rw [e] at hk; cases hk
  · intro k hk hk'
    rcases hcase k with e | ⟨e, _⟩
    · exact R.wr k (by rw [← e]; exact hk) (by rw [← e]; exact hk')
    · exact absurd e hk
  · intro r T d hr
    obtain ⟨h1, h2, h3⟩ := R.rows r T d hr
    rw [hhdl, hfp]
    exact ⟨h1, h2, fun k hk => by rw [hkeep k fun s hs => by rw [h3 k hk] at hs; injection hs with hs; subst hs; rw [hr]; rfl]; exact h3 k hk⟩
  · intro b T ps hb
    obtain ⟨h1, cs, h2, h3⟩ := R.boxes b T ps hb
    rw [hblk]
    exact ⟨by rw [hkeep _ fun s hs => by rw [h1] at hs; cases hs]; exact h1, cs, h2, h3.imp fun v c _ h => hc c v h⟩
/-- What a variable b holds is written anew by a callee. -/
theorem RelM.chgX {C : Ctx} {M : Maps} {E : Env} {a : Act} {w w' : World} (R : RelM C M E a w) {b : Nat} {T : TypeId} {n : Nat} {arr' : Array Value} (hb : E.box b = some (T, List.replicate n .und)) (hfr : Frame_ C w') (hsz : w.heap.size ≤ w'.heap.size) (hk : ∀ k, M.own k ≠ .none → M.own k ≠ .box b → w'.heap[k]? = w.heap[k]?)
    (hg : w'.heap[M.blk b]? = some (.cells arr' T (0, 0))) (hn : arr'.size = n) : RelM C M E a w' := by
  have hc : ∀ c : PC, ∀ v, COk M E w v c → COk M E w' v c := fun c v h => h.mono R (fun k h => ⟨h, hk k (by rw [h]; simp) (by rw [h]; simp)⟩) (fun _ _ _ => rfl)
    (fun r _ T d hT => ⟨hT, rfl, fun k hk' => hk k (by rw [(R.rows r T d hT).2.2 k hk']; simp) (by rw [(R.rows r T d hT).2.2 k hk']; simp)⟩)
  refine { R with fr := hfr, ba := Nat.le_trans R.ba hsz, lt := fun k h => Nat.lt_of_lt_of_le (R.lt k h) hsz, tm := fun t => (R.tm t).mono fun c _ v h => hc c v h, rows := ?_, boxes := ?_ }
  · intro r T d hr
    obtain ⟨⟨h1, h2, h3⟩, h4, h5⟩ := R.rows r T d hr
    have hkk : ∀ k ∈ M.fp r, w'.heap[k]? = w.heap[k]? := fun k hk' => hk k (by rw [h5 k hk']; simp) (by rw [h5 k hk']; simp)
    refine ⟨⟨h1, h2.keep hkk, fun ad n c hv => ?_⟩, h4, h5⟩
    obtain ⟨cs, fr, h6⟩ := h3 ad n c hv
    have hmem : ad.block ∈ M.fp r := by
      rw [hv] at h2
      generalize M.fp r = q at h2
      cases h2 with
      | val hv' _ => cases d <;> simp [D.val] at hv'
      | sl _ _ _ _ _ _ _ _ => simp
    exact ⟨cs, fr, (hkk _ hmem).trans h6⟩
  · intro b' T' ps hb'
    obtain ⟨h1, cs, h2, h3⟩ := R.boxes b' T' ps hb'
    by_cases e : b' = b
    · subst e
      rw [hb] at hb'
      injection hb' with hb'
      injection hb' with e1 e2
      subst e1 e2
      refine ⟨h1, arr', hg, ?_⟩
      refine All2.of_get _ _ (by simp [hn]) fun j v c hv hc' => ?_
      rw [List.getElem?_replicate] at hc'
      split at hc'
      · injection hc' with hc'; subst hc'; trivial
      · cases hc'
    · exact ⟨h1, cs, (hk _ (by rw [h1]; simp) (by rw [h1]; intro h; injection h with h; exact e h)).trans h2, h3.imp fun v c _ h => hc c v h⟩
inductive XArg (E : Env) (b : Nat) : PV → XA → Prop
  | rd {p : PV} {a : A} : ArgP E true p a → XArg E b p (.rd a)
  | bx : XArg E b (.one (.ptr b 0)) .bx
/-- The variable's cells as they are handed over. -/
inductive XCells (E : Env) : List PC → List RC → List Nat → Prop
  | nil : XCells E [] [] []
  | rd {x : D} {ps : List PC} {cs : List RC} {ss : List Nat} : XCells E ps cs ss → XCells E (.d x :: ps) (.rd x :: cs) ss
  | nilrd {x : D} {ps : List PC} {cs : List RC} {ss : List Nat} : x.isSl = true → x.size = 0 → x.wf → XCells E ps cs ss → XCells E (.nil :: ps) (.rd x :: cs) ss
  | nilown {x : D} {T : TypeId} {ps : List PC} {cs : List RC} {ss : List Nat} : x.isSl = true → x.size = 0 → x.wf → XCells E ps cs ss → XCells E (.nil :: ps) (.own T x :: cs) ss
  | own {r : Nat} {T : TypeId} {d : D} {ps : List PC} {cs : List RC} {ss : List Nat} : E.row r = some (T, d) → r ∉ ss → XCells E ps cs ss → XCells E (.row r [] :: ps) (.own T d :: cs) (r :: ss)
theorem XCells.ret {E : Env} {ps : List PC} {cs : List RC} {ss : List Nat} (h : XCells E ps cs ss) : RetC E ps cs ss := by
  induction h with
  | nil => exact .nil
  | rd _ ih => exact .rd ih
  | nilrd h1 h2 h3 _ ih => exact .nilrd h1 h2 h3 ih
  | nilown h1 h2 h3 _ ih => exact .nilown h1 h2 h3 ih
  | own h1 h2 _ ih => exact .own h1 h2 ih
def Env.handX (E : Env) (b : Nat) (T : TypeId) (n : Nat) (ss : List Nat) : Env := { E.drops ss with boxes := (b, (T, List.replicate n .und)) :: (E.drops ss).boxes }
theorem Env.handX_le {E : Env} {b : Nat} {T : TypeId} {ps : List PC} {ss : List Nat} (hb : E.box b = some (T, ps)) : (E.handX b T ps.length ss).le E := by
  have h := Env.drops_le ss E
  refine ⟨h.tm, h.rows, fun b' T' ps' hb' => ?_⟩
  simp only [Env.handX, Env.box, lk] at hb'
  split at hb'
  · rename_i e
    subst e
    injection hb' with hb'
    injection hb' with e1 e2
    subst e1 e2
    refine ⟨ps, hb, All2.of_get _ _ (by simp) fun j c c' hc hc' => ?_⟩
    rw [List.getElem?_replicate] at hc
    split at hc
    · injection hc with hc; exact .inl hc.symm
    · cases hc
  · exact h.boxes b' T' ps' hb'
theorem rcs_length {w : World} {Z : Nat → Prop} {O : Nat → Tag} : ∀ (vs : List Value) (cs : List RC) (j : Nat), RCs w Z O j vs cs → vs.length = cs.length
  | [], [], _, _ => rfl
  | [], _ :: _, _, h => h.elim
  | _ :: _, [], _, h => h.elim
  | v :: vs, c :: cs, j, h => by simp [rcs_length vs cs (j + 1) h.2]
theorem rcs_tags {w : World} {Z : Nat → Prop} {O O' : Nat → Tag} (h : ∀ k j, O k = .row j → O' k = .row j) (h' : ∀ k, O k = .froz → O' k = .froz) : ∀ (vs : List Value) (cs : List RC) (j : Nat), RCs w Z O j vs cs → RCs w Z O' j vs cs
  | [], [], _, h => h
  | [], _ :: _, _, h => h.elim
  | _ :: _, [], _, h => h.elim
  | v :: vs, .rd d :: cs, j, hr => ⟨Rd.keep (hr.1 : Rd w _ [v] [d]) (fun _ _ => rfl) fun k hk => hk.imp id (h' k), rcs_tags h h' vs cs (j + 1) hr.2⟩
  | v :: vs, .own T d :: cs, j, ⟨⟨fp, h1, h2, h3⟩, hr⟩ => ⟨⟨fp, h1, h2, fun k hk => h k j (h3 k hk)⟩, rcs_tags h h' vs cs (j + 1) hr⟩

theorem addRows_boxes (t : Nat) : ∀ (rcs : List RC) (j : Nat) (E : Env), (E.addRows t j rcs).boxes = E.boxes
  | [], _, _ => rfl
  | .rd _ :: rcs, j, E => addRows_boxes t rcs (j + 1) E
  | .own T d :: rcs, j, E => addRows_boxes t rcs (j + 1) _
theorem aok_mono {w : World} {Z Z' : Nat → Prop} (h : ∀ k, Z k → Z' k) {v : Value} {a : A} (ha : AOk' w Z v a) : AOk' w Z' v a := by
  cases a with
  | one d => exact Rd.keep (ha : Rd w Z [v] [d]) (fun _ _ => rfl) h
  | agg ds => obtain ⟨arr, e, hr⟩ := ha; exact ⟨arr, e, hr.keep (fun _ _ => rfl) h⟩
/-- What comes back, as the slot's word. -/
theorem ofRes_ok {M : Maps} {E : Env} {w : World} {t j : Nat} {res : Res} {vs : List Value} {bcs : List (Bool × List Value)} (hpk : All2 Packs vs bcs) (hshape : shape bcs = shape res) (h1 : All2 (COk M E w) (bcs.flatMap (·.2)) (pcs t j (res.flatMap (·.2)))) (hsh : res.all (fun x => x.1 || x.2.length == 1) = true) : POk M E w (packed vs) (.ofRes (respvs t j res)) := by
  rw [← respvs_flat] at h1
  have h2 := unflat _ _ (by rw [hshape, respvs_shape]) h1
  have hlen : ∀ x ∈ respvs t j res, x.1 = true ∨ x.2.length = 1 := by
    intro x hx
    have : (x.1, x.2.length) ∈ shape res := by rw [← respvs_shape t res j]; exact List.mem_map.2 ⟨x, hx, rfl⟩
    obtain ⟨y, hy, e⟩ := List.mem_map.1 this
    rw [List.all_eq_true] at hsh
    have := hsh y hy
    injection e with e1 e2
    simp only [Bool.or_eq_true, beq_iff_eq] at this
    rw [← e1, ← e2]; exact this
  have h3 : All2 (TOk M E w) vs (respvs t j res) := by
    clear hshape h1 hsh
    generalize respvs t j res = pss at h2 hlen ⊢
    induction hpk generalizing pss with
    | nil => cases h2; exact .nil
    | @cons v x vs bcs p1 _ ih =>
      cases h2 with
      | @cons _ y _ pss k1 k2 =>
        refine .cons ?_ (ih _ k2 fun z hz => hlen z (by simp [hz]))
        obtain ⟨b, cs⟩ := x
        obtain ⟨b', ps⟩ := y
        obtain ⟨rfl, k1⟩ := k1
        cases b with
        | true => exact ⟨cs.toArray, by simpa [Packs] using p1, by simpa using k1⟩
        | false =>
          have e : cs = [v] := by simpa [Packs] using p1
          subst e
          cases k1 with
          | cons j1 j2 => cases j2; exact j1
  clear h1 h2 hshape hsh hpk
  generalize respvs t j res = pss at h3 hlen ⊢
  cases h3 with
  | nil => exact ⟨#[], rfl, .nil⟩
  | @cons v y vs pss k1 k2 =>
    cases k2 with
    | nil =>
      obtain ⟨b, ps⟩ := y
      cases b with
      | true => exact k1
      | false =>
        match ps, k1 with
        | [c], k1 => exact k1
    | @cons v2 y2 vs pss k2 k3 =>
      have e : PV.ofRes (y :: y2 :: pss) = .tup (y :: y2 :: pss) := by
        obtain ⟨b, ps⟩ := y
        cases b <;> simp [PV.ofRes]
      rw [e]
      exact ⟨(v :: v2 :: vs).toArray, rfl, .cons k1 (.cons k2 k3)⟩
theorem shape_flat {α β : Type} : ∀ (a : List (Bool × List α)) (b : List (Bool × List β)), shape a = shape b → (a.flatMap (·.2)).length = (b.flatMap (·.2)).length
  | [], [], _ => rfl
  | [], _ :: _, h => by simp [shape] at h
  | _ :: _, [], h => by simp [shape] at h
  | x :: a, y :: b, h => by
    simp only [shape, List.map_cons, List.cons.injEq, Prod.mk.injEq] at h
    simp only [List.flatMap_cons, List.length_append, h.1.2, shape_flat a b h.2]
theorem XCells.length {E : Env} {ps : List PC} {cs : List RC} {ss : List Nat} (h : XCells E ps cs ss) : ps.length = cs.length := by
  induction h <;> simp_all

open Classical in
/-- A call of a function that is handed a pointer. -/
theorem Step.callX {P : Program} {C : Ctx} {o : Oper} {E : Env} {t f b : Nat} {T : TypeId} {ats : Array TypeId} {g : Operand} {xs : List Operand} {ps : List PV} {args : List XA} {bps : List PC} {cs cs' : List RC} {res : Res} {ss : List Nat} (ho : o.op = .call { callee := .value g, args := xs.toArray, argTypes := ats }) (hd : o.dst = some t) (ht : t < C.n)
    (hg : E.ev g = .one (.d (.fn f))) (hfn : isFn P f = true) (hev : xs.map E.ev = ps) (hargs : All2 (XArg E b) ps args) (hb : E.box b = some (T, bps)) (hcs : XCells E bps cs ss) (hbxc : BX P f args T cs cs' res) (hn : cs'.length = bps.length)
    (hfr : (E.handX b T bps.length ss).freshRows t 0 (cs' ++ res.flatMap (·.2)) = true) (hpin : ∀ x ∈ C.pin, x.1 < 1000) (hsh : res.all (fun x => x.1 || x.2.length == 1) = true) :
    Step P C o E (({ (E.handX b T bps.length ss).addRows t 0 (cs' ++ res.flatMap (·.2)) with boxes := (b, (T, pcs t 0 cs')) :: ((E.handX b T bps.length ss).addRows t 0 (cs' ++ res.flatMap (·.2))).boxes } : Env).set t (.ofRes (respvs t cs'.length res))) := by
  intro a w ⟨M, R⟩ K Q hK
  have hrun : (execOp a.eval o).run P w = .ok (.enter f (xs.map a.eval).toArray) w := by
    unfold execOp
    rw [ho]
    have hgv : a.eval g = .func (.func f) #[] #[] := ev_val R hg rfl
    simp only [resolve, hgv, Deferred.ofValue, Sem.run_bind, Sem.run_pure, Result.andThen, invoke, List.map_toArray]
    simp [run_callFn hfn]
  unfold Oper.wp
  rw [hrun, Oper.upon_enter]
  obtain ⟨hob, arr, harr, hcells⟩ := R.boxes b T bps hb
  obtain ⟨O1, o1, _, o3, o4⟩ := retC_ok R hcs.ret arr.toList 0 hcells
  have hO1g : O1 (M.blk b) = .none := by
    cases h : O1 (M.blk b) with
    | none => rfl
    | _ => obtain ⟨s, _, h2⟩ := o1 (M.blk b) (by rw [h]; simp); rw [hob] at h2; cases h2
  generalize hOdef : (fun k => if k = M.blk b then Tag.box 0 else O1 k) = O
  have hO : ∀ k, O k = if k = M.blk b then Tag.box 0 else O1 k := fun k => by subst hOdef; rfl
  have hOcase : ∀ k, O k ≠ .none → k = M.blk b ∨ ∃ s ∈ ss, M.own k = .row s := fun k hk => by
    by_cases e : k = M.blk b
    · exact .inl e
    · rw [hO, if_neg e] at hk; exact .inr (o1 k hk)
  have hall : All2 (XOk w (fun k => M.own k = .froz) (M.blk b)) (xs.map a.eval) args := by
    subst hev
    clear hrun ho hfr hbxc
    induction xs generalizing args with
    | nil => cases hargs; exact .nil
    | cons x xs ih =>
      cases hargs with
      | @cons _ y _ ys h1 h2 =>
        refine .cons ?_ (ih h2)
        have hx := ev_ok R x
        generalize E.ev x = p at h1 hx
        cases h1 with
        | rd h => exact aok_mono (fun k hk => by rcases hk with h | ⟨h, _⟩; exact h; cases h) (argP_ok R h hx)
        | bx => exact hx
  refine (hbxc w (fun k => M.own k = .froz) O (xs.map a.eval) (M.blk b) arr (fun k hk => R.lt k (by rw [hk]; simp)) (fun k hk => ?_) (fun k hk => ?_) (fun k => ?_) (by rw [hO, if_pos rfl]) harr (rcs_tags (fun k j h => ?_) (fun k h => absurd h (o3 k)) _ _ _ o4) hall).mono fun e w' hret => ?_
  · rcases hOcase k hk with rfl | ⟨s, _, h⟩
    · exact R.lt _ (by rw [hob]; simp)
    · exact R.lt k (by rw [h]; simp)
  · cases h : O k with
    | none => rfl
    | _ =>
      rcases hOcase k (by rw [h]; simp) with rfl | ⟨s, _, h2⟩
      · rw [hob] at hk; cases hk
      · rw [hk] at h2; cases h2
  · rw [hO]
    split
    · simp
    · exact o3 k
  · rw [hO, if_neg]
    · exact h
    · rintro rfl; rw [hO1g] at h; cases h
  · obtain ⟨hgiv, vs, bcs, O', arr', rfl, hO', hOf, hO'g, harr', hpk, hshape, hrcs⟩ := hret
    have R2 := (R.weaken (Env.handX_le (ss := ss) hb)).forget
    have hdead : ∀ s ∈ ss, (E.handX b T bps.length ss).row s = none := fun s hs => by
      show (E.drops ss).row s = none
      rw [Env.drops_row, if_pos hs]
    generalize hM2 : ({ M with own := fun k => if ∃ s, M.own k = .row s ∧ (E.handX b T bps.length ss).row s = none then .none else M.own k } : Maps) = M2 at R2
    have hown2 : ∀ k, M2.own k = if ∃ s, M.own k = .row s ∧ (E.handX b T bps.length ss).row s = none then .none else M.own k := fun k => by subst hM2; rfl
    have hblk2 : M2.blk = M.blk := by subst hM2; rfl
    have hsub : ∀ k, M2.own k ≠ .none → M2.own k = M.own k := fun k h => by
      rw [hown2] at h ⊢
      split at h
      · exact absurd rfl h
      · rename_i hh; rw [if_neg hh]
    have hgone : ∀ k, O k ≠ .none → k ≠ M.blk b → M2.own k = .none := fun k h hne => by
      rcases hOcase k h with e | ⟨s, hs, h2⟩
      · exact absurd e hne
      · rw [hown2, if_pos ⟨s, h2, hdead s hs⟩]
    have hnew2 : ∀ k, w.heap.size ≤ k → M2.own k = .none := fun k hk => own_new R2 hk
    have hio : ∀ k, O k ≠ .none → C.IX k ∨ C.base ≤ k := fun k h => by
      rcases hOcase k h with rfl | ⟨s, _, h2⟩
      · exact R.wr _ (by rw [hob]; simp) (by rw [hob]; simp)
      · exact R.wr k (by rw [h2]; simp) (by rw [h2]; simp)
    have hfrm : Frame_ C w' := ⟨hgiv.os.trans R.fr.os, hgiv.tape.trans R.fr.tape, hgiv.output.trans R.fr.output, Nat.le_trans R.fr.size hgiv.size, fun k hk hn => by
      have h0 : O k = .none := by
        cases h : O k with
        | none => rfl
        | _ =>
          rcases hio k (by rw [h]; simp) with h2 | h2
          · exact absurd h2 hn
          · omega
      rw [hgiv.block k (Nat.lt_of_lt_of_le hk R.ba) h0]
      exact R.fr.block k hk hn⟩
    have hflat := shape_flat _ _ hshape
    have hlen : arr'.size = bps.length := by
      have h1 := rcs_length _ _ _ hrcs
      simp only [List.length_append, Array.length_toList] at h1
      omega
    have hbE : (E.handX b T bps.length ss).box b = some (T, List.replicate bps.length .und) := by simp [Env.handX, Env.box, lk]
    have R3 := R2.chgX (b := b) (arr' := arr') hbE hfrm hgiv.size (fun k h0 h1 => by
      have hk0 : O k = .none := by
        cases h : O k with
        | none => rfl
        | _ =>
          by_cases e : k = M.blk b
          · subst e; rw [hsub _ h0, hob] at h1; exact absurd rfl h1
          · exact absurd (hgone k (by rw [h]; simp) e) h0
      exact hgiv.block k (R2.lt k h0) hk0) (by rw [hblk2]; exact harr') hlen
    obtain ⟨M4, R4, q1, q2, q3⟩ : ∃ M4 : Maps, RelM C M4 (E.handX b T bps.length ss) a w' ∧ (∀ k, M.own k = .froz ∨ O' k = .froz → M4.own k = .froz) ∧ (∀ k i, O' k = .row i → M4.own k = .none ∧ (C.IX k ∨ C.base ≤ k)) ∧ M4.blk = M.blk := by
      refine ⟨_, R3.addFroz (fun k => O' k = .froz) (fun k hk => hnew2 k (hOf k hk)) (fun k hk => by have := hOf k hk; have := R.ba; omega) (fun k hk => (hO' k (by rw [hk]; simp)).1), fun k hk => ?_, fun k i hk => ?_, hblk2⟩
      · simp only
        split
        · rfl
        · rename_i hn'
          rcases hk with h | h
          · rw [hown2, if_neg]
            · exact h
            · rintro ⟨s, h2, _⟩; rw [h] at h2; cases h2
          · exact absurd h hn'
      · simp only
        rw [if_neg (by rw [hk]; simp)]
        rcases (hO' k (by rw [hk]; simp)).2 with h | h
        · have hne : k ≠ M.blk b := by rintro rfl; rw [hO'g] at hk; cases hk
          exact ⟨hgone k h hne, hio k h⟩
        · exact ⟨hnew2 k h, .inr (Nat.le_trans R.ba h)⟩
    obtain ⟨M5, R5, h1, _, _, hblk5⟩ := RelM.addCells (t := t) hpin _ _ 0 M4 _ R4 hrcs q1 (fun k i ho _ => q2 k i ho) hfr
    rw [pcs_append, Nat.zero_add] at h1
    obtain ⟨g1, g2⟩ := All2.split (by rw [pcs_length]; simp; omega) h1
    have hb5 : ((E.handX b T bps.length ss).addRows t 0 (cs' ++ res.flatMap (·.2))).box b = some (T, List.replicate bps.length .und) := by
      unfold Env.box
      rw [addRows_boxes]
      exact hbE
    have R6 := R5.updBox (w' := w') (cs' := arr') hb5 (fun _ _ => rfl) (by rw [hblk5, q3]; exact harr') rfl rfl rfl rfl g1
    refine hK _ _ ⟨M5, ?_⟩
    rw [hd]
    refine R6.put ht (ofRes_ok hpk hshape ?_ hsh)
    exact g2.imp fun v c _ h => by cases c <;> exact h

/-! ### The body -/
def XA.pv : XA → PV
  | .rd a => a.pv
  | .bx => .one (.ptr 800 0)
def RC.xpc (j : Nat) : RC → PC
  | .rd d => .d d
  | .own _ _ => .row (900 + j) []
def xpcs : Nat → List RC → List PC
  | _, [] => []
  | j, c :: cs => c.xpc j :: xpcs (j + 1) cs
def xrows : Nat → List RC → List (Nat × (TypeId × D))
  | _, [] => []
  | j, .rd _ :: cs => xrows (j + 1) cs
  | j, .own T d :: cs => (900 + j, (T, d)) :: xrows (j + 1) cs
def Env.startX (args : List XA) (T : TypeId) (cs : List RC) : Env := { tm := args.zipIdx.map fun x => (x.2, x.1.pv), rows := xrows 0 cs, boxes := [(800, (T, xpcs 0 cs))] }
def RetX (P : Program) (fn : Func) (T : TypeId) (cs' : List RC) (res : Res) (E : Env) : Prop := ∃ (bps : List PC) (pss : List (Bool × List PC)), E.box 800 = some (T, bps) ∧ bps.length = cs'.length ∧ All2 (fun rv x => retPC P E rv = some x) fn.results.toList pss ∧ shape pss = shape res ∧ ∃ ss, RetC E (bps ++ pss.flatMap (·.2)) (cs' ++ res.flatMap (·.2)) ss
def QRetX (P : Program) (fn : Func) (T : TypeId) (cs' : List RC) (res : Res) : Exit → Env → Prop
  | .normal, E => RetX P fn T cs' res E
  | .ret, E => RetX P fn T cs' res E
  | _, _ => False
theorem xrows_get : ∀ (cs : List RC) (j r : Nat) (x : TypeId × D), lk (xrows j cs) r = some x → ∃ i, r = 900 + (j + i) ∧ cs[i]? = some (.own x.1 x.2)
  | [], _, _, _, h => by simp [xrows, lk] at h
  | .rd d :: cs, j, r, x, h => by
    obtain ⟨i, h1, h2⟩ := xrows_get cs (j + 1) r x h
    exact ⟨i + 1, by rw [h1]; omega, by simpa using h2⟩
  | .own T d :: cs, j, r, x, h => by
    simp only [xrows, lk] at h
    split at h
    · rename_i he
      injection h with h
      subst h
      exact ⟨0, by omega, rfl⟩
    · obtain ⟨i, h1, h2⟩ := xrows_get cs (j + 1) r x h
      exact ⟨i + 1, by rw [h1]; omega, by simpa using h2⟩
theorem rcs_get {w : World} {Z : Nat → Prop} {O : Nat → Tag} : ∀ (vs : List Value) (cs : List RC) (j : Nat), RCs w Z O j vs cs → ∀ (i : Nat) (c : RC), cs[i]? = some c → ∃ v, vs[i]? = some v ∧ RCOk w Z O (j + i) v c
  | [], [], _, _, i, c, h => by simp at h
  | [], _ :: _, _, h, _, _, _ => h.elim
  | _ :: _, [], _, h, _, _, _ => h.elim
  | v :: vs, c :: cs, j, h, i, c', hc => by
    cases i with
    | zero => simp only [List.getElem?_cons_zero, Option.some.injEq] at hc; subst hc; exact ⟨v, rfl, h.1⟩
    | succ i =>
      obtain ⟨v', h1, h2⟩ := rcs_get vs cs (j + 1) h.2 i c' (by simpa using hc)
      exact ⟨v', by simpa using h1, by rw [show j + (i + 1) = j + 1 + i from by omega]; exact h2⟩
theorem xpcs_length : ∀ (cs : List RC) (j : Nat), (xpcs j cs).length = cs.length
  | [], _ => rfl
  | c :: cs, j => by simp [xpcs, xpcs_length cs]
theorem xpcs_get : ∀ (cs : List RC) (j i : Nat) (c : PC), (xpcs j cs)[i]? = some c → ∃ rc, cs[i]? = some rc ∧ c = rc.xpc (j + i)
  | [], _, i, c, h => by simp [xpcs] at h
  | x :: cs, j, i, c, h => by
    cases i with
    | zero => simp only [xpcs, List.getElem?_cons_zero, Option.some.injEq] at h; exact ⟨x, rfl, by rw [← h]; rfl⟩
    | succ i =>
      obtain ⟨rc, h1, h2⟩ := xpcs_get cs (j + 1) i c (by simpa [xpcs] using h)
      exact ⟨rc, by simpa using h1, by rw [h2, show j + (i + 1) = j + 1 + i from by omega]⟩

open Classical in
/-- A function is held to what its body comes to. -/
theorem BX.intro {P : Program} {f : FuncId} {fn : Func} {c : Code} {args : List XA} {T : TypeId} {cs cs' : List RC} {res : Res} (hf : P.funcs[f]? = some fn) (hb : fn.body = some c) (n : Nat) (hn : fn.ntmps = n) (ha : args.length ≤ n) (hn8 : n ≤ 800)
    (h : ∀ (w : World) (Z IX : Nat → Prop) (pin : List (Nat × Value)), (∀ x ∈ pin, x.1 = 800) → Go.Proofs.Ytlcmflenbddliaa.Rf.T P ⟨w.heap.size, w, Z, IX, pin, n⟩ c (Env.startX args T cs) (QRetX P fn T cs' res)) : BX P f args T cs cs' res := by
  intro w Z O vals g arr hz hO hZO hOf hOg harr hrcs hargs
  have hl : vals.length = args.length := hargs.length
  refine calls_of_wp hf hb ?_
  have hrl := rcs_length _ _ _ hrcs
  obtain ⟨fpf, hfp⟩ : ∃ fpf : Nat → List Nat, ∀ (i : Nat) (T : TypeId) (d : D), cs[i]? = some (RC.own T d) → ∃ v, arr.toList[i]? = some v ∧ RowOk w T v d (fpf i) ∧ (fpf i).Nodup ∧ ∀ k ∈ fpf i, O k = .row i := by
    refine ⟨fun i => if h : ∃ fp : List Nat, ∀ (T : TypeId) (d : D), cs[i]? = some (RC.own T d) → ∃ v, arr.toList[i]? = some v ∧ RowOk w T v d fp ∧ fp.Nodup ∧ ∀ k ∈ fp, O k = .row i then Classical.choose h else [], fun i T d hc => ?_⟩
    have hex : ∃ fp : List Nat, ∀ (T : TypeId) (d : D), cs[i]? = some (RC.own T d) → ∃ v, arr.toList[i]? = some v ∧ RowOk w T v d fp ∧ fp.Nodup ∧ ∀ k ∈ fp, O k = .row i := by
      obtain ⟨v, h1, fp, h2, h3, h4⟩ := rcs_get _ _ 0 hrcs i _ hc
      refine ⟨fp, fun T' d' he => ?_⟩
      rw [hc] at he
      injection he with he
      injection he with he1 he2
      subst he1 he2
      exact ⟨v, h1, h2, h3, by simpa using h4⟩
    simp only [dif_pos hex]
    exact Classical.choose_spec hex T d hc
  generalize hMdef : (⟨fun r => arr.toList.getD (r - 900) undef, fun r => fpf (r - 900), fun _ => g, fun k => if Z k then .froz else match O k with | .row j => .row (900 + j) | .box _ => if k = g then .box 800 else .none | _ => .none⟩ : Maps) = M
  have hown : ∀ k, M.own k = if Z k then .froz else match O k with | .row j => .row (900 + j) | .box _ => if k = g then .box 800 else .none | _ => .none := fun k => by subst hMdef; rfl
  have hfroz : ∀ k, Z k → M.own k = .froz := fun k hk => by rw [hown, if_pos hk]
  have hrow : ∀ k j, O k = .row j → M.own k = .row (900 + j) := fun k j hk => by
    rw [hown, if_neg (fun hzk => by rw [hZO k hzk] at hk; cases hk), hk]
  have hgo : M.own g = .box 800 := by
    rw [hown, if_neg (fun hzk => by rw [hZO g hzk] at hOg; cases hOg), hOg]
    simp
  have hst : Rel ⟨w.heap.size, w, Z, fun k => O k ≠ .none, [(800, .pointer (some ⟨g, 0, none⟩))], n⟩ (Env.startX args T cs) { tmps := vals.toArray ++ Array.replicate (n - vals.toArray.size) undef, defers := [] } w := by
    refine ⟨M, ?_⟩
    have hhdl : ∀ i, M.hdl (900 + i) = arr.toList.getD i undef := fun i => by subst hMdef; simp only [Nat.add_sub_cancel_left]
    have hfpM : ∀ i, M.fp (900 + i) = fpf i := fun i => by subst hMdef; simp only [Nat.add_sub_cancel_left]
    have hblk : M.blk 800 = g := by subst hMdef; rfl
    have hcell : ∀ (i : Nat) (rc : RC) (v : Value), cs[i]? = some rc → arr.toList[i]? = some v → COk M (Env.startX args T cs) w v (rc.xpc (0 + i)) := fun i rc v hc hv => by
      obtain ⟨v', h1, h2⟩ := rcs_get _ _ 0 hrcs i rc hc
      rw [hv] at h1
      injection h1 with h1
      subst h1
      cases rc with
      | rd d => exact Rd.keep (h2 : Rd w _ [v] [d]) (fun _ _ => rfl) fun k hk => hk.elim (hfroz k) fun h => absurd h (hOf k)
      | own T' d =>
        intro T2 e _
        simp only [PathTo]
        rw [Nat.zero_add, hhdl, List.getD_eq_getElem?_getD, hv]
        rfl
    refine { tn := by simp; omega, df := rfl, fr := ⟨rfl, rfl, rfl, Nat.le_refl _, fun _ _ _ => rfl⟩, ba := Nat.le_refl _, lt := ?_, z0 := fun k hk => hfroz k hk, zb := ?_, wr := ?_, tm := ?_, rows := ?_, boxes := ?_, pin := ?_, bpin := ?_ }
    · intro k hk
      by_cases hzk : Z k
      · exact hz k hzk
      · refine hO k fun hno => ?_
        rw [hown, if_neg hzk, hno] at hk
        exact hk rfl
    · intro k hk
      by_cases hzk : Z k
      · exact .inl hzk
      · rw [hown, if_neg hzk] at hk
        split at hk
        · cases hk
        · split at hk <;> cases hk
        · cases hk
    · intro k hk hk'
      left
      intro hno
      by_cases hzk : Z k
      · rw [hown, if_pos hzk] at hk'; exact hk' rfl
      · rw [hown, if_neg hzk, hno] at hk; exact hk rfl
    · intro t
      have hget : (Env.startX args T cs).get t = ((args[t]?).map XA.pv).getD (.one .und) := by
        unfold Env.get Env.startX
        have := lk_zip XA.pv args 0 t
        rw [Nat.zero_add] at this
        simp only
        rw [this]
      rw [hget]
      cases hx : args[t]? with
      | none => trivial
      | some x =>
        obtain ⟨v, hv, hok⟩ := hargs.get t x hx
        have hval : ({ tmps := vals.toArray ++ Array.replicate (n - vals.toArray.size) undef, defers := [] } : Act).tmps.getD t undef = v := by
          have hlt : t < vals.length := (List.getElem?_eq_some_iff.1 hv).1
          have : (vals.toArray ++ Array.replicate (n - vals.toArray.size) undef)[t]? = some v := by
            rw [Array.getElem?_append_left (by simpa using hlt)]; simpa using hv
          simp only [Array.getD_eq_getD_getElem?, this, Option.getD_some]
        rw [hval]
        cases x with
        | bx =>
          show v = .pointer (some ⟨M.blk 800, 0, none⟩)
          rw [hblk]; exact hok
        | rd a =>
          cases a with
          | one d => exact Rd.keep (hok : Rd w Z [v] [d]) (fun _ _ => rfl) hfroz
          | agg ds =>
            obtain ⟨arr2, rfl, hr⟩ := hok
            exact ⟨arr2, rfl, rd_one hr hfroz⟩
    · intro r T' d hr
      obtain ⟨i, h1, h2⟩ := xrows_get _ 0 r _ hr
      rw [Nat.zero_add] at h1
      subst h1
      obtain ⟨v, k1, k2, k3, k4⟩ := hfp i T' d h2
      rw [hhdl, hfpM, List.getD_eq_getElem?_getD, k1]
      exact ⟨k2, k3, fun k hk => hrow k i (k4 k hk)⟩
    · intro b' T' ps hb'
      simp only [Env.box, Env.startX, lk] at hb'
      split at hb'
      · rename_i e
        subst e
        injection hb' with hb'
        injection hb' with e1 e2
        subst e1 e2
        rw [hblk]
        refine ⟨hgo, arr, harr, All2.of_get _ _ (by rw [hrl, xpcs_length]) fun j v c hv hc => ?_⟩
        obtain ⟨rc, h1, rfl⟩ := xpcs_get _ 0 j c hc
        exact hcell j rc v h1 hv
      · cases hb'
    · intro r v hrv T' d hr
      obtain ⟨i, h1, _⟩ := xrows_get _ 0 r _ hr
      simp only [List.mem_singleton, Prod.mk.injEq] at hrv
      omega
    · intro b' v hp _ T' ps hb'
      simp only [List.mem_singleton, Prod.mk.injEq] at hp
      obtain ⟨rfl, rfl⟩ := hp
      rw [hblk]
  have := h w Z (fun k => O k ≠ .none) [(800, .pointer (some ⟨g, 0, none⟩))] (by simp) _ _ hst
  rw [hn]
  refine wp_mono this fun e a w' ⟨E, hq, M', R⟩ => ?_
  have key : RetX P fn T cs' res E → bodyPost P fn (ReturnsX w Z O g T cs' res) .ret a w' := fun ⟨bps, pss, hbx, hbl, h1, h2, ss, h3⟩ => by
    obtain ⟨vs, bcs, k1, k2, k3, k4⟩ := ret_all R h1
    obtain ⟨j1, arr', j2, j3⟩ := R.boxes 800 T bps hbx
    have hgM : M'.blk 800 = g := by
      have := R.bpin 800 (.pointer (some ⟨g, 0, none⟩)) (by simp) hn8 T bps hbx
      simp only [Value.pointer.injEq, Option.some.injEq, Addr.mk.injEq, and_true] at this
      exact this.symm
    rw [hgM] at j1 j2
    obtain ⟨O1, o1, _, o3, o4⟩ := retC_ok R h3 (arr'.toList ++ bcs.flatMap (·.2)) 0 (j3.append k4)
    have ho1g : O1 g = .none := by
      cases h : O1 g with
      | none => rfl
      | _ => obtain ⟨s, _, h2⟩ := o1 g (by rw [h]; simp); rw [j1] at h2; cases h2
    refine ⟨R.df, packed vs, results_run k1, ⟨R.fr.os, R.fr.tape, R.fr.output, R.fr.size, fun k hk hno => R.fr.block k hk fun h => h hno⟩, vs, bcs,
      fun k => if k = g then .box 0 else if M'.own k = .froz ∧ ¬ Z k then .froz else O1 k, arr', rfl, fun k hk => ?_, fun k hk => ?_, by simp, j2, k2, k3.trans h2, ?_⟩
    · simp only at hk
      split at hk
      · rename_i e; subst e
        exact ⟨R.lt k (by rw [j1]; simp), .inl (by rw [hOg]; simp)⟩
      · split at hk
        · rename_i hm
          refine ⟨R.lt k (by rw [hm.1]; simp), .inr ?_⟩
          rcases R.zb k hm.1 with h | h
          · exact absurd h hm.2
          · exact h
        · obtain ⟨s, _, ho⟩ := o1 k hk
          exact ⟨R.lt k (by rw [ho]; simp), R.wr k (by rw [ho]; simp) (by rw [ho]; simp)⟩
    · simp only at hk
      split at hk
      · cases hk
      · split at hk
        · rename_i hm
          rcases R.zb k hm.1 with h | h
          · exact absurd h hm.2
          · exact h
        · exact absurd hk (o3 k)
    · have hmono : ∀ (rcs : List RC) (vs : List Value) (i : Nat), RCs w' (fun k => M'.own k = .froz) O1 i vs rcs → RCs w' Z (fun k => if k = g then .box 0 else if M'.own k = .froz ∧ ¬ Z k then .froz else O1 k) i vs rcs := by
        intro rcs
        induction rcs with
        | nil => intro vs i h; cases vs; exact h; exact h.elim
        | cons rc rcs ihr =>
          intro vs i h
          cases vs with
          | nil => exact h.elim
          | cons v vs =>
            refine ⟨?_, ihr vs (i + 1) h.2⟩
            cases rc with
            | rd d =>
              refine Rd.keep (h.1 : Rd w' _ [v] [d]) (fun _ _ => rfl) fun k hk => ?_
              rcases hk with hk | hk
              · by_cases hzk : Z k
                · exact .inl hzk
                · right
                  show (if k = g then Tag.box 0 else if M'.own k = .froz ∧ ¬ Z k then Tag.froz else O1 k) = .froz
                  rw [if_neg (fun e => by subst e; rw [j1] at hk; cases hk), if_pos ⟨hk, hzk⟩]
              · exact absurd hk (o3 k)
            | own T d =>
              obtain ⟨fp, q1, q2, q3⟩ := h.1
              refine ⟨fp, q1, q2, fun k hk => ?_⟩
              simp only
              rw [if_neg (fun e => by subst e; have := q3 k hk; rw [ho1g] at this; cases this), if_neg (fun hm => by
                obtain ⟨s, _, ho⟩ := o1 k (by rw [q3 k hk]; simp)
                rw [hm.1] at ho; cases ho)]
              exact q3 k hk
      exact hmono _ _ _ o4
  cases e with
  | normal => exact key hq
  | ret => exact key hq
  | _ => exact hq.elim
end Go.Proofs.Ytlcmflenbddliaa.Rf
