/- A logic of our own over the kit's 'wp', as much of it as this claim uses. Plain definitions and theorems. -/
import Derived.Test.YtmdojlglemnijaaTrFnConsa
namespace Go.Proofs.Ytmdojlglemnijaa.Rf
open Go.RowKit
set_option linter.unusedVariables false
set_option linter.unnecessarySimpa false
set_option linter.unusedSimpArgs false
open Go.RowKit Go.ChangeShapes Go.WideShapes Go.ChangeAt
open Classical in
theorem Step.callX {P : Program} {C : Ctx} {o : Oper} {E : Env} {t f b : Nat} {T : TypeId} {ats : Array TypeId} {g : Operand} {xs : List Operand} {ps : List PV} {args : List XA} {bps : List PC} {cs cs' : List RC} {res : Res} {ss : List Nat} (ho : o.op = .call { callee := .value g, args := xs.toArray, argTypes := ats }) (hd : o.dst = some t) (ht : t < C.n)
    (hg : E.ev g = .one (.d (.fn f))) (hfn : isFn P f = true) (hev : xs.map E.ev = ps) (hargs : All2 (XArg E b) ps args) (hb : E.box b = some (T, bps)) (hcs : XCells E bps cs ss) (hbxc : BX P f args T cs cs' res) (hn : cs'.length = bps.length)
    (hfr : (E.handX b T bps.length ss).freshRows t 0 (cs' ++ res.flatMap (·.2)) = true) (hpin : ∀ x ∈ C.pin, x.1 < 1000) (hsh : res.all (fun x => x.1 || x.2.length == 1) = true) :
    Step P C o E (({ (E.handX b T bps.length ss).addRows t 0 (cs' ++ res.flatMap (·.2)) with boxes := (b, (T, pcs t 0 cs')) :: ((E.handX b T bps.length ss).addRows t 0 (cs' ++ res.flatMap (·.2))).boxes } : Env).set t (.ofRes (respvs t cs'.length res))) := by
  intro a w ⟨M, R⟩ K Q hK
  have hrun : (execOp a.eval o).run P w = .ok (.enter f (xs.map a.eval).toArray) w := by
    unfold execOp
    rw [ho]
    have hgv : a.eval g = .func (.func f) #[] #[] := ev_val R hg rfl
    simp only [resolve, hgv, Deferred.ofValue, Sem.run_bind, Sem.run_pure, Result.andThen, invoke, List.map_toArray]
    simp [run_callFn hfn]
  unfold Oper.wp
  rw [hrun, Oper.upon_enter]
  obtain ⟨hob, arr, harr, hcells⟩ := R.boxes b T bps hb
  obtain ⟨O1, o1, _, o3, o4⟩ := retC_ok R hcs.ret arr.toList 0 hcells
  have hO1g : O1 (M.blk b) = .none := by
    cases h : O1 (M.blk b) with
    | none => rfl
    | _ => obtain ⟨s, _, h2⟩ := o1 (M.blk b) (by rw [h]; simp); rw [hob] at h2; cases h2
  generalize hOdef : (fun k => if k = M.blk b then Tag.box 0 else O1 k) = O
  have hO : ∀ k, O k = if k = M.blk b then Tag.box 0 else O1 k := fun k => by subst hOdef; rfl
  have hOcase : ∀ k, O k ≠ .none → k = M.blk b ∨ ∃ s ∈ ss, M.own k = .row s := fun k hk => by
    by_cases e : k = M.blk b
    · exact .inl e
    · rw [hO, if_neg e] at hk; exact .inr (o1 k hk)
  have hall : All2 (XOk w (fun k => M.own k = .froz) (M.blk b)) (xs.map a.eval) args := by
    subst hev
    clear hrun ho hfr hbxc
    induction xs generalizing args with
    | nil => cases hargs; exact .nil
    | cons x xs ih =>
      cases hargs with
      | @cons _ y _ ys h1 h2 =>
        refine .cons ?_ (ih h2)
        have hx := ev_ok R x
        generalize E.ev x = p at h1 hx
        cases h1 with
        | rd h => exact aok_mono (fun k hk => by rcases hk with h | ⟨h, _⟩; exact h; cases h) (argP_ok R h hx)
        | bx => exact hx
  refine (hbxc w (fun k => M.own k = .froz) O (xs.map a.eval) (M.blk b) arr (fun k hk => R.lt k (by rw [hk]; simp)) (fun k hk => ?_) (fun k hk => ?_) (fun k => ?_) (by rw [hO, if_pos rfl]) harr (rcs_tags (fun k j h => ?_) (fun k h => absurd h (o3 k)) _ _ _ o4) hall).mono fun e w' hret => ?_
  · rcases hOcase k hk with rfl | ⟨s, _, h⟩
    · exact R.lt _ (by rw [hob]; simp)
    · exact R.lt k (by rw [h]; simp)
  · cases h : O k with
    | none => rfl
    | _ =>
      rcases hOcase k (by rw [h]; simp) with rfl | ⟨s, _, h2⟩
      · rw [hob] at hk; cases hk
      · rw [hk] at h2; cases h2
  · rw [hO]
    split
    · simp
    · exact o3 k
  · rw [hO, if_neg]
    · exact h
    · rintro rfl; rw [hO1g] at h; cases h
  · obtain ⟨hgiv, vs, bcs, O', arr', rfl, hO', hOf, hO'g, harr', hpk, hshape, hrcs⟩ := hret
    have R2 := (R.weaken (Env.handX_le (ss := ss) hb)).forget
    have hdead : ∀ s ∈ ss, (E.handX b T bps.length ss).row s = none := fun s hs => by
      show (E.drops ss).row s = none
      rw [Env.drops_row, if_pos hs]
    generalize hM2 : ({ M with own := fun k => if ∃ s, M.own k = .row s ∧ (E.handX b T bps.length ss).row s = none then .none else M.own k } : Maps) = M2 at R2
    have hown2 : ∀ k, M2.own k = if ∃ s, M.own k = .row s ∧ (E.handX b T bps.length ss).row s = none then .none else M.own k := fun k => by subst hM2; rfl
    have hblk2 : M2.blk = M.blk := by subst hM2; rfl
    have hsub : ∀ k, M2.own k ≠ .none → M2.own k = M.own k := fun k h => by
      rw [hown2] at h ⊢
      split at h
      · exact absurd rfl h
      · rename_i hh; rw [if_neg hh]
    have hgone : ∀ k, O k ≠ .none → k ≠ M.blk b → M2.own k = .none := fun k h hne => by
      rcases hOcase k h with e | ⟨s, hs, h2⟩
      · exact absurd e hne
      · rw [hown2, if_pos ⟨s, h2, hdead s hs⟩]
    have hnew2 : ∀ k, w.heap.size ≤ k → M2.own k = .none := fun k hk => own_new R2 hk
    have hio : ∀ k, O k ≠ .none → C.IX k ∨ C.base ≤ k := fun k h => by
      rcases hOcase k h with rfl | ⟨s, _, h2⟩
      · exact R.wr _ (by rw [hob]; simp) (by rw [hob]; simp)
      · exact R.wr k (by rw [h2]; simp) (by rw [h2]; simp)
    have hfrm : Frame_ C w' := ⟨hgiv.os.trans R.fr.os, hgiv.tape.trans R.fr.tape, hgiv.output.trans R.fr.output, Nat.le_trans R.fr.size hgiv.size, fun k hk hn => by
      have h0 : O k = .none := by
        cases h : O k with
        | none => rfl
        | _ =>
          rcases hio k (by rw [h]; simp) with h2 | h2
          · exact absurd h2 hn
          · omega
      rw [hgiv.block k (Nat.lt_of_lt_of_le hk R.ba) h0]
      exact R.fr.block k hk hn⟩
    have hflat := shape_flat _ _ hshape
    have hlen : arr'.size = bps.length := by
      have h1 := rcs_length _ _ _ hrcs
      simp only [List.length_append, Array.length_toList] at h1
      omega
    have hbE : (E.handX b T bps.length ss).box b = some (T, List.replicate bps.length .und) := by simp [Env.handX, Env.box, lk]
    have R3 := R2.chgX (b := b) (arr' := arr') hbE hfrm hgiv.size (fun k h0 h1 => by
      have hk0 : O k = .none := by
        cases h : O k with
        | none => rfl
        | _ =>
          by_cases e : k = M.blk b
          · subst e; rw [hsub _ h0, hob] at h1; exact absurd rfl h1
          · exact absurd (hgone k (by rw [h]; simp) e) h0
      exact hgiv.block k (R2.lt k h0) hk0) (by rw [hblk2]; exact harr') hlen
    obtain ⟨M4, R4, q1, q2, q3⟩ : ∃ M4 : Maps, RelM C M4 (E.handX b T bps.length ss) a w' ∧ (∀ k, M.own k = .froz ∨ O' k = .froz → M4.own k = .froz) ∧ (∀ k i, O' k = .row i → M4.own k = .none ∧ (C.IX k ∨ C.base ≤ k)) ∧ M4.blk = M.blk := by
      refine ⟨_, R3.addFroz (fun k => O' k = .froz) (fun k hk => hnew2 k (hOf k hk)) (fun k hk => by have := hOf k hk; have := R.ba; omega) (fun k hk => (hO' k (by rw [hk]; simp)).1), fun k hk => ?_, fun k i hk => ?_, hblk2⟩
      · simp only
        split
        · rfl
        · rename_i hn'
          rcases hk with h | h
          · rw [hown2, if_neg]
            · exact h
            · rintro ⟨s, h2, _⟩; rw [h] at h2; cases h2
          · exact absurd h hn'
      · simp only
        rw [if_neg (by rw [hk]; simp)]
        rcases (hO' k (by rw [hk]; simp)).2 with h | h
        · have hne : k ≠ M.blk b := by rintro rfl; rw [hO'g] at hk; cases hk
          exact ⟨hgone k h hne, hio k h⟩
        · exact ⟨hnew2 k h, .inr (Nat.le_trans R.ba h)⟩
    obtain ⟨M5, R5, h1, _, _, hblk5⟩ := RelM.addCells (t := t) hpin _ _ 0 M4 _ R4 hrcs q1 (fun k i ho _ => q2 k i ho) hfr
    rw [pcs_append, Nat.zero_add] at h1
    obtain ⟨g1, g2⟩ := All2.split (by rw [pcs_length]; simp; omega) h1
    have hb5 : ((E.handX b T bps.length ss).addRows t 0 (cs' ++ res.flatMap (·.2))).box b = some (T, List.replicate bps.length .und) := by
      unfold Env.box
      rw [addRows_boxes]
      exact hbE
    have R6 := R5.updBox (w' := w') (cs' := arr') hb5 (fun _ _ => rfl) (by rw [hblk5, q3]; exact harr') rfl rfl rfl rfl g1
    refine hK _ _ ⟨M5, ?_⟩
    rw [hd]
    refine R6.put ht (ofRes_ok hpk hshape ?_ hsh)
    exact g2.imp fun v c _ h => by cases c <;> exact h
def XA.pv : XA → PV
  | .rd a => a.pv
  | .bx => .one (.ptr 800 0)
def RC.xpc (j : Nat) : RC → PC
  | .rd d => .d d
  | .own _ _ => .row (900 + j) []
def xpcs : Nat → List RC → List PC
  | _, [] => []
  | j, c :: cs => c.xpc j :: xpcs (j + 1) cs
def xrows : Nat → List RC → List (Nat × (TypeId × D))
  | _, [] => []
  | j, .rd _ :: cs => xrows (j + 1) cs
  | j, .own T d :: cs => (900 + j, (T, d)) :: xrows (j + 1) cs
def Env.startX (args : List XA) (T : TypeId) (cs : List RC) : Env := { tm := args.zipIdx.map fun x => (x.2, x.1.pv), rows := xrows 0 cs, boxes := [(800, (T, xpcs 0 cs))] }
def RetX (P : Program) (fn : Func) (T : TypeId) (cs' : List RC) (res : Res) (E : Env) : Prop := ∃ (bps : List PC) (pss : List (Bool × List PC)), E.box 800 = some (T, bps) ∧ bps.length = cs'.length ∧ All2 (fun rv x => retPC P E rv = some x) fn.results.toList pss ∧ shape pss = shape res ∧ ∃ ss, RetC E (bps ++ pss.flatMap (·.2)) (cs' ++ res.flatMap (·.2)) ss
def QRetX (P : Program) (fn : Func) (T : TypeId) (cs' : List RC) (res : Res) : Exit → Env → Prop
  | .normal, E => RetX P fn T cs' res E
  | .ret, E => RetX P fn T cs' res E
  | _, _ => False
theorem xrows_get : ∀ (cs : List RC) (j r : Nat) (x : TypeId × D), lk (xrows j cs) r = some x → ∃ i, r = 900 + (j + i) ∧ cs[i]? = some (.own x.1 x.2)
  | [], _, _, _, h => by simp [xrows, lk] at h
  | .rd d :: cs, j, r, x, h => by
    obtain ⟨i, h1, h2⟩ := xrows_get cs (j + 1) r x h
    exact ⟨i + 1, by rw [h1]; omega, by simpa using h2⟩
  | .own T d :: cs, j, r, x, h => by
    simp only [xrows, lk] at h
    split at h
    · rename_i he
      injection h with h
      subst h
      exact ⟨0, by omega, rfl⟩
    · obtain ⟨i, h1, h2⟩ := xrows_get cs (j + 1) r x h
      exact ⟨i + 1, by rw [h1]; omega, by simpa using h2⟩
theorem rcs_get {w : World} {Z : Nat → Prop} {O : Nat → Tag} : ∀ (vs : List Value) (cs : List RC) (j : Nat), RCs w Z O j vs cs → ∀ (i : Nat) (c : RC), cs[i]? = some c → ∃ v, vs[i]? = some v ∧ RCOk w Z O (j + i) v c
  | [], [], _, _, i, c, h => by simp at h
  | [], _ :: _, _, h, _, _, _ => h.elim
  | _ :: _, [], _, h, _, _, _ => h.elim
  | v :: vs, c :: cs, j, h, i, c', hc => by
    cases i with
    | zero => simp only [List.getElem?_cons_zero, Option.some.injEq] at hc; subst hc; exact ⟨v, rfl, h.1⟩
    | succ i =>
      obtain ⟨v', h1, h2⟩ := rcs_get vs cs (j + 1) h.2 i c' (by simpa using hc)
      exact ⟨v', by simpa using h1, by rw [show j + (i + 1) = j + 1 + i from by omega]; exact h2⟩
theorem xpcs_length : ∀ (cs : List RC) (j : Nat), (xpcs j cs).length = cs.length
  | [], _ => rfl
  | c :: cs, j => by simp [xpcs, xpcs_length cs]
theorem xpcs_get : ∀ (cs : List RC) (j i : Nat) (c : PC), (xpcs j cs)[i]? = some c → ∃ rc, cs[i]? = some rc ∧ c = rc.xpc (j + i)
  | [], _, i, c, h => by simp [xpcs] at h
  | x :: cs, j, i, c, h => by
    cases i with
    | zero => simp only [xpcs, List.getElem?_cons_zero, Option.some.injEq] at h; exact ⟨x, rfl, by rw [← h]; rfl⟩
    | succ i =>
      obtain ⟨rc, h1, h2⟩ := xpcs_get cs (j + 1) i c (by simpa [xpcs] using h)
      exact ⟨rc, by simpa using h1, by rw [h2, show j + (i + 1) = j + 1 + i from by omega]⟩
open Classical in
theorem BX.intro {P : Program} {f : FuncId} {fn : Func} {c : Code} {args : List XA} {T : TypeId} {cs cs' : List RC} {res : Res} (hf : P.funcs[f]? = some fn) (hb : fn.body = some c) (n : Nat) (hn : fn.ntmps = n) (ha : args.length ≤ n) (hn8 : n ≤ 800)
    (h : ∀ (w : World) (Z IX : Nat → Prop) (pin : List (Nat × Value)), (∀ x ∈ pin, x.1 = 800) → Go.Proofs.Ytmdojlglemnijaa.Rf.T P ⟨w.heap.size, w, Z, IX, pin, n⟩ c (Env.startX args T cs) (QRetX P fn T cs' res)) : BX P f args T cs cs' res := by
  intro w Z O vals g arr hz hO hZO hOf hOg harr hrcs hargs
  have hl : vals.length = args.length := hargs.length
  refine calls_of_wp hf hb ?_
  have hrl := rcs_length _ _ _ hrcs
  obtain ⟨fpf, hfp⟩ : ∃ fpf : Nat → List Nat, ∀ (i : Nat) (T : TypeId) (d : D), cs[i]? = some (RC.own T d) → ∃ v, arr.toList[i]? = some v ∧ RowOk w T v d (fpf i) ∧ (fpf i).Nodup ∧ ∀ k ∈ fpf i, O k = .row i := by
    refine ⟨fun i => if h : ∃ fp : List Nat, ∀ (T : TypeId) (d : D), cs[i]? = some (RC.own T d) → ∃ v, arr.toList[i]? = some v ∧ RowOk w T v d fp ∧ fp.Nodup ∧ ∀ k ∈ fp, O k = .row i then Classical.choose h else [], fun i T d hc => ?_⟩
    have hex : ∃ fp : List Nat, ∀ (T : TypeId) (d : D), cs[i]? = some (RC.own T d) → ∃ v, arr.toList[i]? = some v ∧ RowOk w T v d fp ∧ fp.Nodup ∧ ∀ k ∈ fp, O k = .row i := by
      obtain ⟨v, h1, fp, h2, h3, h4⟩ := rcs_get _ _ 0 hrcs i _ hc
      refine ⟨fp, fun T' d' he => ?_⟩
      rw [hc] at he
      injection he with he
      injection he with he1 he2
      subst he1 he2
      exact ⟨v, h1, h2, h3, by simpa using h4⟩
    simp only [dif_pos hex]
    exact Classical.choose_spec hex T d hc
  generalize hMdef : (⟨fun r => arr.toList.getD (r - 900) undef, fun r => fpf (r - 900), fun _ => g, fun k => if Z k then .froz else match O k with | .row j => .row (900 + j) | .box _ => if k = g then .box 800 else .none | _ => .none⟩ : Maps) = M
  have hown : ∀ k, M.own k = if Z k then .froz else match O k with | .row j => .row (900 + j) | .box _ => if k = g then .box 800 else .none | _ => .none := fun k => by subst hMdef; rfl
  have hfroz : ∀ k, Z k → M.own k = .froz := fun k hk => by rw [hown, if_pos hk]
  have hrow : ∀ k j, O k = .row j → M.own k = .row (900 + j) := fun k j hk => by
    rw [hown, if_neg (fun hzk => by rw [hZO k hzk] at hk; cases hk), hk]
  have hgo : M.own g = .box 800 := by
    rw [hown, if_neg (fun hzk => by rw [hZO g hzk] at hOg; cases hOg), hOg]
    simp
  have hst : Rel ⟨w.heap.size, w, Z, fun k => O k ≠ .none, [(800, .pointer (some ⟨g, 0, none⟩))], n⟩ (Env.startX args T cs) { tmps := vals.toArray ++ Array.replicate (n - vals.toArray.size) undef, defers := [] } w := by
    refine ⟨M, ?_⟩
    have hhdl : ∀ i, M.hdl (900 + i) = arr.toList.getD i undef := fun i => by subst hMdef; simp only [Nat.add_sub_cancel_left]
    have hfpM : ∀ i, M.fp (900 + i) = fpf i := fun i => by subst hMdef; simp only [Nat.add_sub_cancel_left]
    have hblk : M.blk 800 = g := by subst hMdef; rfl
    have hcell : ∀ (i : Nat) (rc : RC) (v : Value), cs[i]? = some rc → arr.toList[i]? = some v → COk M (Env.startX args T cs) w v (rc.xpc (0 + i)) := fun i rc v hc hv => by
      obtain ⟨v', h1, h2⟩ := rcs_get _ _ 0 hrcs i rc hc
      rw [hv] at h1
      injection h1 with h1
      subst h1
      cases rc with
      | rd d => exact Rd.keep (h2 : Rd w _ [v] [d]) (fun _ _ => rfl) fun k hk => hk.elim (hfroz k) fun h => absurd h (hOf k)
      | own T' d =>
        intro T2 e _
        simp only [PathTo]
        rw [Nat.zero_add, hhdl, List.getD_eq_getElem?_getD, hv]
        rfl
    refine { tn := by simp; omega, df := rfl, fr := ⟨rfl, rfl, rfl, Nat.le_refl _, fun _ _ _ => rfl⟩, ba := Nat.le_refl _, lt := ?_, z0 := fun k hk => hfroz k hk, zb := ?_, wr := ?_, tm := ?_, rows := ?_, boxes := ?_, pin := ?_, bpin := ?_ }
    · intro k hk
      by_cases hzk : Z k
      · exact hz k hzk
      · refine hO k fun hno => ?_
        rw [hown, if_neg hzk, hno] at hk
        exact hk rfl
    · intro k hk
      by_cases hzk : Z k
      · exact .inl hzk
      · rw [hown, if_neg hzk] at hk
        split at hk
        · cases hk
        · split at hk <;> cases hk
        · cases hk
    · intro k hk hk'
      left
      intro hno
      by_cases hzk : Z k
      · rw [hown, if_pos hzk] at hk'; exact hk' rfl
      · rw [hown, if_neg hzk, hno] at hk; exact hk rfl
    · intro t
      have hget : (Env.startX args T cs).get t = ((args[t]?).map XA.pv).getD (.one .und) := by
        unfold Env.get Env.startX
        have := lk_zip XA.pv args 0 t
        rw [Nat.zero_add] at this
        simp only
        rw [this]
      rw [hget]
      cases hx : args[t]? with
      | none => trivial
      | some x =>
        obtain ⟨v, hv, hok⟩ := hargs.get t x hx
        have hval : ({ tmps := vals.toArray ++ Array.replicate (n - vals.toArray.size) undef, defers := [] } : Act).tmps.getD t undef = v := by
          have hlt : t < vals.length := (List.getElem?_eq_some_iff.1 hv).1
          have : (vals.toArray ++ Array.replicate (n - vals.toArray.size) undef)[t]? = some v := by
            rw [Array.getElem?_append_left (by simpa using hlt)]; simpa using hv
          simp only [Array.getD_eq_getD_getElem?, this, Option.getD_some]
        rw [hval]
        cases x with
        | bx =>
          show v = .pointer (some ⟨M.blk 800, 0, none⟩)
          rw [hblk]; exact hok
        | rd a =>
          cases a with
          | one d => exact Rd.keep (hok : Rd w Z [v] [d]) (fun _ _ => rfl) hfroz
          | agg ds =>
            obtain ⟨arr2, rfl, hr⟩ := hok
            exact ⟨arr2, rfl, rd_one hr hfroz⟩
    · intro r T' d hr
      obtain ⟨i, h1, h2⟩ := xrows_get _ 0 r _ hr
      rw [Nat.zero_add] at h1
      subst h1
      obtain ⟨v, k1, k2, k3, k4⟩ := hfp i T' d h2
      rw [hhdl, hfpM, List.getD_eq_getElem?_getD, k1]
      exact ⟨k2, k3, fun k hk => hrow k i (k4 k hk)⟩
    · intro b' T' ps hb'
      simp only [Env.box, Env.startX, lk] at hb'
      split at hb'
      · rename_i e
        subst e
        injection hb' with hb'
        injection hb' with e1 e2
        subst e1 e2
        rw [hblk]
        refine ⟨hgo, arr, harr, All2.of_get _ _ (by rw [hrl, xpcs_length]) fun j v c hv hc => ?_⟩
        obtain ⟨rc, h1, rfl⟩ := xpcs_get _ 0 j c hc
        exact hcell j rc v h1 hv
      · cases hb'
    · intro r v hrv T' d hr
      obtain ⟨i, h1, _⟩ := xrows_get _ 0 r _ hr
      simp only [List.mem_singleton, Prod.mk.injEq] at hrv
      omega
    · intro b' v hp _ T' ps hb'
      simp only [List.mem_singleton, Prod.mk.injEq] at hp
      obtain ⟨rfl, rfl⟩ := hp
      rw [hblk]
  have := h w Z (fun k => O k ≠ .none) [(800, .pointer (some ⟨g, 0, none⟩))] (by simp) _ _ hst
  rw [hn]
  refine wp_mono this fun e a w' ⟨E, hq, M', R⟩ => ?_
  have key : RetX P fn T cs' res E → bodyPost P fn (ReturnsX w Z O g T cs' res) .ret a w' := fun ⟨bps, pss, hbx, hbl, h1, h2, ss, h3⟩ => by
    obtain ⟨vs, bcs, k1, k2, k3, k4⟩ := ret_all R h1
    obtain ⟨j1, arr', j2, j3⟩ := R.boxes 800 T bps hbx
    have hgM : M'.blk 800 = g := by
      have := R.bpin 800 (.pointer (some ⟨g, 0, none⟩)) (by simp) hn8 T bps hbx
      simp only [Value.pointer.injEq, Option.some.injEq, Addr.mk.injEq, and_true] at this
      exact this.symm
    rw [hgM] at j1 j2
    obtain ⟨O1, o1, _, o3, o4⟩ := retC_ok R h3 (arr'.toList ++ bcs.flatMap (·.2)) 0 (j3.append k4)
    have ho1g : O1 g = .none := by
      cases h : O1 g with
      | none => rfl
      | _ => obtain ⟨s, _, h2⟩ := o1 g (by rw [h]; simp); rw [j1] at h2; cases h2
    refine ⟨R.df, packed vs, results_run k1, ⟨R.fr.os, R.fr.tape, R.fr.output, R.fr.size, fun k hk hno => R.fr.block k hk fun h => h hno⟩, vs, bcs,
      fun k => if k = g then .box 0 else if M'.own k = .froz ∧ ¬ Z k then .froz else O1 k, arr', rfl, fun k hk => ?_, fun k hk => ?_, by simp, j2, k2, k3.trans h2, ?_⟩
    · simp only at hk
      split at hk
      · rename_i e; subst e
        exact ⟨R.lt k (by rw [j1]; simp), .inl (by rw [hOg]; simp)⟩
      · split at hk
        · rename_i hm
          refine ⟨R.lt k (by rw [hm.1]; simp), .inr ?_⟩
          rcases R.zb k hm.1 with h | h
          · exact absurd h hm.2
          · exact h
        · obtain ⟨s, _, ho⟩ := o1 k hk
          exact ⟨R.lt k (by rw [ho]; simp), R.wr k (by rw [ho]; simp) (by rw [ho]; simp)⟩
    · simp only at hk
      split at hk
      · cases hk
      · split at hk
        · rename_i hm
          rcases R.zb k hm.1 with h | h
          · exact absurd h hm.2
          · exact h
        · exact absurd hk (o3 k)
    · have hmono : ∀ (rcs : List RC) (vs : List Value) (i : Nat), RCs w' (fun k => M'.own k = .froz) O1 i vs rcs → RCs w' Z (fun k => if k = g then .box 0 else if M'.own k = .froz ∧ ¬ Z k then .froz else O1 k) i vs rcs := by
        intro rcs
        induction rcs with
        | nil => intro vs i h; cases vs; exact h; exact h.elim
        | cons rc rcs ihr =>
          intro vs i h
          cases vs with
          | nil => exact h.elim
          | cons v vs =>
            refine ⟨?_, ihr vs (i + 1) h.2⟩
            cases rc with
            | rd d =>
              refine Rd.keep (h.1 : Rd w' _ [v] [d]) (fun _ _ => rfl) fun k hk => ?_
              rcases hk with hk | hk
              · by_cases hzk : Z k
                · exact .inl hzk
                · right
                  show (if k = g then Tag.box 0 else if M'.own k = .froz ∧ ¬ Z k then Tag.froz else O1 k) = .froz
                  rw [if_neg (fun e => by subst e; rw [j1] at hk; cases hk), if_pos ⟨hk, hzk⟩]
              · exact absurd hk (o3 k)
            | own T d =>
              obtain ⟨fp, q1, q2, q3⟩ := h.1
              refine ⟨fp, q1, q2, fun k hk => ?_⟩
              simp only
              rw [if_neg (fun e => by subst e; have := q3 k hk; rw [ho1g] at this; cases this), if_neg (fun hm => by
                obtain ⟨s, _, ho⟩ := o1 k (by rw [q3 k hk]; simp)
                rw [hm.1] at ho; cases ho)]
              exact q3 k hk
      exact hmono _ _ _ o4
  cases e with
  | normal => exact key hq
  | ret => exact key hq
  | _ => exact hq.elim
def rd (l : List Int) (i : Int) : Int := l.getD i.toNat 0
theorem getD_u8 {l : List Int} (h : U8s l) (i : Nat) : 0 ≤ l.getD i 0 ∧ l.getD i 0 ≤ 255 := by
  rw [List.getD_eq_getElem?_getD]
  cases hx : l[i]? with
  | none => simp
  | some x => simpa using h x (List.mem_of_getElem? hx)
def splitGo : Nat → Int → Int → Int
  | 0, _, x => x
  | d + 1, n, x => if x < n - x then splitGo d n (2 * x) else x
def splitAt (n : Int) : Int := splitGo n.toNat n 1
theorem splitGo_bd : ∀ (d : Nat) (n x : Int), 1 ≤ x → x < n → 1 ≤ splitGo d n x ∧ splitGo d n x < n
  | 0, n, x, h1, h2 => ⟨h1, h2⟩
  | d + 1, n, x, h1, h2 => by
    unfold splitGo
    by_cases c : x < n - x
    · rw [if_pos c]; exact splitGo_bd d n (2 * x) (by omega) (by omega)
    · rw [if_neg c]; exact ⟨h1, h2⟩
theorem splitAt_bd (n : Int) (hn : 2 ≤ n) : 1 ≤ splitAt n ∧ splitAt n < n := splitGo_bd n.toNat n 1 (by omega) (by omega)
theorem mem_len {xs : List (List Int)} {q : Nat} (h : ∀ y ∈ xs, y.length ≤ q) (i : Nat) : (xs.getD i []).length ≤ q := by
  rw [List.getD_eq_getElem?_getD]
  cases hx : xs[i]? with
  | none => simp
  | some x => simpa using h x (List.mem_of_getElem? hx)
def PC.ren (r s : Nat) : PC → PC
  | .row x p => .row (if x = r then s else x) p
  | .rptr x p i j => .rptr (if x = r then s else x) p i j
  | c => c
def Env.ren (E : Env) (r s : Nat) : Env := { E.mapc (PC.ren r s) with rows := E.rows.map fun x => (if x.1 = r then s else x.1, x.2) }
theorem ren_row {E : Env} {r s x : Nat} {T : TypeId} {d : D} (hs : lk E.rows s = none) (h : (E.ren r s).row x = some (T, d)) : (x = s ∧ E.row r = some (T, d)) ∨ (x ≠ s ∧ x ≠ r ∧ E.row x = some (T, d)) := by
  have key : ∀ l : List (Nat × (TypeId × D)), lk l s = none → lk (l.map fun x => (if x.1 = r then s else x.1, x.2)) x = some (T, d) → (x = s ∧ lk l r = some (T, d)) ∨ (x ≠ s ∧ x ≠ r ∧ lk l x = some (T, d)) := by
    intro l
    induction l with
    | nil => intro _ h; simp [lk] at h
    | cons y l ih =>
      intro h0 h1
      obtain ⟨k, v⟩ := y
      simp only [lk] at h0
      split at h0
      · cases h0
      · rename_i hk
        simp only [List.map_cons, lk] at h1
        by_cases e : k = r
        · rw [if_pos e] at h1
          by_cases e2 : s = x
          · rw [if_pos e2] at h1
            left
            exact ⟨e2.symm, by simp only [lk]; rw [if_pos e]; exact h1⟩
          · rw [if_neg e2] at h1
            rcases ih h0 h1 with ⟨p, _⟩ | ⟨p, q, t⟩
            · exact absurd p.symm e2
            · right
              exact ⟨p, q, by simp only [lk]; rw [if_neg (fun h => q (h.symm.trans e))]; exact t⟩
        · rw [if_neg e] at h1
          by_cases e2 : k = x
          · rw [if_pos e2] at h1
            right
            refine ⟨fun h => hk (e2.trans h), fun h => e (e2.trans h), ?_⟩
            simp only [lk]; rw [if_pos e2]; exact h1
          · rw [if_neg e2] at h1
            rcases ih h0 h1 with ⟨p, t⟩ | ⟨p, q, t⟩
            · left; exact ⟨p, by simp only [lk]; rw [if_neg e]; exact t⟩
            · right; exact ⟨p, q, by simp only [lk]; rw [if_neg e2]; exact t⟩
  exact key E.rows hs h
open Classical in
theorem RelM.ren {C : Ctx} {M : Maps} {E : Env} {a : Act} {w : World} (R : RelM C M E a w) {r s : Nat} (hf : E.noref' s = true) (hpr : ∀ x ∈ C.pin, x.1 ≠ s) : ∃ M', RelM C M' (E.ren r s) a w := by
  simp only [Env.noref', Bool.and_eq_true, List.all_eq_true, Option.isNone_iff_eq_none] at hf
  obtain ⟨⟨f1, f2⟩, f3⟩ := hf
  refine ⟨{ M with hdl := fun x => if x = s then M.hdl r else M.hdl x, fp := fun x => if x = s then M.fp r else M.fp x, own := fun k => if M.own k = .row r then .row s else M.own k }, ?_⟩
  generalize hM : ({ M with hdl := fun x => if x = s then M.hdl r else M.hdl x, fp := fun x => if x = s then M.fp r else M.fp x, own := fun k => if M.own k = .row r then .row s else M.own k } : Maps) = M'
  have hblk : M'.blk = M.blk := by subst hM; rfl
  have hown : ∀ k, M'.own k = if M.own k = .row r then .row s else M.own k := fun k => by subst hM; rfl
  have hfroz : ∀ k, M.own k = .froz → M'.own k = .froz := fun k h => by rw [hown, if_neg (by rw [h]; simp)]; exact h
  have hbox : ∀ t, (E.ren r s).box t = (E.box t).map fun x => (x.1, x.2.map (PC.ren r s)) := fun t => Env.box_mapc E (PC.ren r s) t
  have hget : ∀ t, (E.ren r s).get t = (E.get t).mapc (PC.ren r s) := fun t => Env.get_mapc E (PC.ren r s) rfl t
  have hh : ∀ x, M'.hdl x = if x = s then M.hdl r else M.hdl x := fun x => by subst hM; rfl
  have hp : ∀ x, M'.fp x = if x = s then M.fp r else M.fp x := fun x => by subst hM; rfl
  have hc : ∀ c : PC, c.ment s = false → ∀ v, COk M E w v c → COk M' (E.ren r s) w v (c.ren r s) := fun c hm v h => by
    cases c with
    | d x => exact Rd.keep h (fun _ _ => rfl) hfroz
    | nil => exact h
    | und => trivial
    | ptr b off => simp only [PC.ren, COk] at h ⊢; rw [hblk]; exact h
    | eptr x i j =>
      obtain ⟨ad, cap, h1, h2⟩ := h
      exact ⟨ad, cap, Rd.keep h1 (fun _ _ => rfl) hfroz, h2⟩
    | row x p =>
      have hxs : x ≠ s := by simp only [PC.ment, beq_eq_false_iff_ne] at hm; exact fun e => hm e.symm
      intro T d hT
      by_cases e : x = r
      · simp only [PC.ren, if_pos e] at hT ⊢
        rcases ren_row f3 hT with ⟨_, h2⟩ | ⟨h2, _⟩
        · rw [hh, if_pos rfl]; subst e; exact h T d h2
        · exact absurd rfl h2
      · simp only [PC.ren, if_neg e] at hT ⊢
        rcases ren_row f3 hT with ⟨h1, _⟩ | ⟨_, _, h2⟩
        · exact absurd h1 hxs
        · rw [hh, if_neg hxs]; exact h T d h2
    | rptr x p i j =>
      have hxs : x ≠ s := by simp only [PC.ment, beq_eq_false_iff_ne] at hm; exact fun e => hm e.symm
      intro T d hT
      by_cases e : x = r
      · simp only [PC.ren, if_pos e] at hT ⊢
        rcases ren_row f3 hT with ⟨_, h2⟩ | ⟨h2, _⟩
        · rw [hh, if_pos rfl]; subst e; exact h T d h2
        · exact absurd rfl h2
      · simp only [PC.ren, if_neg e] at hT ⊢
        rcases ren_row f3 hT with ⟨h1, _⟩ | ⟨_, _, h2⟩
        · exact absurd h1 hxs
        · rw [hh, if_neg hxs]; exact h T d h2
  have hall : ∀ (vs : List Value) (ps : List PC), (∀ c ∈ ps, c.ment s = false) → All2 (COk M E w) vs ps → All2 (COk M' (E.ren r s) w) vs (ps.map (PC.ren r s)) := fun vs ps hm h => by
    induction h with
    | nil => exact .nil
    | @cons v c vs ps h1 _ ih => exact .cons (hc c (hm c (by simp)) v h1) (ih fun c' hc' => hm c' (by simp [hc']))
  refine { tn := R.tn, df := R.df, fr := R.fr, ba := R.ba, lt := ?_, z0 := fun k hk => hfroz k (R.z0 k hk), zb := ?_, wr := ?_, tm := ?_, rows := ?_, boxes := ?_, pin := ?_, bpin := ?_ }
  · intro k hk
    refine R.lt k fun h => hk ?_
    rw [hown, if_neg (by rw [h]; simp)]; exact h
  · intro k hk
    refine R.zb k ?_
    rw [hown] at hk
    split at hk
    · cases hk
    · exact hk
  · intro k hk hk'
    refine R.wr k (fun h => hk ?_) (fun h => hk' (hfroz k h))
    rw [hown, if_neg (by rw [h]; simp)]; exact h
  · intro t
    rw [hget]
    have h := R.tm t
    have hm : ∀ c ∈ (E.get t).cells, c.ment s = false := fun c hcm => by
      rcases Env.get_mem hcm with rfl | ⟨x, hx, hcx⟩
      · rfl
      · simpa using f1 x hx c hcx
    generalize E.get t = p at h hm
    cases p with
    | one c => exact hc c (hm c (by simp [PV.cells])) _ h
    | agg cs => obtain ⟨arr, e, h⟩ := h; exact ⟨arr, e, hall _ _ (fun c hcm => hm c (by simpa [PV.cells] using hcm)) h⟩
    | tup vs =>
      obtain ⟨arr, e, h⟩ := h
      refine ⟨arr, e, ?_⟩
      clear e
      generalize arr.toList = l at h
      show All2 _ l (vs.map _)
      have hm' : ∀ y ∈ vs, ∀ c ∈ y.2, c.ment s = false := fun y hy c hcy => hm c (by simp only [PV.cells, List.mem_flatMap]; exact ⟨y, hy, hcy⟩)
      clear hm
      induction h with
      | nil => exact .nil
      | @cons v y l vs h1 _ ih =>
        refine .cons ?_ (ih fun y' hy' => hm' y' (by simp [hy']))
        have hy := hm' y (by simp)
        obtain ⟨b, cs⟩ := y
        match b, cs, h1, hy with
        | true, cs, ⟨arr', e', h'⟩, hy => exact ⟨arr', e', hall _ _ hy h'⟩
        | false, [c], h', hy => exact hc c (hy c (by simp)) _ h'
  · intro x T d hx
    rcases ren_row f3 hx with ⟨rfl, h2⟩ | ⟨h1, h3, h2⟩
    · obtain ⟨k1, k2, k3⟩ := R.rows r T d h2
      rw [hh, hp, if_pos rfl, if_pos rfl]
      exact ⟨k1, k2, fun k hk => by rw [hown, if_pos (k3 k hk)]⟩
    · obtain ⟨k1, k2, k3⟩ := R.rows x T d h2
      rw [hh, hp, if_neg h1, if_neg h1]
      exact ⟨k1, k2, fun k hk => by rw [hown, if_neg (by rw [k3 k hk]; intro h; injection h with h; exact h3 h)]; exact k3 k hk⟩
  · intro b T ps' hb
    rw [hbox] at hb
    obtain ⟨⟨T2, ps⟩, h1, h2⟩ := Option.map_eq_some_iff.1 hb
    injection h2 with e1 e2
    subst e1 e2
    obtain ⟨k1, cs, k2, k3⟩ := R.boxes b _ ps h1
    rw [hblk]
    exact ⟨by rw [hown, if_neg (by rw [k1]; simp)]; exact k1, cs, k2, hall _ _ (fun c hcm => by simpa using f2 (b, _, ps) (lk_mem h1) c hcm) k3⟩
  · intro x v hxv T d hx
    rcases ren_row f3 hx with ⟨rfl, _⟩ | ⟨h1, _, h2⟩
    · exact absurd rfl (hpr (x, v) hxv)
    · rw [hh, if_neg h1]; exact R.pin x v hxv T d h2
  · intro b v hpb hn T ps hb
    rw [hbox] at hb
    obtain ⟨⟨T2, ps2⟩, h1, _⟩ := Option.map_eq_some_iff.1 hb
    rw [hblk]
    exact R.bpin b v hpb hn T2 ps2 h1
theorem TL.ren {P : Program} {C : Ctx} {ops : Array Oper} {l : List Oper} {E : Env} {Q : Env → Prop} (r s : Nat) (hf : E.noref' s = true) (hpr : ∀ x ∈ C.pin, x.1 ≠ s) (h : TL P C ops l (E.ren r s) Q) : TL P C ops l E Q := fun a w ⟨M, R⟩ => by
  obtain ⟨M', R'⟩ := R.ren (r := r) hf hpr
  exact h a w ⟨M', R'⟩
structure EffX where
  dst : Option Nat := none
  pv : PV := .one .und
  rows : List (Nat × (TypeId × D)) := []
  dead : List Nat := []
  box : Option (Nat × (TypeId × List PC)) := none
def EffX.app (f : EffX) (E : Env) : Env := { tm := (match f.dst with | some t => [(t, f.pv)] | none => []) ++ E.tm, rows := f.rows ++ (match f.dead with | [] => E.rows | ds => E.rows.filter fun x => !ds.contains x.1), boxes := (match f.box with | some x => [x] | none => []) ++ E.boxes }
def tmX (L : Nat → Bool) : Nat → List EffX → List (Nat × PV)
  | _, [] => []
  | i, f :: fs => (if L i then (match f.dst with | some t => [(t, f.pv)] | none => []) else []) ++ tmX L (i + 1) fs
def rowsX (L : Nat → Bool) : Nat → List EffX → List (Nat × (TypeId × D))
  | _, [] => []
  | i, f :: fs => (if L i then f.rows else []) ++ rowsX L (i + 1) fs
def deadX (L : Nat → Bool) : Nat → List EffX → List Nat
  | _, [] => []
  | i, f :: fs => (if L i then f.dead else []) ++ deadX L (i + 1) fs
def boxX (L : Nat → Bool) : Nat → List EffX → List (Nat × (TypeId × List PC))
  | _, [] => []
  | i, f :: fs => boxX L (i + 1) fs ++ (if L i then (match f.box with | some x => [x] | none => []) else [])
def mkF (E0 : Env) (L : Nat → Bool) (fs : List EffX) : Env := { tm := tmX L 0 fs ++ E0.tm, rows := (rowsX L 0 fs ++ E0.rows).filter (fun x => !(deadX L 0 fs).contains x.1), boxes := boxX L 0 fs ++ E0.boxes }
def effAt (fs : List EffX) (j : Nat) : EffX := fs.getD j {}
theorem effAt_succ (f : EffX) (fs : List EffX) (j : Nat) : effAt (f :: fs) (j + 1) = effAt fs j := rfl
theorem effAt_zero (f : EffX) (fs : List EffX) : effAt (f :: fs) 0 = f := rfl
theorem tm_agree {L L' : Nat → Bool} {t : Nat} : ∀ (fs : List EffX) (i : Nat), (∀ j, j < fs.length → (effAt fs j).dst = some t → L (i + j) = L' (i + j)) → lk (tmX L i fs) t = lk (tmX L' i fs) t
  | [], _, _ => rfl
  | f :: fs, i, h => by
    have ih := tm_agree (L := L) (L' := L') fs (i + 1) fun j hj hd => by have := h (j + 1) (by simp; omega) hd; rwa [show i + (j + 1) = i + 1 + j from by omega] at this
    simp only [tmX, lk_append, ih]
    congr 1
    cases hd : f.dst with
    | none => simp
    | some s =>
      by_cases e : s = t
      · subst e
        rw [show L i = L' i from by simpa using h 0 (by simp) hd]
      · have : ∀ b : Bool, lk (if b then [(s, f.pv)] else []) t = none := fun b => by cases b <;> simp [lk, e]
        rw [this, this]
theorem rows_agree {L L' : Nat → Bool} {r : Nat} : ∀ (fs : List EffX) (i : Nat), (∀ j, j < fs.length → ((effAt fs j).rows.any fun x => x.1 == r) = true → L (i + j) = L' (i + j)) → lk (rowsX L i fs) r = lk (rowsX L' i fs) r
  | [], _, _ => rfl
  | f :: fs, i, h => by
    have ih := rows_agree (L := L) (L' := L') fs (i + 1) fun j hj hd => by have := h (j + 1) (by simp; omega) hd; rwa [show i + (j + 1) = i + 1 + j from by omega] at this
    simp only [rowsX, lk_append, ih]
    congr 1
    by_cases e : (f.rows.any fun x => x.1 == r) = true
    · rw [show L i = L' i from by simpa using h 0 (by simp) e]
    · have hn : lk f.rows r = none := lk_none fun x hx hxr => e (List.any_eq_true.2 ⟨x, hx, by simp [hxr]⟩)
      have : ∀ b : Bool, lk (if b then f.rows else []) r = none := fun b => by cases b <;> simp [lk, hn]
      rw [this, this]
theorem dead_agree {L L' : Nat → Bool} {r : Nat} : ∀ (fs : List EffX) (i : Nat), (∀ j, j < fs.length → (effAt fs j).dead.contains r = true → L (i + j) = L' (i + j)) → (deadX L i fs).contains r = (deadX L' i fs).contains r
  | [], _, _ => rfl
  | f :: fs, i, h => by
    have ih := dead_agree (L := L) (L' := L') fs (i + 1) fun j hj hd => by have := h (j + 1) (by simp; omega) hd; rwa [show i + (j + 1) = i + 1 + j from by omega] at this
    simp only [deadX, List.contains_append, ih]
    congr 1
    by_cases e : f.dead.contains r = true
    · rw [show L i = L' i from by simpa using h 0 (by simp) e]
    · have : ∀ b : Bool, (if b then f.dead else []).contains r = false := fun b => by cases b <;> simp_all
      rw [this, this]
theorem box_agree {L L' : Nat → Bool} {b : Nat} : ∀ (fs : List EffX) (i : Nat), (∀ j x, j < fs.length → (effAt fs j).box = some (b, x) → L (i + j) = L' (i + j)) → lk (boxX L i fs) b = lk (boxX L' i fs) b
  | [], _, _ => rfl
  | f :: fs, i, h => by
    have ih := box_agree (L := L) (L' := L') fs (i + 1) fun j x hj hd => by have := h (j + 1) x (by simp; omega) hd; rwa [show i + (j + 1) = i + 1 + j from by omega] at this
    simp only [boxX, lk_append, ih]
    congr 1
    cases hd : f.box with
    | none => simp
    | some y =>
      obtain ⟨c, x⟩ := y
      by_cases e : c = b
      · subst e
        rw [show L i = L' i from by simpa using h 0 x (by simp) hd]
      · have : ∀ q : Bool, lk (if q then [(c, x)] else []) b = none := fun q => by cases q <;> simp [lk, e]
        rw [this, this]
theorem lk_filterD {α : Type} (D : List Nat) (l : List (Nat × α)) (r : Nat) : lk (l.filter fun x => !D.contains x.1) r = if D.contains r then none else lk l r := by
  induction l with
  | nil => simp [lk]
  | cons x l ih =>
    obtain ⟨k, v⟩ := x
    by_cases hk : D.contains k = true
    · rw [List.filter_cons_of_neg (by show ¬ (!D.contains k) = true; rw [hk]; simp), ih]
      simp only [lk]
      by_cases e : k = r
      · subst e; rw [if_pos hk, if_pos hk]
      · rw [if_neg e]
    · rw [List.filter_cons_of_pos (by show (!D.contains k) = true; simp only [Bool.not_eq_true', Bool.not_eq_true] at hk ⊢; exact hk)]
      simp only [lk]
      by_cases e : k = r
      · subst e; rw [if_pos rfl, if_neg hk, if_pos rfl]
      · rw [if_neg e, if_neg e, ih]
theorem mkF_row (E0 : Env) (L : Nat → Bool) (fs : List EffX) (r : Nat) : (mkF E0 L fs).row r = if (deadX L 0 fs).contains r then none else (lk (rowsX L 0 fs) r).or (E0.row r) := by
  show lk (List.filter _ _) r = _
  rw [lk_filterD, lk_append]; rfl
theorem mkF_get (E0 : Env) (L : Nat → Bool) (fs : List EffX) (t : Nat) : (mkF E0 L fs).get t = ((lk (tmX L 0 fs) t).or (lk E0.tm t)).getD (.one .und) := by
  show (lk (_ ++ _) t).getD _ = _
  rw [lk_append]
theorem mkF_box (E0 : Env) (L : Nat → Bool) (fs : List EffX) (b : Nat) : (mkF E0 L fs).box b = (lk (boxX L 0 fs) b).or (E0.box b) := by
  show lk (_ ++ _) b = _
  rw [lk_append]; rfl
theorem app_row (f : EffX) (E : Env) (r : Nat) : (f.app E).row r = (lk f.rows r).or (if f.dead.contains r then none else E.row r) := by
  show lk (_ ++ _) r = _
  rw [lk_append]
  congr 1
  split
  · rename_i h; rw [h]; simp; rfl
  · rw [lk_filterD]; rfl
theorem app_get (f : EffX) (E : Env) (t : Nat) : (f.app E).get t = if f.dst = some t then f.pv else E.get t := by
  show (lk (_ ++ _) t).getD _ = _
  rw [lk_append]
  cases hd : f.dst with
  | none => simp [lk]; rfl
  | some s =>
    by_cases e : s = t
    · subst e; simp [lk]
    · simp [lk, e]; rfl
theorem app_box (f : EffX) (E : Env) (b : Nat) : (f.app E).box b = (match f.box with | some x => if x.1 = b then some x.2 else none | none => none).or (E.box b) := by
  show lk (_ ++ _) b = _
  rw [lk_append]
  cases hd : f.box with
  | none => simp [lk]; rfl
  | some y =>
    obtain ⟨c, x⟩ := y
    by_cases e : c = b
    · subst e; simp [lk]
    · simp [lk, e]; rfl
theorem tmX_mem {L : Nat → Bool} {x : Nat × PV} : ∀ (fs : List EffX) (i : Nat), x ∈ tmX L i fs → ∃ j, j < fs.length ∧ L (i + j) = true ∧ (effAt fs j).dst = some x.1 ∧ (effAt fs j).pv = x.2
  | [], _, h => by cases h
  | f :: fs, i, h => by
    simp only [tmX] at h
    rcases List.mem_append.1 h with h | h
    · split at h
      · rename_i hL
        cases hd : f.dst with
        | none => rw [hd] at h; cases h
        | some t =>
          rw [hd] at h
          have e := List.mem_singleton.1 h
          subst e
          exact ⟨0, by simp, by simpa using hL, hd, rfl⟩
      · cases h
    · obtain ⟨j, h1, h2, h3, h4⟩ := tmX_mem fs (i + 1) h
      exact ⟨j + 1, by simp; omega, by rw [show i + (j + 1) = i + 1 + j from by omega]; exact h2, h3, h4⟩
theorem boxX_mem {L : Nat → Bool} {x : Nat × (TypeId × List PC)} : ∀ (fs : List EffX) (i : Nat), x ∈ boxX L i fs → ∃ j, j < fs.length ∧ L (i + j) = true ∧ (effAt fs j).box = some x
  | [], _, h => by cases h
  | f :: fs, i, h => by
    simp only [boxX] at h
    rcases List.mem_append.1 h with h | h
    · obtain ⟨j, h1, h2, h3⟩ := boxX_mem fs (i + 1) h
      exact ⟨j + 1, by simp; omega, by rw [show i + (j + 1) = i + 1 + j from by omega]; exact h2, h3⟩
    · split at h
      · rename_i hL
        cases hd : f.box with
        | none => rw [hd] at h; cases h
        | some t =>
          rw [hd] at h
          have e := List.mem_singleton.1 h
          subst e
          exact ⟨0, by simp, by simpa using hL, hd⟩
      · cases h
theorem tm_only {L : Nat → Bool} {t i0 : Nat} : ∀ (fs : List EffX) (i : Nat), i0 < fs.length → L (i + i0) = true → (effAt fs i0).dst = some t → (∀ j, j < fs.length → j ≠ i0 → (effAt fs j).dst ≠ some t) → lk (tmX L i fs) t = some (effAt fs i0).pv := fun fs i h1 h2 h3 h4 => by
  induction fs generalizing i i0 with
  | nil => simp at h1
  | cons f fs ih =>
    simp only [tmX, lk_append]
    cases i0 with
    | zero =>
      rw [effAt_zero] at h3 ⊢
      rw [if_pos (by simpa using h2), h3]
      simp [lk]
    | succ i0 =>
      have hne := h4 0 (by simp) (by omega)
      rw [effAt_zero] at hne
      have : lk (if L i then (match f.dst with | some t => [(t, f.pv)] | none => []) else []) t = none := by
        split
        · cases hd : f.dst with
          | none => rfl
          | some s => simp [lk]; rintro rfl; exact hne hd
        · rfl
      rw [this, Option.none_or, effAt_succ]
      exact ih (i + 1) (by simpa using h1) (by rw [← h2]; congr 1; omega) h3 (fun j hj hji => by have := h4 (j + 1) (by simp; omega) (by omega); exact this)
theorem rows_only {L : Nat → Bool} {r i0 : Nat} : ∀ (fs : List EffX) (i : Nat), i0 < fs.length → L (i + i0) = true → (∀ j, j < fs.length → j ≠ i0 → ((effAt fs j).rows.any fun x => x.1 == r) = false) → lk (rowsX L i fs) r = lk (effAt fs i0).rows r := fun fs i h1 h2 h4 => by
  induction fs generalizing i i0 with
  | nil => simp at h1
  | cons f fs ih =>
    have hno : ∀ q : EffX, (q.rows.any fun x => x.1 == r) = false → lk q.rows r = none := fun q hq => lk_none fun x hx hxr => by rw [List.any_eq_false] at hq; exact hq x hx (by simp [hxr])
    simp only [rowsX, lk_append]
    cases i0 with
    | zero =>
      rw [effAt_zero, if_pos (by simpa using h2)]
      have : lk (rowsX L (i + 1) fs) r = none := by
        have := rows_agree (L := L) (L' := fun _ => false) (r := r) fs (i + 1) fun j hj hd => by
          have := h4 (j + 1) (by simp; omega) (by omega)
          rw [effAt_succ] at this
          rw [this] at hd; cases hd
        rw [this]
        clear this ih h4 h1 h2
        generalize i + 1 = k
        induction fs generalizing k with
        | nil => rfl
        | cons g fs ih => simp only [rowsX]; simpa using ih _
      rw [this]; simp
    | succ i0 =>
      have hne := h4 0 (by simp) (by omega)
      rw [effAt_zero] at hne
      have : lk (if L i then f.rows else []) r = none := by
        split
        · exact hno f hne
        · rfl
      rw [this, Option.none_or, effAt_succ]
      exact ih (i + 1) (by simpa using h1) (by rw [← h2]; congr 1; omega) (fun j hj hji => by have := h4 (j + 1) (by simp; omega) (by omega); exact this)
theorem box_top {L : Nat → Bool} {b i0 : Nat} {x : TypeId × List PC} : ∀ (fs : List EffX) (i : Nat), i0 < fs.length → L (i + i0) = true → (effAt fs i0).box = some (b, x) → (∀ j y, i0 < j → j < fs.length → (effAt fs j).box = some (b, y) → L (i + j) = false) → lk (boxX L i fs) b = some x := fun fs i h1 h2 h3 h4 => by
  induction fs generalizing i i0 with
  | nil => simp at h1
  | cons f fs ih =>
    simp only [boxX, lk_append]
    cases i0 with
    | zero =>
      rw [effAt_zero] at h3
      have : lk (boxX L (i + 1) fs) b = none := by
        have := box_agree (L := L) (L' := fun _ => false) (b := b) fs (i + 1) fun j y hj hd => by
          have := h4 (j + 1) y (by omega) (by simp; omega) hd
          rwa [show i + (j + 1) = i + 1 + j from by omega] at this
        rw [this]
        clear this ih h4 h1 h2
        generalize i + 1 = k
        induction fs generalizing k with
        | nil => rfl
        | cons g fs ih => simp only [boxX]; simpa using ih _
      rw [this, if_pos (by simpa using h2), h3]
      simp [lk]
    | succ i0 =>
      rw [ih (i + 1) (by simpa using h1) (by rw [← h2]; congr 1; omega) h3 (fun j y hij hj hd => by have := h4 (j + 1) y (by omega) (by simp; omega) hd; rwa [show i + (j + 1) = i + 1 + j from by omega] at this)]
      rfl
def okX (E0 : Env) (l : List Oper) (fs : List EffX) : Bool :=
  let m := l.length
  fs.length == m &&
  allLt m (fun i => (l.getD i default).after.toList.all fun e => !Region.binds .any e || decide (e.on < i)) &&
  allLt m (fun i => (l.getD i default).dst == (effAt fs i).dst) &&
  allLt m (fun i => allLt m fun j => i == j || (effAt fs i).dst == none || (effAt fs i).dst != (effAt fs j).dst) &&
  allLt m (fun i => (effAt fs i).rows.all fun x => E0.noref' x.1 && !(effAt fs i).dead.contains x.1 && allLt m fun j => i == j || (!((effAt fs j).rows.any fun y => y.1 == x.1) && (reach l j i || (!(effAt fs j).pv.cells.any (·.ment x.1) && (match (effAt fs j).box with | some y => y.2.2.all (fun c => !c.ment x.1) | none => true) && !(effAt fs j).dead.contains x.1)))) &&
  allLt m (fun i => match (effAt fs i).box with
    | some x => allLt m fun j => i == j || (match (effAt fs j).box with | some y => y.1 != x.1 || reach l i j || reach l j i | none => true)
    | none => true) &&
  allLt m (fun i => match (effAt fs i).box with
    | some x => (effAt fs i).dst != some x.1 || (E0.nobox x.1 && allLt m fun j => i == j || reach l j i || (!((effAt fs j).pv.cells.any (·.isBox x.1)) && (match (effAt fs j).box with | some y => y.1 != x.1 && y.2.2.all (fun c => !c.isBox x.1) | none => true)))
    | none => true)
def seen (l : List Oper) (i j : Nat) : Bool := reach l i j || reach l j i || i == j
structure AtX (E0 : Env) (l : List Oper) (fs : List EffX) (i : Nat) (E : Env) : Prop where
  get : ∀ t, (allLt fs.length fun j => (effAt fs j).dst != some t || seen l i j) = true → E.get t = (mkF E0 (reach l i) fs).get t
  row : ∀ r, (allLt fs.length fun j => (!((effAt fs j).rows.any fun x => x.1 == r) && !(effAt fs j).dead.contains r) || seen l i j) = true → E.row r = (mkF E0 (reach l i) fs).row r
  box : ∀ b, (allLt fs.length fun j => (match (effAt fs j).box with | some y => y.1 != b | none => true) || seen l i j) = true → E.box b = (mkF E0 (reach l i) fs).box b
  fresh : ∀ x ∈ (effAt fs i).rows, E.noref' x.1 = true
  freshB : ∀ x, (effAt fs i).box = some x → (effAt fs i).dst = some x.1 → E.nobox x.1 = true
inductive StepsX (P : Program) (C : Ctx) (E0 : Env) (l : List Oper) (fs : List EffX) : Nat → List Oper → List EffX → Prop
  | nil (i : Nat) (os : List Oper) : StepsX P C E0 l fs i os []
  | cons {i : Nat} {o : Oper} {os : List Oper} {f : EffX} {gs : List EffX} : (∀ E, AtX E0 l fs i E → OpStep P C l.toArray o E (f.app E)) → StepsX P C E0 l fs (i + 1) os gs → StepsX P C E0 l fs i (o :: os) (f :: gs)
theorem StepsX.at_ {P : Program} {C : Ctx} {E0 : Env} {l : List Oper} {fs : List EffX} {i : Nat} {os : List Oper} {gs : List EffX} (h : StepsX P C E0 l fs i os gs) : ∀ (j : Nat) (o : Oper) (f : EffX), os[j]? = some o → gs[j]? = some f → ∀ E, AtX E0 l fs (i + j) E → OpStep P C l.toArray o E (f.app E) := by
  induction h with
  | nil i os => intro j o f _ hf; simp at hf
  | @cons i o os f gs h1 _ ih =>
    intro j o' f' ho hf
    cases j with
    | zero => simp at ho hf; subst ho hf; exact h1
    | succ j =>
      intro E hE
      exact ih j o' f' (by simpa using ho) (by simpa using hf) E (by rw [show i + 1 + j = i + (j + 1) from by omega]; exact hE)
theorem any_X {P : Program} {C : Ctx} {E0 : Env} {l : List Oper} {fs : List EffX} {QQ : Exit → Act → World → Prop} (hok : okX E0 l fs = true) (hst : StepsX P C E0 l fs 0 l fs)
    (hend : ∀ a w, Rel C (mkF E0 (fun _ => true) fs) a w → QQ .normal a w) :
    ∀ (fuel : Nat) (U : List Nat) (listed : Array Bool) (a : Act) (w : World), listed.size = l.length → (∀ j, j < l.length → listed.getD j false = false → j ∈ U) → U.length ≤ fuel →
      (∀ i o, l[i]? = some o → listed.getD i false = true → ∀ e ∈ o.after, Region.binds .any e = true → listed.getD e.on false = true) →
      Rel C (mkF E0 (fun j => listed.getD j false) fs) a w → wpAny P .any l.toArray QQ fuel listed a w := by
  simp only [okX, Bool.and_eq_true, beq_iff_eq] at hok
  obtain ⟨⟨⟨⟨⟨⟨o1, o2⟩, o3⟩, o4⟩, o5⟩, o6⟩, o7⟩ := hok
  have hac : ∀ i o, l[i]? = some o → ∀ e ∈ o.after, Region.binds .any e = true → e.on < i := fun i o ho e he hb => by
    have hil : i < l.length := (List.getElem?_eq_some_iff.1 ho).1
    have := allLt_spec o2 i hil
    rw [List.all_eq_true] at this
    have hd : l.getD i default = o := by rw [List.getD_eq_getElem?_getD, ho]; rfl
    have := this e (by rw [hd]; simpa using he)
    simp only [hb, Bool.not_true, Bool.false_or, decide_eq_true_eq] at this
    exact this
  have hdst : ∀ i, i < l.length → ∀ j, j < l.length → i ≠ j → ∀ t, (effAt fs i).dst = some t → (effAt fs j).dst ≠ some t := fun i hi j hj hne t h1 h2 => by
    have := allLt_spec (allLt_spec o4 i hi) j hj
    simp only [Bool.or_eq_true, beq_iff_eq, bne_iff_ne, h1, h2] at this
    rcases this with (h | h) | h
    · exact hne h
    · cases h
    · exact h rfl
  have hrow5 : ∀ i, i < l.length → ∀ x ∈ (effAt fs i).rows, E0.noref' x.1 = true ∧ (effAt fs i).dead.contains x.1 = false ∧ ∀ j, j < l.length → i ≠ j → ((effAt fs j).rows.any fun y => y.1 == x.1) = false ∧ (reach l j i = true ∨ ((effAt fs j).pv.cells.any (·.ment x.1) = false ∧ (match (effAt fs j).box with | some y => y.2.2.all (fun c => !c.ment x.1) | none => true) = true ∧ (effAt fs j).dead.contains x.1 = false)) := fun i hi x hx => by
    have := allLt_spec o5 i hi
    rw [List.all_eq_true] at this
    have := this x hx
    simp only [Bool.and_eq_true, Bool.not_eq_true'] at this
    obtain ⟨⟨h1, h2⟩, h3⟩ := this
    refine ⟨h1, h2, fun j hj hne => ?_⟩
    have := allLt_spec h3 j hj
    simp only [Bool.or_eq_true, beq_iff_eq, Bool.and_eq_true, Bool.not_eq_true'] at this
    rcases this with h | ⟨h, h'⟩
    · exact absurd h hne
    · refine ⟨h, ?_⟩
      rcases h' with h' | ⟨⟨p, q⟩, s⟩
      · exact .inl h'
      · exact .inr ⟨p, q, s⟩
  have hbox7 : ∀ i, i < l.length → ∀ x, (effAt fs i).box = some x → (effAt fs i).dst = some x.1 → E0.nobox x.1 = true ∧ ∀ j, j < l.length → i ≠ j → (reach l j i = true ∨ ((effAt fs j).pv.cells.any (·.isBox x.1) = false ∧ ∀ y, (effAt fs j).box = some y → y.1 ≠ x.1 ∧ y.2.2.all (fun c => !c.isBox x.1) = true)) := fun i hi x hx hd => by
    have := allLt_spec o7 i hi
    simp only [hx, hd, bne_self_eq_false, Bool.false_or, Bool.and_eq_true] at this
    obtain ⟨h1, h2⟩ := this
    refine ⟨h1, fun j hj hne => ?_⟩
    have := allLt_spec h2 j hj
    simp only [Bool.or_eq_true, beq_iff_eq, Bool.and_eq_true, Bool.not_eq_true'] at this
    rcases this with (h | h) | ⟨h3, h4⟩
    · exact absurd h hne
    · exact .inl h
    · refine .inr ⟨h3, fun y hy => ?_⟩
      simp only [hy, Bool.and_eq_true, bne_iff_ne] at h4
      exact h4
  have hall : ∀ (L : Nat → Bool), (∀ j, j < fs.length → L j = true) → mkF E0 L fs = mkF E0 (fun _ => true) fs := fun L hL => by
    have t1 : ∀ (gs : List EffX) (k : Nat), (∀ j, j < gs.length → L (k + j) = true) → tmX L k gs = tmX (fun _ => true) k gs ∧ rowsX L k gs = rowsX (fun _ => true) k gs ∧ deadX L k gs = deadX (fun _ => true) k gs ∧ boxX L k gs = boxX (fun _ => true) k gs := by
      intro gs
      induction gs with
      | nil => intro k _; exact ⟨rfl, rfl, rfl, rfl⟩
      | cons g gs ih =>
        intro k h
        obtain ⟨h1, h2, h3, h4⟩ := ih (k + 1) fun j hj => by have := h (j + 1) (by simp; omega); rwa [show k + (j + 1) = k + 1 + j from by omega] at this
        have h0 : L k = true := by simpa using h 0 (by simp)
        simp only [tmX, rowsX, deadX, boxX, h1, h2, h3, h4, h0]
        exact ⟨trivial, trivial, trivial, trivial⟩
    obtain ⟨h1, h2, h3, h4⟩ := t1 fs 0 fun j hj => by rw [Nat.zero_add]; exact hL j hj
    simp only [mkF, h1, h2, h3, h4]
  intro fuel
  induction fuel with
  | zero =>
    intro U listed a w hs hU hf hcl R
    have hl : ∀ j, j < l.length → listed.getD j false = true := fun j hj => by
      cases h : listed.getD j false with
      | true => rfl
      | false => have := hU j hj h; have h0 : U = [] := List.eq_nil_of_length_eq_zero (by omega); rw [h0] at this; cases this
    rw [hall _ fun j hj => hl j (by omega)] at R
    refine ⟨?_, hend a w R⟩
    rw [List.eq_nil_iff_forall_not_mem]
    intro j hj
    obtain ⟨h1, o, ho, _⟩ := mem_ready.1 hj
    have hjl : j < l.length := by simpa using (Array.getElem?_eq_some_iff.1 ho).1
    have e : listed.getD j true = listed.getD j false := by simp [Array.getD_eq_getD_getElem?, Array.getElem?_eq_getElem (show j < listed.size by omega)]
    rw [e, hl j hjl] at h1
    cases h1
  | succ fuel ih =>
    intro U listed a w hs hU hf hcl R
    refine ⟨fun hr => ?_, fun i hi => ?_⟩
    · refine hend a w ?_
      rw [← hall (fun j => listed.getD j false) fun j hj => ?_]
      · exact R
      · cases h : listed.getD j false with
        | true => rfl
        | false =>
          exfalso
          have least : ∀ n, ∀ j, j ≤ n → j < l.length → listed.getD j false = false → ∃ q, q < l.length ∧ listed.getD q false = false ∧ ∀ p, p < q → listed.getD p false = true := by
            intro n
            induction n with
            | zero => intro j hjn hj hjf; exact ⟨j, hj, hjf, fun p hp => by omega⟩
            | succ n ihn =>
              intro j hjn hj hjf
              by_cases hlow : ∃ p, p < j ∧ listed.getD p false = false
              · obtain ⟨p, hp, hpf⟩ := hlow; exact ihn p (by omega) (by omega) hpf
              · exact ⟨j, hj, hjf, fun p hp => by cases h : listed.getD p false with | true => rfl | false => exact absurd ⟨p, hp, h⟩ hlow⟩
          obtain ⟨q, hq, hqf, hlow⟩ := least j j (Nat.le_refl _) (by omega) h
          have hqo : l[q]? = some l[q] := List.getElem?_eq_getElem hq
          have : q ∈ Region.ready .any l.toArray listed := mem_ready.2 ⟨by
            rw [← hqf]; simp [Array.getD_eq_getD_getElem?, Array.getElem?_eq_getElem (show q < listed.size by omega)], l[q], by simpa using hqo, fun e he hb => hlow _ (hac q _ hqo e he hb)⟩
          rw [hr] at this
          cases this
    · obtain ⟨h1, o, ho, hpre⟩ := mem_ready.1 hi
      have hil : i < l.length := by simpa using (Array.getElem?_eq_some_iff.1 ho).1
      have hio : l[i]? = some o := by simpa using ho
      have hif : listed.getD i false = false := by
        rw [← h1]; simp [Array.getD_eq_getD_getElem?, Array.getElem?_eq_getElem (show i < listed.size by omega)]
      have hrc := reach_closed (L := fun q => listed.getD q false) hac hcl i o hio hpre
      have hnot : ∀ j, j < l.length → reach l j i = true → listed.getD j false = false := fun j hj h => by
        cases hLj : listed.getD j false with
        | false => rfl
        | true =>
          have hjo : l[j]? = some l[j] := List.getElem?_eq_getElem hj
          have := reach_closed (L := fun q => listed.getD q false) hac hcl j _ hjo (fun e he hb => hcl j _ hjo hLj e he hb) i h
          rw [hif] at this; cases this
      have hsame : ∀ j, j < l.length → seen l i j = true → listed.getD j false = reach l i j := fun j hj h => by
        by_cases hr : reach l i j = true
        · rw [hr]; exact hrc j hr
        · simp only [seen, Bool.or_eq_true, beq_iff_eq] at h
          have hr' : reach l i j = false := by simpa using hr
          rw [hr']
          rcases h with (h | h) | h
          · exact absurd h hr
          · exact hnot j hj h
          · subst h; exact hif
      have hlen : fs.length = l.length := o1
      have hf' : fs[i]? = some (effAt fs i) := by rw [effAt, List.getD_eq_getElem?_getD, List.getElem?_eq_getElem (by omega)]; rfl
      have hat : AtX E0 l fs i (mkF E0 (fun j => listed.getD j false) fs) := by
        refine ⟨fun t ht => ?_, fun r hr => ?_, fun b hb => ?_, fun x hx => ?_, fun x hx hd => ?_⟩
        · rw [mkF_get, mkF_get, tm_agree (L' := reach l i) fs 0 fun j hj hd => by
            rw [Nat.zero_add]
            have := allLt_spec ht j hj
            simp only [Bool.or_eq_true, bne_iff_ne] at this
            rcases this with h | h
            · exact absurd hd h
            · exact hsame j (by omega) h]
        · rw [mkF_row, mkF_row]
          have hk : ∀ j, j < fs.length → (((effAt fs j).rows.any fun x => x.1 == r) = true ∨ (effAt fs j).dead.contains r = true) → listed.getD (0 + j) false = reach l i (0 + j) := fun j hj hd => by
            rw [Nat.zero_add]
            have := allLt_spec hr j hj
            simp only [Bool.or_eq_true, Bool.and_eq_true, Bool.not_eq_true'] at this
            rcases this with ⟨p, q⟩ | h
            · rcases hd with hd | hd
              · rw [p] at hd; cases hd
              · rw [q] at hd; cases hd
            · exact hsame j (by omega) h
          rw [dead_agree (L' := reach l i) fs 0 fun j hj hd => hk j hj (.inr hd), rows_agree (L' := reach l i) fs 0 fun j hj hd => hk j hj (.inl hd)]
        · rw [mkF_box, mkF_box, box_agree (L' := reach l i) fs 0 fun j x hj hd => by
            rw [Nat.zero_add]
            have := allLt_spec hb j hj
            simp only [hd, Bool.or_eq_true, bne_iff_ne, ne_eq, not_true_eq_false, false_or] at this
            exact hsame j (by omega) this]
        · obtain ⟨e1, e0, e2⟩ := hrow5 i hil x hx
          simp only [Env.noref', Bool.and_eq_true, List.all_eq_true, Option.isNone_iff_eq_none] at e1 ⊢
          obtain ⟨⟨f1, f2⟩, f3⟩ := e1
          refine ⟨⟨fun y hy c hc => ?_, fun y hy => ?_⟩, ?_⟩
          · rcases List.mem_append.1 hy with h | h
            · obtain ⟨j, hj, hLj, hd, hp⟩ := tmX_mem fs 0 h
              rw [Nat.zero_add] at hLj
              have hji : i ≠ j := by rintro rfl; rw [hif] at hLj; cases hLj
              rcases (e2 j (by omega) hji).2 with h | ⟨h, _⟩
              · rw [hnot j (by omega) h] at hLj; cases hLj
              · rw [← hp] at hc
                rw [List.any_eq_false] at h
                simpa using h c hc
            · exact f1 y h c hc
          · rcases List.mem_append.1 hy with h | h
            · obtain ⟨j, hj, hLj, hd⟩ := boxX_mem fs 0 h
              rw [Nat.zero_add] at hLj
              have hji : i ≠ j := by rintro rfl; rw [hif] at hLj; cases hLj
              rcases (e2 j (by omega) hji).2 with h | ⟨_, h, _⟩
              · rw [hnot j (by omega) h] at hLj; cases hLj
              · rw [hd] at h
                intro c hc
                rw [List.all_eq_true] at h
                exact h c hc
            · exact f2 y h
          · show (mkF E0 (fun j => listed.getD j false) fs).row x.1 = none
            rw [mkF_row]
            split
            · rfl
            · have : lk (rowsX (fun j => listed.getD j false) 0 fs) x.1 = lk (rowsX (fun _ => false) 0 fs) x.1 := rows_agree fs 0 fun j hj hd => by
                rw [Nat.zero_add]
                by_cases hji : i = j
                · subst hji; exact hif
                · rw [(e2 j (by omega) hji).1] at hd; cases hd
              rw [this]
              have hz : ∀ (gs : List EffX) (k : Nat), rowsX (fun _ => false) k gs = [] := by
                intro gs
                induction gs with
                | nil => intro k; rfl
                | cons g gs ih => intro k; simp only [rowsX]; simpa using ih _
              rw [hz]
              exact f3
        · obtain ⟨e1, e2⟩ := hbox7 i hil x hx hd
          simp only [Env.nobox, Bool.and_eq_true, List.all_eq_true, Option.isNone_iff_eq_none] at e1 ⊢
          obtain ⟨⟨f1, f2⟩, f3⟩ := e1
          refine ⟨⟨fun y hy c hc => ?_, fun y hy => ?_⟩, ?_⟩
          · rcases List.mem_append.1 hy with h | h
            · obtain ⟨j, hj, hLj, hd', hp⟩ := tmX_mem fs 0 h
              rw [Nat.zero_add] at hLj
              have hji : i ≠ j := by rintro rfl; rw [hif] at hLj; cases hLj
              rcases e2 j (by omega) hji with h | ⟨h, _⟩
              · rw [hnot j (by omega) h] at hLj; cases hLj
              · rw [← hp] at hc
                rw [List.any_eq_false] at h
                simpa using h c hc
            · exact f1 y h c hc
          · rcases List.mem_append.1 hy with h | h
            · obtain ⟨j, hj, hLj, hb'⟩ := boxX_mem fs 0 h
              rw [Nat.zero_add] at hLj
              have hji : i ≠ j := by rintro rfl; rw [hif] at hLj; cases hLj
              rcases e2 j (by omega) hji with h | ⟨_, h⟩
              · rw [hnot j (by omega) h] at hLj; cases hLj
              · intro c hc
                have h5 := (h y hb').2
                rw [List.all_eq_true] at h5
                exact h5 c hc
            · exact f2 y h
          · show lk (boxX (fun j => listed.getD j false) 0 fs ++ E0.boxes) x.1 = none
            rw [lk_append, f3]
            have : lk (boxX (fun j => listed.getD j false) 0 fs) x.1 = none := lk_none fun y hy => by
              obtain ⟨j, hj, hLj, hb'⟩ := boxX_mem fs 0 hy
              rw [Nat.zero_add] at hLj
              have hji : i ≠ j := by rintro rfl; rw [hif] at hLj; cases hLj
              rcases e2 j (by omega) hji with h | ⟨_, h⟩
              · rw [hnot j (by omega) h] at hLj; cases hLj
              · exact (h y hb').1
            rw [this]; rfl
      have hstep := hst.at_ i o (effAt fs i) hio hf' _ (by rw [Nat.zero_add]; exact hat)
      unfold wpOp
      rw [ho]
      simp only
      have hgo := hstep a w R (wpAny P .any l.toArray QQ fuel (listed.setIfInBounds i true)) QQ fun a' w' R' => ?_
      · split
        · rename_i hw; rw [if_pos hw] at hgo; exact .inl hgo
        · rename_i hw; rw [if_neg hw] at hgo; exact hgo
      · have hset : ∀ j, (listed.setIfInBounds i true).getD j false = if j = i then true else listed.getD j false := fun j => by
          by_cases h : i = j
          · subst h; simp [Array.getD_eq_getD_getElem?, Array.getElem?_setIfInBounds, hs, hil]
          · rw [getD_set_ne false h, if_neg (fun e => h e.symm)]
        refine ih (U.erase i) _ a' w' (by simp [hs]) (fun j hj hjf => ?_) ?_ (fun q oq hq hql e he hb => ?_) ?_
        · rw [hset] at hjf
          split at hjf
          · cases hjf
          · rename_i hji; exact (List.mem_erase_of_ne hji).2 (hU j hj hjf)
        · have := List.length_erase_of_mem (hU i hil hif)
          have hpos : 0 < U.length := List.length_pos_of_mem (hU i hil hif)
          omega
        · rw [hset] at hql ⊢
          split at hql
          · rename_i hqi; subst hqi
            rw [hio] at hq; injection hq with hq; subst hq
            split
            · rfl
            · exact hpre e he hb
          · split
            · rfl
            · exact hcl q oq hq hql e he hb
        · -- the state behind it
          have hoff : ∀ j, j ≠ i → (listed.setIfInBounds i true).getD j false = listed.getD j false := fun j hj => by rw [hset, if_neg hj]
          refine R'.weaken ⟨fun t => ?_, fun r x hx => ?_, fun b T ps hb => ?_⟩
          · rw [app_get]
            have : (mkF E0 (fun j => (listed.setIfInBounds i true).getD j false) fs).get t = if (effAt fs i).dst = some t then (effAt fs i).pv else (mkF E0 (fun j => listed.getD j false) fs).get t := by
              by_cases ht : (effAt fs i).dst = some t
              · rw [if_pos ht, mkF_get, tm_only fs 0 (by omega) (by rw [Nat.zero_add, hset, if_pos rfl]) ht (fun j hj hji => hdst i hil j (by omega) (fun e => hji e.symm) t ht)]
                rfl
              · rw [if_neg ht, mkF_get, mkF_get, tm_agree (L' := fun j => listed.getD j false) fs 0 fun j hj hd => by
                  rw [Nat.zero_add]
                  refine hoff j ?_
                  rintro rfl; exact ht hd]
            rw [this]
            exact PV.le_refl _
          · rw [app_row]
            rw [mkF_row] at hx
            by_cases hd : (effAt fs i).dead.contains r = true
            · exfalso
              have : (deadX (fun j => (listed.setIfInBounds i true).getD j false) 0 fs).contains r = true := by
                have key : ∀ (gs : List EffX) (k i0 : Nat) (L : Nat → Bool), i0 < gs.length → L (k + i0) = true → (effAt gs i0).dead.contains r = true → (deadX L k gs).contains r = true := by
                  intro gs
                  induction gs with
                  | nil => intro k i0 L h; simp at h
                  | cons g gs ih =>
                    intro k i0 L h1 h2 h3
                    simp only [deadX, List.contains_append, Bool.or_eq_true]
                    cases i0 with
                    | zero => left; rw [if_pos (by simpa using h2)]; exact h3
                    | succ i0 => right; exact ih (k + 1) i0 L (by simpa using h1) (by rw [← h2]; congr 1; omega) h3
                exact key fs 0 i _ (by omega) (by rw [Nat.zero_add, hset, if_pos rfl]) hd
              rw [if_pos this] at hx
              cases hx
            · rw [if_neg hd, mkF_row]
              rw [dead_agree (L' := fun j => listed.getD j false) fs 0 fun j hj hdj => by
                rw [Nat.zero_add]
                refine hoff j ?_
                rintro rfl; exact hd hdj] at hx
              by_cases hin : ((effAt fs i).rows.any fun x => x.1 == r) = true
              · obtain ⟨y, hy, hyr⟩ := List.any_eq_true.1 hin
                have hyr' : y.1 = r := by simpa using hyr
                rw [rows_only (i0 := i) fs 0 (by omega) (by rw [Nat.zero_add, hset, if_pos rfl]) (fun j hj hji => by
                  have := ((hrow5 i hil y hy).2.2 j (by omega) (fun e => hji e.symm)).1
                  rwa [hyr'] at this)] at hx
                split at hx
                · cases hx
                · cases hl : lk (effAt fs i).rows r with
                  | some z => rw [hl] at hx; rw [← hx]; rfl
                  | none =>
                    exfalso
                    have hsome : (lk (effAt fs i).rows r).isSome = true := by
                      clear hx hl hin
                      generalize (effAt fs i).rows = q at hy
                      induction q with
                      | nil => cases hy
                      | cons z q ih =>
                        obtain ⟨k, v⟩ := z
                        simp only [lk]
                        split
                        · rfl
                        · rename_i hne
                          rcases List.mem_cons.1 hy with rfl | hy
                          · exact absurd hyr' hne
                          · exact ih hy
                    rw [hl] at hsome; cases hsome
              · have hln : lk (effAt fs i).rows r = none := lk_none fun y hy hyr => hin (List.any_eq_true.2 ⟨y, hy, by simp [hyr]⟩)
                rw [hln, Option.none_or]
                rw [rows_agree (L' := fun j => listed.getD j false) fs 0 fun j hj hdj => by
                  rw [Nat.zero_add]
                  refine hoff j ?_
                  rintro rfl; exact hin hdj] at hx
                exact hx
          · rw [app_box]
            rw [mkF_box] at hb
            refine ⟨ps, ?_, All2.refl PC.le_refl ps⟩
            cases hbi : (effAt fs i).box with
            | none =>
              simp only [Option.none_or]
              rw [mkF_box]
              rw [box_agree (L' := fun j => listed.getD j false) fs 0 fun j x hj hdj => by
                rw [Nat.zero_add]
                refine hoff j ?_
                rintro rfl; rw [hbi] at hdj; cases hdj] at hb
              exact hb
            | some y =>
              obtain ⟨c, x⟩ := y
              by_cases e : c = b
              · subst e
                rw [box_top (b := c) (x := x) fs 0 (show i < fs.length by omega) (by rw [Nat.zero_add, hset, if_pos rfl]) hbi (fun j y hij hj hdj => by
                  rw [Nat.zero_add, hoff j (by omega)]
                  have := allLt_spec o6 i hil
                  rw [hbi] at this
                  have := allLt_spec this j (by omega)
                  simp only [hdj, Bool.or_eq_true, beq_iff_eq, bne_iff_ne, ne_eq, not_true_eq_false, false_or] at this
                  rcases this with h | h | h
                  · omega
                  · exfalso
                    have := hac
                    have hlt : j < i := by
                      have hh := reach_closed (l := l) (L := fun q => decide (q < i)) hac (fun a oa ha hLa e he hb => by
                        have := hac a oa ha e he hb
                        simp only [decide_eq_true_eq] at hLa ⊢; omega) i o hio (fun e he hb => by simpa using hac i o hio e he hb) j h
                      simpa using hh
                    omega
                  · exact hnot j (by omega) h)] at hb
                simp only [if_pos]
                exact hb
              · simp only [if_neg e, Option.none_or]
                rw [mkF_box]
                rw [box_agree (L' := fun j => listed.getD j false) fs 0 fun j z hj hdj => by
                  rw [Nat.zero_add]
                  refine hoff j ?_
                  rintro rfl; rw [hbi] at hdj; injection hdj with hdj; injection hdj with h _; exact e h] at hb
                exact hb
theorem T.drawX {P : Program} {C : Ctx} {id : Nat} {l : List Oper} {E0 : Env} {Q : Exit → Env → Prop} (fs : List EffX) (hm : P.follows .mixedOrders = true) (hok : okX E0 l fs = true) (hst : StepsX P C E0 l fs 0 l fs)
    (htail : TL P C l.toArray [] (mkF E0 (fun _ => true) fs) (Q .normal)) : T P C (.region id l.toArray true) E0 Q := by
  intro a w ⟨M, R⟩
  refine wp_region_any hm ?_
  have R' := R.drew
  have hrep : ∀ j, (Array.replicate l.toArray.size false).getD j false = false := fun j => by simp [Array.getD_eq_getD_getElem?, Array.getElem?_replicate]; split <;> rfl
  refine any_X hok hst (fun a w R => htail a w R _ fun a' w' E' hq R' => ⟨E', hq, R'⟩) _ (List.range l.length) _ a _ (by simp) (fun j hj _ => by simpa using hj) (by simp) (fun i o ho h => ?_) ?_
  · rw [hrep i] at h; cases h
  · have e : mkF E0 (fun j => (Array.replicate l.toArray.size false).getD j false) fs = E0 := by
      have t1 : ∀ (gs : List EffX) (k : Nat), tmX (fun j => (Array.replicate l.toArray.size false).getD j false) k gs = [] ∧ rowsX (fun j => (Array.replicate l.toArray.size false).getD j false) k gs = [] ∧ deadX (fun j => (Array.replicate l.toArray.size false).getD j false) k gs = [] ∧ boxX (fun j => (Array.replicate l.toArray.size false).getD j false) k gs = [] := by
        intro gs
        induction gs with
        | nil => intro k; exact ⟨rfl, rfl, rfl, rfl⟩
        | cons g gs ih =>
          intro k
          obtain ⟨h1, h2, h3, h4⟩ := ih (k + 1)
          have h0 := hrep k
          simp only [tmX, rowsX, deadX, boxX, h1, h2, h3, h4, h0]
          simp
      obtain ⟨h1, h2, h3, h4⟩ := t1 fs 0
      simp only [mkF, h1, h2, h3, h4, List.nil_append]
      have : (E0.rows.filter fun x => !([] : List Nat).contains x.1) = E0.rows := by simp
      rw [this]
    rw [e]
    exact ⟨M, R'⟩
theorem undef_tup {M : Maps} {E : Env} {w : World} : POk M E w undef (.tup []) := ⟨#[], rfl, .nil⟩
theorem TL.goff {P : Program} {C : Ctx} {ops : Array Oper} {o : Oper} {l : List Oper} {E : Env} {Q : Env → Prop} {j u : Nat} {want b : Bool} (t : Nat) (hg : o.guard = some (j, want)) (hj : (ops[j]?).bind (·.dst) = some t) (ht : t < C.n) (hb : E.get t = .one (.d (.bool b))) (hne : (b == want) = false) (hd : o.dst = some u) (hu : u < C.n) (h : TL P C ops l (E.set u (.tup [])) Q) : TL P C ops (o :: l) E Q := by
  intro a w R QQ hQ
  refine wpList_step fun K hK => ?_
  have hv := guard_val R hj ht hb
  have hne' : ¬ b = want := by simpa using hne
  rw [if_neg (by simp [Region.wanted, hg, hv, hne'])]
  obtain ⟨M, R0⟩ := R
  refine hK _ _ (h _ _ ⟨M, ?_⟩ QQ hQ)
  rw [hd]
  exact R0.put hu undef_tup
def ReturnsN (w : World) (Z : Nat → Prop) (T : TypeId) (ds : List D) (e : Ending) (w' : World) : Prop :=
  Below w.heap.size w w' ∧ ∃ (g : Nat) (arr : Array Value), e = .returned (.pointer (some ⟨g, 0, none⟩)) ∧ w.heap.size ≤ g ∧ g < w'.heap.size ∧ w'.heap[g]? = some (.cells arr T (0, 0)) ∧ ∃ S : Nat → Prop, (∀ k, S k → w.heap.size ≤ k ∧ k < w'.heap.size ∧ k ≠ g) ∧ Rd w' (fun k => Z k ∨ S k) arr.toList ds
def NX (P : Program) (f : FuncId) (args : List A) (T : TypeId) (ds : List D) : Prop :=
  ∀ (w : World) (Z : Nat → Prop) (vals : List Value), (∀ k, Z k → k < w.heap.size) → All2 (AOk' w Z) vals args → Calls P f vals.toArray w (ReturnsN w Z T ds)
theorem Step.callN {P : Program} {C : Ctx} {o : Oper} {E : Env} {t f : Nat} {ats : Array TypeId} {g : Operand} {xs : List Operand} {ps : List PV} {args : List A} {T : TypeId} {ds : List D} (ho : o.op = .call { callee := .value g, args := xs.toArray, argTypes := ats }) (hd : o.dst = some t) (ht : t < C.n)
    (hg : E.ev g = .one (.d (.fn f))) (hfn : isFn P f = true) (hev : xs.map E.ev = ps) (hargs : All2 (ArgP E true) ps args) (hnx : NX P f args T ds) (hnb : E.nobox t = true) :
    Step P C o E (({ E with boxes := (t, (T, ds.map .d)) :: E.boxes } : Env).set t (.one (.ptr t 0))) := by
  intro a w ⟨M, R⟩ K Q hK
  have hrun : (execOp a.eval o).run P w = .ok (.enter f (xs.map a.eval).toArray) w := by
    unfold execOp
    rw [ho]
    have hgv : a.eval g = .func (.func f) #[] #[] := ev_val R hg rfl
    simp only [resolve, hgv, Deferred.ofValue, Sem.run_bind, Sem.run_pure, Result.andThen, invoke, List.map_toArray]
    simp [run_callFn hfn]
  unfold Oper.wp
  rw [hrun, Oper.upon_enter]
  have hall : All2 (AOk' w (fun k => M.own k = .froz)) (xs.map a.eval) args := by
    subst hev
    clear hrun ho hnx
    induction xs generalizing args with
    | nil => cases hargs; exact .nil
    | cons x xs ih =>
      cases hargs with
      | cons h1 h2 => exact .cons (aok_mono (fun k hk => by rcases hk with h | ⟨h, _⟩; exact h; cases h) (argP_ok R h1 (ev_ok R x))) (ih h2)
  refine (hnx w _ (xs.map a.eval) (fun k hk => R.lt k (by rw [hk]; simp)) hall).mono fun e w' hret => ?_
  obtain ⟨hbel, gg, arr, rfl, h1, h2, h3, S, hS, h4⟩ := hret
  have R1 := R.grow hbel
  obtain ⟨M1, R2, q1, q2⟩ : ∃ M1, RelM C M1 E a w' ∧ (∀ k, M.own k = .froz ∨ S k → M1.own k = .froz) ∧ M1.own gg = .none := by
    classical
    refine ⟨_, R1.addFroz S (fun k hk => own_new R (hS k hk).1) (fun k hk => Nat.le_trans R.ba (hS k hk).1) (fun k hk => (hS k hk).2.1), fun k hk => ?_, ?_⟩
    · simp only
      split
      · rfl
      · rename_i hn; exact hk.resolve_right hn
    · simp only
      rw [if_neg (fun h => (hS gg h).2.2 rfl)]
      exact own_new R h1
  obtain ⟨M2, R3, hblk⟩ : ∃ M2, RelM C M2 { E with boxes := (t, (T, ds.map .d)) :: E.boxes } a w' ∧ M2.blk t = gg :=
    ⟨_, R2.addBox hnb h3 q2 (Nat.le_trans R.ba h1) (rd_one h4 fun k hk => q1 k hk) (by rw [List.all_eq_true]; intro c hc; obtain ⟨d, _, rfl⟩ := List.mem_map.1 hc; rfl) (fun x _ hx => by omega), by simp⟩
  refine hK _ _ ⟨M2, ?_⟩
  rw [hd]
  refine R3.put ht ?_
  show _ = _
  rw [hblk]
def RetN (E : Env) (s : Nat) (T : TypeId) (ds : List D) : Prop := ∃ b, E.get s = .one (.ptr b 0) ∧ E.box b = some (T, ds.map .d)
def QRetN (s : Nat) (T : TypeId) (ds : List D) : Exit → Env → Prop
  | .normal, E => RetN E s T ds
  | .ret, E => RetN E s T ds
  | _, _ => False
theorem one_rd {M : Maps} {E : Env} {w : World} : ∀ (ds : List D) (vs : List Value), All2 (COk M E w) vs (ds.map .d) → Rd w (fun k => M.own k = .froz) vs ds
  | [], _, h => by cases h; exact .nil
  | d :: ds, _, h => by
    cases h with
    | cons h1 h2 => exact Rd.append (vs := [_]) (ds := [d]) h1 (one_rd ds _ h2)
theorem NX.intro {P : Program} {f : FuncId} {fn : Func} {c : Code} {args : List A} {T : TypeId} {ds : List D} (s : Nat) (hf : P.funcs[f]? = some fn) (hb : fn.body = some c) (n : Nat) (hn : fn.ntmps = n) (ha : args.length ≤ n) (hres : fn.results = #[.tmp s])
    (h : ∀ (w : World) (Z : Nat → Prop), Go.Proofs.Ytmdojlglemnijaa.Rf.T P ⟨w.heap.size, w, Z, fun _ => False, [], n⟩ c (Env.start args) (QRetN s T ds)) : NX P f args T ds := by
  intro w Z vals hz hargs
  have hl : vals.length = args.length := hargs.length
  refine calls_of_wp hf hb ?_
  have hst := start_ok (n := n) hz hargs (by omega)
  have := h w Z _ _ hst
  rw [hn]
  refine wp_mono this fun e a w' ⟨E, hq, M, R⟩ => ?_
  have key : RetN E s T ds → bodyPost P fn (ReturnsN w Z T ds) .ret a w' := fun ⟨b, hg, hbx⟩ => by
    obtain ⟨vs, bcs, k1, k2, k3, k4⟩ := ret_all (P := P) (pss := [(false, [.ptr b 0])]) R (rvs := fn.results.toList) (by rw [hres]; exact .cons (by simp [retPC, hg]) .nil)
    obtain ⟨j1, arr, j2, j3⟩ := R.boxes b T _ hbx
    have hbel : Below w.heap.size w w' := ⟨R.fr.os, R.fr.tape, R.fr.output, R.fr.size, fun k hk => R.fr.block k hk fun h => h⟩
    have hbase : w.heap.size ≤ M.blk b := by
      rcases R.wr (M.blk b) (by rw [j1]; simp) (by rw [j1]; simp) with h | h
      · exact h.elim
      · exact h
    have hv : packed vs = .pointer (some ⟨M.blk b, 0, none⟩) := by
      match bcs, k3, k2, k4 with
      | [(bb, ws)], k3, k2, k4 =>
        simp only [shape, List.map_cons, List.map_nil, List.cons.injEq, Prod.mk.injEq, and_true, List.length_cons, List.length_nil] at k3
        obtain ⟨rfl, hl1⟩ := k3
        match ws, hl1 with
        | [v], _ =>
          cases k2 with
          | @cons v' _ vs _ p1 p2 =>
            cases p2
            have e : [v] = [v'] := by simpa [Packs] using p1
            injection e with e _
            subst e
            cases k4 with
            | cons q1 _ => exact q1
      | [], k3, _, _ => simp [shape] at k3
      | _ :: _ :: _, k3, _, _ => simp [shape] at k3
    refine ⟨R.df, packed vs, results_run k1, hbel, M.blk b, arr, by rw [hv], hbase, R.lt _ (by rw [j1]; simp), j2, fun k => M.own k = .froz ∧ ¬ Z k, fun k hk => ⟨?_, R.lt k (by rw [hk.1]; simp), fun e => by subst e; rw [j1] at hk; cases hk.1⟩, ?_⟩
    · rcases R.zb k hk.1 with h | h
      · exact absurd h hk.2
      · exact h
    · refine (one_rd ds _ j3).keep (fun _ _ => rfl) fun k hk => ?_
      by_cases hzk : Z k
      · exact .inl hzk
      · exact .inr ⟨hk, hzk⟩
  cases e with
  | normal => exact key hq
  | ret => exact key hq
  | _ => exact hq.elim
theorem Step.callX2 {P : Program} {C : Ctx} {o : Oper} {E : Env} {t f b : Nat} {T : TypeId} {ats : Array TypeId} {g : Operand} {xs : List Operand} {ps : List PV} {args : List XA} {bps : List PC} {cs cs' : List RC} {res : Res} {ss : List Nat} (hbxc : BX P f args T cs cs' res) (ho : o.op = .call { callee := .value g, args := xs.toArray, argTypes := ats }) (hd : o.dst = some t) (ht : t < C.n)
    (hg : E.ev g = .one (.d (.fn f))) (hfn : isFn P f = true) (hev : xs.map E.ev = ps) (hargs : All2 (XArg E b) ps args) (hb : E.box b = some (T, bps)) (hcs : XCells E bps cs ss) (hn : cs'.length = bps.length)
    (hfr : (E.handX b T bps.length ss).freshRows t 0 (cs' ++ res.flatMap (·.2)) = true) (hpin : ∀ x ∈ C.pin, x.1 < 1000) (hsh : res.all (fun x => x.1 || x.2.length == 1) = true) :
    Step P C o E (({ (E.handX b T bps.length ss).addRows t 0 (cs' ++ res.flatMap (·.2)) with boxes := (b, (T, pcs t 0 cs')) :: ((E.handX b T bps.length ss).addRows t 0 (cs' ++ res.flatMap (·.2))).boxes } : Env).set t (.ofRes (respvs t cs'.length res))) :=
  Step.callX ho hd ht hg hfn hev hargs hb hcs hbxc hn hfr hpin hsh
def isArr (P : Program) (T e n z : Nat) : Bool := (match P.underlying T with
  | some (.array n' e') => n' == n && e' == e
  | _ => false) && (P.info? e).map (·.size) == some z
theorem isArr_spec {P : Program} {T e n z : Nat} (h : isArr P T e n z = true) : P.underlying T = some (.array n e) ∧ (P.info? e).map (·.size) = some z := by
  unfold isArr at h
  simp only [Bool.and_eq_true, beq_iff_eq] at h
  obtain ⟨h1, h2⟩ := h
  refine ⟨?_, h2⟩
  split at h1
  · rename_i n' e' he; simp at h1; obtain ⟨rfl, rfl⟩ := h1; exact he
  · exact absurd h1 (by simp)
theorem Step.allocArr {P : Program} {C : Ctx} {o : Oper} {E : Env} {t : Nat} {T : TypeId} {zs : List Value} {zd : List D} {d : D} (ho : o.op = .alloc T) (hd : o.dst = some t) (ht : t < C.n)
    (hz : zeroCells P T = some zs) (hzd : ZeroOk zs zd) (hfl : d.flat = zd) (hs : d.isSl = true) (hw : d.wf) (h0 : 0 < d.size) (h63 : d.size ≤ 9223372036854775807) (hdz : 0 < d.z) (hf : E.noref' t = true) (hpin : ∀ x ∈ C.pin, x.1 ≠ t) :
    Step P C o E ({ E with rows := (t, (T, d)) :: E.rows }.set t (.one (.rptr t [] 0 0))) :=
  .change hd ht fun M a w R => by
    obtain ⟨z, hz1, hz2⟩ := Option.map_eq_some_iff.1 hz
    obtain ⟨i, hi, hiz⟩ := Option.bind_eq_some_iff.1 hz1
    obtain ⟨M', R', hM⟩ := R.newRow (r := t) (e := T) (d := d) (cs := z.cells) (b := []) hf hpin hs hw h63 (by rw [hz2, hfl]; exact hzd.own w) (by simp) (by simp)
    refine ⟨.pointer (some ⟨w.heap.size, 0, none⟩), _, M', ?_, R', fun T2 d2 h2 => ?_⟩
    · unfold execOp
      rw [ho]
      simp [Instr.alloc, zeroValue, typeInfo, hi, hiz, newVar, newRow]
    · have h2 : lk ((t, (T, d)) :: E.rows) t = some (T2, d2) := h2
      simp only [lk, if_true, Option.some.injEq, Prod.mk.injEq] at h2
      obtain ⟨rfl, rfl⟩ := h2
      exact ⟨w.heap.size, d.size, by simp only [PathTo]; exact hM.symm, h0, hdz, by simp⟩
theorem run_indexArr {P : Program} {T e n z : Nat} (hT : isArr P T e n z = true) (w : World) (g : Nat) (k : IntKind) (i : Int) (h0 : 0 ≤ i) (h1 : i < n) : (Instr.indexAt T (.pointer (some ⟨g, 0, none⟩)) (.int k i)).run P w = .ok (.pointer (some ⟨g, i.toNat * z, none⟩)) w := by
  obtain ⟨hu, hz⟩ := isArr_spec hT
  have hsz := run_size hz w
  unfold Instr.indexAt
  simp [asIntOf, run_underlying hu, Instr.sureAddr, hsz, h0, h1, Sem.run_bind, Result.andThen, Addr.add]
  intro h; exact h.symm
theorem Step.index_arr {P : Program} {C : Ctx} {o : Oper} {E : Env} {t : Nat} {T e T' n : TypeId} {z : Nat} {x y : Operand} {r : Nat} {d : D} {k : IntKind} {i : Int} (ho : o.op = .indexAddr T x y) (hd : o.dst = some t) (ht : t < C.n)
    (hT : isArr P T e n z = true) (hx : E.ev x = .one (.rptr r [] 0 0)) (hr : E.row r = some (T', d)) (hn : d.size = n) (hz : d.z = z) (hz0 : 0 < z) (hy : E.ev y = .one (.d (.int k i))) (h0 : 0 ≤ i) (h1 : i < n) :
    Step P C o E (E.set t (.one (.rptr r [] i.toNat 0))) :=
  .value hd ht fun M a w R => by
    have h := ev_ok R x
    rw [hx] at h
    obtain ⟨g, cap, hp, _, _, he⟩ := h T' d hr
    have he : a.eval x = .pointer (some ⟨g, 0, none⟩) := by rw [he]; simp
    refine ⟨.pointer (some ⟨g, i.toNat * z, none⟩), ?_, fun T2 d2 h2 => ?_⟩
    · unfold execOp
      rw [ho]
      simp only [he, ev_val R hy rfl, Sem.run_bind, run_indexArr hT w g k i h0 h1, Result.andThen, Sem.run_pure]
    · rw [hr] at h2
      injection h2 with h2
      injection h2 with _ h2
      subst h2
      exact ⟨g, cap, hp, by simp only [D.at_]; omega, by simp only [D.at_]; omega, by simp only [D.at_]; rw [hz, Nat.add_zero]⟩
theorem Putd.all {k : IntKind} {xs ys : List Int} (h : ys.length = xs.length) : Putd (.ints k xs) 0 0 (ys.map (.int k)) (.ints k ys) := by
  refine ⟨by simp [D.flat, D.z, h], ?_, by simp [D.size, h], rfl, trivial, rfl⟩
  simp [D.flat, D.z, h]
theorem rd_ints {w : World} {Z : Nat → Prop} {k : IntKind} : ∀ (ys : List Int) (cs : List Value), Rd w Z cs (ys.map (.int k)) → cs = ys.map (Value.int k)
  | [], _, h => by cases h; rfl
  | y :: ys, cs, h => by
    cases h with
    | val hv h2 => simp only [D.val, Option.some.injEq] at hv; subst hv; rw [rd_ints ys _ h2]; rfl
    | sl h1 _ _ _ _ _ _ _ => simp [D.isSl] at h1
theorem own_ints (w : World) (k : IntKind) : ∀ ys : List Int, Own w (ys.map (Value.int k)) (ys.map (D.int k)) []
  | [] => .nil
  | y :: ys => .val rfl (own_ints w k ys)
theorem TL.copyArr {P : Program} {C : Ctx} {ops : Array Oper} {o1 o2 o3 : Oper} {l : List Oper} {E : Env} {Q : Env → Prop} {T e n t1 t2 t3 r : Nat} {T' S1 S2 : TypeId} {x y : Operand} {k : IntKind} {xs ys : List Int}
    (g1 : o1.guard = none) (g2 : o2.guard = none) (g3 : o3.guard = none) (ho1 : o1.op = .slice T x none none none) (hd1 : o1.dst = some t1) (ht1 : t1 < C.n) (ho2 : o2.op = .move y) (hd2 : o2.dst = some t2) (ht2 : t2 < C.n)
    (ho3 : o3.op = .call { callee := .builtin .copy, args := #[.tmp t1, .tmp t2], argTypes := #[S1, S2] }) (hd3 : o3.dst = some t3) (ht3 : t3 < C.n) (hT : isArr P T e n 1 = true) (hS : isSlice P S1 e 1 = true) (hne : t1 ≠ t2) (hx : E.ev x = .one (.rptr r [] 0 0)) (hr : E.row r = some (T', .ints k xs)) (hn : xs.length = n)
    (hy : (E.set t1 (.one .und)).ev y = .one (.d (.ints k ys))) (hl : ys.length = xs.length) (hq : 0 < n)
    (h : TL P C ops l (({ ((E.set t1 (.one .und)).set t2 (.one (.d (.ints k ys)))).mapc (PC.killDeep r) with rows := (r, (T', .ints k ys)) :: E.rows } : Env).set t3 (.one .und)) Q) : TL P C ops (o1 :: o2 :: o3 :: l) E Q := by
  intro a w ⟨M, R⟩ QQ hQ
  have hxo := ev_ok R x
  rw [hx] at hxo
  obtain ⟨g, cap, hp, _, _, hev⟩ := hxo T' _ hr
  have hev : a.eval x = .pointer (some ⟨g, 0, none⟩) := by rw [hev]; simp
  obtain ⟨hu, hz⟩ := isArr_spec hT
  have hrun1 : (execOp a.eval o1).run P w = .ok (.value (.slice (some ⟨g, 0, none⟩) n n)) w := by
    unfold execOp
    rw [ho1]
    simp [hev, Instr.sliceAt, run_underlying hu, Instr.sureAddr, Instr.sliceBounds, run_size hz w, Sem.run_bind, Result.andThen]
    exact fun _ => rfl
  have R1 : RelM C M (E.set t1 (.one .und)) (a.put (some t1) (.slice (some ⟨g, 0, none⟩) n n)) w := R.put ht1 trivial
  generalize ha1 : a.put (some t1) (.slice (some ⟨g, 0, none⟩) n n) = a1 at R1
  have hv1 : a1.tmps.getD t1 undef = .slice (some ⟨g, 0, none⟩) n n := by
    rw [← ha1]
    show (a.tmps.setIfInBounds t1 _).getD t1 undef = _
    rw [getD_set, if_pos ⟨rfl, by rw [R.tn]; exact ht1⟩]
  have hyd := ev_d R1 hy
  have R2 : RelM C M ((E.set t1 (.one .und)).set t2 (.one (.d (.ints k ys)))) (a1.put (some t2) (a1.eval y)) w := R1.put ht2 hyd
  generalize ha2 : a1.put (some t2) (a1.eval y) = a2 at R2
  have hv2 : a2.tmps.getD t2 undef = a1.eval y := by
    rw [← ha2]
    show (a1.tmps.setIfInBounds t2 _).getD t2 undef = _
    rw [getD_set, if_pos ⟨rfl, by rw [R1.tn]; exact ht2⟩]
  have hv12 : a2.tmps.getD t1 undef = .slice (some ⟨g, 0, none⟩) n n := by
    rw [← ha2]
    show (a1.tmps.setIfInBounds t2 _).getD t1 undef = _
    rw [getD_set, if_neg (fun h => hne h.1.symm)]
    exact hv1
  obtain ⟨ad, cap2, cs, hc1, _, hc2, hc3, _⟩ := rd_some hyd rfl (by simp only [D.size]; omega)
  have hcs := rd_ints ys cs hc3
  generalize hE2 : ((E.set t1 (.one .und)).set t2 (.one (.d (.ints k ys))) : Env) = E2 at R2 h
  have hr2 : E2.row r = some (T', .ints k xs) := by rw [← hE2]; exact hr
  have hrows : E2.rows = E.rows := by rw [← hE2]; rfl
  obtain ⟨⟨r1, r2, r3⟩, r4, r5⟩ := R2.rows r T' _ hr2
  have hcl : cs.length = n := by rw [hcs, List.length_map, hl, hn]
  obtain ⟨cur, ty, fp', k1, k2, k3, k4, k5, k6⟩ := store_own (q := []) (i := 0) (j := 0) (d1 := .ints k ys) (d' := .ints k ys) r2 r4 hp (own_ints w k ys) (by simp) (by simp) (Putd.all hl) rfl
  simp only [D.at_, D.z, Nat.zero_mul, Nat.zero_add, List.length_map] at k2 k4
  have hrun3 : (execOp a2.eval o3).run P w = .ok (.value (goInt cs.length)) (w.setRow g (cur.toList.take 0 ++ cs ++ cur.toList.drop (0 + cs.length)).toArray) := by
    have hS' := isSlice_spec hS
    have := run_copy_row P w S1 S2 o3.type e g 0 n n ad ys.length cap2 cur ty cs hS'.1 hS'.2 k1 (by rw [hcl, hl, hn]; exact (Nat.min_self n).symm) hc2 (by rw [hcs, List.length_map]; omega) (fun v hv => by rw [hcs] at hv; obtain ⟨q, _, rfl⟩ := List.mem_map.1 hv; rfl)
    unfold execOp
    rw [ho3]
    have e1 : a2.eval (.tmp t1) = .slice (some ⟨g, 0, none⟩) n n := hv12
    have e2 : a2.eval (.tmp t2) = .slice (some ad) ys.length cap2 := hv2.trans hc1
    simp only [resolve, invoke, builtin, Sem.run_bind, Sem.run_pure, Result.andThen, List.map_toArray, List.map_cons, List.map_nil, e1, e2, this]
  simp only [Nat.zero_add] at hrun3
  rw [hcs, List.length_map] at hrun3
  generalize hw' : w.setRow g (cur.toList.take 0 ++ ys.map (Value.int k) ++ cur.toList.drop ys.length).toArray = w' at k4 hrun3
  have hown : M.own g = .row r := r5 g k3
  have hother : ∀ k, k ≠ g → w'.heap[k]? = w.heap[k]? := fun k hk => by rw [← hw']; exact setRow_other w g k _ hk
  have hsame : w'.heap[g]? = some (.cells (cur.toList.take 0 ++ ys.map (Value.int k) ++ cur.toList.drop ys.length).toArray ty (0, 0)) := by rw [← hw']; exact setRow_heap w g cur _ ty (0, 0) k1
  have hfr : Frame_ C w' := ⟨by rw [← hw']; exact R.fr.os, by rw [← hw']; exact R.fr.tape, by rw [← hw']; exact R.fr.output, by rw [← hw', setRow_size]; exact R.fr.size, fun k hk hi => by
    rw [hother k (fun e => by
      subst e
      rcases R.wr k (by rw [hown]; simp) (by rw [hown]; simp) with h | h
      · exact hi h
      · omega)]
    exact R.fr.block k hk hi⟩
  have R3 := R2.upd (f := PC.killDeep r) (w' := w') (v' := M.hdl r) (T' := T') (d' := .ints k ys) (fp' := fp') hr2 hfr (by rw [← hw', setRow_size]; exact Nat.le_refl _) (fun k h0 hs => hother k fun e => by subst e; exact (hs r hown).1 rfl)
    ⟨rfl, k4, fun ad2 nn cc hv => by
      obtain ⟨cs0, fr0, h6⟩ := r3 ad2 nn cc hv
      by_cases e : ad2.block = g
      · rw [e] at h6 ⊢
        rw [k1] at h6
        injection h6 with h6
        injection h6 with e1 e2 e3
        subst e2
        exact ⟨_, _, hsame⟩
      · exact ⟨cs0, fr0, (hother _ e).trans h6⟩⟩ k5 (fun q hq => by
      rcases k6 q hq with h | h
      · exact .inr ⟨r, r5 q h, .inl rfl⟩
      · cases h) (fun y' hy' e => by
      have := R2.pin y'.1 y'.2 hy' T' _ (by rw [e]; exact hr2)
      rw [e] at this
      exact this) (fun c => by
      rcases PC.killDeep_ok r c with h | ⟨h, h'⟩
      · exact .inl h
      · refine .inr ⟨h, ?_⟩
        rcases h' with h' | h'
        · exact .inl h'
        · exact .inr ⟨rfl, hl, rfl, h'⟩)
  rw [hrows] at R3
  refine wpList_plain g1 fun K hK => ?_
  unfold Oper.wp
  rw [hrun1, Oper.upon_value, hd1, ha1]
  refine hK _ _ (wpList_plain g2 fun K hK => ?_)
  have hrun2 : (execOp a1.eval o2).run P w = .ok (.value (a1.eval y)) w := by unfold execOp; rw [ho2]; rfl
  unfold Oper.wp
  rw [hrun2, Oper.upon_value, hd2, ha2]
  refine hK _ _ (wpList_plain g3 fun K hK => ?_)
  unfold Oper.wp
  rw [hrun3, Oper.upon_value, hd3]
  exact hK _ _ (h _ _ ⟨_, R3.put ht3 trivial⟩ QQ hQ)
def placesArr (P : Program) (T : TypeId) : Option (List Value × Nat) :=
  match P.info? T, P.underlying T with
  | some it, some (.array _ e) => match it.zero, P.info? e with
    | some z, some i => some (z.cells.toList, i.size)
    | _, _ => none
  | _, _ => none
theorem Step.buildArr {P : Program} {C : Ctx} {o : Oper} {E : Env} {t : Nat} {T : TypeId} {parts : Array (Nat × Operand)} {zs : List Value} {size : Nat} {pss : List (Nat × List PC)} {ps' : List PC} (ho : o.op = .build T parts) (hd : o.dst = some t) (ht : t < C.n)
    (hT : placesArr P T = some (zs, size)) (hfl : All2 (fun x y => x.1 = y.1 ∧ (E.ev x.2).flat = some y.2) parts.toList pss) (hf : (pss.all fun y => y.2.all E.fine) = true) (hz : (zs.all fun v => match PC.ofValue v with | .und => false | _ => true) = true) (hfill : fillP (fun i => some (i * size, size)) (zs.map PC.ofValue) pss = some ps') :
    Step P C o E (E.set t (.agg ps')) :=
  .value hd ht fun M a w R => by
    have hparts : All2 (fun (x : Nat × Value) (y : Nat × List PC) => x.1 = y.1 ∧ All2 (COk M E w) x.2.cells.toList y.2) (parts.map fun (i, x) => (i, a.eval x)).toList pss := by
      rw [Array.toList_map]
      generalize parts.toList = l at hfl
      clear hfill ho
      induction hfl with
      | nil => exact .nil
      | @cons x y l pss h1 _ ih =>
        rw [List.all_cons, Bool.and_eq_true] at hf
        refine .cons ⟨h1.1, ?_⟩ (ih hf.2)
        exact (cells_ok R (ev_ok R x.2) h1.2 hf.1).1
    obtain ⟨cells', h1, h2⟩ := fill_ok (place := fun i => some (i * size, size)) _ _ zs.toArray _ _ (zeros_ok M E w zs hz) hparts hfill
    unfold placesArr at hT
    cases hit : P.info? T with
    | none => simp [hit] at hT
    | some it =>
      cases hu : P.underlying T with
      | none => simp [hit, hu] at hT
      | some d =>
        cases d <;> try (simp [hit, hu] at hT; done)
        case array n e =>
          cases hz2 : it.zero with
          | none => simp [hit, hu, hz2] at hT
          | some z =>
            cases hp : P.info? e with
            | none => simp [hit, hu, hz2, hp] at hT
            | some i =>
              simp only [hit, hu, hz2, hp, Option.some.injEq, Prod.mk.injEq] at hT
              obtain ⟨rfl, rfl⟩ := hT
              refine ⟨.agg cells', ?_, cells', rfl, h2⟩
              unfold execOp
              rw [ho]
              have h1 : Instr.fill (fun j => some (j * i.size, i.size)) z.cells (List.map (fun x => (x.fst, a.eval x.snd)) parts.toList) = some cells' := by
                have h1 := h1
                rw [Array.toList_map] at h1
                simpa using h1
              simp [Instr.build, zeroValue, typeInfo, hit, hz2, run_underlying hu, sizeOf, hp, Sem.run_bind, Result.andThen]
              rw [h1]
              rfl
def bor (a b : Int) : Int := IntKind.i64.wrap (BitVec.ofInt IntKind.i64.bits a ||| BitVec.ofInt IntKind.i64.bits b).toNat
def bxor (a b : Int) : Int := IntKind.i64.wrap (BitVec.ofInt IntKind.i64.bits a ^^^ BitVec.ofInt IntKind.i64.bits b).toNat
def band (a b : Int) : Int := IntKind.i64.wrap (BitVec.ofInt IntKind.i64.bits a &&& BitVec.ofInt IntKind.i64.bits b).toNat
def bshl (a n : Int) : Int := IntKind.i64.wrap (a * 2 ^ (min n.toNat IntKind.i64.bits))
def bshr (a n : Int) : Int := a.fdiv (2 ^ (min n.toNat IntKind.i64.bits))
def wadd (a b : Int) : Int := IntKind.i64.wrap (a + b)
def turnW (x n : Int) : Int := band (bor (bshr x n) (bshl x (32 - n))) 4294967295
theorem ofInt_nat (n : Nat) : (BitVec.ofInt 64 (n : Int)) = BitVec.ofNat 64 n := BitVec.ofInt_natCast 64 n
theorem ofInt_wrap (v : BitVec IntKind.i64.bits) : BitVec.ofInt IntKind.i64.bits (IntKind.i64.wrap ((v.toNat : Nat) : Int)) = v := by
  apply BitVec.eq_of_toNat_eq
  rw [BitVec.toNat_ofInt, IntKind.wrap_i64]
  have h : v.toNat < 2 ^ 64 := v.isLt
  show ((((v.toNat : Int) + 9223372036854775808) % 18446744073709551616 - 9223372036854775808) % ((2 ^ 64 : Nat) : Int)).toNat = v.toNat
  omega
theorem band_W (x : Int) : 0 ≤ band x 4294967295 ∧ band x 4294967295 ≤ 4294967295 := by
  unfold band
  have h : (BitVec.ofInt IntKind.i64.bits x &&& BitVec.ofInt IntKind.i64.bits 4294967295).toNat ≤ 4294967295 := by
    rw [BitVec.toNat_and]
    exact Nat.le_trans Nat.and_le_right (by decide)
  generalize (BitVec.ofInt IntKind.i64.bits x &&& BitVec.ofInt IntKind.i64.bits 4294967295).toNat = n at h
  rw [wrap_ok (by omega) (by omega)]
  omega
theorem bor_W {x y : Int} (hx : 0 ≤ x ∧ x ≤ 4294967295) (hy : 0 ≤ y ∧ y ≤ 4294967295) : 0 ≤ bor x y ∧ bor x y ≤ 4294967295 := by
  obtain ⟨a, rfl⟩ : ∃ a : Nat, x = a := ⟨x.toNat, by omega⟩
  obtain ⟨b, rfl⟩ : ∃ b : Nat, y = b := ⟨y.toNat, by omega⟩
  have h : (BitVec.ofInt IntKind.i64.bits (a : Int) ||| BitVec.ofInt IntKind.i64.bits (b : Int)).toNat ≤ 4294967295 := by
    rw [BitVec.toNat_or]
    have e : ∀ q : Nat, q < 2 ^ 32 → (BitVec.ofInt IntKind.i64.bits ((q : Nat) : Int)).toNat = q := fun q hq => by
      rw [BitVec.toNat_ofInt]; show ((q : Int) % ((2 ^ 64 : Nat) : Int)).toNat = q; omega
    rw [e a (by omega), e b (by omega)]
    have := Nat.or_lt_two_pow (x := a) (y := b) (n := 32) (by omega) (by omega)
    omega
  unfold bor
  generalize (BitVec.ofInt IntKind.i64.bits (a : Int) ||| BitVec.ofInt IntKind.i64.bits (b : Int)).toNat = n at h
  rw [wrap_ok (by omega) (by omega)]
  omega
theorem bshl_W {a : Int} (h0 : 0 ≤ a ∧ a ≤ 255) : (0 ≤ bshl a 24 ∧ bshl a 24 ≤ 4294967295) ∧ (0 ≤ bshl a 16 ∧ bshl a 16 ≤ 4294967295) ∧ (0 ≤ bshl a 8 ∧ bshl a 8 ≤ 4294967295) := by
  have e1 : bshl a 24 = a * 16777216 := wrap_ok (x := a * 16777216) (by omega) (by omega)
  have e2 : bshl a 16 = a * 65536 := wrap_ok (x := a * 65536) (by omega) (by omega)
  have e3 : bshl a 8 = a * 256 := wrap_ok (x := a * 256) (by omega) (by omega)
  rw [e1, e2, e3]
  omega
theorem bv_maj (A B C : BitVec IntKind.i64.bits) : (A &&& B) ||| (A &&& C) ||| (B &&& C) = (A &&& B) ^^^ (A &&& C) ^^^ (B &&& C) := by
  apply BitVec.eq_of_getLsbD_eq
  intro i hi
  simp only [BitVec.getLsbD_or, BitVec.getLsbD_and, BitVec.getLsbD_xor]
  cases A.getLsbD i <;> cases B.getLsbD i <;> cases C.getLsbD i <;> rfl
theorem bv_ch {E A B M : BitVec IntKind.i64.bits} (h : ∀ i, E.getLsbD i = true → M.getLsbD i = true) : (E &&& A) ||| ((E ^^^ M) &&& B) = (E &&& A) ^^^ ((M ^^^ E) &&& B) := by
  apply BitVec.eq_of_getLsbD_eq
  intro i hi
  have := h i
  simp only [BitVec.getLsbD_or, BitVec.getLsbD_and, BitVec.getLsbD_xor]
  cases hE : E.getLsbD i <;> cases A.getLsbD i <;> cases B.getLsbD i <;> cases hM : M.getLsbD i <;> simp_all
theorem maj_eq (a b c : Int) : bor (bor (band a b) (band a c)) (band b c) = bxor (bxor (band a b) (band a c)) (band b c) := by
  simp only [bor, bxor, band, ofInt_wrap, bv_maj]
theorem word_bits {e : Int} (h : 0 ≤ e ∧ e ≤ 4294967295) (i : Nat) : (BitVec.ofInt 64 e).getLsbD i = true → (BitVec.ofInt 64 4294967295).getLsbD i = true := by
  obtain ⟨n, rfl⟩ : ∃ n : Nat, e = n := ⟨e.toNat, by omega⟩
  intro hb
  have h1 : (BitVec.ofInt 64 (n : Int)).getLsbD i = (BitVec.ofNat 64 n).getLsbD i := by rw [ofInt_nat]
  rw [h1, BitVec.getLsbD_ofNat, Bool.and_eq_true, decide_eq_true_eq] at hb
  have h2 : (BitVec.ofInt 64 (4294967295 : Int)).getLsbD i = (BitVec.ofNat 64 (2 ^ 32 - 1)).getLsbD i := by rfl
  rw [h2, BitVec.getLsbD_ofNat, Nat.testBit_two_pow_sub_one, Bool.and_eq_true, decide_eq_true_eq, decide_eq_true_eq]
  refine ⟨hb.1, Nat.lt_of_not_le fun hle => ?_⟩
  have h3 := Nat.testBit_lt_two_pow (x := n) (i := i) (Nat.lt_of_lt_of_le (show n < 2 ^ 32 by omega) (Nat.pow_le_pow_right (by omega) hle))
  rw [h3] at hb
  exact absurd hb.2 (by decide)
theorem ch_eq {e : Int} (h : 0 ≤ e ∧ e ≤ 4294967295) (a b : Int) : bor (band e a) (band (bxor e 4294967295) b) = bxor (band e a) (band (bxor 4294967295 e) b) := by
  simp only [bor, bxor, band, ofInt_wrap]
  rw [bv_ch (E := BitVec.ofInt IntKind.i64.bits e) (M := BitVec.ofInt IntKind.i64.bits 4294967295) (word_bits h)]
def wordsOk (h : List Int) : Bool := h.all fun x => decide (0 ≤ x ∧ x ≤ 4294967295)
theorem words_step {l : List Int} {i : Nat} (hi : i < l.length) (h : wordsOk (l.take i) = true) (hx : 0 ≤ l.getD i 0 ∧ l.getD i 0 ≤ 4294967295) : wordsOk (l.take (i + 1)) = true := by
  rw [take_succ' (df := 0) hi]; simp only [wordsOk, List.all_append, List.all_cons, List.all_nil, Bool.and_true, Bool.and_eq_true] at h ⊢; exact ⟨h, decide_eq_true hx⟩
theorem words_no {l : List Int} {i : Nat} (hi : i < l.length) (hx : ¬ (0 ≤ l.getD i 0 ∧ l.getD i 0 ≤ 4294967295)) : wordsOk l = false := by
  cases h : wordsOk l with
  | false => rfl
  | true =>
    rw [wordsOk, List.all_eq_true] at h
    have := h (l.getD i 0) (by rw [List.getD_eq_getElem?_getD, List.getElem?_eq_getElem hi]; exact List.getElem_mem hi)
    exact absurd (of_decide_eq_true this) hx
theorem words_at {l : List Int} (h : wordsOk l = true) (i : Nat) : 0 ≤ l.getD i 0 ∧ l.getD i 0 ≤ 4294967295 := by
  rw [List.getD_eq_getElem?_getD]
  cases hx : l[i]? with
  | none => simp
  | some x => rw [wordsOk, List.all_eq_true] at h; exact of_decide_eq_true (h x (List.mem_of_getElem? hx))
def shaInit : List Int := [1779033703, 3144134277, 1013904242, 2773480762, 1359893119, 2600822924, 528734635, 1541459225]
def shaK : List Int := [1116352408, 1899447441, 3049323471, 3921009573, 961987163, 1508970993, 2453635748, 2870763221, 3624381080, 310598401, 607225278, 1426881987, 1925078388, 2162078206, 2614888103, 3248222580, 3835390401, 4022224774, 264347078, 604807628, 770255983, 1249150122, 1555081692, 1996064986, 2554220882, 2821834349, 2952996808, 3210313671, 3336571891, 3584528711, 113926993, 338241895, 666307205, 773529912, 1294757372, 1396182291, 1695183700, 1986661051, 2177026350, 2456956037, 2730485921, 2820302411, 3259730800, 3345764771, 3516065817, 3600352804, 4094571909, 275423344, 430227734, 506948616, 659060556, 883997877, 958139571, 1322822218, 1537002063, 1747873779, 1955562222, 2024104815, 2227730452, 2361852424, 2428436474, 2756734187, 3204031479, 3329325298]
def wAt (b : List Int) (i : Nat) : Int := bor (bor (bor (bshl (b.getD (4 * (i : Int)).toNat 0) 24) (bshl (b.getD (4 * (i : Int) + 1).toNat 0) 16)) (bshl (b.getD (4 * (i : Int) + 2).toNat 0) 8)) (b.getD (4 * (i : Int) + 3).toNat 0)
def w16 (b : List Int) : Nat → List Int
  | 0 => []
  | i + 1 => w16 b i ++ [wAt b i]
def nextW (A : List Int) (i : Nat) : Int := band (wadd (wadd (wadd (A.getD (16 + (i : Int) - 16).toNat 0) (bxor (bxor (turnW (A.getD (16 + (i : Int) - 15).toNat 0) 7) (turnW (A.getD (16 + (i : Int) - 15).toNat 0) 18)) (bshr (A.getD (16 + (i : Int) - 15).toNat 0) 3))) (A.getD (16 + (i : Int) - 7).toNat 0)) (bxor (bxor (turnW (A.getD (16 + (i : Int) - 2).toNat 0) 17) (turnW (A.getD (16 + (i : Int) - 2).toNat 0) 19)) (bshr (A.getD (16 + (i : Int) - 2).toNat 0) 10))) 4294967295
def wN (b : List Int) : Nat → List Int
  | 0 => w16 b 16
  | i + 1 => wN b i ++ [nextW (wN b i) i]
theorem w16_len (b : List Int) : ∀ i, (w16 b i).length = i
  | 0 => rfl
  | i + 1 => by rw [w16, List.length_append, w16_len b i]; rfl
theorem wN_len (b : List Int) : ∀ i, (wN b i).length = 16 + i
  | 0 => w16_len b 16
  | i + 1 => by rw [wN, List.length_append, wN_len b i]; rfl
theorem getD_app {A : List Int} {x : Int} (n : Nat) : (A ++ [x]).getD n 0 = if n < A.length then A.getD n 0 else if n = A.length then x else 0 := by
  simp only [List.getD_eq_getElem?_getD]
  split
  · rw [List.getElem?_append_left (by assumption)]
  · split
    · rw [List.getElem?_append_right (by omega), show n - A.length = 0 from by omega]; rfl
    · rw [List.getElem?_append_right (by omega), List.getElem?_eq_none (by simp; omega)]; rfl
theorem wAt_W {b : List Int} (h : U8s b) (i : Nat) : 0 ≤ wAt b i ∧ wAt b i ≤ 4294967295 := by
  have h3 := getD_u8 h (4 * (i : Int) + 3).toNat
  exact bor_W (bor_W (bor_W (bshl_W (getD_u8 h _)).1 (bshl_W (getD_u8 h _)).2.1) (bshl_W (getD_u8 h _)).2.2) (by omega)
theorem w16_W {b : List Int} (h : U8s b) : ∀ (i q : Nat), 0 ≤ (w16 b i).getD q 0 ∧ (w16 b i).getD q 0 ≤ 4294967295
  | 0, q => by simp [w16]
  | i + 1, q => by
    have h1 := w16_W h i q
    have h2 := wAt_W h i
    rw [w16, getD_app]
    split
    · exact h1
    · split
      · exact h2
      · simp
theorem wN_W {b : List Int} (h : U8s b) : ∀ (i q : Nat), 0 ≤ (wN b i).getD q 0 ∧ (wN b i).getD q 0 ≤ 4294967295
  | 0, q => w16_W h 16 q
  | i + 1, q => by
    have h1 := wN_W h i q
    rw [wN, getD_app]
    split
    · exact h1
    · split
      · exact band_W _
      · simp
theorem getD_rep {A : List Int} {n q : Nat} (h : q < A.length) : (A ++ List.replicate n 0).getD q 0 = A.getD q 0 := by
  simp only [List.getD_eq_getElem?_getD]
  rw [List.getElem?_append_left h]
theorem arr_W {A : List Int} (h : ∀ q, 0 ≤ A.getD q 0 ∧ A.getD q 0 ≤ 4294967295) (n q : Nat) : 0 ≤ (A ++ List.replicate n 0).getD q 0 ∧ (A ++ List.replicate n 0).getD q 0 ≤ 4294967295 := by
  by_cases hq : q < A.length
  · rw [getD_rep hq]; exact h q
  · simp only [List.getD_eq_getElem?_getD]
    rw [List.getElem?_append_right (by omega), List.getElem?_replicate]
    split <;> simp
theorem set_fill {A : List Int} {n q : Nat} {x : Int} (hq : q = A.length) : (A ++ List.replicate (n + 1) 0).set q x = (A ++ [x]) ++ List.replicate n 0 := by
  subst hq
  rw [List.replicate_succ, List.set_append_right _ _ (Nat.le_refl _), Nat.sub_self, List.set_cons_zero, List.append_assoc]; rfl
theorem nextW_rep {A : List Int} {i n : Nat} (h : A.length = 16 + i) : nextW (A ++ List.replicate n 0) i = nextW A i := by
  unfold nextW
  rw [getD_rep (q := (16 + (i : Int) - 16).toNat) (by omega), getD_rep (q := (16 + (i : Int) - 15).toNat) (by omega), getD_rep (q := (16 + (i : Int) - 7).toNat) (by omega), getD_rep (q := (16 + (i : Int) - 2).toNat) (by omega)]
theorem w16_set (b : List Int) {i : Nat} (hi : i < 16) : (w16 b i ++ List.replicate (64 - i) 0).set i (wAt b i) = w16 b (i + 1) ++ List.replicate (64 - (i + 1)) 0 := by
  rw [show 64 - i = (64 - (i + 1)) + 1 from by omega, set_fill (w16_len b i).symm]; rfl
theorem wN_set (b : List Int) {i : Nat} (hi : i < 48) : (wN b i ++ List.replicate (48 - i) 0).set (16 + (i : Int)).toNat (nextW (wN b i ++ List.replicate (48 - i) 0) i) = wN b (i + 1) ++ List.replicate (48 - (i + 1)) 0 := by
  rw [nextW_rep (wN_len b i), show 48 - i = (48 - (i + 1)) + 1 from by omega, set_fill (by rw [wN_len]; omega)]; rfl
def aI (b : List Int) (i : Nat) : List Int := w16 b i ++ List.replicate (64 - i) 0
theorem aI_len (b : List Int) {i : Nat} (h : i ≤ 16) : (aI b i).length = 64 := by unfold aI; rw [List.length_append, w16_len, List.length_replicate]; omega
theorem aI_zero (b : List Int) : List.replicate 64 0 = aI b 0 := rfl
theorem aI_set (b : List Int) {i : Nat} (hi : i < 16) : (aI b i).set i (wAt b i) = aI b (i + 1) := w16_set b hi
def wI (b : List Int) (i : Nat) : List Int := wN b i ++ List.replicate (48 - i) 0
theorem wI_len (b : List Int) {i : Nat} (h : i ≤ 48) : (wI b i).length = 64 := by unfold wI; rw [List.length_append, wN_len, List.length_replicate]; omega
theorem wI_zero (b : List Int) : aI b 16 = wI b 0 := rfl
theorem wI_set (b : List Int) {i : Nat} (hi : i < 48) : (wI b i).set (16 + (i : Int)).toNat (nextW (wI b i) i) = wI b (i + 1) := wN_set b hi
theorem wI_W {b : List Int} (h : U8s b) (i q : Nat) : 0 ≤ (wI b i).getD q 0 ∧ (wI b i).getD q 0 ≤ 4294967295 := arr_W (wN_W h i) _ q
theorem wI_all (b : List Int) : wI b 48 = wN b 48 := by unfold wI; simp
def stepV (v : List Int) (k w : Int) : List Int :=
  [band (wadd (wadd (wadd (wadd (wadd (v.getD 7 0) (bxor (bxor (turnW (v.getD 4 0) 6) (turnW (v.getD 4 0) 11)) (turnW (v.getD 4 0) 25))) (bxor (band (v.getD 4 0) (v.getD 5 0)) (band (bxor 4294967295 (v.getD 4 0)) (v.getD 6 0)))) k) w) (wadd (bxor (bxor (turnW (v.getD 0 0) 2) (turnW (v.getD 0 0) 13)) (turnW (v.getD 0 0) 22)) (bxor (bxor (band (v.getD 0 0) (v.getD 1 0)) (band (v.getD 0 0) (v.getD 2 0))) (band (v.getD 1 0) (v.getD 2 0))))) 4294967295,
   v.getD 0 0, v.getD 1 0, v.getD 2 0,
   band (wadd (v.getD 3 0) (wadd (wadd (wadd (wadd (v.getD 7 0) (bxor (bxor (turnW (v.getD 4 0) 6) (turnW (v.getD 4 0) 11)) (turnW (v.getD 4 0) 25))) (bxor (band (v.getD 4 0) (v.getD 5 0)) (band (bxor 4294967295 (v.getD 4 0)) (v.getD 6 0)))) k) w)) 4294967295,
   v.getD 4 0, v.getD 5 0, v.getD 6 0]
def stepI (v : List Int) (k w : Int) : List Int :=
  [band (wadd (wadd (wadd (wadd (wadd (v.getD 7 0) (bxor (bxor (turnW (v.getD 4 0) 6) (turnW (v.getD 4 0) 11)) (turnW (v.getD 4 0) 25))) (bor (band (v.getD 4 0) (v.getD 5 0)) (band (bxor (v.getD 4 0) 4294967295) (v.getD 6 0)))) k) w) (wadd (bxor (bxor (turnW (v.getD 0 0) 2) (turnW (v.getD 0 0) 13)) (turnW (v.getD 0 0) 22)) (bor (bor (band (v.getD 0 0) (v.getD 1 0)) (band (v.getD 0 0) (v.getD 2 0))) (band (v.getD 1 0) (v.getD 2 0))))) 4294967295,
   v.getD 0 0, v.getD 1 0, v.getD 2 0,
   band (wadd (v.getD 3 0) (wadd (wadd (wadd (wadd (v.getD 7 0) (bxor (bxor (turnW (v.getD 4 0) 6) (turnW (v.getD 4 0) 11)) (turnW (v.getD 4 0) 25))) (bor (band (v.getD 4 0) (v.getD 5 0)) (band (bxor (v.getD 4 0) 4294967295) (v.getD 6 0)))) k) w)) 4294967295,
   v.getD 4 0, v.getD 5 0, v.getD 6 0]
theorem stepI_eq {v : List Int} {k w : Int} (h : 0 ≤ v.getD 4 0 ∧ v.getD 4 0 ≤ 4294967295) : stepI v k w = stepV v k w := by
  unfold stepI stepV
  rw [ch_eq h, maj_eq]
def vN (h w : List Int) : Nat → List Int
  | 0 => h
  | i + 1 => stepV (vN h w i) (shaK.getD i 0) (w.getD i 0)
theorem vN_len {h w : List Int} (h8 : h.length = 8) : ∀ i, (vN h w i).length = 8
  | 0 => h8
  | i + 1 => rfl
theorem vN_W {h w : List Int} (hh : wordsOk h = true) : ∀ (i q : Nat), 0 ≤ (vN h w i).getD q 0 ∧ (vN h w i).getD q 0 ≤ 4294967295
  | 0, q => words_at hh q
  | i + 1, q => by
    have ih := vN_W (w := w) hh i
    match q with
    | 0 => exact band_W _
    | 1 => exact ih 0
    | 2 => exact ih 1
    | 3 => exact ih 2
    | 4 => exact band_W _
    | 5 => exact ih 4
    | 6 => exact ih 5
    | 7 => exact ih 6
    | q + 8 => exact ⟨Int.le_refl _, show (0 : Int) ≤ 4294967295 by decide⟩
def outs (h v : List Int) : Nat → List Int
  | 0 => []
  | i + 1 => outs h v i ++ [band (wadd (h.getD i 0) (v.getD i 0)) 4294967295]
theorem outs_len (h v : List Int) : ∀ i, (outs h v i).length = i
  | 0 => rfl
  | i + 1 => by rw [outs, List.length_append, outs_len h v i]; rfl
def shaBlock (h b : List Int) : List Int := if h.length = 8 ∧ b.length = 64 ∧ wordsOk h = true then outs h (vN h (wN b 48) 64) 8 else []
theorem shaBlock_len (h b : List Int) : (shaBlock h b).length ≤ 8 := by
  unfold shaBlock
  split
  · rw [outs_len]; omega
  · simp
theorem shaBlock_no {h b : List Int} (hn : ¬ (h.length = 8 ∧ b.length = 64 ∧ wordsOk h = true)) : shaBlock h b = [] := if_neg hn
theorem shaBlock_yes {h b : List Int} (hn : h.length = 8 ∧ b.length = 64 ∧ wordsOk h = true) : shaBlock h b = outs h (vN h (wN b 48) 64) 8 := if_pos hn
def padK (n : Nat) : Nat := (119 - n % 64) % 64
def padB (n : Nat) : Nat → List Int
  | 0 => []
  | i + 1 => padB n i ++ [bshr (8 * (n : Int)) (8 * (7 - (i : Int))) % 256]
theorem padB_len (n : Nat) : ∀ i, (padB n i).length = i
  | 0 => rfl
  | i + 1 => by rw [padB, List.length_append, padB_len n i]; rfl
def shaPad (b : List Int) : List Int := b ++ [128] ++ List.replicate (padK b.length) 0 ++ padB b.length 8
theorem shaPad_len (b : List Int) : (shaPad b).length = b.length + 1 + padK b.length + 8 := by simp [shaPad, padB_len]; omega
theorem shaPad_mod (b : List Int) : (shaPad b).length % 64 = 0 ∧ (shaPad b).length ≤ b.length + 72 := by rw [shaPad_len]; unfold padK; omega
theorem padB_u8 (n : Nat) : ∀ i, U8s (padB n i)
  | 0 => fun x hx => by cases hx
  | i + 1 => fun x hx => by
    rcases List.mem_append.1 hx with hx | hx
    · exact padB_u8 n i x hx
    · rcases List.mem_singleton.1 hx with rfl; omega
theorem shaPad_u8 {b : List Int} (h : U8s b) : U8s (shaPad b) := fun x hx => by
  rcases List.mem_append.1 hx with hx | hx
  · rcases List.mem_append.1 hx with hx | hx
    · rcases List.mem_append.1 hx with hx | hx
      · exact h x hx
      · rcases List.mem_singleton.1 hx with rfl; omega
    · rw [List.eq_of_mem_replicate hx]; omega
  · exact padB_u8 _ _ x hx
theorem u8_sub {b : List Int} (h : U8s b) (x y : Nat) : U8s ((b.drop x).take y) := fun z hz => h z (List.mem_of_mem_drop (List.mem_of_mem_take hz))
def hN (p : List Int) : Nat → List Int
  | 0 => shaInit
  | i + 1 => shaBlock (hN p i) ((p.drop (64 * (i : Int)).toNat).take ((64 * (i : Int) + 64).toNat - (64 * (i : Int)).toNat))
theorem hN_len (p : List Int) : ∀ i, (hN p i).length ≤ 8
  | 0 => show shaInit.length ≤ 8 by decide
  | i + 1 => shaBlock_len _ _
def outB (h : List Int) : Nat → List Int
  | 0 => []
  | i + 1 => outB h i ++ [bshr (h.getD i 0) 24 % 256, bshr (h.getD i 0) 16 % 256, bshr (h.getD i 0) 8 % 256, h.getD i 0 % 256]
theorem outB_len (h : List Int) : ∀ i, (outB h i).length = 4 * i
  | 0 => rfl
  | i + 1 => by rw [outB, List.length_append, outB_len h i]; simp; omega
theorem outB_u8 (h : List Int) : ∀ i, U8s (outB h i)
  | 0 => fun x hx => by cases hx
  | i + 1 => fun x hx => by
    rcases List.mem_append.1 hx with hx | hx
    · exact outB_u8 h i x hx
    · simp only [List.mem_cons, List.not_mem_nil, or_false] at hx
      omega
def shaH (b : List Int) : List Int := hN (shaPad b) ((shaPad b).length / 64)
def sha (b : List Int) : List Int := outB (shaH b) (shaH b).length
theorem sha_len (b : List Int) : (sha b).length ≤ 32 := by
  have := hN_len (shaPad b) ((shaPad b).length / 64)
  unfold sha
  rw [outB_len]
  unfold shaH
  omega
theorem sha_u8 (b : List Int) : U8s (sha b) := outB_u8 _ _
theorem bool_ne {b : Bool} (h : b = true) (h' : b = false) : False := by subst h; cases h'
abbrev pI (x : Int) : PV := .one (.d (.int .i64 x))
abbrev pB (x : Bool) : PV := .one (.d (.bool x))
abbrev pS (x : List Int) : PV := .one (.d (.ints .u8 x))
abbrev cI (x : Int) : PC := .d (.int .i64 x)
abbrev cS (x : List Int) : PC := .d (.ints .u8 x)
theorem At.g {E0 : Env} {l : List Oper} {effs : List Eff} {i : Nat} {o : Oper} {E : Env} (A : At E0 l effs i o E) (t : Nat) {p : PV} (hp : (plus E0 (fun _ => true) 0 effs).get t = p) (hr : t ∈ reads l o := by decide) : Env.ev E (.tmp t) = p := (show Env.ev E (.tmp t) = E.get t from rfl).trans ((A.get t hr).trans hp)
theorem At.mv {P : Program} {C : Ctx} {ops : Array Oper} {E0 : Env} {l : List Oper} {effs : List Eff} {i : Nat} {o : Oper} {E : Env} (A : At E0 l effs i o E) (a t : Nat) {p : PV} (ho : o.op = .move (.tmp a) := by exact rfl) (hg : o.guard = none := by exact rfl) (hd : o.dst = some t := by exact rfl) (ht : t < C.n := by exact lt_ok rfl)
    (hp : (plus E0 (fun _ => true) 0 effs).get a = p := by exact rfl) (hr : a ∈ reads l o := by decide) : OpStep P C ops o E (Eff.app ⟨t, p, []⟩ E) := OpStep.plain hg (Step.move ho hd ht (A.g a hp hr))
theorem At.as {P : Program} {C : Ctx} {ops : Array Oper} {E0 : Env} {l : List Oper} {effs : List Eff} {i : Nat} {o : Oper} {E : Env} (A : At E0 l effs i o E) (a t : Nat) {p : PV} (ho : o.op = .assign (.tmp a) := by exact rfl) (hg : o.guard = none := by exact rfl) (hd : o.dst = some t := by exact rfl) (ht : t < C.n := by exact lt_ok rfl)
    (hp : (plus E0 (fun _ => true) 0 effs).get a = p := by exact rfl) (hr : a ∈ reads l o := by decide) : OpStep P C ops o E (Eff.app ⟨t, p, []⟩ E) := OpStep.plain hg (Step.assign ho hd ht (A.g a hp hr))
theorem Step.fa {P : Program} {C : Ctx} {o : Oper} {E : Env} {T f off n b : Nat} {one : Bool} {x : Operand} (q t : Nat) (hx : E.ev x = .one (.ptr b q)) (ho : o.op = .fieldAddr T x f := by exact rfl) (hd : o.dst = some t := by exact rfl) (ht : t < C.n := by exact lt_ok rfl) (hf : isField P T f off n one = true := by kernel_rfl) (hn : n ≠ 0 := by exact Nat.succ_ne_zero _) : Step P C o E (E.set t (.one (.ptr b (q + off)))) := Step.fieldAddr ho hd ht hf hn hx
theorem Step.bd {P : Program} {C : Ctx} {o : Oper} {E : Env} {op : BinOp} {tx ty : TypeId} {x y : Operand} {dx dy r : D} (t : Nat) (hx : E.ev x = .one (.d dx)) (hy : E.ev y = .one (.d dy)) (hb : Bin op dx dy r) (ho : o.op = .binOp op tx x y ty := by exact rfl) (hd : o.dst = some t := by exact rfl) (ht : t < C.n := by exact lt_ok rfl) : Step P C o E (E.set t (.one (.d r))) := Step.bin ho hd ht hx hy hb
theorem Step.cl {P : Program} {C : Ctx} {o : Oper} {E : Env} {t f : Nat} {ats : Array TypeId} {g : Operand} {xs : List Operand} {ps : List PV} {args : List A} {res : Res} (fz : Bool) (hargs : All2 (ArgP E fz) ps args) (hro : RO P f args res) (ho : o.op = .call { callee := .value g, args := xs.toArray, argTypes := ats } := by exact rfl) (hd : o.dst = some t := by exact rfl) (ht : t < C.n := by exact lt_ok rfl)
    (hg : E.ev g = .one (.d (.fn f)) := by exact rfl) (hfn : isFn P f = true := by kernel_rfl) (hev : xs.map E.ev = ps := by exact rfl) (hsc : fz = true ∨ resScal res = true := by first | exact .inr rfl | exact .inl rfl) (hfr : E.freshRows t 0 (res.flatMap (·.2)) = true := by exact rfl) (hpin : ∀ x ∈ C.pin, x.1 < 1000 := by simp) (hsh : res.all (fun x => x.1 || x.2.length == 1) = true := by exact rfl) :
    Step P C o E ((E.addRows t 0 (res.flatMap (·.2))).set t (.ofRes (respvs t 0 res))) := Step.call fz ho hd ht hg hfn hev hargs hro hsc hfr hpin hsh
theorem Step.cd {P : Program} {C : Ctx} {o : Oper} {E : Env} {f : Nat} {ats : Array TypeId} {g : Operand} {xs : List Operand} {ps : List PV} {args : List A} {res : Res} (fz : Bool) (t : Nat) (hev : xs.map E.ev = ps) (hargs : All2 (ArgP E fz) ps args) (hro : RO P f args res) (hfr : E.freshRows t 0 (res.flatMap (·.2)) = true) (ho : o.op = .call { callee := .value g, args := xs.toArray, argTypes := ats } := by exact rfl) (hd : o.dst = some t := by exact rfl) (ht : t < C.n := by exact lt_ok rfl)
    (hg : E.ev g = .one (.d (.fn f)) := by exact rfl) (hfn : isFn P f = true := by kernel_rfl) (hsc : fz = true ∨ resScal res = true := by first | exact .inr rfl | exact .inl rfl) (hpin : ∀ x ∈ C.pin, x.1 < 1000 := by simp) (hsh : res.all (fun x => x.1 || x.2.length == 1) = true := by exact rfl) :
    Step P C o E ((E.addRows t 0 (res.flatMap (·.2))).set t (.ofRes (respvs t 0 res))) := Step.call fz ho hd ht hg hfn hev hargs hro hsc hfr hpin hsh
theorem TL.c {P : Program} {C : Ctx} {ops : Array Oper} {o : Oper} {l : List Oper} {E E1 : Env} {Q : Env → Prop} (hs : Step P C o E E1) (h : TL P C ops l E1 Q) (hg : o.guard = none := by exact rfl) : TL P C ops (o :: l) E Q := TL.cons hg hs h
theorem TL.mv {P : Program} {C : Ctx} {ops : Array Oper} {o : Oper} {l : List Oper} {E : Env} {Q : Env → Prop} {t : Nat} {x : Operand} (p : PV) (h : TL P C ops l (E.set t p) Q) (ho : o.op = .move x := by exact rfl) (hg : o.guard = none := by exact rfl) (hd : o.dst = some t := by exact rfl) (ht : t < C.n := by exact lt_ok rfl) (hx : E.ev x = p := by exact rfl) : TL P C ops (o :: l) E Q := TL.cons hg (Step.move ho hd ht hx) h
theorem TL.as {P : Program} {C : Ctx} {ops : Array Oper} {o : Oper} {l : List Oper} {E : Env} {Q : Env → Prop} {t : Nat} {x : Operand} (p : PV) (h : TL P C ops l (E.set t p) Q) (ho : o.op = .assign x := by exact rfl) (hg : o.guard = none := by exact rfl) (hd : o.dst = some t := by exact rfl) (ht : t < C.n := by exact lt_ok rfl) (hx : E.ev x = p := by exact rfl) : TL P C ops (o :: l) E Q := TL.cons hg (Step.assign ho hd ht hx) h
theorem TL.pk {P : Program} {C : Ctx} {ops : Array Oper} {o : Oper} {l : List Oper} {E : Env} {Q : Env → Prop} {t : Nat} {x y z : Operand} (b : Bool) (p : PV) (h : TL P C ops l (E.set t p) Q) (ho : o.op = .pick x y z := by exact rfl) (hg : o.guard = none := by exact rfl) (hd : o.dst = some t := by exact rfl) (ht : t < C.n := by exact lt_ok rfl) (hx : E.ev x = .one (.d (.bool b)) := by exact rfl) (hp : E.ev (bif b then y else z) = p := by exact rfl) : TL P C ops (o :: l) E Q := TL.cons hg (Step.pick ho hd ht hx hp) h
theorem TL.gy {P : Program} {C : Ctx} {ops : Array Oper} {o : Oper} {l : List Oper} {E E1 : Env} {Q : Env → Prop} {j : Nat} {want : Bool} (t : Nat) (hs : Step P C o E E1) (h : TL P C ops l E1 Q) (hg : o.guard = some (j, want) := by exact rfl) (hj : (ops[j]?).bind (·.dst) = some t := by exact rfl) (ht : t < C.n := by exact lt_ok rfl) (hb : E.get t = .one (.d (.bool want)) := by exact rfl) : TL P C ops (o :: l) E Q := TL.gyes t hg hj ht hb hs h
theorem TL.gm {P : Program} {C : Ctx} {ops : Array Oper} {o : Oper} {l : List Oper} {E : Env} {Q : Env → Prop} {j u : Nat} {x : Operand} {want : Bool} (t : Nat) (p : PV) (h : TL P C ops l (E.set u p) Q) (ho : o.op = .move x := by exact rfl) (hg : o.guard = some (j, want) := by exact rfl) (hj : (ops[j]?).bind (·.dst) = some t := by exact rfl) (ht : t < C.n := by exact lt_ok rfl) (hb : E.get t = .one (.d (.bool want)) := by exact rfl) (hd : o.dst = some u := by exact rfl) (hu : u < C.n := by exact lt_ok rfl) (hx : E.ev x = p := by exact rfl) : TL P C ops (o :: l) E Q := TL.gyes t hg hj ht hb (Step.move ho hd hu hx) h
theorem TL.gf {P : Program} {C : Ctx} {ops : Array Oper} {o : Oper} {l : List Oper} {E : Env} {Q : Env → Prop} {j u : Nat} {want b : Bool} (t : Nat) (h : TL P C ops l (E.set u (.tup [])) Q) (hg : o.guard = some (j, want) := by exact rfl) (hj : (ops[j]?).bind (·.dst) = some t := by exact rfl) (ht : t < C.n := by exact lt_ok rfl) (hb : E.get t = .one (.d (.bool b)) := by exact rfl) (hne : (b == want) = false := by exact rfl) (hd : o.dst = some u := by exact rfl) (hu : u < C.n := by exact lt_ok rfl) : TL P C ops (o :: l) E Q := TL.goff t hg hj ht hb hne hd hu h
theorem TL.b {P : Program} {C : Ctx} {ops : Array Oper} {o : Oper} {l : List Oper} {E : Env} {Q : Env → Prop} {t : Nat} {op : BinOp} {tx ty : TypeId} {x y : Operand} {dx dy : D} (r : D) (hb : Bin op dx dy r) (h : TL P C ops l (E.set t (.one (.d r))) Q) (ho : o.op = .binOp op tx x y ty := by exact rfl) (hg : o.guard = none := by exact rfl) (hd : o.dst = some t := by exact rfl) (ht : t < C.n := by exact lt_ok rfl) (hx : E.ev x = .one (.d dx) := by exact rfl) (hy : E.ev y = .one (.d dy) := by exact rfl) : TL P C ops (o :: l) E Q := TL.cons hg (Step.bin ho hd ht hx hy hb) h
theorem LeTm.all {E : Env} : ∀ {tm : List (Nat × PV)}, tm.map (fun x => E.get x.1) = tm.map (·.2) → LeTm E tm
  | [], _ => trivial
  | (t, p) :: tm, h => by rw [List.map_cons, List.map_cons, List.cons.injEq] at h; exact ⟨h.1, LeTm.all h.2⟩
theorem LeRows.all {E : Env} : ∀ {rows : List (Nat × (TypeId × D))}, rows.map (fun x => E.row x.1) = rows.map (fun x => some x.2) → LeRows E rows
  | [], _ => trivial
  | (t, p) :: tm, h => by rw [List.map_cons, List.map_cons, List.cons.injEq] at h; exact ⟨h.1, LeRows.all h.2⟩
theorem LeBoxes.all {E : Env} : ∀ {boxes : List (Nat × (TypeId × List PC))}, boxes.map (fun x => E.box x.1) = boxes.map (fun x => some x.2) → LeBoxes E boxes
  | [], _ => trivial
  | (t, p) :: tm, h => by rw [List.map_cons, List.map_cons, List.cons.injEq] at h; exact ⟨h.1, LeBoxes.all h.2⟩
theorem Env.le_all {E : Env} {tm : List (Nat × PV)} {rows : List (Nat × (TypeId × D))} {boxes : List (Nat × (TypeId × List PC))} (h1 : tm.map (fun x => E.get x.1) = tm.map (·.2) := by kernel_rfl) (h2 : rows.map (fun x => E.row x.1) = rows.map (fun x => some x.2) := by kernel_rfl) (h3 : boxes.map (fun x => E.box x.1) = boxes.map (fun x => some x.2) := by kernel_rfl) : ({ tm := tm, rows := rows, boxes := boxes } : Env).le E := Env.le_mk (LeTm.all h1) (LeRows.all h2) (LeBoxes.all h3)
theorem T.wk {P : Program} {C : Ctx} {c : Code} {E : Env} {Q : Exit → Env → Prop} (tm : List (Nat × PV)) (rows : List (Nat × (TypeId × D))) (boxes : List (Nat × (TypeId × List PC))) (h : T P C c { tm := tm, rows := rows, boxes := boxes } Q) (h1 : tm.map (fun x => E.get x.1) = tm.map (·.2) := by kernel_rfl) (h2 : rows.map (fun x => E.row x.1) = rows.map (fun x => some x.2) := by kernel_rfl) (h3 : boxes.map (fun x => E.box x.1) = boxes.map (fun x => some x.2) := by kernel_rfl) : T P C c E Q := T.weaken (Env.le_all h1 h2 h3) h
theorem TL.wk {P : Program} {C : Ctx} {ops : Array Oper} {l : List Oper} {E : Env} {Q : Env → Prop} (tm : List (Nat × PV)) (rows : List (Nat × (TypeId × D))) (boxes : List (Nat × (TypeId × List PC))) (h : TL P C ops l { tm := tm, rows := rows, boxes := boxes } Q) (h1 : tm.map (fun x => E.get x.1) = tm.map (·.2) := by kernel_rfl) (h2 : rows.map (fun x => E.row x.1) = rows.map (fun x => some x.2) := by kernel_rfl) (h3 : boxes.map (fun x => E.box x.1) = boxes.map (fun x => some x.2) := by kernel_rfl) : TL P C ops l E Q := TL.weaken (Env.le_all h1 h2 h3) h
theorem T.ci {P : Program} {C : Ctx} {x : Operand} {c d : Code} {E : Env} {Q : Exit → Env → Prop} {p : Prop} [Decidable p] (hx : E.ev x = .one (.d (.bool (decide p)))) (h1 : p → T P C c E Q) (h2 : ¬p → T P C d E Q) : T P C (.cond x c d) E Q := T.cond hx (fun h => h1 (of_decide_eq_true h)) (fun h => h2 (of_decide_eq_false h))
theorem T.cni {P : Program} {C : Ctx} {x : Operand} {c d : Code} {E : Env} {Q : Exit → Env → Prop} {p : Prop} [Decidable p] (hx : E.ev x = .one (.d (.bool (!decide p)))) (h1 : ¬p → T P C c E Q) (h2 : p → T P C d E Q) : T P C (.cond x c d) E Q := T.cond hx (fun h => h1 (by simpa using h)) (fun h => h2 (by simpa using h))
theorem T.cn {P : Program} {C : Ctx} {x : Operand} {c d : Code} {E : Env} {Q : Exit → Env → Prop} {b : Bool} (hx : E.ev x = .one (.d (.bool (!b)))) (h1 : b = false → T P C c E Q) (h2 : b = true → T P C d E Q) : T P C (.cond x c d) E Q := T.cond hx (fun h => h1 (by simpa using h)) (fun h => h2 (by simpa using h))
theorem T.ct {P : Program} {C : Ctx} {x : Operand} {c d : Code} {E : Env} {Q : Exit → Env → Prop} (h1 : T P C c E Q) (hx : E.ev x = .one (.d (.bool true)) := by exact rfl) : T P C (.cond x c d) E Q := T.cond (b := true) hx (fun _ => h1) (fun h => by cases h)
theorem T.cf {P : Program} {C : Ctx} {x : Operand} {c d : Code} {E : Env} {Q : Exit → Env → Prop} (h1 : T P C d E Q) (hx : E.ev x = .one (.d (.bool false)) := by exact rfl) : T P C (.cond x c d) E Q := T.cond (b := false) hx (fun h => by cases h) (fun _ => h1)
theorem RetC.nn {E : Env} {T : TypeId} {x : D} {ps : List PC} {rcs : List RC} {ss : List Nat} (h0 : x.size = 0) (hc : RetC E ps rcs ss) (h : x.isSl = true := by exact rfl) (hw : x.wf := by first | exact trivial | exact D.wf_nil _) : RetC E (.nil :: ps) (.own T x :: rcs) ss := .nilown h h0 hw hc
theorem RetC.r {E : Env} {x y : D} {ps : List PC} {rcs : List RC} {ss : List Nat} (h : x = y) (hr : RetC E ps rcs ss) : RetC E (.d x :: ps) (.rd y :: rcs) ss := RetC.rd' h hr
theorem RetC.o {E : Env} {r : Nat} {T : TypeId} {d e : D} {ps : List PC} {rcs : List RC} {ss : List Nat} (h : d = e) (hc : RetC E ps rcs ss) (hr : E.row r = some (T, d) := by exact rfl) (hn : ss.contains r = false := by exact rfl) : RetC E (.row r [] :: ps) (.own T e :: rcs) (r :: ss) := RetC.own' hr h hn hc
theorem Step.sb {P : Program} {C : Ctx} {o : Oper} {E : Env} {T T' : TypeId} {x y : Operand} {b off : Nat} {p : PV} {ps qs : List PC} (n : Nat) (ps' : List PC) (ho : o.op = .store T x y := by exact rfl) (hd : o.dst = none := by exact rfl)
    (hT : (P.info? T).map (·.size) = some n := by kernel_rfl) (hx : E.ev x = .one (.ptr b off) := by exact rfl) (hb : E.box b = some (T', ps) := by exact rfl) (hy : E.ev y = p := by exact rfl) (hp : p.flat = some qs := by exact rfl) (hn : qs.length = n := by exact rfl) (hf : qs.all E.fine = true := by exact rfl) (hfit : off + n ≤ ps.length := by exact le_ok rfl)
    (hps : ps.take off ++ qs ++ ps.drop (off + n) = ps' := by exact rfl) : Step P C o E { E with boxes := (b, (T', ps')) :: E.boxes } := Step.store_box ho hd hT hx hb hy hp hn hf hfit hps
theorem Step.bx {P : Program} {C : Ctx} {o : Oper} {E : Env} {t : Nat} {T : TypeId} {x : Operand} {p : PV} (ps : List PC) (ho : o.op = .box T x := by exact rfl) (hd : o.dst = some t := by exact rfl) (ht : t < C.n := by exact lt_ok rfl)
    (hx : E.ev x = p := by exact rfl) (hp : p.flat = some ps := by exact rfl) (hf : ps.all E.fine = true := by exact rfl) (hb : E.nobox t = true := by exact rfl) (hnp : ps.all (fun c => !c.isBox t) = true := by exact rfl) :
    Step P C o E ({ E with boxes := (t, (T, ps)) :: E.boxes }.set t (.one (.ptr t 0))) := Step.box ho hd ht hx hp hf hb hnp
theorem Step.lb {P : Program} {C : Ctx} {o : Oper} {E : Env} {t : Nat} {T T' : TypeId} {x : Operand} {b off : Nat} {ps : List PC} (c : PC) (ho : o.op = .load T x := by exact rfl) (hd : o.dst = some t := by exact rfl) (ht : t < C.n := by exact lt_ok rfl)
    (hT : isOne P T = true := by kernel_rfl) (hx : E.ev x = .one (.ptr b off) := by exact rfl) (hb : E.box b = some (T', ps) := by exact rfl) (hc : ps[off]? = some c := by exact rfl) : Step P C o E (E.set t (.one c)) := Step.load_box ho hd ht hT hx hb hc
theorem Step.fd {P : Program} {C : Ctx} {o : Oper} {E : Env} {t T f b q : Nat} {x : Operand} (off n : Nat) (one : Bool) (ho : o.op = .fieldAddr T x f := by exact rfl) (hd : o.dst = some t := by exact rfl) (ht : t < C.n := by exact lt_ok rfl)
    (hf : isField P T f off n one = true := by kernel_rfl) (hn : n ≠ 0 := by exact Nat.succ_ne_zero _) (hx : E.ev x = .one (.ptr b q) := by exact rfl) : Step P C o E (E.set t (.one (.ptr b (q + off)))) := Step.fieldAddr ho hd ht hf hn hx
end Go.Proofs.Ytmdojlglemnijaa.Rf
