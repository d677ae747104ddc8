/- A logic of our own over the kit's 'wp': operations that change rows and variables, as a drawn region wants them. Plain definitions and theorems. -/
import Derived.Test.YtmdojlglemnijaaRf25
namespace Go.Proofs.Ytmdojlglemnijaa.Rf
open Go.RowKit
set_option linter.unusedVariables false
set_option linter.unnecessarySimpa false
set_option linter.unusedSimpArgs false
/-- What a cell may be told anew: the same, nothing, or a row that is no more. -/
def CRel (E2 : Env) (c2 c1 : PC) : Prop := c2 = .und ∨ c2 = c1 ∨ ∃ r, c2.ment r = true ∧ E2.row r = none
def PRel (E2 : Env) : PV → PV → Prop
  | .one c2, .one c1 => CRel E2 c2 c1
  | .agg cs2, .agg cs1 => All2 (CRel E2) cs2 cs1
  | .tup vs2, .tup vs1 => All2 (fun x y => x.1 = y.1 ∧ All2 (CRel E2) x.2 y.2) vs2 vs1
  | _, _ => False
theorem CRel.ok {M : Maps} {E1 E2 : Env} {w : World} (hrow : ∀ r x, E2.row r = some x → E1.row r = some x) {v : Value} {c2 c1 : PC} (hr : CRel E2 c2 c1) (h : COk M E1 w v c1) : COk M E2 w v c2 := by
  rcases hr with rfl | rfl | ⟨r, h1, h2⟩
  · trivial
  · cases c2 with
    | row r p => exact fun T d hT => h T d (hrow r _ hT)
    | rptr r p i j => exact fun T d hT => h T d (hrow r _ hT)
    | _ => exact h
  · cases c2 with
    | row x p => simp only [PC.ment, beq_iff_eq] at h1; subst h1; intro T d hT; rw [h2] at hT; cases hT
    | rptr x p i j => simp only [PC.ment, beq_iff_eq] at h1; subst h1; intro T d hT; rw [h2] at hT; cases hT
    | _ => simp [PC.ment] at h1
theorem all_crel {M : Maps} {E1 E2 : Env} {w : World} (hrow : ∀ r x, E2.row r = some x → E1.row r = some x) {ps2 ps1 : List PC} (hr : All2 (CRel E2) ps2 ps1) : ∀ {vs : List Value}, All2 (COk M E1 w) vs ps1 → All2 (COk M E2 w) vs ps2 := by
  induction hr with
  | nil => intro vs h; cases h; exact .nil
  | cons h1 _ ih => intro vs h; cases h with | cons k1 k2 => exact .cons (h1.ok hrow k1) (ih k2)
theorem RelM.undead {C : Ctx} {M : Maps} {E1 E2 : Env} {a : Act} {w : World} (R : RelM C M E1 a w) (hget : ∀ t, PRel E2 (E2.get t) (E1.get t)) (hrow : ∀ r x, E2.row r = some x → E1.row r = some x)
    (hbox : ∀ b T ps2, E2.box b = some (T, ps2) → ∃ ps1, E1.box b = some (T, ps1) ∧ All2 (CRel E2) ps2 ps1) : RelM C M E2 a w := by
  refine { R with tm := fun t => ?_, rows := fun r T d hr => R.rows r T d (hrow r _ hr), boxes := ?_, pin := fun r v hp T d hr => R.pin r v hp T d (hrow r _ hr), bpin := fun b v hp hn T ps hb => by obtain ⟨ps1, h1, _⟩ := hbox b T ps hb; exact R.bpin b v hp hn T ps1 h1 }
  · have h := R.tm t
    have hr := hget t
    generalize E2.get t = p2 at hr ⊢
    generalize E1.get t = p1 at h hr
    cases p2 with
    | one c2 =>
      cases p1 with
      | one c1 => exact CRel.ok hrow hr h
      | agg _ => exact hr.elim
      | tup _ => exact hr.elim
    | agg cs2 =>
      cases p1 with
      | one _ => exact hr.elim
      | agg cs1 => obtain ⟨arr, e, h⟩ := h; exact ⟨arr, e, all_crel hrow hr h⟩
      | tup _ => exact hr.elim
    | tup vs2 =>
      cases p1 with
      | one _ => exact hr.elim
      | agg _ => exact hr.elim
      | tup vs1 =>
        obtain ⟨arr, e, h⟩ := h
        refine ⟨arr, e, ?_⟩
        clear e
        generalize arr.toList = l at h
        have hr' : All2 (fun x y => x.1 = y.1 ∧ All2 (CRel E2) x.2 y.2) vs2 vs1 := hr
        clear hr
        induction hr' generalizing l with
        | nil => cases h; exact .nil
        | @cons x y vs2 vs1 h1 _ ih =>
          cases h with
          | @cons v _ l _ k1 k2 =>
            refine .cons ?_ (ih _ k2)
            obtain ⟨b2, cs2⟩ := x
            obtain ⟨b1, cs1⟩ := y
            obtain ⟨e1, h1⟩ := h1
            dsimp only at e1 h1
            subst e1
            cases b2 with
            | true => obtain ⟨arr', e', h'⟩ := k1; exact ⟨arr', e', all_crel hrow h1 h'⟩
            | false =>
              cases h1 with
              | nil => exact k1
              | @cons c2 c1 l2 l1 q1 q2 =>
                cases q2 with
                | nil => exact CRel.ok hrow q1 k1
                | cons _ _ => exact k1.elim
  · intro b T ps2 hb
    obtain ⟨ps1, h1, h2⟩ := hbox b T ps2 hb
    obtain ⟨k1, cs, k2, k3⟩ := R.boxes b T ps1 h1
    exact ⟨k1, cs, k2, all_crel hrow h2 k3⟩
theorem prel_mapc {E2 : Env} {h : PC → PC} (hh : ∀ c, CRel E2 c (h c)) (p : PV) : PRel E2 p (p.mapc h) := by
  have hl : ∀ cs : List PC, All2 (CRel E2) cs (cs.map h) := fun cs => by
    induction cs with
    | nil => exact .nil
    | cons c cs ih => exact .cons (hh c) ih
  cases p with
  | one c => exact hh c
  | agg cs => exact hl cs
  | tup vs =>
    show All2 _ vs (vs.map _)
    induction vs with
    | nil => exact .nil
    | cons y vs ih => exact .cons ⟨rfl, hl y.2⟩ ih
theorem prel_refl {E2 : Env} (p : PV) : PRel E2 p p := by
  have hl : ∀ cs : List PC, All2 (CRel E2) cs cs := fun cs => All2.refl (fun c => .inr (.inl rfl)) cs
  cases p with
  | one c => exact .inr (.inl rfl)
  | agg cs => exact hl cs
  | tup vs => exact All2.refl (fun y => ⟨rfl, hl y.2⟩) vs
theorem PV.mapc_mapc (f g : PC → PC) (p : PV) : (p.mapc f).mapc g = p.mapc (fun c => g (f c)) := by
  cases p <;> simp [PV.mapc, List.map_map, Function.comp_def]
theorem drops_g (ss : List Nat) : ∀ E : Env, ∃ g : PC → PC, g .und = .und ∧ (∀ c, g c = c ∨ ∃ s ∈ ss, c.ment s = true) ∧ (∀ u, (E.drops ss).get u = (E.get u).mapc g) ∧ (∀ b, (E.drops ss).box b = (E.box b).map fun x => (x.1, x.2.map g)) := by
  induction ss with
  | nil =>
    intro E
    refine ⟨id, rfl, fun c => .inl rfl, fun u => ?_, fun b => ?_⟩
    · show E.get u = _
      cases E.get u <;> simp [PV.mapc]
    · show E.box b = _
      cases E.box b <;> simp
  | cons s ss ih =>
    intro E
    obtain ⟨g, g0, g1, g2, g3⟩ := ih (E.drop s)
    have hu : PC.kill s .und = .und := by rcases PC.kill_ok s .und with h | ⟨h, _⟩ <;> exact h
    refine ⟨fun c => g (c.kill s), by show g (PC.kill s .und) = .und; rw [hu]; exact g0, fun c => ?_, fun u => ?_, fun b => ?_⟩
    · by_cases hm : c.ment s = true
      · exact .inr ⟨s, by simp, hm⟩
      · have : c.kill s = c := by simp [PC.kill, hm]
        show g (c.kill s) = c ∨ _
        rw [this]
        rcases g1 c with h | ⟨x, hx, h⟩
        · exact .inl h
        · exact .inr ⟨x, by simp [hx], h⟩
    · show ((E.drop s).drops ss).get u = _
      rw [g2]
      have : (E.drop s).get u = (E.get u).mapc (PC.kill s) := Env.get_mapc E (PC.kill s) hu u
      rw [this, PV.mapc_mapc]
    · show ((E.drop s).drops ss).box b = _
      rw [g3]
      have : (E.drop s).box b = (E.box b).map fun x => (x.1, x.2.map (PC.kill s)) := Env.box_mapc E (PC.kill s) b
      rw [this]
      cases E.box b <;> simp [List.map_map, Function.comp_def]
theorem Step.post {P : Program} {C : Ctx} {o : Oper} {E E1 E2 : Env} (h : Step P C o E E1) (hr : ∀ a w, Rel C E1 a w → Rel C E2 a w) : Step P C o E E2 := fun a w R K Q hK => h a w R K Q fun a' w' R' => hK a' w' (hr a' w' R')
theorem ren_id {c : PC} {r s : Nat} (h : c.ment r = false) : c.ren r s = c := by
  cases c with
  | row x p => simp only [PC.ment, beq_eq_false_iff_ne] at h; simp only [PC.ren]; rw [if_neg (fun e => h e.symm)]
  | rptr x p i j => simp only [PC.ment, beq_eq_false_iff_ne] at h; simp only [PC.ren]; rw [if_neg (fun e => h e.symm)]
  | _ => rfl
theorem Env.get_ren (E : Env) (r s t : Nat) : (E.ren r s).get t = (E.get t).mapc (PC.ren r s) := Env.get_mapc E (PC.ren r s) rfl t
theorem Env.box_mapc' {f : PC → PC} {E : Env} {r s : Nat} {b : Nat} (hf : f = PC.ren r s := by rfl) : (E.ren r s).box b = (E.box b).map fun x => (x.1, x.2.map f) := by subst hf; exact Env.box_mapc E (PC.ren r s) b
theorem Env.row_ren {E : Env} {r s x : Nat} (hs : lk E.rows s = none) : (E.ren r s).row x = if x = s then E.row r else if x = r then none else E.row x := by
  have key : ∀ l : List (Nat × (TypeId × D)), lk l s = none → lk (l.map fun x => (if x.1 = r then s else x.1, x.2)) x = if x = s then lk l r else if x = r then none else lk l x := by
    intro l
    induction l with
    | nil => intro _; simp [lk]
    | cons y l ih =>
      intro h0
      obtain ⟨k, v⟩ := y
      simp only [lk] at h0
      split at h0
      · cases h0
      · rename_i hk
        have ih := ih h0
        simp only [List.map_cons, lk]
        by_cases e : k = r
        · subst e
          rw [if_pos rfl]
          by_cases e2 : s = x
          · subst e2; simp
          · have e2' : ¬ x = s := fun h => e2 h.symm
            rw [if_neg e2, ih, if_neg e2', if_neg e2']
            by_cases e3 : x = k
            · rw [if_pos e3, if_pos e3]
            · rw [if_neg e3, if_neg e3, if_neg (fun h : k = x => e3 h.symm)]
        · rw [if_neg e]
          by_cases e2 : k = x
          · subst e2
            rw [if_pos rfl, if_neg hk, if_neg e, if_pos rfl]
          · rw [if_neg e2, ih]
            by_cases e3 : x = s
            · rw [if_pos e3, if_pos e3, if_neg e]
            · rw [if_neg e3, if_neg e3]
              split
              · rfl
              · rfl
  exact key E.rows hs
theorem drops_noref {E : Env} {s : Nat} : ∀ (ss : List Nat) (E : Env), E.noref' s = true → (E.drops ss).noref' s = true := by
  intro ss
  induction ss with
  | nil => intro E h; exact h
  | cons x ss ih =>
    intro E h
    refine ih (E.drop x) ?_
    simp only [Env.noref', Bool.and_eq_true, List.all_eq_true, Option.isNone_iff_eq_none] at h ⊢
    obtain ⟨⟨h1, h2⟩, h3⟩ := h
    have hk : ∀ c : PC, c.ment s = false → (c.kill x).ment s = false := fun c hc => by unfold PC.kill; split; rfl; exact hc
    refine ⟨⟨fun y hy c hc => ?_, fun y hy c hc => ?_⟩, ?_⟩
    · obtain ⟨z, hz, rfl⟩ := List.mem_map.1 hy
      have : ∀ c' ∈ z.2.cells, c'.ment s = false := fun c' hc' => by simpa using h1 z hz c' hc'
      obtain ⟨t, p⟩ := z
      simp only at hc this
      cases p with
      | one c0 =>
        simp only [PV.mapc, PV.cells, List.mem_singleton] at hc
        subst hc
        simpa using hk c0 (this c0 (by simp [PV.cells]))
      | agg cs =>
        simp only [PV.mapc, PV.cells, List.mem_map] at hc
        obtain ⟨c0, hc0, rfl⟩ := hc
        simpa using hk c0 (this c0 (by simpa [PV.cells] using hc0))
      | tup vs =>
        simp only [PV.mapc, PV.cells, List.mem_flatMap, List.mem_map] at hc
        obtain ⟨_, ⟨q, hq, rfl⟩, hc⟩ := hc
        obtain ⟨c0, hc0, rfl⟩ := List.mem_map.1 hc
        simpa using hk c0 (this c0 (by simp only [PV.cells, List.mem_flatMap]; exact ⟨q, hq, hc0⟩))
    · obtain ⟨z, hz, rfl⟩ := List.mem_map.1 hy
      obtain ⟨c0, hc0, rfl⟩ := List.mem_map.1 hc
      have := h2 z hz c0 hc0
      simp only [Bool.not_eq_true'] at this ⊢
      exact hk c0 this
    · show lk (E.rows.filter _) s = none
      rw [lk_filter]
      split
      · rfl
      · exact h3
theorem contains_iff {r : Nat} {D : List Nat} : D.contains r = true ↔ r ∈ D := by simp
/-- An append, in a drawn region. -/
theorem Step.appendX {P : Program} {C : Ctx} {o : Oper} {E : Env} {t : Nat} {T e z by_ : Nat} {x y : Operand} {r : Nat} {d dy d' : D} {c : PC} {ss : List Nat} (r2 : Nat) (ho : o.op = .call { callee := .builtin .append, args := #[x, y], argTypes := #[T, T] }) (hd : o.dst = some t) (ht : t < C.n)
    (hT : isElem P T e z by_ = true) (hx : E.ev x = .one (.row r [])) (hr : E.row r = some (e, d)) (hz : d.z = z) (hz0 : 0 < z) (hy : E.ev y = .one c) (hs : AppSrc E c dy ss) (hrs : r ∉ ss)
    (hap : d.app dy = some d') (h63 : (d.size + dy.size) * by_ ≤ 140737488355328) (h64 : d.size + dy.size ≤ 9223372036854775807) (hpin : ∀ x ∈ C.pin, x.1 ≠ r) (hf : E.noref' r2 = true) (hne : r ≠ r2) (hpin2 : ∀ x ∈ C.pin, x.1 ≠ r2) :
    Step P C o E (({ dst := some t, pv := .one (.row r2 []), rows := [(r2, (e, d'))], dead := r :: ss } : EffX).app E) :=
  (Step.append ho hd ht hT hx hr hz hz0 hy hs hrs hap h63 h64 hpin).post fun a w ⟨M, R⟩ => by
    have hss : ∀ q ∈ ss, (E.row q).isSome = true := fun q hq => by
      cases hs with
      | froz h1 h2 => cases hq
      | nil h1 h2 h3 => cases hq
      | move h => simp only [List.mem_singleton] at hq; subst hq; rw [h]; rfl
      | copy _ _ _ _ => cases hq
    generalize hA : ({ (E.drops ss).mapc (PC.kill r) with rows := (r, (e, d')) :: (E.drops ss).rows } : Env) = A at R
    obtain ⟨g, g0, g1, g2, g3⟩ := drops_g ss E
    have hku : PC.kill r .und = .und := by rcases PC.kill_ok r .und with h | ⟨h, _⟩ <;> exact h
    have hAget : ∀ u, A.get u = (E.get u).mapc (fun c => (g c).kill r) := fun u => by
      have : A.get u = ((E.drops ss).get u).mapc (PC.kill r) := by subst hA; exact Env.get_mapc (E.drops ss) (PC.kill r) hku u
      rw [this, g2, PV.mapc_mapc]
    have hAbox : ∀ b, A.box b = (E.box b).map fun x => (x.1, x.2.map (fun c => (g c).kill r)) := fun b => by
      have : A.box b = ((E.drops ss).box b).map fun x => (x.1, x.2.map (PC.kill r)) := by subst hA; exact Env.box_mapc (E.drops ss) (PC.kill r) b
      rw [this, g3]
      cases E.box b <;> simp [List.map_map, Function.comp_def]
    have hArow : ∀ x, A.row x = if r = x then some (e, d') else if x ∈ ss then none else E.row x := fun x => by
      subst hA
      show lk ((r, (e, d')) :: (E.drops ss).rows) x = _
      simp only [lk]
      split
      · rfl
      · exact Env.drops_row ss E x
    have hnoA : (A.set t (.one (.row r []))).noref' r2 = true := by
      have h0 := drops_noref (E := E) ss E hf
      have h1 : ({ (E.drops ss).mapc (PC.kill r) with rows := (E.drops ss).rows } : Env).noref' r2 = true := by
        simp only [Env.noref', Bool.and_eq_true, List.all_eq_true, Option.isNone_iff_eq_none] at h0 ⊢
        obtain ⟨⟨h1, h2⟩, h3⟩ := h0
        have hk : ∀ c : PC, c.ment r2 = false → (c.kill r).ment r2 = false := fun c hc => by unfold PC.kill; split; rfl; exact hc
        refine ⟨⟨fun y hy c hc => ?_, fun y hy c hc => ?_⟩, h3⟩
        · obtain ⟨z, hz, rfl⟩ := List.mem_map.1 hy
          have : ∀ c' ∈ z.2.cells, c'.ment r2 = false := fun c' hc' => by simpa using h1 z hz c' hc'
          obtain ⟨t, p⟩ := z
          simp only at hc this
          cases p with
          | one c0 =>
            simp only [PV.mapc, PV.cells, List.mem_singleton] at hc
            subst hc
            simpa using hk c0 (this c0 (by simp [PV.cells]))
          | agg cs =>
            simp only [PV.mapc, PV.cells, List.mem_map] at hc
            obtain ⟨c0, hc0, rfl⟩ := hc
            simpa using hk c0 (this c0 (by simpa [PV.cells] using hc0))
          | tup vs =>
            simp only [PV.mapc, PV.cells, List.mem_flatMap, List.mem_map] at hc
            obtain ⟨_, ⟨q, hq, rfl⟩, hc⟩ := hc
            obtain ⟨c0, hc0, rfl⟩ := List.mem_map.1 hc
            simpa using hk c0 (this c0 (by simp only [PV.cells, List.mem_flatMap]; exact ⟨q, hq, hc0⟩))
        · obtain ⟨z, hz, rfl⟩ := List.mem_map.1 hy
          obtain ⟨c0, hc0, rfl⟩ := List.mem_map.1 hc
          have := h2 z hz c0 hc0
          simp only [Bool.not_eq_true'] at this ⊢
          exact hk c0 this
      simp only [Env.noref', Bool.and_eq_true, List.all_eq_true, Option.isNone_iff_eq_none] at h1 ⊢
      obtain ⟨⟨h1, h2⟩, h3⟩ := h1
      subst hA
      refine ⟨⟨fun y hy c hc => ?_, h2⟩, ?_⟩
      · rcases List.mem_cons.1 hy with rfl | hy
        · simp only [PV.cells, List.mem_singleton] at hc
          subst hc
          simp only [PC.ment, Bool.not_eq_true', beq_eq_false_iff_ne]
          exact fun e => hne e.symm
        · exact h1 y hy c hc
      · show lk ((r, (e, d')) :: (E.drops ss).rows) r2 = none
        simp only [lk]
        rw [if_neg hne]; exact h3
    obtain ⟨M2, R2⟩ := R.ren (r := r) (s := r2) hnoA hpin2
    have hE2row : ∀ x, (({ dst := some t, pv := .one (.row r2 []), rows := [(r2, (e, d'))], dead := r :: ss } : EffX).app E).row x = if r2 = x then some (e, d') else if x ∈ r :: ss then none else E.row x := fun x => by
      rw [app_row]
      simp only [lk]
      split
      · rfl
      · simp only [Option.none_or]
        by_cases hx : x ∈ r :: ss
        · rw [if_pos hx, if_pos (contains_iff.2 hx)]
        · rw [if_neg hx, if_neg (fun h => hx (contains_iff.1 h))]
    have hcrel : ∀ c, CRel (({ dst := some t, pv := .one (.row r2 []), rows := [(r2, (e, d'))], dead := r :: ss } : EffX).app E) c (((g c).kill r).ren r r2) := fun c => by
      have hdead : ∀ s, s ∈ r :: ss → c.ment s = true → c.ment r2 = false → CRel (({ dst := some t, pv := .one (.row r2 []), rows := [(r2, (e, d'))], dead := r :: ss } : EffX).app E) c (((g c).kill r).ren r r2) := fun s hs hm hm2 => by
        refine .inr (.inr ⟨s, hm, ?_⟩)
        rw [hE2row, if_neg (fun e => by subst e; rw [hm] at hm2; cases hm2), if_pos hs]
      by_cases hm2 : c.ment r2 = true
      · -- a cell that goes into the new row: there is none, the same is told
        by_cases hm : c.ment r = true
        · cases c <;> simp_all [PC.ment]
        · have h1 : g c = c ∨ ∃ s ∈ ss, c.ment s = true := g1 c
          rcases h1 with h1 | ⟨s, hs, h1⟩
          · right; left
            rw [h1, show c.kill r = c from by simp [PC.kill, hm], ren_id (by simpa using hm)]
          · -- then s = r2, which no row of E has
            have : s = r2 := by cases c <;> simp_all [PC.ment]
            subst this
            right; right
            refine ⟨s, h1, ?_⟩
            exfalso
            have hnone : E.row s = none := by
              simp only [Env.noref', Bool.and_eq_true, Option.isNone_iff_eq_none] at hf
              exact hf.2
            have := hss s hs
            rw [hnone] at this
            cases this
      · have hm2' : c.ment r2 = false := by simpa using hm2
        by_cases hm : c.ment r = true
        · exact hdead r (by simp) hm hm2'
        · rcases g1 c with h1 | ⟨s, hs, h1⟩
          · right; left
            rw [h1, show c.kill r = c from by simp [PC.kill, hm], ren_id (by simpa using hm)]
          · exact hdead s (by simp [hs]) h1 hm2'
    refine ⟨M2, R2.undead (fun u => ?_) (fun x y hxy => ?_) (fun b T' ps2 hb => ?_)⟩
    · rw [app_get, Env.get_ren, Env.get_set]
      by_cases hu : t = u
      · subst hu
        rw [if_pos rfl, if_pos rfl]
        simp only [PV.mapc, PC.ren, if_pos]
        exact .inr (.inl rfl)
      · rw [if_neg (by simpa using hu), if_neg hu, hAget, PV.mapc_mapc]
        exact prel_mapc hcrel _
    · rw [hE2row] at hxy
      have hlkn : lk (A.set t (.one (.row r []))).rows r2 = none := by
        simp only [Env.noref', Bool.and_eq_true, Option.isNone_iff_eq_none] at hnoA
        exact hnoA.2
      rw [Env.row_ren hlkn]
      have hAr : ∀ x, (A.set t (.one (.row r []))).row x = A.row x := fun x => rfl
      by_cases e2 : r2 = x
      · rw [if_pos e2] at hxy
        rw [if_pos e2.symm, hAr, hArow, if_pos rfl]; exact hxy
      · rw [if_neg e2] at hxy
        split at hxy
        · cases hxy
        · rename_i hn
          simp only [List.mem_cons, not_or] at hn
          rw [if_neg (fun e => e2 e.symm), if_neg hn.1, hAr, hArow, if_neg (fun e => hn.1 e.symm), if_neg hn.2]
          exact hxy
    · rw [app_box] at hb
      simp only [Option.none_or] at hb
      refine ⟨_, by rw [Env.box_mapc' (f := PC.ren r r2)]; show ((A.box b).map _) = _; rw [hAbox, hb]; rfl, ?_⟩
      rw [List.map_map]
      clear hb
      induction ps2 with
      | nil => exact .nil
      | cons c cs ih => exact .cons (hcrel c) ih
/-- A literal of own cells, in a drawn region. -/
theorem Step.litX {P : Program} {C : Ctx} {o : Oper} {E : Env} {t n : Nat} {T e z by_ : Nat} {parts : Array (Nat × Operand)} {xs : List Operand} {pss : List (List PC)} {es : List D} {ss : List Nat} {d : D} (ho : o.op = .buildSlice T n parts) (hd : o.dst = some t) (ht : t < C.n)
    (hT : isElem P T e z by_ = true) (hp : parts.toList = xs.zipIdx.map fun x => (x.2, x.1)) (hn : xs.length = n) (hfl : Flats E xs pss) (hz : ∀ ps ∈ pss, ps.length = z) (hb : n * z ≤ 16777216) (hn63 : n ≤ 9223372036854775807) (hf : pss.flatten.all E.fine = true) (hm : Moved E pss.flatten es ss)
    (hr : E.noref' t = true) (hts : t ∉ ss) (hpin : ∀ x ∈ C.pin, x.1 ≠ t) (hs : d.isSl = true) (hw : d.wf) (hsz : d.size = n) (hde : d.flat = es) :
    Step P C o E (({ dst := some t, pv := .one (.row t []), rows := [(t, (e, d))], dead := ss } : EffX).app E) :=
  (Step.lit ho hd ht hT hp hn hfl hz hb hn63 hf hm (drops_noref (E := E) ss E hr) hts hpin hs hw hsz hde).post fun a w ⟨M, R⟩ => by
    obtain ⟨g, g0, g1, g2, g3⟩ := drops_g ss E
    have hE2row : ∀ x, (({ dst := some t, pv := .one (.row t []), rows := [(t, (e, d))], dead := ss } : EffX).app E).row x = if t = x then some (e, d) else if x ∈ ss then none else E.row x := fun x => by
      rw [app_row]
      simp only [lk]
      split
      · rfl
      · simp only [Option.none_or]
        by_cases hx : x ∈ ss
        · rw [if_pos hx, if_pos (contains_iff.2 hx)]
        · rw [if_neg hx, if_neg (fun h => hx (contains_iff.1 h))]
    have hcrel : ∀ c, CRel (({ dst := some t, pv := .one (.row t []), rows := [(t, (e, d))], dead := ss } : EffX).app E) c (g c) := fun c => by
      rcases g1 c with h | ⟨s, hs, h⟩
      · exact .inr (.inl h.symm)
      · refine .inr (.inr ⟨s, h, ?_⟩)
        rw [hE2row, if_neg (fun q : t = s => hts (q ▸ hs)), if_pos hs]
    refine ⟨M, R.undead (fun u => ?_) (fun x y hxy => ?_) (fun b T' ps2 hb => ?_)⟩
    · rw [app_get, Env.get_set]
      by_cases hu : t = u
      · subst hu
        rw [if_pos rfl, if_pos rfl]
        exact .inr (.inl rfl)
      · rw [if_neg (by simpa using hu), if_neg hu]
        have : ({ E.drops ss with rows := (t, (e, d)) :: (E.drops ss).rows } : Env).get u = (E.drops ss).get u := rfl
        rw [this, g2]
        exact prel_mapc hcrel _
    · rw [hE2row] at hxy
      show lk ((t, (e, d)) :: (E.drops ss).rows) x = some y
      simp only [lk]
      by_cases e2 : t = x
      · rw [if_pos e2] at hxy ⊢; exact hxy
      · rw [if_neg e2] at hxy ⊢
        split at hxy
        · cases hxy
        · rename_i hn
          have := Env.drops_row ss E x
          rw [if_neg hn] at this
          exact this.trans hxy
    · rw [app_box] at hb
      simp only [Option.none_or] at hb
      refine ⟨_, by show (E.drops ss).box b = _; rw [g3, hb]; rfl, ?_⟩
      clear hb
      induction ps2 with
      | nil => exact .nil
      | cons c cs ih => exact .cons (hcrel c) ih
def rowsOf (t : Nat) : Nat → List RC → List (Nat × (TypeId × D))
  | _, [] => []
  | j, .rd _ :: rcs => rowsOf t (j + 1) rcs
  | j, .own T d :: rcs => rowsOf t (j + 1) rcs ++ [(rid t j, (T, d))]
theorem addRows_rows (t : Nat) : ∀ (rcs : List RC) (j : Nat) (E : Env), (E.addRows t j rcs).rows = rowsOf t j rcs ++ E.rows ∧ (E.addRows t j rcs).tm = E.tm ∧ (E.addRows t j rcs).boxes = E.boxes
  | [], _, _ => ⟨rfl, rfl, rfl⟩
  | .rd _ :: rcs, j, E => addRows_rows t rcs (j + 1) E
  | .own T d :: rcs, j, E => by
    obtain ⟨h1, h2, h3⟩ := addRows_rows t rcs (j + 1) { E with rows := (rid t j, (T, d)) :: E.rows }
    refine ⟨?_, h2, h3⟩
    show (Env.addRows _ t (j + 1) rcs).rows = _
    rw [h1]; simp [rowsOf]
theorem rowsOf_ge (t : Nat) : ∀ (rcs : List RC) (j : Nat), ∀ x ∈ rowsOf t j rcs, ∃ i, j ≤ i ∧ x.1 = rid t i
  | [], _, x, h => by cases h
  | .rd _ :: rcs, j, x, h => by obtain ⟨i, h1, h2⟩ := rowsOf_ge t rcs (j + 1) x h; exact ⟨i, by omega, h2⟩
  | .own T d :: rcs, j, x, h => by
    rcases List.mem_append.1 h with h | h
    · obtain ⟨i, h1, h2⟩ := rowsOf_ge t rcs (j + 1) x h; exact ⟨i, by omega, h2⟩
    · rw [List.mem_singleton.1 h]; exact ⟨j, Nat.le_refl _, rfl⟩
/-- A call of a function that is handed a pointer, in a drawn region. -/
theorem Step.callXX {P : Program} {C : Ctx} {o : Oper} {E : Env} {t f b : Nat} {T : TypeId} {ats : Array TypeId} {g : Operand} {xs : List Operand} {ps : List PV} {args : List XA} {bps : List PC} {cs cs' : List RC} {res : Res} {ss : List Nat} (ho : o.op = .call { callee := .value g, args := xs.toArray, argTypes := ats }) (hd : o.dst = some t) (ht : t < C.n)
    (hg : E.ev g = .one (.d (.fn f))) (hfn : isFn P f = true) (hev : xs.map E.ev = ps) (hargs : All2 (XArg E b) ps args) (hb : E.box b = some (T, bps)) (hcs : XCells E bps cs ss) (hbxc : BX P f args T cs cs' res) (hn : cs'.length = bps.length)
    (hfr : (E.handX b T bps.length ss).freshRows t 0 (cs' ++ res.flatMap (·.2)) = true) (hpin : ∀ x ∈ C.pin, x.1 < 1000) (hsh : res.all (fun x => x.1 || x.2.length == 1) = true) (hss : ∀ s ∈ ss, ∀ x ∈ rowsOf t 0 (cs' ++ res.flatMap (·.2)), x.1 ≠ s) :
    Step P C o E (({ dst := some t, pv := .ofRes (respvs t cs'.length res), rows := rowsOf t 0 (cs' ++ res.flatMap (·.2)), dead := ss, box := some (b, (T, pcs t 0 cs')) } : EffX).app E) :=
  (Step.callX ho hd ht hg hfn hev hargs hb hcs hbxc hn hfr hpin hsh).post fun a w ⟨M, R⟩ => by
    obtain ⟨g', g0, g1, g2, g3⟩ := drops_g ss E
    obtain ⟨k1, k2, k3⟩ := addRows_rows t (cs' ++ res.flatMap (·.2)) 0 (E.handX b T bps.length ss)
    generalize hA : (E.handX b T bps.length ss).addRows t 0 (cs' ++ res.flatMap (·.2)) = A at R k1 k2 k3
    generalize hrows : rowsOf t 0 (cs' ++ res.flatMap (·.2)) = rws at k1 hss ⊢
    have hE2row : ∀ x, (({ dst := some t, pv := .ofRes (respvs t cs'.length res), rows := rws, dead := ss, box := some (b, (T, pcs t 0 cs')) } : EffX).app E).row x = (lk rws x).or (if x ∈ ss then none else E.row x) := fun x => by
      rw [app_row]
      congr 1
      by_cases hx : x ∈ ss
      · rw [if_pos hx, if_pos (contains_iff.2 hx)]
      · rw [if_neg hx, if_neg (fun h => hx (contains_iff.1 h))]
    have hcrel : ∀ c, CRel (({ dst := some t, pv := .ofRes (respvs t cs'.length res), rows := rws, dead := ss, box := some (b, (T, pcs t 0 cs')) } : EffX).app E) c (g' c) := fun c => by
      rcases g1 c with h | ⟨s, hs, h⟩
      · exact .inr (.inl h.symm)
      · refine .inr (.inr ⟨s, h, ?_⟩)
        rw [hE2row, lk_none (hss s hs), Option.none_or, if_pos hs]
    refine ⟨M, R.undead (fun u => ?_) (fun x y hxy => ?_) (fun b' T' ps2 hb' => ?_)⟩
    · rw [app_get, Env.get_set]
      by_cases hu : t = u
      · subst hu
        rw [if_pos rfl, if_pos rfl]
        exact prel_refl _
      · rw [if_neg (by simpa using hu), if_neg hu]
        have : ({ A with boxes := (b, (T, pcs t 0 cs')) :: A.boxes } : Env).get u = (E.drops ss).get u := by
          show (lk A.tm u).getD _ = _
          rw [k2]; rfl
        rw [this, g2]
        exact prel_mapc hcrel _
    · rw [hE2row] at hxy
      show lk A.rows x = some y
      rw [k1, lk_append]
      have hdr : lk (E.handX b T bps.length ss).rows x = if x ∈ ss then none else E.row x := Env.drops_row ss E x
      rw [hdr]; exact hxy
    · rw [app_box] at hb'
      show ∃ ps1, lk ((b, (T, pcs t 0 cs')) :: A.boxes) b' = _ ∧ _
      simp only [lk]
      by_cases e : b = b'
      · subst e
        simp only [if_pos, Option.some_or, Option.some.injEq, Prod.mk.injEq] at hb'
        obtain ⟨rfl, rfl⟩ := hb'
        exact ⟨_, by rw [if_pos rfl], All2.refl (fun c => .inr (.inl rfl)) _⟩
      · simp only [if_neg e, Option.none_or] at hb'
        rw [if_neg e, k3]
        have : lk (E.handX b T bps.length ss).boxes b' = (E.drops ss).box b' := by
          show lk ((b, _) :: (E.drops ss).boxes) b' = _
          simp only [lk]
          rw [if_neg e]; rfl
        rw [this, g3, hb']
        refine ⟨_, rfl, ?_⟩
        clear hb'
        induction ps2 with
        | nil => exact .nil
        | cons c cs ih => exact .cons (hcrel c) ih
theorem freshRows_of {E : Env} {t : Nat} : ∀ (rcs : List RC) (j : Nat), (∀ x ∈ rowsOf t j rcs, E.noref' x.1 = true) → E.freshRows t j rcs = true
  | [], _, _ => rfl
  | .rd _ :: rcs, j, h => freshRows_of rcs (j + 1) h
  | .own T d :: rcs, j, h => by
    simp only [Env.freshRows, Bool.and_eq_true]
    exact ⟨h (rid t j, (T, d)) (by simp [rowsOf]), freshRows_of rcs (j + 1) fun x hx => h x (by simp [rowsOf, hx])⟩
theorem handX_noref {E : Env} {b : Nat} {T : TypeId} {n : Nat} {ss : List Nat} {s : Nat} (h : E.noref' s = true) : (E.handX b T n ss).noref' s = true := by
  have h0 := drops_noref (E := E) ss E h
  simp only [Env.noref', Bool.and_eq_true, List.all_eq_true, Option.isNone_iff_eq_none] at h0 ⊢
  obtain ⟨⟨h1, h2⟩, h3⟩ := h0
  refine ⟨⟨h1, fun y hy c hc => ?_⟩, h3⟩
  rcases List.mem_cons.1 hy with rfl | hy
  · rw [List.eq_of_mem_replicate hc]; rfl
  · exact h2 y hy c hc
theorem handX_fresh {E : Env} {b : Nat} {T : TypeId} {n : Nat} {ss : List Nat} {t : Nat} {rcs : List RC} (h : ∀ x ∈ rowsOf t 0 rcs, E.noref' x.1 = true) : (E.handX b T n ss).freshRows t 0 rcs = true := freshRows_of rcs 0 fun x hx => handX_noref (h x hx)
end Go.Proofs.Ytmdojlglemnijaa.Rf
