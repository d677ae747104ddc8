/- A logic of our own over the kit's 'wp': eighth part: what is moved into a row, stores, appends. Plain definitions and theorems. -/
import Derived.Test.YtmdojlglemnijaaRf7
namespace Go.Proofs.Ytmdojlglemnijaa.Rf
open Go.RowKit
set_option linter.unusedVariables false
set_option linter.unnecessarySimpa false
set_option linter.unusedSimpArgs false

/-- Cells that are given away: numbers, nil, whole rows. -/
inductive Moved (E : Env) : List PC → List D → List Nat → Prop
  | nil : Moved E [] [] []
  | val {x : D} {ps : List PC} {es : List D} {ss : List Nat} : x.val.isSome = true → Moved E ps es ss → Moved E (.d x :: ps) (x :: es) ss
  | empty {x : D} {ps : List PC} {es : List D} {ss : List Nat} : x.isSl = true → x.size = 0 → x.wf → Moved E ps es ss → Moved E (.nil :: ps) (x :: es) ss
  | row {s : Nat} {T : TypeId} {d : D} {ps : List PC} {es : List D} {ss : List Nat} : E.row s = some (T, d) → s ∉ ss → Moved E ps es ss → Moved E (.row s [] :: ps) (d :: es) (s :: ss)
def Env.drops (E : Env) : List Nat → Env
  | [] => E
  | s :: ss => (E.drop s).drops ss
theorem Env.le_refl (E : Env) : E.le E := ⟨fun t => PV.le_refl _, fun r x h => h, fun b T ps h => ⟨ps, h, All2.refl PC.le_refl ps⟩⟩
theorem PC.le_trans {a b c : PC} (h : a.le b) (h' : b.le c) : a.le c := by
  rcases h with rfl | rfl
  · exact .inl rfl
  · exact h'
theorem All2.trans {α : Type} {R : α → α → Prop} (ht : ∀ a b c, R a b → R b c → R a c) {l1 l2 : List α} (h : All2 R l1 l2) : ∀ {l3 : List α}, All2 R l2 l3 → All2 R l1 l3 := by
  induction h with
  | nil => intro l3 h; cases h; exact .nil
  | cons h1 _ ih => intro l3 h; cases h with | cons k1 k2 => exact .cons (ht _ _ _ h1 k1) (ih k2)
theorem All2.le_trans {a b c : List PC} (h : All2 PC.le a b) (h' : All2 PC.le b c) : All2 PC.le a c := All2.trans (R := PC.le) (fun _ _ _ x y => PC.le_trans x y) h h'
theorem PV.le_trans {a b c : PV} (h : a.le b) (h' : b.le c) : a.le c := by
  by_cases hu : a = .one .und
  · subst hu; exact PV.und_le c
  · cases b with
    | one b =>
      cases a with
      | one a =>
        cases c with
        | one c => exact PC.le_trans h h'
        | agg cs => cases b <;> first | (rcases h with rfl | rfl; exact absurd rfl hu; exact absurd rfl hu) | exact h'.elim
        | tup vs => cases b <;> first | (rcases h with rfl | rfl; exact absurd rfl hu; exact absurd rfl hu) | exact h'.elim
      | agg as => exact h.elim
      | tup as => exact h.elim
    | agg bs =>
      cases a with
      | one a => cases a <;> first | exact absurd rfl hu | exact h.elim
      | agg as =>
        cases c with
        | one c => exact h'.elim
        | agg cs => exact All2.le_trans h h'
        | tup vs => exact h'.elim
      | tup as => exact h.elim
    | tup bs =>
      cases a with
      | one a => cases a <;> first | exact absurd rfl hu | exact h.elim
      | agg as => exact h.elim
      | tup as =>
        cases c with
        | one c => exact h'.elim
        | agg cs => exact h'.elim
        | tup vs => exact All2.trans (R := fun (x y : Bool × List PC) => x.1 = y.1 ∧ All2 PC.le x.2 y.2) (fun _ _ _ h1 h2 => ⟨h1.1.trans h2.1, All2.le_trans h1.2 h2.2⟩) h h'
theorem Env.le_trans {A B E : Env} (h : A.le B) (h' : B.le E) : A.le E :=
  ⟨fun t => PV.le_trans (h.tm t) (h'.tm t), fun r x hx => h'.rows r x (h.rows r x hx), fun b T ps hb => by
    obtain ⟨ps1, h1, h2⟩ := h.boxes b T ps hb
    obtain ⟨ps2, h3, h4⟩ := h'.boxes b T ps1 h1
    exact ⟨ps2, h3, All2.le_trans h2 h4⟩⟩
theorem Env.drops_le (ss : List Nat) : ∀ E : Env, (E.drops ss).le E := by
  induction ss with
  | nil => exact fun E => Env.le_refl E
  | cons s ss ih => exact fun E => Env.le_trans (ih (E.drop s)) (Env.drop_le E s)
theorem Env.drops_row (ss : List Nat) : ∀ (E : Env) (r : Nat), (E.drops ss).row r = if r ∈ ss then none else E.row r := by
  induction ss with
  | nil => intro E r; simp [Env.drops]
  | cons s ss ih =>
    intro E r
    simp only [Env.drops, ih, List.mem_cons]
    by_cases h : r = s
    · subst h; simp [Env.drop_row]
    · rw [Env.drop_row' E h]; simp [h]

/-- What is given away owns blocks of those rows. -/
theorem Moved.own {C : Ctx} {M : Maps} {E : Env} {a : Act} {w : World} (R : RelM C M E a w) {ps : List PC} {es : List D} {ss : List Nat} (h : Moved E ps es ss) : ∀ {vs : List Value}, All2 (COk M E w) vs ps →
    ∃ bx, Own w vs es bx ∧ bx.Nodup ∧ ∀ k ∈ bx, ∃ s ∈ ss, M.own k = .row s := by
  induction h with
  | nil => intro vs h; cases h; exact ⟨[], .nil, by simp, by simp⟩
  | @val x ps es ss hx _ ih =>
    intro vs h
    cases h with
    | cons h1 h2 =>
      obtain ⟨bx, k1, k2, k3⟩ := ih h2
      obtain ⟨u, hu⟩ := Option.isSome_iff_exists.1 hx
      have e := rd_val h1 hu
      subst e
      exact ⟨bx, .val hu k1, k2, k3⟩
  | @empty x ps es ss h1 h2 h3 _ ih =>
    intro vs h
    cases h with
    | cons k1 k2 =>
      obtain ⟨bx, j1, j2, j3⟩ := ih k2
      have e : _ = Value.slice none 0 0 := k1
      subst e
      exact ⟨bx, .empty h1 h2 h3 j1, j2, j3⟩
  | @row s T d ps es ss hs hn _ ih =>
    intro vs h
    cases h with
    | cons k1 k2 =>
      obtain ⟨bx, j1, j2, j3⟩ := ih k2
      obtain ⟨⟨_, h2, _⟩, h4, h5⟩ := R.rows s T d hs
      have e := k1 T d hs
      simp only [PathTo] at e
      subst e
      refine ⟨M.fp s ++ bx, (h2.append j1), ?_, fun k hk => ?_⟩
      · rw [List.nodup_append]
        refine ⟨h4, j2, fun a ha b hb e => ?_⟩
        subst e
        obtain ⟨s', hs', ho⟩ := j3 a hb
        rw [h5 a ha] at ho
        injection ho with ho
        subst ho
        exact hn hs'
      · rcases List.mem_append.1 hk with hk | hk
        · exact ⟨s, by simp, h5 k hk⟩
        · obtain ⟨s', hs', ho⟩ := j3 k hk
          exact ⟨s', by simp [hs'], ho⟩

theorem PC.killDeep_ok (r : Nat) (c : PC) : c.killDeep r = .und ∨ (c.killDeep r = c ∧ (c.ment r = false ∨ (c = .row r [] ∨ ∃ i j, c = .rptr r [] i j))) := by
  cases c with
  | row r' p =>
    simp only [PC.killDeep, PC.ment]
    by_cases h : r = r'
    · subst h
      cases p with
      | nil => right; simp
      | cons x p => left; simp
    · right; simp [h]
  | rptr r' p i j =>
    simp only [PC.killDeep, PC.ment]
    by_cases h : r = r'
    · subst h
      cases p with
      | nil => right; simp
      | cons x p => left; simp
    · right; simp [h]
  | _ => right; simp [PC.killDeep, PC.ment]

theorem run_storeAt {P : Program} {T : TypeId} {w : World} {g o n : Nat} {cs : Array Value} {t : TypeId} {v : Value} (hT : (P.info? T).map (·.size) = some n) (hv : v.cells.size = n) (hg : w.heap[g]? = some (.cells cs t (0, 0))) (hfit : o + n ≤ cs.size) (h1 : ∀ u ∈ v.cells.toList, u.oneCell' = true) :
    (Instr.storeAt T (.pointer (some ⟨g, o, none⟩)) v).run P w = .ok () (w.setRow g (cs.toList.take o ++ v.cells.toList ++ cs.toList.drop (o + v.cells.toList.length)).toArray) := by
  have h := run_storeCells_at P g o t v.cells.toList 0 cs w hg (by simpa [hv] using hfit) h1
  simp only [Nat.add_zero] at h
  simp [Instr.storeAt, Instr.sureAddr, storeVar, run_size hT, hv, h]

/-- A store into a cell, or a whole element, of a row. -/
theorem Step.store_row {P : Program} {C : Ctx} {o : Oper} {E : Env} {T T' : TypeId} {x y : Operand} {r : Nat} {q : List (Nat × Nat)} {i j n : Nat} {d d1 d' : D} {p : PV} {ps : List PC} {es : List D} {ss : List Nat} (ho : o.op = .store T x y) (hd : o.dst = none)
    (hT : (P.info? T).map (·.size) = some n) (hx : E.ev x = .one (.rptr r q i j)) (hr : E.row r = some (T', d)) (hy : E.ev y = p) (hp : p.flat = some ps) (hn : ps.length = n) (hf : ps.all E.fine = true) (hm : Moved E ps es ss) (hrs : r ∉ ss)
    (hput : Putd (d.at_ q) i j es d1) (hat : d.putAt q d1 = some d') :
    Step P C o E { (E.drops ss).mapc (PC.killDeep r) with rows := (r, (T', d')) :: (E.drops ss).rows } :=
  .skip hd fun M a w R => by
    have hxo := ev_ok R x
    rw [hx] at hxo
    obtain ⟨g, cap, h1, h2, h3, h4⟩ := hxo T' d hr
    have hyo := ev_ok R y
    rw [hy] at hyo
    obtain ⟨hcells, hone⟩ := cells_ok R hyo hp hf
    obtain ⟨bx, hb1, hb2, hb3⟩ := hm.own R hcells
    obtain ⟨⟨r1, r2, r3⟩, r4, r5⟩ := R.rows r T' d hr
    have hdis : ∀ k ∈ bx, k ∉ M.fp r := fun k hk hk' => by
      obtain ⟨s, hs, ho⟩ := hb3 k hk
      rw [r5 k hk'] at ho
      injection ho with ho
      subst ho
      exact hrs hs
    obtain ⟨cs, t, fp', k1, k2, k3, k4, k5, k6⟩ := store_own r2 r4 h1 hb1 hb2 hdis hput hat
    generalize hw' : w.setRow g (cs.toList.take (i * (d.at_ q).z + j) ++ (a.eval y).cells.toList ++ cs.toList.drop (i * (d.at_ q).z + j + (a.eval y).cells.toList.length)).toArray = w' at k4
    have hown : M.own g = .row r := r5 g k3
    have hother : ∀ k, k ≠ g → w'.heap[k]? = w.heap[k]? := fun k hk => by rw [← hw']; exact setRow_other w g k _ hk
    have hsame : w'.heap[g]? = some (.cells (cs.toList.take (i * (d.at_ q).z + j) ++ (a.eval y).cells.toList ++ cs.toList.drop (i * (d.at_ q).z + j + (a.eval y).cells.toList.length)).toArray t (0, 0)) := by rw [← hw']; exact setRow_heap w g cs _ t (0, 0) k1
    have R1 := R.weaken (Env.drops_le ss E)
    have hr1 : (E.drops ss).row r = some (T', d) := by rw [Env.drops_row, if_neg hrs]; exact hr
    have hfr : Frame_ C w' := ⟨by rw [← hw']; exact R.fr.os, by rw [← hw']; exact R.fr.tape, by rw [← hw']; exact R.fr.output, by rw [← hw', setRow_size]; exact R.fr.size, fun k hk hi => by
      rw [hother k (fun e => by
        subst e
        rcases R.wr k (by rw [hown]; simp) (by rw [hown]; simp) with h | h
        · exact hi h
        · omega)]
      exact R.fr.block k hk hi⟩
    refine ⟨w', _, ?_, R1.upd (f := PC.killDeep r) (v' := M.hdl r) hr1 hfr (by rw [← hw', setRow_size]; exact Nat.le_refl _) (fun k h0 hs => hother k fun e => ?_) ⟨?_, k4, ?_⟩ k5 ?_ ?_ ?_⟩
    · unfold execOp
      rw [ho]
      have hl : (a.eval y).cells.size = n := by rw [← hn, ← hcells.length]; simp
      have hst := run_storeAt (P := P) (T := T) hT hl k1 (o := i * (d.at_ q).z + j) (by rw [← hl]; simpa using k2) hone
      rw [hw'] at hst
      simp only [h4, Sem.run_bind, hst, Result.andThen, Sem.run_pure]
    · subst e
      exact (hs r hown).1 rfl
    · exact (D.putAt_sl hat ⟨hput.2.2.2.2.2, hput.2.2.1, hput.2.2.2.1⟩).1
    · intro ad nn cc hv
      obtain ⟨cs0, fr0, h6⟩ := r3 ad nn cc hv
      by_cases e : ad.block = g
      · rw [e] at h6 ⊢
        rw [k1] at h6
        injection h6 with h6
        injection h6 with e1 e2 e3
        subst e2 
        exact ⟨_, _, hsame⟩
      · exact ⟨cs0, fr0, (hother _ e).trans h6⟩
    · intro k hk
      right
      rcases k6 k hk with h | h
      · exact ⟨r, r5 k h, .inl rfl⟩
      · obtain ⟨s, hs, ho⟩ := hb3 k h
        exact ⟨s, ho, .inr (by rw [Env.drops_row, if_pos hs])⟩
    · intro y' hy' e
      have := R.pin y'.1 y'.2 hy' T' d (by rw [e]; exact hr)
      rw [e] at this
      exact this
    · intro c
      rcases PC.killDeep_ok r c with h | ⟨h, h'⟩
      · exact .inl h
      · refine .inr ⟨h, ?_⟩
        rcases h' with h' | h'
        · exact .inl h'
        · exact .inr ⟨rfl, (D.putAt_sl hat ⟨hput.2.2.2.2.2, hput.2.2.1, hput.2.2.2.1⟩).2.1, (D.putAt_sl hat ⟨hput.2.2.2.2.2, hput.2.2.1, hput.2.2.2.1⟩).2.2, h'⟩


/-- A variable is written. -/
theorem RelM.updBox {C : Ctx} {M : Maps} {E : Env} {a : Act} {w w' : World} (R : RelM C M E a w) {b : Nat} {T : TypeId} {ps ps' : List PC} {cs' : Array Value} (hb : E.box b = some (T, ps)) (hk : ∀ k, k ≠ M.blk b → w'.heap[k]? = w.heap[k]?)
    (hs : w'.heap[M.blk b]? = some (.cells cs' T (0, 0))) (hsz : w'.heap.size = w.heap.size) (hos : w'.os = w.os) (htp : w'.tape = w.tape) (hout : w'.output = w.output) (hps : All2 (COk M E w) cs'.toList ps') :
    RelM C M { E with boxes := (b, (T, ps')) :: E.boxes } a w' := by
  obtain ⟨o1, _⟩ := R.boxes b T ps hb
  have hkk : ∀ k, M.own k ≠ .box b → w'.heap[k]? = w.heap[k]? := fun k h => hk k fun e => h (by rw [e]; exact o1)
  have hc : ∀ c : PC, ∀ v, COk M E w v c → COk M { E with boxes := (b, (T, ps')) :: E.boxes } w' v c := fun c v h => h.mono R (fun k h => ⟨h, hkk k (by rw [h]; simp)⟩) (fun _ _ _ => rfl)
    (fun r _ T d hT => ⟨hT, rfl, fun k hk' => hkk k (by rw [(R.rows r T d hT).2.2 k hk']; simp)⟩)
  refine { R with fr := ?_, ba := by rw [hsz]; exact R.ba, lt := fun k h => by rw [hsz]; exact R.lt k h, tm := fun t => (R.tm t).mono fun c _ v h => hc c v h, rows := ?_, boxes := ?_, bpin := fun b' v hp hn T' ps2 hb' => (by by_cases e : b' = b; (subst e; exact R.bpin b' v hp hn T ps hb); (refine R.bpin b' v hp hn T' ps2 ?_; simpa [Env.box, lk, Ne.symm e] using hb')) }
  · refine ⟨hos.trans R.fr.os, htp.trans R.fr.tape, hout.trans R.fr.output, by rw [hsz]; exact R.fr.size, fun k hkb hi => ?_⟩
    rw [hk k (fun e => by
      subst e
      rcases R.wr _ (by rw [o1]; simp) (by rw [o1]; simp) with h | h
      · exact hi h
      · omega)]
    exact R.fr.block k hkb hi
  · intro r T2 d hr
    obtain ⟨⟨h1, h2, h3⟩, h4, h5⟩ := R.rows r T2 d hr
    refine ⟨⟨h1, h2.keep fun k hk' => hkk k (by rw [h5 k hk']; simp), fun ad n c hv => ?_⟩, h4, h5⟩
    obtain ⟨cs, fr, h6⟩ := h3 ad n c hv
    have hmem : ad.block ∈ M.fp r := by
      rw [hv] at h2
      generalize M.fp r = q at h2
      cases h2 with
      | val hv' _ => cases d <;> simp [D.val] at hv'
      | sl _ _ _ _ _ _ _ _ => simp
    exact ⟨cs, fr, (hkk _ (by rw [h5 _ hmem]; simp)).trans h6⟩
  · intro b2 T2 ps2 hb2
    by_cases e : b2 = b
    · subst e
      have : (T2, ps2) = (T, ps') := by simp [Env.box, lk] at hb2; rw [← hb2.1, ← hb2.2]
      injection this with e1 e2
      subst e1 e2
      exact ⟨o1, cs', hs, hps.imp fun v c _ h => hc c v h⟩
    · have hb3 : E.box b2 = some (T2, ps2) := by simp only [Env.box, lk] at hb2 ⊢; rw [if_neg (fun h => e h.symm)] at hb2; exact hb2
      obtain ⟨h1, cs, h2, h3⟩ := R.boxes b2 T2 ps2 hb3
      exact ⟨h1, cs, (hkk _ (by rw [h1]; intro h; injection h with h; exact e h)).trans h2, h3.imp fun v c _ h => hc c v h⟩
theorem All2.append {α β : Type} {R : α → β → Prop} {as as' : List α} {bs bs' : List β} (h : All2 R as bs) (h' : All2 R as' bs') : All2 R (as ++ as') (bs ++ bs') := by
  induction h with
  | nil => exact h'
  | cons h1 _ ih => exact .cons h1 ih
theorem All2.take {α β : Type} {R : α → β → Prop} {as : List α} {bs : List β} (h : All2 R as bs) : ∀ n : Nat, All2 R (as.take n) (bs.take n) := by
  induction h with
  | nil => intro n; simp; exact .nil
  | cons h1 _ ih => intro n; cases n with | zero => exact .nil | succ n => exact .cons h1 (ih n)
theorem All2.drop {α β : Type} {R : α → β → Prop} {as : List α} {bs : List β} (h : All2 R as bs) : ∀ n : Nat, All2 R (as.drop n) (bs.drop n) := by
  induction h with
  | nil => intro n; simp; exact .nil
  | cons h1 h2 ih => intro n; cases n with | zero => exact .cons h1 h2 | succ n => exact ih n
theorem Step.store_box {P : Program} {C : Ctx} {o : Oper} {E : Env} {T T' : TypeId} {x y : Operand} {b off n : Nat} {p : PV} {ps qs ps' : List PC} (ho : o.op = .store T x y) (hd : o.dst = none)
    (hT : (P.info? T).map (·.size) = some n) (hx : E.ev x = .one (.ptr b off)) (hb : E.box b = some (T', ps)) (hy : E.ev y = p) (hp : p.flat = some qs) (hn : qs.length = n) (hf : qs.all E.fine = true) (hfit : off + n ≤ ps.length)
    (hps : ps.take off ++ qs ++ ps.drop (off + n) = ps') : Step P C o E { E with boxes := (b, (T', ps')) :: E.boxes } :=
  .skip hd fun M a w R => by
    have hxo := ev_ok R x
    rw [hx] at hxo
    have hxv : a.eval x = .pointer (some ⟨M.blk b, off, none⟩) := hxo
    have hyo := ev_ok R y
    rw [hy] at hyo
    obtain ⟨hcells, hone⟩ := cells_ok R hyo hp hf
    obtain ⟨h1, cs, h2, h3⟩ := R.boxes b T' ps hb
    have hl : (a.eval y).cells.size = n := by rw [← hn, ← hcells.length]; simp
    have hcl : cs.size = ps.length := by rw [← h3.length]; simp
    have hst := run_storeAt (P := P) (T := T) hT hl h2 (o := off) (by omega) hone
    obtain ⟨arr, harr⟩ : ∃ arr : Array Value, arr = (cs.toList.take off ++ (a.eval y).cells.toList ++ cs.toList.drop (off + (a.eval y).cells.toList.length)).toArray := ⟨_, rfl⟩
    rw [← harr] at hst
    refine ⟨w.setRow (M.blk b) arr, M, ?_, R.updBox (cs' := arr) hb (fun k hk => setRow_other w _ k _ hk) (setRow_heap w _ cs _ T' (0, 0) h2) (by rw [setRow_size]) rfl rfl rfl (ps' := ps') ?_⟩
    · unfold execOp
      rw [ho]
      simp only [hxv, Sem.run_bind, hst, Result.andThen, Sem.run_pure]
    · subst hps
      have hl2 : (a.eval y).cells.toList.length = n := by simpa using hl
      rw [harr, hl2]
      exact ((h3.take off).append hcells).append (h3.drop (off + n))

/-! ### Appends -/
def isElem (P : Program) (T e z by_ : Nat) : Bool := isSlice P T e z && (match P.info? e with
  | some i => i.bytes == by_ && (match i.zero with | some v => v.cells.size == z | none => false)
  | none => false)
theorem isElem_spec {P : Program} {T e z by_ : Nat} (h : isElem P T e z by_ = true) : P.underlying T = some (.slice e) ∧ ∃ i v, P.info? e = some i ∧ i.zero = some v ∧ i.size = z ∧ i.bytes = by_ ∧ v.cells.size = z := by
  unfold isElem at h
  rw [Bool.and_eq_true] at h
  obtain ⟨h1, h2⟩ := h
  obtain ⟨h3, h4⟩ := isSlice_spec h1
  refine ⟨h3, ?_⟩
  split at h2
  · rename_i i hi
    rw [Bool.and_eq_true] at h2
    obtain ⟨h5, h6⟩ := h2
    split at h6
    · rename_i v hv
      rw [hi] at h4
      simp at h4 h5 h6
      exact ⟨i, v, hi, hv, h4, h5, h6⟩
    · exact absurd h6 (by simp)
  · exact absurd h2 (by simp)
/-- One behind the other. -/
def D.app : D → D → Option D
  | .ints k xs, .ints k' ys => if k = k' then some (.ints k (xs ++ ys)) else none
  | .bss xs, .bss ys => some (.bss (xs ++ ys))
  | .sl z es, .sl z' fs => if z = z' then some (.sl z (es ++ fs)) else none
  | _, _ => none
theorem D.app_spec {d e f : D} (h : d.app e = some f) (hd : d.wf) (he : e.wf) : f.flat = d.flat ++ e.flat ∧ f.size = d.size + e.size ∧ f.z = d.z ∧ e.z = d.z ∧ f.wf ∧ f.isSl = true ∧ d.isSl = true ∧ e.isSl = true := by
  cases d <;> cases e <;> first | (simp [D.app] at h; done) | skip
  all_goals simp only [D.app] at h
  · split at h
    · rename_i e; subst e; injection h with h; subst h; exact ⟨by simp [D.flat], by simp [D.size], rfl, rfl, trivial, rfl, rfl, rfl⟩
    · exact absurd h (by simp)
  · injection h with h; subst h; exact ⟨by simp [D.flat], by simp [D.size], rfl, rfl, trivial, rfl, rfl, rfl⟩
  · split at h
    · rename_i e; subst e; injection h with h; subst h
      refine ⟨by simp [D.flat], by simp [D.size], rfl, rfl, fun x hx => ?_, rfl, rfl, rfl⟩
      rcases List.mem_append.1 hx with hx | hx
      · exact hd x hx
      · exact he x hx
    · exact absurd h (by simp)
theorem own_one {w : World} {vs : List Value} {ds : List D} {bs : List Nat} (h : Own w vs ds bs) : ∀ u ∈ vs, u.oneCell' = true := by
  induction h with
  | nil => intro u hu; cases hu
  | @val v d vs ds bs hv _ ih =>
    intro u hu
    rcases List.mem_cons.1 hu with rfl | hu
    · cases d <;> simp [D.val] at hv <;> subst hv <;> rfl
    · exact ih u hu
  | empty _ _ _ _ ih =>
    intro u hu
    rcases List.mem_cons.1 hu with rfl | hu
    · rfl
    · exact ih u hu
  | sl _ _ _ _ _ _ _ _ _ ih =>
    intro u hu
    rcases List.mem_cons.1 hu with rfl | hu
    · rfl
    · exact ih u hu
/-- What an own slice is for the kit's laws on rows. -/
theorem own_row {w : World} {T : TypeId} {v : Value} {d : D} {fp : List Nat} (h : RowOk w T v d fp) : ∃ xs b, w.ownsRow 0 T d.z v d.size xs ∧ Own w xs d.flat b ∧ (v = .slice none 0 0 ∧ fp = [] ∧ b = [] ∨ ∃ g, v.ownBlock = some g ∧ fp = g :: b) ∧ d.wf := by
  obtain ⟨hs, h, ht⟩ := h
  generalize hL : [v] = L at h
  generalize hM : [d] = M at h
  cases h with
  | nil => cases hL
  | val hv _ => injection hM with e1 e2; subst e1; cases d <;> simp [D.isSl] at hs <;> simp [D.val] at hv
  | empty k1 k2 k3 k4 =>
    injection hL with e1 e2; injection hM with e3 e4; subst e1 e2 e3 e4
    cases k4
    have hf : d.flat = [] := List.eq_nil_of_length_eq_zero (by rw [D.flat_length k3 hs, k2, Nat.zero_mul])
    exact ⟨[], [], ⟨by rw [k2]; simp, .inl ⟨rfl, k2⟩⟩, by rw [hf]; exact .nil, .inl ⟨rfl, rfl, rfl⟩, k3⟩
  | @sl g cap cs t _ _ _ b1 b2 k1 k2 k3 k4 k5 k6 k7 k8 =>
    injection hL with e1 e2; injection hM with e3 e4; subst e1 e2 e3 e4
    cases k8
    obtain ⟨cs', fr, ht'⟩ := ht _ _ _ rfl
    rw [k2] at ht'
    injection ht' with ht'
    injection ht' with f1 f2 f3
    subst f2
    refine ⟨cs.toList.take d.flat.length, b1, ⟨?_, .inr ⟨g, cap, cs, rfl, Nat.zero_le _, k2, k3, by simp only [maxLen]; omega, k5, by rw [D.flat_length k6 hs]⟩⟩, k7, .inr ⟨g, rfl, by simp⟩, k6⟩
    have := k7.length
    rw [this, D.flat_length k6 hs]
theorem row_own {w : World} {T : TypeId} {v : Value} {d : D} {xs : List Value} {b : List Nat} (hs : d.isSl = true) (hw : d.wf) (h : w.ownsRow 0 T d.z v d.size xs) (ho : Own w xs d.flat b) : ∃ fp, RowOk w T v d fp ∧ (v = .slice none 0 0 ∧ fp = [] ∨ ∃ g, v.ownBlock = some g ∧ fp = g :: b) := by
  obtain ⟨h1, h2⟩ := h
  rcases h2 with ⟨rfl, h3⟩ | ⟨g, cap, cur, rfl, _, k2, k3, k4, k5, k6⟩
  · refine ⟨[], ⟨hs, .empty hs h3 hw .nil, fun ad n c hv => ?_⟩, .inl ⟨rfl, rfl⟩⟩
    injection hv with e; cases e
  · have hn : d.flat.length = d.size * d.z := D.flat_length hw hs
    refine ⟨g :: (b ++ []), ⟨hs, .sl hs k2 k3 (by simp only [maxLen] at k4; omega) k5 hw (by rw [hn, k6]; exact ho) .nil, fun ad n c hv => ?_⟩, .inr ⟨g, rfl, by simp⟩⟩
    injection hv with e1 e2 e3
    injection e1 with e1
    subst e1
    exact ⟨cur, (0, 0), k2⟩


theorem row_block {w : World} {T : TypeId} {v : Value} {d : D} {fp : List Nat} (h : RowOk w T v d fp) {g : Nat} (hg : v.ownBlock = some g) : g ∈ fp := by
  obtain ⟨hs, h, ht⟩ := h
  cases h with
  | val hv _ => cases d <;> simp [D.val] at hv <;> subst hv <;> simp [Value.ownBlock] at hg
  | empty _ _ _ _ => simp [Value.ownBlock] at hg
  | sl _ _ _ _ _ _ _ _ => simp [Value.ownBlock] at hg; subst hg; simp
/-- The world behind an append to a row, and the row. -/
theorem append_row {P : Program} {C : Ctx} {M : Maps} {E : Env} {a : Act} {w : World} (R : RelM C M E a w) {T ty e z by_ : Nat} (hT : isElem P T e z by_ = true) (hz0 : 0 < z) {v : Value} {d dy d' : D} {fp : List Nat} (hrow : RowOk w e v d fp) (hnd : fp.Nodup) (hz : d.z = z)
    {vy : Value} {ys : List Value} {b : List Nat} {A : Option Addr} {cap : Nat} (hvy : vy = .slice A dy.size cap) (hys : ∀ (j : Nat) c, ys[j]? = some c → ∃ ad, A = some ad ∧ w.cell? (ad.add j) = some c) (ho : Own w ys dy.flat b) (hb : b.Nodup) (hdis : ∀ k ∈ b, k ∉ fp) (hwy : dy.wf)
    (hap : d.app dy = some d') (h63 : (d.size + dy.size) * by_ ≤ 140737488355328) (h64 : d.size + dy.size ≤ 9223372036854775807) :
    ∃ v' w' fp', (Builtin.append_ #[T, T] ty #[v, vy]).run P w = .ok v' w' ∧ RowOk w' e v' d' fp' ∧ fp'.Nodup ∧ (∀ k ∈ fp', k ∈ fp ∨ k ∈ b ∨ k = w.heap.size) ∧ w.grownBy w' v.ownBlock := by
  obtain ⟨hu, i, zv, hi, hiz, hsz, hby, hzs⟩ := isElem_spec hT
  obtain ⟨xs, b1, k1, k2, k3, hwd⟩ := own_row hrow
  obtain ⟨a1, a2, a3, a4, a5, a6, a7, a8⟩ := D.app_spec hap hwd hwy
  rw [hz] at k1
  by_cases h0 : dy.size = 0
  · -- nothing comes
    have hfl : dy.flat = [] := List.eq_nil_of_length_eq_zero (by rw [D.flat_length hwy a8, h0, Nat.zero_mul])
    have hys0 : ys = [] := List.eq_nil_of_length_eq_zero (by rw [ho.length, hfl]; rfl)
    subst hys0
    obtain ⟨Av, cv, hv, _⟩ := own_form hrow.2.1 hrow.1
    have hcap : d.size ≤ cv := by
      rcases k1.2 with ⟨e1, e2⟩ | ⟨g, cap', cur, e1, _, _, e2, _⟩
      · omega
      · rw [hv] at e1; injection e1 with _ _ e3; omega
    have hsrc : Src P i.size T vy 0 [] w := by
      subst hvy
      refine ⟨.inl ⟨e, hu⟩, fun w' => by rw [h0]; simp [Builtin.lenOf], ?_, ?_, by simp, by simp⟩
      · cases A <;> simp [Builtin.firstCells, loadCells, loadCellsFrom]
      · cases A <;> simp [Builtin.firstCells, loadCells, loadCellsFrom]
    have hrun := run_append_nothing (P := P) w T T ty e i hu hi Av d.size cv hcap vy hsrc
    have e1 : d'.flat = d.flat := by rw [a1, hfl, List.append_nil]
    have e2 : d'.size = d.size := by omega
    refine ⟨v, w, fp, by rw [hv]; exact hrun, ⟨a6, ?_, hrow.2.2⟩, hnd, fun k hk => .inl hk, ⟨rfl, rfl, rfl, Nat.le_refl _, fun _ _ _ => rfl⟩⟩
    have k1' : w.ownsRow 0 e d'.z v d'.size xs := by rw [a3, e2, hz]; exact k1
    obtain ⟨fp', ⟨_, h2, _⟩, h3⟩ := row_own a6 a5 k1' (by rw [e1]; exact k2)
    have : fp' = fp := by
      rcases h3 with ⟨_, h3⟩ | ⟨g, h3, h4⟩
      · rcases k3 with ⟨_, k3, _⟩ | ⟨g', k3, k4⟩
        · rw [h3, k3]
        · rename_i hvn; rw [hvn] at k3; simp [Value.ownBlock] at k3
      · rcases k3 with ⟨k3, _⟩ | ⟨g', k3, k4⟩
        · rw [k3] at h3; simp [Value.ownBlock] at h3
        · rw [h3] at k3; injection k3 with k3; rw [h4, k4, k3]
    rw [← this]; exact h2
  · obtain ⟨ad, rfl⟩ : ∃ ad, A = some ad := by
      have hpos : 0 < ys.length := by
        rw [ho.length, D.flat_length hwy a8, a4, hz]
        exact Nat.mul_pos (by omega) hz0
      obtain ⟨ad, h, _⟩ := hys 0 ys[0] (List.getElem?_eq_getElem hpos)
      exact ⟨ad, h⟩
    have hnews : ∀ (j : Nat) u, ys[j]? = some u → w.cell? (ad.add j) = some u := fun j u hu => by
      obtain ⟨ad', e1, e2⟩ := hys j u hu
      injection e1 with e1
      subst e1
      exact e2
    have hyl : ys.length = dy.size * z := by rw [ho.length, D.flat_length hwy a8, a4, hz]
    obtain ⟨v', w', q1, q2, q3, q4, q5⟩ := run_append_own_at (P := P) (w := w) 0 T ty e i zv z by_ hu hi hiz hsz hby hzs hz0 v d.size xs k1 ad dy.size cap ys hyl hnews (own_one ho) (by simp only [maxLen]; omega) h63 (Nat.zero_le _)
    have q2' : w'.ownsRow 0 e d'.z v' d'.size (xs ++ ys) := by rw [a3, a2, hz]; exact q2
    have hkeep : ∀ k, k < w.heap.size → k ∉ fp → w'.heap[k]? = w.heap[k]? := fun k hk hn => q3.block k hk fun e => hn (row_block hrow e.symm)
    have hb1 : ∀ k ∈ b1, w'.heap[k]? = w.heap[k]? := fun k hk => by
      refine q3.block k (k2.lt k hk) fun e => ?_
      rcases k3 with ⟨_, _, k3⟩ | ⟨g, k3, k4⟩
      · rw [k3] at hk; cases hk
      · rw [k3] at e; injection e with e; subst e
        rw [k4] at hnd
        exact (List.nodup_cons.1 hnd).1 hk
    have ho' : Own w' (xs ++ ys) d'.flat (b1 ++ b) := by
      rw [a1]
      exact (k2.keep hb1).append (ho.keep fun k hk => hkeep k (ho.lt k hk) (hdis k hk))
    obtain ⟨fp', h2, h3⟩ := row_own a6 a5 q2' ho'
    have hb1fp : ∀ k ∈ b1, k ∈ fp := fun k hk => by
      rcases k3 with ⟨_, _, k3⟩ | ⟨g, k3, k4⟩
      · rw [k3] at hk; cases hk
      · rw [k4]; simp [hk]
    have hb1n : b1.Nodup := by
      rcases k3 with ⟨_, _, k3⟩ | ⟨g, k3, k4⟩
      · rw [k3]; simp
      · rw [k4] at hnd; exact (List.nodup_cons.1 hnd).2
    refine ⟨v', w', fp', by rw [hvy]; exact q1, h2, ?_, ?_, q3⟩
    · rcases h3 with ⟨_, h3⟩ | ⟨g, h3, h4⟩
      · rw [h3]; simp
      · rw [h4, List.nodup_cons, List.nodup_append]
        refine ⟨fun hg => ?_, hb1n, hb, fun x hx y hy e => hdis y hy (by rw [← e]; exact hb1fp x hx)⟩
        rcases q5 with q5 | q5
        · rw [h3] at q5
          rcases k3 with ⟨k3, _⟩ | ⟨g', k3, k4⟩
          · rw [k3] at q5; simp [Value.ownBlock] at q5
          · rw [← q5] at k3; injection k3 with k3; subst k3
            rcases List.mem_append.1 hg with hg | hg
            · rw [k4] at hnd; exact (List.nodup_cons.1 hnd).1 hg
            · exact hdis g hg (by rw [k4]; simp)
        · rw [h3] at q5; injection q5 with q5
          rcases List.mem_append.1 hg with hg | hg
          · have := k2.lt g hg; omega
          · have := ho.lt g hg; omega
    · intro k hk
      rcases h3 with ⟨_, h3⟩ | ⟨g, h3, h4⟩
      · rw [h3] at hk; cases hk
      · rw [h4] at hk
        rcases List.mem_cons.1 hk with rfl | hk
        · rcases q5 with q5 | q5
          · left; exact row_block hrow (by rw [← q5]; exact h3)
          · rw [h3] at q5; injection q5 with q5; exact .inr (.inr q5)
        · rcases List.mem_append.1 hk with hk | hk
          · exact .inl (hb1fp k hk)
          · exact .inr (.inl hk)
/-- What is appended: numbers that are copied, nothing, a row that is given away. -/
inductive AppSrc (E : Env) : PC → D → List Nat → Prop
  | froz {d : D} : d.isSl = true → d.flat.all (fun x => x.val.isSome) = true → AppSrc E (.d d) d []
  | nil {d : D} : d.isSl = true → d.size = 0 → d.wf → AppSrc E .nil d []
  | copy {s : Nat} {p : List (Nat × Nat)} {T : TypeId} {d d' : D} : E.row s = some (T, d) → d.at_ p = d' → d'.isSl = true → d'.flat.all (fun x => x.val.isSome) = true → AppSrc E (.row s p) d' []
  | move {s : Nat} {T : TypeId} {d : D} : E.row s = some (T, d) → AppSrc E (.row s []) d [s]
theorem rd_scal {w : World} {Z : Nat → Prop} {vs : List Value} {ds : List D} (h : Rd w Z vs ds) (hs : ds.all (fun x => x.val.isSome) = true) : Own w vs ds [] := by
  induction h with
  | nil => exact .nil
  | val hv _ ih => simp only [List.all_cons, Bool.and_eq_true] at hs; exact .val hv (ih hs.2)
  | @sl A cap d cs vs ds h1 _ _ _ _ _ _ _ _ _ =>
    simp only [List.all_cons, Bool.and_eq_true] at hs
    cases d <;> simp [D.isSl] at h1 <;> simp [D.val] at hs
theorem rd_open {w : World} {Z : Nat → Prop} {v : Value} {d : D} (h : Rd w Z [v] [d]) (hs : d.isSl = true) : ∃ A cap ys, v = .slice A d.size cap ∧ (∀ (j : Nat) c, ys[j]? = some c → ∃ ad, A = some ad ∧ w.cell? (ad.add j) = some c) ∧ Rd w Z ys d.flat ∧ d.wf := by
  cases h with
  | val hv _ => cases d <;> simp [D.isSl] at hs <;> simp [D.val] at hv
  | sl h1 h2 h3 h4 h5 h6 h7 h8 => exact ⟨_, _, _, rfl, h6, h7, h4⟩
theorem own_open {w : World} {v : Value} {d : D} {bs : List Nat} (h : Own w [v] [d] bs) (hs : d.isSl = true) : ∃ A cap ys b, v = .slice A d.size cap ∧ (∀ (j : Nat) c, ys[j]? = some c → ∃ ad, A = some ad ∧ w.cell? (ad.add j) = some c) ∧ Own w ys d.flat b ∧ d.wf ∧ (bs.Nodup → b.Nodup) ∧ ∀ k ∈ b, k ∈ bs := by
  cases h with
  | val hv _ => cases d <;> simp [D.isSl] at hs <;> simp [D.val] at hv
  | empty h1 h2 h3 h4 =>
    cases h4
    refine ⟨none, 0, [], [], by rw [h2], fun j c hc => by simp at hc, ?_, h3, fun h => h, fun k hk => hk⟩
    have hf0 : d.flat = [] := List.eq_nil_of_length_eq_zero (by rw [D.flat_length h3 h1, h2, Nat.zero_mul])
    rw [hf0]
    exact .nil
  | @sl g cap cs t _ _ _ b1 b2 h1 h2 h3 h4 h5 h6 h7 h8 =>
    cases h8
    refine ⟨_, _, _, b1, rfl, fun j c hc => ⟨_, rfl, ?_⟩, h7, h6, fun h => by simpa using (List.nodup_cons.1 h).2, fun k hk => by simp [hk]⟩
    rw [cell_at h2]
    rw [List.getElem?_take] at hc
    split at hc
    · simpa using hc
    · simp at hc
theorem AppSrc.own {C : Ctx} {M : Maps} {E : Env} {a : Act} {w : World} (R : RelM C M E a w) {c : PC} {d : D} {ss : List Nat} (h : AppSrc E c d ss) {v : Value} (hc : COk M E w v c) : ∃ A cap ys b, v = .slice A d.size cap ∧ (∀ (j : Nat) c, ys[j]? = some c → ∃ ad, A = some ad ∧ w.cell? (ad.add j) = some c) ∧
    Own w ys d.flat b ∧ b.Nodup ∧ (∀ k ∈ b, ∃ s ∈ ss, M.own k = .row s) ∧ d.wf := by
  cases h with
  | froz h1 h2 =>
    obtain ⟨A, cap, ys, k1, k2, k3, k4⟩ := rd_open hc h1
    exact ⟨A, cap, ys, [], k1, k2, rd_scal k3 h2, by simp, by simp, k4⟩
  | nil h1 h2 h3 =>
    have e : v = .slice none 0 0 := hc
    refine ⟨none, 0, [], [], by rw [e, h2], fun j c hc => by simp at hc, ?_, by simp, by simp, h3⟩
    have hf0 : d.flat = [] := List.eq_nil_of_length_eq_zero (by rw [D.flat_length h3 h1, h2, Nat.zero_mul])
    rw [hf0]
    exact .nil
  | @copy s p T d0 _ h1 h2 h3 h4 =>
    subst h2
    obtain ⟨b, ho, hb⟩ := row_at R h1 (hc T d0 h1)
    obtain ⟨A, cap, ys, b', k1, k2, k3, k4, _⟩ := own_open ho h3
    exact ⟨A, cap, ys, [], k1, k2, rd_scal (k3.rd (Z := fun _ => True) fun _ _ => trivial) h4, by simp, by simp, k4⟩
  | @move s T _ h1 =>
    obtain ⟨⟨r1, r2, r3⟩, r4, r5⟩ := R.rows s T d h1
    have e := hc T d h1
    simp only [PathTo] at e
    subst e
    obtain ⟨A, cap, ys, b', k1, k2, k3, k4, k5, k6⟩ := own_open r2 r1
    exact ⟨A, cap, ys, b', k1, k2, k3, k5 r4, fun k hk => ⟨s, by simp, r5 k (k6 k hk)⟩, k4⟩

theorem PC.kill_ok (r : Nat) (c : PC) : c.kill r = .und ∨ (c.kill r = c ∧ c.ment r = false) := by
  unfold PC.kill
  split
  · exact .inl rfl
  · rename_i h; exact .inr ⟨rfl, by simpa using h⟩
/-- A row is made longer. -/
theorem RelM.append {P : Program} {C : Ctx} {M : Maps} {E : Env} {a : Act} {w : World} (R : RelM C M E a w) {T ty e z by_ : Nat} (hT : isElem P T e z by_ = true) (hz0 : 0 < z) {r : Nat} {d dy d' : D} (hr : E.row r = some (e, d)) (hz : d.z = z) {vy : Value} {c : PC} {ss : List Nat} (hs : AppSrc E c dy ss) (hrs : r ∉ ss) (hc : COk M E w vy c)
    (hap : d.app dy = some d') (h63 : (d.size + dy.size) * by_ ≤ 140737488355328) (h64 : d.size + dy.size ≤ 9223372036854775807) (hpin : ∀ x ∈ C.pin, x.1 ≠ r) :
    ∃ v' w' M', (Builtin.append_ #[T, T] ty #[M.hdl r, vy]).run P w = .ok v' w' ∧ RelM C M' { (E.drops ss).mapc (PC.kill r) with rows := (r, (e, d')) :: (E.drops ss).rows } a w' ∧ M'.hdl r = v' := by
  obtain ⟨A, cap, ys, b, hv, hys, hown, hb, hbs, hwy⟩ := hs.own R hc
  obtain ⟨hrow, hnd, hfp⟩ := R.rows r e d hr
  have hdis : ∀ k ∈ b, k ∉ M.fp r := fun k hk hk' => by
    obtain ⟨s, hs, ho⟩ := hbs k hk
    rw [hfp k hk'] at ho
    injection ho with ho
    subst ho
    exact hrs hs
  obtain ⟨v', w', fp', q1, q2, q3, q4, q5⟩ := append_row (ty := ty) R hT hz0 hrow hnd hz hv hys hown hb hdis hwy hap h63 h64
  have R1 := R.weaken (Env.drops_le ss E)
  have hr1 : (E.drops ss).row r = some (e, d) := by rw [Env.drops_row, if_neg hrs]; exact hr
  have hblk : ∀ g, (M.hdl r).ownBlock = some g → M.own g = .row r := fun g hg => hfp g (row_block hrow hg)
  have hfr : Frame_ C w' := ⟨q5.os.trans R.fr.os, q5.tape.trans R.fr.tape, q5.output.trans R.fr.output, Nat.le_trans R.fr.size q5.size, fun k hk hi => by
    rw [q5.block k (Nat.lt_of_lt_of_le hk R.ba) (fun e => by
      have ho := hblk k e.symm
      rcases R.wr k (by rw [ho]; simp) (by rw [ho]; simp) with h | h
      · exact hi h
      · omega)]
    exact R.fr.block k hk hi⟩
  refine ⟨v', w', _, q1, R1.upd (f := PC.kill r) hr1 hfr q5.size (fun k h0 hs => q5.block k (R.lt k h0) fun e => ?_) q2 q3 ?_ (fun x hx e => absurd e (hpin x hx)) (fun c => ?_), by simp⟩
  · exact (hs r (hblk k e.symm)).1 rfl
  · intro k hk
    rcases q4 k hk with h | h | h
    · exact .inr ⟨r, hfp k h, .inl rfl⟩
    · obtain ⟨s, hs, ho⟩ := hbs k h
      exact .inr ⟨s, ho, .inr (by rw [Env.drops_row, if_pos hs])⟩
    · exact .inl ⟨own_new R (by omega), by have := R.ba; omega⟩
  · rcases PC.kill_ok r c with h | ⟨h, h'⟩
    · exact .inl h
    · exact .inr ⟨h, .inl h'⟩
theorem Step.append {P : Program} {C : Ctx} {o : Oper} {E : Env} {t : Nat} {T e z by_ : Nat} {x y : Operand} {r : Nat} {d dy d' : D} {c : PC} {ss : List Nat} (ho : o.op = .call { callee := .builtin .append, args := #[x, y], argTypes := #[T, T] }) (hd : o.dst = some t) (ht : t < C.n)
    (hT : isElem P T e z by_ = true) (hx : E.ev x = .one (.row r [])) (hr : E.row r = some (e, d)) (hz : d.z = z) (hz0 : 0 < z) (hy : E.ev y = .one c) (hs : AppSrc E c dy ss) (hrs : r ∉ ss)
    (hap : d.app dy = some d') (h63 : (d.size + dy.size) * by_ ≤ 140737488355328) (h64 : d.size + dy.size ≤ 9223372036854775807) (hpin : ∀ x ∈ C.pin, x.1 ≠ r) :
    Step P C o E ({ (E.drops ss).mapc (PC.kill r) with rows := (r, (e, d')) :: (E.drops ss).rows }.set t (.one (.row r []))) :=
  .change hd ht fun M a w R => by
    have hxo := ev_ok R x
    rw [hx] at hxo
    have hxv := hxo e d hr
    simp only [PathTo] at hxv
    have hyo := ev_ok R y
    rw [hy] at hyo
    obtain ⟨v', w', M', q1, q2, q3⟩ := R.append (ty := o.type) hT hz0 hr hz hs hrs hyo hap h63 h64 hpin
    refine ⟨v', w', M', ?_, q2, fun T2 d2 _ => ?_⟩
    · unfold execOp
      rw [ho]
      simp only [resolve, invoke, builtin, Sem.run_bind, Sem.run_pure, Result.andThen, List.map_toArray, List.map_cons, List.map_nil]
      rw [hxv, q1]
    · simp only [PathTo]
      exact q3.symm
/-- An append to nil: a new row. -/
theorem Step.append_nil {P : Program} {C : Ctx} {o : Oper} {E : Env} {t : Nat} {T e z by_ : Nat} {x y : Operand} {d dy d' : D} {c : PC} {ss : List Nat} (ho : o.op = .call { callee := .builtin .append, args := #[x, y], argTypes := #[T, T] }) (hd : o.dst = some t) (ht : t < C.n)
    (hT : isElem P T e z by_ = true) (hx : E.ev x = .one .nil) (hf : E.noref' t = true) (hds : d.isSl = true) (hd0 : d.size = 0) (hdw : d.wf) (hz : d.z = z) (hz0 : 0 < z) (hy : E.ev y = .one c) (hs : AppSrc E c dy ss) (hrs : t ∉ ss)
    (hap : d.app dy = some d') (h63 : (d.size + dy.size) * by_ ≤ 140737488355328) (h64 : d.size + dy.size ≤ 9223372036854775807) (hpin : ∀ x ∈ C.pin, x.1 ≠ t) :
    Step P C o E ({ ({ E with rows := (t, (e, d)) :: E.rows }.drops ss).mapc (PC.kill t) with rows := (t, (e, d')) :: ({ E with rows := (t, (e, d)) :: E.rows }.drops ss).rows }.set t (.one (.row t []))) :=
  .change hd ht fun M a w R => by
    have hxo := ev_ok R x
    rw [hx] at hxo
    have hxv : a.eval x = .slice none 0 0 := hxo
    have hyo := ev_ok R y
    rw [hy] at hyo
    obtain ⟨M0, R0, g1, g2, g3, g4⟩ : ∃ M0 : Maps, RelM C M0 { E with rows := (t, (e, d)) :: E.rows } a w ∧ M0.hdl t = .slice none 0 0 ∧ (∀ r, r ≠ t → M0.hdl r = M.hdl r) ∧ (∀ k, M.own k = .froz → M0.own k = .froz) ∧ M0.blk = M.blk :=
      ⟨_, R.addRow (T := e) (d := d) (v := .slice none 0 0) (fp := []) hf hpin ⟨hds, .empty hds hd0 hdw .nil, fun ad n c h => by injection h with h; cases h⟩ (by simp) (by simp), by simp, fun r hr => by simp [hr], fun k hk => by simpa using hk, by trivial⟩
    have hne : ∀ r x, E.row r = some x → r ≠ t := fun r x hr e => by
      subst e
      simp only [Env.noref', Bool.and_eq_true, Option.isNone_iff_eq_none] at hf
      have : E.row r = none := hf.2
      rw [this] at hr; exact absurd hr (by simp)
    have hs' : AppSrc { E with rows := (t, (e, d)) :: E.rows } c dy ss := by
      have hrow : ∀ r x, E.row r = some x → ({ E with rows := (t, (e, d)) :: E.rows } : Env).row r = some x := fun r x hr => by
        simp only [Env.row, lk]
        rw [if_neg (fun h => hne r x hr h.symm)]; exact hr
      cases hs with
      | froz h1 h2 => exact .froz h1 h2
      | nil h1 h2 h3 => exact .nil h1 h2 h3
      | copy h1 h2 h3 h4 => exact .copy (hrow _ _ h1) h2 h3 h4
      | move h1 => exact .move (hrow _ _ h1)
    have hyo' : COk M0 { E with rows := (t, (e, d)) :: E.rows } w (a.eval y) c := by
      have hc : c.ment t = false := by
        cases hs with
        | copy h1 _ _ _ => simp only [PC.ment]; have := hne _ _ h1; simp; exact fun h => this h.symm
        | move h1 => simp only [PC.ment]; have := hne _ _ h1; simp; exact fun h => this h.symm
        | _ => rfl
      refine COk.mono R hyo (fun k hk => ⟨g3 k hk, rfl⟩) (fun _ _ _ => by rw [g4]) (fun r hm T2 d2 h2 => ?_)
      have hrt : r ≠ t := by rintro rfl; rw [hc] at hm; cases hm
      simp only [Env.row, lk] at h2 ⊢
      rw [if_neg (fun h => hrt h.symm)] at h2
      exact ⟨h2, g2 r hrt, fun _ _ => by trivial⟩
    obtain ⟨v', w', M', q1, q2, q3⟩ := R0.append (ty := o.type) (r := t) hT hz0 (by simp [Env.row, lk]) hz hs' hrs hyo' hap h63 h64 hpin
    refine ⟨v', w', M', ?_, q2, fun T2 d2 _ => ?_⟩
    · unfold execOp
      rw [ho]
      simp only [resolve, invoke, builtin, Sem.run_bind, Sem.run_pure, Result.andThen, List.map_toArray, List.map_cons, List.map_nil]
      rw [hxv, ← g1, q1]
    · simp only [PathTo]
      exact q3.symm
end Go.Proofs.Ytmdojlglemnijaa.Rf
