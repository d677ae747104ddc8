/- A logic of our own over the kit's 'wp': thirteenth part: a region that draws its order. Plain definitions and theorems. -/
import Derived.Test.YtmdojlglemnijaaRf12
namespace Go.Proofs.Ytmdojlglemnijaa.Rf
open Go.RowKit
set_option linter.unusedVariables false
set_option linter.unnecessarySimpa false
set_option linter.unusedSimpArgs false

/-- One operation, its guard included. -/
def OpStep (P : Program) (C : Ctx) (ops : Array Oper) (o : Oper) (E E' : Env) : Prop :=
  ∀ a w, Rel C E a w → ∀ (K : Act → World → Prop) (Q : Exit → Act → World → Prop), (∀ a' w', Rel C E' a' w' → K a' w') → if Region.wanted o (yielded ops a.tmps) = true then o.wp P a w K Q else K (a.put o.dst undef) w
theorem OpStep.plain {P : Program} {C : Ctx} {ops : Array Oper} {o : Oper} {E E' : Env} (hg : o.guard = none) (h : Step P C o E E') : OpStep P C ops o E E' := fun a w R K Q hK => by
  rw [if_pos (by simp [Region.wanted, hg])]
  exact h a w R K Q hK
theorem guard_val {C : Ctx} {E : Env} {a : Act} {w : World} {ops : Array Oper} {j t : Nat} {b : Bool} (R : Rel C E a w) (hj : (ops[j]?).bind (·.dst) = some t) (ht : t < C.n) (hb : E.get t = .one (.d (.bool b))) : yielded ops a.tmps j = some b := by
  obtain ⟨M, R0⟩ := R
  have hv : a.tmps.getD t undef = .bool b := by
    have := R0.tm t
    rw [hb] at this
    exact rd_val this rfl
  unfold yielded
  have hlt : t < a.tmps.size := by rw [R0.tn]; exact ht
  have : a.tmps[t]? = some (.bool b) := by
    rw [Array.getElem?_eq_getElem hlt]
    have h2 := hv
    simp [Array.getD_eq_getD_getElem?, Array.getElem?_eq_getElem hlt] at h2
    rw [h2]
  simp only [hj, Option.bind_some, this]
theorem OpStep.yes {P : Program} {C : Ctx} {ops : Array Oper} {o : Oper} {E E' : Env} {j t : Nat} {want : Bool} (hg : o.guard = some (j, want)) (hj : (ops[j]?).bind (·.dst) = some t) (ht : t < C.n) (hb : E.get t = .one (.d (.bool want))) (h : Step P C o E E') : OpStep P C ops o E E' := fun a w R K Q hK => by
  rw [if_pos (by simp [Region.wanted, hg, guard_val R hj ht hb])]
  exact h a w R K Q hK
theorem OpStep.no {P : Program} {C : Ctx} {ops : Array Oper} {o : Oper} {E : Env} {j t u : Nat} {want b : Bool} (hg : o.guard = some (j, want)) (hj : (ops[j]?).bind (·.dst) = some t) (ht : t < C.n) (hb : E.get t = .one (.d (.bool b))) (hne : b ≠ want) (hd : o.dst = some u) (hu : u < C.n) : OpStep P C ops o E (E.set u (.one .und)) := fun a w R K Q hK => by
  rw [if_neg (by simp [Region.wanted, hg, guard_val R hj ht hb, hne])]
  obtain ⟨M, R0⟩ := R
  refine hK _ _ ⟨M, ?_⟩
  rw [hd]
  exact R0.put hu trivial

/-- What an operation leaves: a slot's value, new rows. -/
structure Eff where
  dst : Nat
  pv : PV
  rows : List (Nat × (TypeId × D)) := []
def Eff.app (f : Eff) (E : Env) : Env := { E with tm := (f.dst, f.pv) :: E.tm, rows := f.rows ++ E.rows }
/-- The state in which some of the operations have been. -/
def plus (E0 : Env) (L : Nat → Bool) : Nat → List Eff → Env
  | _, [] => E0
  | i, f :: fs => if L i then f.app (plus E0 L (i + 1) fs) else plus E0 L (i + 1) fs
/-- Which operations an operation waits for, through others too. -/
def mask (acc : List Nat) (o : Oper) : Nat := (o.after.toList.filter (Region.binds .any)).foldr (fun e s => s ||| 2 ^ e.on ||| acc.getD e.on 0) 0
def masks : List Oper → List Nat → List Nat
  | [], acc => acc
  | o :: os, acc => masks os (acc ++ [mask acc o])
def reach (l : List Oper) (i j : Nat) : Bool := ((masks l []).getD i 0).testBit j
/-- The slots that an operation reads. -/
def reads (l : List Oper) (o : Oper) : List Nat := o.op.operands.toList.filterMap (fun x => match x with | .tmp t => some t | _ => none) ++ (match o.guard with | some (j, _) => ((l[j]?).bind (·.dst)).toList | none => [])
def allLt (n : Nat) (p : Nat → Bool) : Bool := (List.range n).all p
/-- The region may be told so. -/
def okDraw (E0 : Env) (l : List Oper) (effs : List Eff) : Bool :=
  let m := effs.length
  decide (m ≤ l.length) &&
  allLt l.length (fun i => (l.getD i default).after.toList.all fun e => !Region.binds .any e || decide (e.on < i)) &&
  allLt m (fun i => (l.getD i default).dst == some (effs.getD i ⟨0, .one .und, []⟩).dst) &&
  allLt m (fun i => allLt m fun j => i == j || (effs.getD i ⟨0, .one .und, []⟩).dst != (effs.getD j ⟨0, .one .und, []⟩).dst) &&
  allLt m (fun i => (reads l (l.getD i default)).all fun t => allLt m fun j => (effs.getD j ⟨0, .one .und, []⟩).dst != t || reach l i j) &&
  allLt m (fun i => (effs.getD i ⟨0, .one .und, []⟩).rows.all fun x => E0.noref' x.1 && allLt m fun j => (i == j || ((effs.getD j ⟨0, .one .und, []⟩).rows.all fun y => y.1 != x.1)) && (i == j || !(effs.getD j ⟨0, .one .und, []⟩).pv.cells.any (·.ment x.1) || reach l j i)) &&
  allLt l.length (fun i => decide (i < m) || allLt i fun j => reach l i j)

theorem allLt_spec {n : Nat} {p : Nat → Bool} (h : allLt n p = true) : ∀ i, i < n → p i = true := fun i hi => (List.all_eq_true.1 h) i (List.mem_range.2 hi)

theorem plus_get {E0 : Env} {L : Nat → Bool} : ∀ (fs : List Eff) (i t : Nat), (∀ j, j < fs.length → L (i + j) = true → (fs.getD j ⟨0, .one .und, []⟩).dst ≠ t) → (plus E0 L i fs).get t = E0.get t
  | [], i, t, _ => rfl
  | f :: fs, i, t, h => by
    have ih := plus_get (E0 := E0) fs (i + 1) t (fun j hj hl => by have := h (j + 1) (by simp; omega) (by rw [← hl]; congr 1; omega); simpa using this)
    simp only [plus]
    split
    · rename_i hL
      have h0 := h 0 (by simp) (by simpa using hL)
      simp only [List.getD_cons_zero] at h0
      show (lk ((f.dst, f.pv) :: (plus E0 L (i + 1) fs).tm) t).getD _ = _
      simp only [lk]
      rw [if_neg h0]
      exact ih
    · exact ih
theorem plus_get_at {E0 : Env} {L : Nat → Bool} : ∀ (fs : List Eff) (i j : Nat) (f : Eff), fs[j]? = some f → L (i + j) = true → (∀ q, q < fs.length → q ≠ j → (fs.getD q ⟨0, .one .und, []⟩).dst ≠ f.dst) → (plus E0 L i fs).get f.dst = f.pv
  | [], i, j, f, hf, _, _ => by simp at hf
  | g :: fs, i, j, f, hf, hL, hd => by
    cases j with
    | zero =>
      simp at hf
      subst hf
      simp only [plus]
      rw [if_pos (by simpa using hL)]
      show (lk ((g.dst, g.pv) :: _) g.dst).getD _ = _
      simp [lk]
    | succ j =>
      have ih := plus_get_at (E0 := E0) fs (i + 1) j f (by simpa using hf) (by rw [← hL]; congr 1; omega) (fun q hq hqj => by have := hd (q + 1) (by simp; omega) (by omega); simpa using this)
      have h0 := hd 0 (by simp) (by omega)
      simp only [List.getD_cons_zero] at h0
      simp only [plus]
      split
      · show (lk ((g.dst, g.pv) :: (plus E0 L (i + 1) fs).tm) f.dst).getD _ = _
        simp only [lk]
        rw [if_neg h0]
        exact ih
      · exact ih
theorem plus_boxes {E0 : Env} {L : Nat → Bool} : ∀ (fs : List Eff) (i : Nat), (plus E0 L i fs).boxes = E0.boxes
  | [], i => rfl
  | f :: fs, i => by
    simp only [plus]
    split
    · exact plus_boxes fs (i + 1)
    · exact plus_boxes fs (i + 1)
theorem lk_append {α : Type} (l m : List (Nat × α)) (t : Nat) : lk (l ++ m) t = (lk l t).or (lk m t) := by
  induction l with
  | nil => simp [lk]
  | cons x l ih =>
    obtain ⟨k, v⟩ := x
    simp only [List.cons_append, lk]
    split
    · rfl
    · exact ih
theorem lk_none {α : Type} {l : List (Nat × α)} {t : Nat} (h : ∀ x ∈ l, x.1 ≠ t) : lk l t = none := by
  induction l with
  | nil => rfl
  | cons x l ih =>
    obtain ⟨k, v⟩ := x
    simp only [lk]
    rw [if_neg (h (k, v) (by simp))]
    exact ih fun y hy => h y (by simp [hy])
/-- A row that none of those makes. -/
theorem plus_row {E0 : Env} {L : Nat → Bool} : ∀ (fs : List Eff) (i r : Nat), (∀ j, j < fs.length → L (i + j) = true → ∀ x ∈ (fs.getD j ⟨0, .one .und, []⟩).rows, x.1 ≠ r) → (plus E0 L i fs).row r = E0.row r
  | [], i, r, _ => rfl
  | f :: fs, i, r, h => by
    have ih := plus_row (E0 := E0) fs (i + 1) r (fun j hj hl => by have := h (j + 1) (by simp; omega) (by rw [← hl]; congr 1; omega); simpa using this)
    simp only [plus]
    split
    · rename_i hL
      have h0 := h 0 (by simp) (by simpa using hL)
      simp only [List.getD_cons_zero] at h0
      show lk (f.rows ++ (plus E0 L (i + 1) fs).rows) r = _
      rw [lk_append, lk_none h0]
      exact ih
    · exact ih
theorem plus_row_at {E0 : Env} {L : Nat → Bool} : ∀ (fs : List Eff) (i j : Nat) (f : Eff) (r : Nat), fs[j]? = some f → L (i + j) = true → (∃ x ∈ f.rows, x.1 = r) → (∀ q, q < fs.length → q ≠ j → ∀ x ∈ (fs.getD q ⟨0, .one .und, []⟩).rows, x.1 ≠ r) → (plus E0 L i fs).row r = lk f.rows r
  | [], i, j, f, r, hf, _, _, _ => by simp at hf
  | g :: fs, i, j, f, r, hf, hL, hx, hd => by
    cases j with
    | zero =>
      simp at hf
      subst hf
      simp only [plus]
      rw [if_pos (by simpa using hL)]
      show lk (g.rows ++ _) r = _
      rw [lk_append]
      have : (lk g.rows r).isSome = true := by
        obtain ⟨x, hx, rfl⟩ := hx
        clear hd
        generalize g.rows = l at hx
        induction l with
        | nil => cases hx
        | cons y l ih =>
          obtain ⟨k, v⟩ := y
          simp only [lk]
          split
          · rfl
          · rename_i hne
            rcases List.mem_cons.1 hx with rfl | hx
            · exact absurd rfl hne
            · exact ih hx
      obtain ⟨y, hy⟩ := Option.isSome_iff_exists.1 this
      rw [hy]; rfl
    | succ j =>
      have ih := plus_row_at (E0 := E0) fs (i + 1) j f r (by simpa using hf) (by rw [← hL]; congr 1; omega) hx (fun q hq hqj => by have := hd (q + 1) (by simp; omega) (by omega); simpa using this)
      have h0 := hd 0 (by simp) (by omega)
      simp only [List.getD_cons_zero] at h0
      simp only [plus]
      split
      · show lk (g.rows ++ (plus E0 L (i + 1) fs).rows) r = _
        rw [lk_append, lk_none h0]
        exact ih
      · exact ih

theorem masks_append (l l' : List Oper) (acc : List Nat) : masks (l ++ l') acc = masks l' (masks l acc) := by
  induction l generalizing acc with
  | nil => rfl
  | cons o l ih => exact ih _
theorem masks_length (l : List Oper) : ∀ acc, (masks l acc).length = acc.length + l.length := by
  induction l with
  | nil => intro acc; rfl
  | cons o l ih => intro acc; simp only [masks]; rw [ih]; simp; omega
theorem masks_get (l : List Oper) : ∀ (acc : List Nat) (i : Nat), i < acc.length → (masks l acc).getD i 0 = acc.getD i 0 := by
  induction l with
  | nil => intro acc i _; rfl
  | cons o l ih =>
    intro acc i hi
    simp only [masks]
    rw [ih _ _ (by simp; omega)]
    simp [List.getD_eq_getElem?_getD, List.getElem?_append_left hi]
theorem masks_at (l : List Oper) : ∀ (acc : List Nat) (i : Nat) (o : Oper), l[i]? = some o → (masks l acc).getD (acc.length + i) 0 = mask (masks (l.take i) acc) o := by
  induction l with
  | nil => intro acc i o h; simp at h
  | cons q l ih =>
    intro acc i o h
    cases i with
    | zero =>
      simp at h; subst h
      simp only [masks, List.take_zero, Nat.add_zero]
      rw [masks_get _ _ _ (by simp)]
      simp [List.getD_eq_getElem?_getD]
    | succ i =>
      simp only [masks, List.take_succ_cons]
      have := ih (acc ++ [mask acc q]) i o (by simpa using h)
      rw [← this]
      congr 1
      simp; omega
theorem mask_bit {acc : List Nat} {o : Oper} {j : Nat} (h : (mask acc o).testBit j = true) : ∃ e ∈ o.after, Region.binds .any e = true ∧ (e.on = j ∨ (acc.getD e.on 0).testBit j = true) := by
  unfold mask at h
  have key : ∀ (l : List Edge), (l.foldr (fun e s => s ||| 2 ^ e.on ||| acc.getD e.on 0) 0).testBit j = true → ∃ e ∈ l, e.on = j ∨ (acc.getD e.on 0).testBit j = true := by
    intro l
    induction l with
    | nil => intro h; simp at h
    | cons e l ih =>
      intro h
      simp only [List.foldr_cons, Nat.testBit_or, Bool.or_eq_true] at h
      rcases h with (h | h) | h
      · obtain ⟨e', he', h⟩ := ih h; exact ⟨e', by simp [he'], h⟩
      · refine ⟨e, by simp, .inl ?_⟩
        by_cases hj : e.on = j
        · exact hj
        · rw [Nat.testBit_two_pow_of_ne hj] at h; exact absurd h (by simp)
      · exact ⟨e, by simp, .inr h⟩
  obtain ⟨e, he, h⟩ := key _ h
  simp only [List.mem_filter] at he
  exact ⟨e, by simpa using he.1, he.2, h⟩
/-- What has come up, all it waits for has. -/
theorem reach_closed {l : List Oper} {L : Nat → Bool} (hac : ∀ i o, l[i]? = some o → ∀ e ∈ o.after, Region.binds .any e = true → e.on < i) (hcl : ∀ i o, l[i]? = some o → L i = true → ∀ e ∈ o.after, Region.binds .any e = true → L e.on = true) :
    ∀ i o, l[i]? = some o → (∀ e ∈ o.after, Region.binds .any e = true → L e.on = true) → ∀ j, reach l i j = true → L j = true := by
  intro i
  induction i using Nat.strongRecOn with
  | _ i ih =>
    intro o ho hpre j hj
    unfold reach at hj
    have hat := masks_at l [] i o ho
    rw [List.length_nil, Nat.zero_add] at hat
    rw [hat] at hj
    obtain ⟨e, he, hb, h⟩ := mask_bit hj
    have hlt := hac i o ho e he hb
    have hLe := hpre e he hb
    rcases h with rfl | h
    · exact hLe
    · have hil : i < l.length := (List.getElem?_eq_some_iff.1 ho).1
      have hel : e.on < l.length := by omega
      have heo : l[e.on]? = some l[e.on] := List.getElem?_eq_getElem hel
      refine ih e.on hlt _ heo (fun e' he' hb' => hcl _ _ heo hLe e' he' hb') j ?_
      unfold reach
      have h2 := masks_get (l.drop i) (masks (l.take i) []) e.on (by rw [masks_length]; simp; omega)
      rw [← masks_append, List.take_append_drop] at h2
      rw [h2]
      exact h

theorem RelM.drew {C : Ctx} {M : Maps} {E : Env} {a : Act} {w : World} (R : RelM C M E a w) : RelM C M E a { w with drawn := w.drawn + 1 } :=
  R.grow (w' := { w with drawn := w.drawn + 1 }) ⟨rfl, rfl, rfl, Nat.le_refl _, fun _ _ => rfl⟩

/-- What the state must be where operation i comes up. -/
structure At (E0 : Env) (l : List Oper) (effs : List Eff) (i : Nat) (o : Oper) (E : Env) : Prop where
  boxes : E.boxes = E0.boxes
  get : ∀ t ∈ reads l o, E.get t = (plus E0 (fun _ => true) 0 effs).get t
  row : ∀ r, (allLt effs.length fun j => !((effs.getD j ⟨0, .one .und, []⟩).rows.any fun x => x.1 == r) || reach l i j) = true → E.row r = (plus E0 (fun _ => true) 0 effs).row r
  fresh : ∀ x ∈ (effs.getD i ⟨0, .one .und, []⟩).rows, E.noref' x.1 = true
/-- Each operation takes such a state on. -/
inductive Steps_ (P : Program) (C : Ctx) (E0 : Env) (l : List Oper) (effs : List Eff) : Nat → List Oper → List Eff → Prop
  | nil (i : Nat) (os : List Oper) : Steps_ P C E0 l effs i os []
  | cons {i : Nat} {o : Oper} {os : List Oper} {f : Eff} {fs : List Eff} : (∀ E, At E0 l effs i o E → OpStep P C l.toArray o E (f.app E)) → Steps_ P C E0 l effs (i + 1) os fs → Steps_ P C E0 l effs i (o :: os) (f :: fs)
theorem Steps_.at_ {P : Program} {C : Ctx} {E0 : Env} {l : List Oper} {effs : List Eff} {i : Nat} {os : List Oper} {fs : List Eff} (h : Steps_ P C E0 l effs i os fs) : ∀ (j : Nat) (o : Oper) (f : Eff), os[j]? = some o → fs[j]? = some f → ∀ E, At E0 l effs (i + j) o E → OpStep P C l.toArray o E (f.app E) := by
  induction h with
  | nil i os => intro j o f _ hf; simp at hf
  | @cons i o os f fs h1 _ ih =>
    intro j o' f' ho hf
    cases j with
    | zero => simp at ho hf; subst ho hf; exact h1
    | succ j =>
      intro E hE
      exact ih j o' f' (by simpa using ho) (by simpa using hf) E (by rw [show i + 1 + j = i + (j + 1) from by omega]; exact hE)

/-- The rest of the operations can come up in the order of the text alone. -/
theorem any_tail {P : Program} {l : List Oper} {QQ : Exit → Act → World → Prop} : ∀ (fuel k : Nat) (listed : Array Bool) (a : Act) (w : World), listed.size = l.length → (∀ j, j < l.length → listed.getD j false = decide (j < k)) → l.length ≤ k + fuel → k ≤ l.length →
    (∀ i o, l[i]? = some o → ∀ e ∈ o.after, Region.binds .any e = true → e.on < i) → (∀ i, k ≤ i → i < l.length → ∀ j, j < i → reach l i j = true) →
    wpList P l.toArray QQ (l.drop k) a w → wpAny P .any l.toArray QQ fuel listed a w := by
  intro fuel
  induction fuel with
  | zero =>
    intro k listed a w hs hl hf hk hac hre h
    have hkl : k = l.length := by omega
    subst hkl
    rw [List.drop_length] at h
    refine ⟨?_, h⟩
    rw [List.eq_nil_iff_forall_not_mem]
    intro j hj
    obtain ⟨h1, o, ho, _⟩ := mem_ready.1 hj
    have hjl : j < l.length := by simpa using (Array.getElem?_eq_some_iff.1 ho).1
    have := hl j hjl
    have e : listed.getD j true = listed.getD j false := by simp [Array.getD_eq_getD_getElem?, Array.getElem?_eq_getElem (show j < listed.size by omega)]
    rw [e, this] at h1
    simp at h1; omega
  | succ fuel ih =>
    intro k listed a w hs hl hf hk hac hre h
    have hget : ∀ j, j < l.length → listed.getD j true = decide (j < k) := fun j hj => by
      rw [← hl j hj]
      simp [Array.getD_eq_getD_getElem?, Array.getElem?_eq_getElem (show j < listed.size by omega)]
    have honly : ∀ j ∈ Region.ready .any l.toArray listed, j = k := fun j hj => by
      obtain ⟨h1, o, ho, hpre⟩ := mem_ready.1 hj
      have hjl : j < l.length := by simpa using (Array.getElem?_eq_some_iff.1 ho).1
      rw [hget j hjl] at h1
      have hkj : k ≤ j := by simpa using h1
      rcases Nat.lt_or_ge k j with hlt | hge
      · exfalso
        have hr := hre j hkj hjl k hlt
        have hcl : ∀ i o, l[i]? = some o → (fun q => listed.getD q false) i = true → ∀ e ∈ o.after, Region.binds .any e = true → (fun q => listed.getD q false) e.on = true := fun i o ho hi e he hb => by
          have hil : i < l.length := (List.getElem?_eq_some_iff.1 ho).1
          have he' := hac i o ho e he hb
          simp only at hi ⊢
          rw [hl i hil] at hi
          rw [hl e.on (by omega)]
          simp at hi ⊢; omega
        have := reach_closed hac hcl j o (by simpa using ho) hpre k hr
        rw [hl k (by omega)] at this
        simp at this
      · omega
    refine ⟨fun hr => ?_, fun i hi => ?_⟩
    · rcases Nat.lt_or_ge k l.length with hkl | hkl
      · exfalso
        have hko : l[k]? = some l[k] := List.getElem?_eq_getElem hkl
        have : k ∈ Region.ready .any l.toArray listed := mem_ready.2 ⟨by rw [hget k hkl]; simp, l[k], by simpa using hko, fun e he hb => by
          have he' := hac k _ hko e he hb
          rw [hl e.on (by omega)]; simpa using he'⟩
        rw [hr] at this
        cases this
      · have : k = l.length := by omega
        subst this
        rw [List.drop_length] at h
        exact h
    · have := honly i hi
      subst this
      have hil : i < l.length := by
        obtain ⟨_, o, ho, _⟩ := mem_ready.1 hi
        simpa using (Array.getElem?_eq_some_iff.1 ho).1
      have hio : l.toArray[i]? = some l[i] := by simp [List.getElem?_eq_getElem hil]
      rw [List.drop_eq_getElem_cons hil] at h
      unfold wpOp
      rw [hio]
      simp only
      unfold wpList at h
      have hnext : ∀ a w, wpList P l.toArray QQ (l.drop (i + 1)) a w → wpAny P .any l.toArray QQ fuel (listed.setIfInBounds i true) a w := fun a w h => by
        refine ih (i + 1) _ a w (by simp [hs]) (fun j hj => ?_) (by omega) (by omega) hac (fun q hq => hre q (by omega)) h
        by_cases e : i = j
        · subst e
          simp [Array.getD_eq_getD_getElem?, Array.getElem?_setIfInBounds, hs, hj]
        · rw [getD_set_ne false e, hl j hj]
          simp; omega
      split at h
      · rename_i hw; rw [if_pos hw]; exact h.imp (Oper.wp_mono hnext) id
      · rename_i hw; rw [if_neg hw]; exact hnext _ _ h


theorem plus_all {E0 : Env} {L : Nat → Bool} : ∀ (fs : List Eff) (i : Nat), (∀ j, j < fs.length → L (i + j) = true) → plus E0 L i fs = plus E0 (fun _ => true) i fs
  | [], i, _ => rfl
  | f :: fs, i, h => by
    simp only [plus]
    rw [if_pos (show L i = true by simpa using h 0 (by simp))]
    simp only [if_true]
    rw [plus_all fs (i + 1) (fun j hj => by rw [show i + 1 + j = i + (j + 1) from by omega]; exact h (j + 1) (by simp; omega))]
theorem plus_none {E0 : Env} {L : Nat → Bool} : ∀ (fs : List Eff) (i : Nat), (∀ j, j < fs.length → L (i + j) = false) → plus E0 L i fs = E0
  | [], i, _ => rfl
  | f :: fs, i, h => by
    simp only [plus]
    rw [if_neg (by rw [show L i = false from by simpa using h 0 (by simp)]; simp), plus_none fs (i + 1) (fun j hj => by rw [show i + 1 + j = i + (j + 1) from by omega]; exact h (j + 1) (by simp; omega))]
theorem plus_mem {E0 : Env} {L : Nat → Bool} {x : Nat × PV} : ∀ (fs : List Eff) (i : Nat), x ∈ (plus E0 L i fs).tm → x ∈ E0.tm ∨ ∃ j f, fs[j]? = some f ∧ L (i + j) = true ∧ x = (f.dst, f.pv)
  | [], i, h => .inl h
  | f :: fs, i, h => by
    simp only [plus] at h
    have ih := fun h => plus_mem (x := x) (E0 := E0) (L := L) fs (i + 1) h
    split at h
    · rename_i hL
      rcases List.mem_cons.1 h with e | h
      · exact .inr ⟨0, f, rfl, by simpa using hL, e⟩
      · rcases ih h with h | ⟨j, g, h1, h2, h3⟩
        · exact .inl h
        · exact .inr ⟨j + 1, g, by simpa using h1, by rw [← h2]; congr 1; omega, h3⟩
    · rcases ih h with h | ⟨j, g, h1, h2, h3⟩
      · exact .inl h
      · exact .inr ⟨j + 1, g, by simpa using h1, by rw [← h2]; congr 1; omega, h3⟩

theorem any_pre {P : Program} {C : Ctx} {E0 : Env} {l : List Oper} {effs : List Eff} {QQ : Exit → Act → World → Prop} (hok : okDraw E0 l effs = true) (hst : Steps_ P C E0 l effs 0 l effs)
    (htail : ∀ a w, Rel C (plus E0 (fun _ => true) 0 effs) a w → wpList P l.toArray QQ (l.drop effs.length) a w) :
    ∀ (fuel : Nat) (U : List Nat) (listed : Array Bool) (a : Act) (w : World), listed.size = l.length → (∀ j, effs.length ≤ j → listed.getD j false = false) → (∀ j, j < effs.length → listed.getD j false = false → j ∈ U) → U.length + (l.length - effs.length) ≤ fuel →
      (∀ i o, l[i]? = some o → listed.getD i false = true → ∀ e ∈ o.after, Region.binds .any e = true → listed.getD e.on false = true) →
      Rel C (plus E0 (fun j => listed.getD j false) 0 effs) a w → wpAny P .any l.toArray QQ fuel listed a w := by
  simp only [okDraw, Bool.and_eq_true, decide_eq_true_eq] at hok
  obtain ⟨⟨⟨⟨⟨⟨o1, o2⟩, o3⟩, o4⟩, o5⟩, o6⟩, o7⟩ := hok
  have hac : ∀ i o, l[i]? = some o → ∀ e ∈ o.after, Region.binds .any e = true → e.on < i := fun i o ho e he hb => by
    have hil : i < l.length := (List.getElem?_eq_some_iff.1 ho).1
    have := allLt_spec o2 i hil
    rw [List.all_eq_true] at this
    have hd : l.getD i default = o := by rw [List.getD_eq_getElem?_getD, ho]; rfl
    have := this e (by rw [hd]; simpa using he)
    simp only [hb, Bool.not_true, Bool.false_or, decide_eq_true_eq] at this
    exact this
  have hre : ∀ i, effs.length ≤ i → i < l.length → ∀ j, j < i → reach l i j = true := fun i hi hil j hj => by
    have := allLt_spec o7 i hil
    simp only [Bool.or_eq_true, decide_eq_true_eq] at this
    rcases this with h | h
    · omega
    · exact allLt_spec h j hj
  have hne : ∀ i, i < effs.length → ∀ j, j < effs.length → i ≠ j → (effs.getD i ⟨0, .one .und, []⟩).dst ≠ (effs.getD j ⟨0, .one .und, []⟩).dst := fun i hi j hj h => by
    have := allLt_spec (allLt_spec o4 i hi) j hj
    simp only [Bool.or_eq_true, beq_iff_eq, bne_iff_ne] at this
    rcases this with h' | h'
    · exact absurd h' h
    · exact h'
  intro fuel
  induction fuel with
  | zero =>
    intro U listed a w hs hge hU hf hcl R
    have hall : ∀ j, j < effs.length → listed.getD j false = true := fun j hj => by
      cases h : listed.getD j false with
      | true => rfl
      | false => have := hU j hj h; have h0 : U = [] := List.eq_nil_of_length_eq_zero (by omega); rw [h0] at this; cases this
    rw [plus_all effs 0 (fun j hj => by simpa using hall j hj)] at R
    refine any_tail 0 effs.length listed a w hs (fun j hj => ?_) (by omega) o1 hac hre (htail a w R)
    by_cases h : j < effs.length
    · rw [hall j h]; simp [h]
    · rw [hge j (by omega)]; simp [h]
  | succ fuel ih =>
    intro U listed a w hs hge hU hf hcl R
    by_cases hall : ∀ j, j < effs.length → listed.getD j false = true
    · rw [plus_all effs 0 (fun j hj => by simpa using hall j hj)] at R
      refine any_tail (fuel + 1) effs.length listed a w hs (fun j hj => ?_) (by omega) o1 hac hre (htail a w R)
      by_cases h : j < effs.length
      · rw [hall j h]; simp [h]
      · rw [hge j (by omega)]; simp [h]
    · refine ⟨fun hr => ?_, fun i hi => ?_⟩
      · -- the least that has not come up may
        exfalso
        have : ∃ j, j < effs.length ∧ listed.getD j false = false := Classical.byContradiction fun hn => hall fun j hj => by
          cases h : listed.getD j false with
          | true => rfl
          | false => exact absurd ⟨j, hj, h⟩ hn
        obtain ⟨j, hj, hjf⟩ := this
        have least : ∀ n, ∀ j, j ≤ n → j < effs.length → listed.getD j false = false → ∃ q, q < effs.length ∧ listed.getD q false = false ∧ ∀ p, p < q → listed.getD p false = true := by
          intro n
          induction n with
          | zero => intro j hjn hj hjf; exact ⟨j, hj, hjf, fun p hp => by omega⟩
          | succ n ihn =>
            intro j hjn hj hjf
            by_cases hlow : ∃ p, p < j ∧ listed.getD p false = false
            · obtain ⟨p, hp, hpf⟩ := hlow; exact ihn p (by omega) (by omega) hpf
            · exact ⟨j, hj, hjf, fun p hp => by cases h : listed.getD p false with | true => rfl | false => exact absurd ⟨p, hp, h⟩ hlow⟩
        obtain ⟨q, hq, hqf, hlow⟩ := least j j (Nat.le_refl _) hj hjf
        have hql : q < l.length := by omega
        have hqo : l[q]? = some l[q] := List.getElem?_eq_getElem hql
        have : q ∈ Region.ready .any l.toArray listed := mem_ready.2 ⟨by
          rw [← hqf]; simp [Array.getD_eq_getD_getElem?, Array.getElem?_eq_getElem (show q < listed.size by omega)], l[q], by simpa using hqo, fun e he hb => hlow _ (hac q _ hqo e he hb)⟩
        rw [hr] at this
        cases this
      · obtain ⟨h1, o, ho, hpre⟩ := mem_ready.1 hi
        have hil : i < l.length := by simpa using (Array.getElem?_eq_some_iff.1 ho).1
        have hio : l[i]? = some o := by simpa using ho
        have hif : listed.getD i false = false := by
          rw [← h1]; simp [Array.getD_eq_getD_getElem?, Array.getElem?_eq_getElem (show i < listed.size by omega)]
        have hrc := reach_closed (L := fun q => listed.getD q false) hac hcl i o hio hpre
        have him : i < effs.length := by
          rcases Nat.lt_or_ge i effs.length with h | h
          · exact h
          · exfalso; exact hall fun j hj => hrc j (hre i h hil j (by omega))
        have hf' : effs[i]? = some effs[i] := List.getElem?_eq_getElem him
        have hgd : effs.getD i ⟨0, .one .und, []⟩ = effs[i] := by rw [List.getD_eq_getElem?_getD, hf']; rfl
        -- the state where it comes up
        have hat : At E0 l effs i o (plus E0 (fun j => listed.getD j false) 0 effs) := by
          refine ⟨plus_boxes _ _, fun t ht => ?_, fun r hr => ?_, fun x hx => ?_⟩
          · by_cases hex : ∃ j, j < effs.length ∧ (effs.getD j ⟨0, .one .und, []⟩).dst = t
            · obtain ⟨j, hj, hjt⟩ := hex
              have hreach : reach l i j = true := by
                have := allLt_spec o5 i him
                rw [List.all_eq_true] at this
                have hd : l.getD i default = o := by rw [List.getD_eq_getElem?_getD, hio]; rfl
                have := allLt_spec (this t (by rw [hd]; exact ht)) j hj
                simp only [Bool.or_eq_true, bne_iff_ne] at this
                rcases this with h | h
                · exact absurd hjt h
                · exact h
              have hjf : effs[j]? = some effs[j] := List.getElem?_eq_getElem hj
              have hjd : effs.getD j ⟨0, .one .und, []⟩ = effs[j] := by rw [List.getD_eq_getElem?_getD, hjf]; rfl
              have hu : ∀ q, q < effs.length → q ≠ j → (effs.getD q ⟨0, .one .und, []⟩).dst ≠ effs[j].dst := fun q hq hqj => by rw [← hjd]; exact hne q hq j hj hqj
              rw [hjd] at hjt
              rw [← hjt, plus_get_at effs 0 j _ hjf (by simpa using hrc j hreach) hu, plus_get_at effs 0 j _ hjf rfl hu]
            · have hno : ∀ j, j < effs.length → (effs.getD j ⟨0, .one .und, []⟩).dst ≠ t := fun j hj h => hex ⟨j, hj, h⟩
              rw [plus_get effs 0 t (fun j hj _ => hno j hj), plus_get effs 0 t (fun j hj _ => hno j hj)]
          · by_cases hex : ∃ j, j < effs.length ∧ ∃ x ∈ (effs.getD j ⟨0, .one .und, []⟩).rows, x.1 = r
            · obtain ⟨j, hj, x, hx, hxr⟩ := hex
              have hreach : reach l i j = true := by
                have := allLt_spec hr j hj
                simp only [Bool.or_eq_true, Bool.not_eq_true'] at this
                rcases this with h | h
                · rw [List.any_eq_false] at h; have := h x hx; simp [hxr] at this
                · exact h
              have hjf : effs[j]? = some effs[j] := List.getElem?_eq_getElem hj
              have hjd : effs.getD j ⟨0, .one .und, []⟩ = effs[j] := by rw [List.getD_eq_getElem?_getD, hjf]; rfl
              have hu : ∀ q, q < effs.length → q ≠ j → ∀ y ∈ (effs.getD q ⟨0, .one .und, []⟩).rows, y.1 ≠ r := fun q hq hqj y hy => by
                have := allLt_spec o6 j hj
                rw [List.all_eq_true] at this
                have := this x hx
                simp only [Bool.and_eq_true] at this
                have := allLt_spec this.2 q hq
                simp only [Bool.and_eq_true, Bool.or_eq_true, beq_iff_eq, List.all_eq_true, bne_iff_ne] at this
                rcases this.1 with h | h
                · exact absurd h.symm hqj
                · rw [← hxr]; exact h y hy
              rw [hjd] at hx
              rw [plus_row_at effs 0 j _ r hjf (by simpa using hrc j hreach) ⟨x, hx, hxr⟩ hu, plus_row_at effs 0 j _ r hjf rfl ⟨x, hx, hxr⟩ hu]
            · have hno : ∀ j, j < effs.length → ∀ x ∈ (effs.getD j ⟨0, .one .und, []⟩).rows, x.1 ≠ r := fun j hj x hx h => hex ⟨j, hj, x, hx, h⟩
              rw [plus_row effs 0 r (fun j hj _ => hno j hj), plus_row effs 0 r (fun j hj _ => hno j hj)]
          · have := allLt_spec o6 i him
            rw [List.all_eq_true] at this
            have hx6 := this x hx
            simp only [Bool.and_eq_true] at hx6
            obtain ⟨e1, e2⟩ := hx6
            simp only [Env.noref', Bool.and_eq_true, List.all_eq_true, Option.isNone_iff_eq_none] at e1 ⊢
            obtain ⟨⟨f1, f2⟩, f3⟩ := e1
            refine ⟨⟨fun y hy c hc => ?_, fun y hy => f2 y (by rw [plus_boxes] at hy; exact hy)⟩, ?_⟩
            · rcases plus_mem effs 0 hy with h | ⟨j, f, h1, h2, rfl⟩
              · exact f1 y h c hc
              · have hj : j < effs.length := (List.getElem?_eq_some_iff.1 h1).1
                have := allLt_spec e2 j hj
                have hjd : effs.getD j ⟨0, .one .und, []⟩ = f := by rw [List.getD_eq_getElem?_getD, h1]; rfl
                simp only [Bool.and_eq_true, Bool.or_eq_true, beq_iff_eq, Bool.not_eq_true', hjd, List.any_eq_false] at this
                have hLj : listed.getD j false = true := by simpa using h2
                rcases this.2 with (h | h) | h
                · subst h; rw [hif] at hLj; cases hLj
                · have := h c hc; simpa using this
                · have hjl : j < l.length := by omega
                  have hjo : l[j]? = some l[j] := List.getElem?_eq_getElem hjl
                  have := reach_closed (L := fun q => listed.getD q false) hac hcl j _ hjo (fun e he hb => hcl j _ hjo hLj e he hb) i h
                  rw [hif] at this; cases this
            · show (plus E0 (fun j => listed.getD j false) 0 effs).row x.1 = none
              rw [plus_row effs 0 x.1 (fun j hj hLj y hy => ?_)]
              · exact f3
              · have := allLt_spec e2 j hj
                simp only [Bool.and_eq_true, Bool.or_eq_true, beq_iff_eq, List.all_eq_true, bne_iff_ne] at this
                rcases this.1 with h | h
                · subst h
                  have : listed.getD i false = true := by simpa using hLj
                  rw [hif] at this; cases this
                · exact h y hy
        have hstep := hst.at_ i o effs[i] hio hf' _ (by rw [Nat.zero_add]; exact hat)
        unfold wpOp
        rw [ho]
        simp only
        have hgo := hstep a w R (wpAny P .any l.toArray QQ fuel (listed.setIfInBounds i true)) QQ fun a' w' R' => ?_
        · split
          · rename_i hw; rw [if_pos hw] at hgo; exact .inl hgo
          · rename_i hw; rw [if_neg hw] at hgo; exact hgo
        · have hset : ∀ j, (listed.setIfInBounds i true).getD j false = if j = i then true else listed.getD j false := fun j => by
            by_cases h : i = j
            · subst h; simp [Array.getD_eq_getD_getElem?, Array.getElem?_setIfInBounds, hs, hil]
            · rw [getD_set_ne false h, if_neg (fun e => h e.symm)]
          refine ih (U.erase i) _ a' w' (by simp [hs]) (fun j hj => by rw [hset, if_neg (by omega)]; exact hge j hj) (fun j hj hjf => ?_) ?_ (fun q oq hq hql e he hb => ?_) ?_
          · rw [hset] at hjf
            split at hjf
            · cases hjf
            · rename_i hji; exact (List.mem_erase_of_ne hji).2 (hU j hj hjf)
          · have := List.length_erase_of_mem (hU i him hif)
            have hpos : 0 < U.length := List.length_pos_of_mem (hU i him hif)
            omega
          · rw [hset] at hql ⊢
            split at hql
            · rename_i hqi; subst hqi
              rw [hio] at hq; injection hq with hq; subst hq
              split
              · rfl
              · exact hpre e he hb
            · split
              · rfl
              · exact hcl q oq hq hql e he hb
          · -- the state behind it
            refine R'.weaken ⟨fun t => ?_, fun r x hx => ?_, fun b T ps hb => ?_⟩
            · have hgi : (effs[i].app (plus E0 (fun j => listed.getD j false) 0 effs)).get t = if effs[i].dst = t then effs[i].pv else (plus E0 (fun j => listed.getD j false) 0 effs).get t := Env.get_set _ _ _ _
              rw [hgi]
              have heq : (plus E0 (fun j => (listed.setIfInBounds i true).getD j false) 0 effs).get t = if effs[i].dst = t then effs[i].pv else (plus E0 (fun j => listed.getD j false) 0 effs).get t := by
                have hu : ∀ j (hj : j < effs.length), ∀ q, q < effs.length → q ≠ j → (effs.getD q ⟨0, .one .und, []⟩).dst ≠ effs[j].dst := fun j hj q hq hqj => by
                  have hjd : effs.getD j ⟨0, .one .und, []⟩ = effs[j] := by rw [List.getD_eq_getElem?_getD, List.getElem?_eq_getElem hj]; rfl
                  rw [← hjd]; exact hne q hq j hj hqj
                by_cases ht : effs[i].dst = t
                · rw [if_pos ht, ← ht, plus_get_at effs 0 i _ hf' (by simp only [Nat.zero_add]; rw [hset, if_pos rfl]) (hu i him)]
                · rw [if_neg ht]
                  by_cases hex : ∃ j, ∃ hj : j < effs.length, effs[j].dst = t ∧ listed.getD j false = true
                  · obtain ⟨j, hj, hjt, hjl⟩ := hex
                    have hjf : effs[j]? = some effs[j] := List.getElem?_eq_getElem hj
                    rw [← hjt, plus_get_at effs 0 j _ hjf (by simp only [Nat.zero_add]; rw [hset]; split; rfl; exact hjl) (hu j hj), plus_get_at effs 0 j _ hjf (by simpa using hjl) (hu j hj)]
                  · rw [plus_get effs 0 t (fun j hj hL => ?_), plus_get effs 0 t (fun j hj hL => ?_)]
                    · have hjd : effs.getD j ⟨0, .one .und, []⟩ = effs[j] := by rw [List.getD_eq_getElem?_getD, List.getElem?_eq_getElem hj]; rfl
                      rw [hjd]; exact fun h => hex ⟨j, hj, h, by simpa using hL⟩
                    · have hjd : effs.getD j ⟨0, .one .und, []⟩ = effs[j] := by rw [List.getD_eq_getElem?_getD, List.getElem?_eq_getElem hj]; rfl
                      simp only [Nat.zero_add] at hL
                      rw [hset] at hL
                      rw [hjd]
                      split at hL
                      · rename_i e; subst e; exact ht
                      · exact fun h => hex ⟨j, hj, h, hL⟩
              rw [heq]
              exact PV.le_refl _
            · -- the rows
              have hri : (effs[i].app (plus E0 (fun j => listed.getD j false) 0 effs)).row r = (lk effs[i].rows r).or ((plus E0 (fun j => listed.getD j false) 0 effs).row r) := lk_append _ _ _
              rw [hri]
              have hu : ∀ j (hj : j < effs.length), (∃ x ∈ effs[j].rows, x.1 = r) → ∀ q, q < effs.length → q ≠ j → ∀ y ∈ (effs.getD q ⟨0, .one .und, []⟩).rows, y.1 ≠ r := fun j hj ⟨x, hx, hxr⟩ q hq hqj y hy => by
                have hjd : effs.getD j ⟨0, .one .und, []⟩ = effs[j] := by rw [List.getD_eq_getElem?_getD, List.getElem?_eq_getElem hj]; rfl
                have := allLt_spec o6 j hj
                rw [List.all_eq_true] at this
                have := this x (by rw [hjd]; exact hx)
                simp only [Bool.and_eq_true] at this
                have := allLt_spec this.2 q hq
                simp only [Bool.and_eq_true, Bool.or_eq_true, beq_iff_eq, List.all_eq_true, bne_iff_ne] at this
                rcases this.1 with h | h
                · exact absurd h.symm hqj
                · rw [← hxr]; exact h y hy
              by_cases hxi : ∃ x ∈ effs[i].rows, x.1 = r
              · rw [plus_row_at effs 0 i _ r hf' (by simp only [Nat.zero_add]; rw [hset, if_pos rfl]) hxi (hu i him hxi)] at hx
                rw [hx]; rfl
              · rw [lk_none (fun y hy e => hxi ⟨y, hy, e⟩), Option.none_or]
                by_cases hex : ∃ j, ∃ hj : j < effs.length, (∃ x ∈ effs[j].rows, x.1 = r) ∧ listed.getD j false = true
                · obtain ⟨j, hj, hjx, hjl⟩ := hex
                  have hjf : effs[j]? = some effs[j] := List.getElem?_eq_getElem hj
                  rw [plus_row_at effs 0 j _ r hjf (by simp only [Nat.zero_add]; rw [hset]; split; rfl; exact hjl) hjx (hu j hj hjx)] at hx
                  rw [plus_row_at effs 0 j _ r hjf (by simpa using hjl) hjx (hu j hj hjx)]
                  exact hx
                · have hno : ∀ j, j < effs.length → (listed.getD j false = true ∨ j = i) → ∀ y ∈ (effs.getD j ⟨0, .one .und, []⟩).rows, y.1 ≠ r := fun j hj hL y hy e => by
                    have hjd : effs.getD j ⟨0, .one .und, []⟩ = effs[j] := by rw [List.getD_eq_getElem?_getD, List.getElem?_eq_getElem hj]; rfl
                    rw [hjd] at hy
                    rcases hL with hL | rfl
                    · exact hex ⟨j, hj, ⟨y, hy, e⟩, hL⟩
                    · exact hxi ⟨y, hy, e⟩
                  rw [plus_row effs 0 r (fun j hj hL => hno j hj (by
                    simp only [Nat.zero_add] at hL
                    rw [hset] at hL
                    split at hL
                    · right; assumption
                    · left; exact hL))] at hx
                  rw [plus_row effs 0 r (fun j hj hL => hno j hj (.inl (by simpa using hL)))]
                  exact hx
            · have h1 : (effs[i].app (plus E0 (fun j => listed.getD j false) 0 effs)).box b = E0.box b := by show lk (plus E0 (fun j => listed.getD j false) 0 effs).boxes b = _; rw [plus_boxes]; rfl
              have h2 : (plus E0 (fun j => (listed.setIfInBounds i true).getD j false) 0 effs).box b = E0.box b := by show lk (plus E0 (fun j => (listed.setIfInBounds i true).getD j false) 0 effs).boxes b = _; rw [plus_boxes]; rfl
              rw [h2] at hb
              exact ⟨ps, by rw [h1]; exact hb, All2.refl PC.le_refl ps⟩
/-- A region that draws its order: the first operations in whatever order, the rest as the text has it. -/
theorem T.draw {P : Program} {C : Ctx} {id : Nat} {l : List Oper} {E0 : Env} {Q : Exit → Env → Prop} (effs : List Eff) (hm : P.follows .mixedOrders = true) (hok : okDraw E0 l effs = true) (hst : Steps_ P C E0 l effs 0 l effs)
    (htail : TL P C l.toArray (l.drop effs.length) (plus E0 (fun _ => true) 0 effs) (Q .normal)) : T P C (.region id l.toArray true) E0 Q := by
  intro a w ⟨M, R⟩
  refine wp_region_any hm ?_
  have R' := R.drew
  refine any_pre hok hst (fun a w R => htail a w R _ fun a' w' E' hq R' => ⟨E', hq, R'⟩) _ (List.range effs.length) _ a _ (by simp) (fun j _ => by simp [Array.getD_eq_getD_getElem?, Array.getElem?_replicate]; split <;> rfl) (fun j hj _ => by simpa using hj) ?_ (fun i o ho h => ?_) ?_
  · simp only [okDraw, Bool.and_eq_true, decide_eq_true_eq] at hok
    have := hok.1.1.1.1.1.1
    simp; omega
  · have : (Array.replicate l.toArray.size false).getD i false = false := by simp [Array.getD_eq_getD_getElem?, Array.getElem?_replicate]; split <;> rfl
    rw [this] at h; cases h
  · rw [plus_none effs 0 (fun j hj => by simp [Array.getD_eq_getD_getElem?, Array.getElem?_replicate]; split <;> rfl)]
    exact ⟨M, R'⟩

theorem le_ok {a b : Nat} (h : Nat.ble a b = true) : a ≤ b := Nat.le_of_ble_eq_true h
theorem lt_ok {a b : Nat} (h : Nat.ble (a + 1) b = true) : a < b := Nat.le_of_ble_eq_true h
end Go.Proofs.Ytmdojlglemnijaa.Rf
