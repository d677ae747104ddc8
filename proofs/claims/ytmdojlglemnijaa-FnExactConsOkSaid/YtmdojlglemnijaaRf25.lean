/- A logic of our own over the kit's 'wp': regions that draw their order, with operations that change rows and variables. Plain definitions and theorems. -/
import Derived.Test.YtmdojlglemnijaaRf24
namespace Go.Proofs.Ytmdojlglemnijaa.Rf
open Go.RowKit
set_option linter.unusedVariables false
set_option linter.unnecessarySimpa false
set_option linter.unusedSimpArgs false
/-- What an operation leaves: a slot, new rows, rows that are no more, a variable anew. -/
structure EffX where
  dst : Option Nat := none
  pv : PV := .one .und
  rows : List (Nat × (TypeId × D)) := []
  dead : List Nat := []
  box : Option (Nat × (TypeId × List PC)) := none
def EffX.app (f : EffX) (E : Env) : Env := { tm := (match f.dst with | some t => [(t, f.pv)] | none => []) ++ E.tm, rows := f.rows ++ (match f.dead with | [] => E.rows | ds => E.rows.filter fun x => !ds.contains x.1), boxes := (match f.box with | some x => [x] | none => []) ++ E.boxes }
def tmX (L : Nat → Bool) : Nat → List EffX → List (Nat × PV)
  | _, [] => []
  | i, f :: fs => (if L i then (match f.dst with | some t => [(t, f.pv)] | none => []) else []) ++ tmX L (i + 1) fs
def rowsX (L : Nat → Bool) : Nat → List EffX → List (Nat × (TypeId × D))
  | _, [] => []
  | i, f :: fs => (if L i then f.rows else []) ++ rowsX L (i + 1) fs
def deadX (L : Nat → Bool) : Nat → List EffX → List Nat
  | _, [] => []
  | i, f :: fs => (if L i then f.dead else []) ++ deadX L (i + 1) fs
def boxX (L : Nat → Bool) : Nat → List EffX → List (Nat × (TypeId × List PC))
  | _, [] => []
  | i, f :: fs => boxX L (i + 1) fs ++ (if L i then (match f.box with | some x => [x] | none => []) else [])
def mkF (E0 : Env) (L : Nat → Bool) (fs : List EffX) : Env := { tm := tmX L 0 fs ++ E0.tm, rows := (rowsX L 0 fs ++ E0.rows).filter (fun x => !(deadX L 0 fs).contains x.1), boxes := boxX L 0 fs ++ E0.boxes }
def effAt (fs : List EffX) (j : Nat) : EffX := fs.getD j {}

theorem effAt_succ (f : EffX) (fs : List EffX) (j : Nat) : effAt (f :: fs) (j + 1) = effAt fs j := rfl
theorem effAt_zero (f : EffX) (fs : List EffX) : effAt (f :: fs) 0 = f := rfl
theorem tm_agree {L L' : Nat → Bool} {t : Nat} : ∀ (fs : List EffX) (i : Nat), (∀ j, j < fs.length → (effAt fs j).dst = some t → L (i + j) = L' (i + j)) → lk (tmX L i fs) t = lk (tmX L' i fs) t
  | [], _, _ => rfl
  | f :: fs, i, h => by
    have ih := tm_agree (L := L) (L' := L') fs (i + 1) fun j hj hd => by have := h (j + 1) (by simp; omega) hd; rwa [show i + (j + 1) = i + 1 + j from by omega] at this
    simp only [tmX, lk_append, ih]
    congr 1
    cases hd : f.dst with
    | none => simp
    | some s =>
      by_cases e : s = t
      · subst e
        rw [show L i = L' i from by simpa using h 0 (by simp) hd]
      · have : ∀ b : Bool, lk (if b then [(s, f.pv)] else []) t = none := fun b => by cases b <;> simp [lk, e]
        rw [this, this]
theorem rows_agree {L L' : Nat → Bool} {r : Nat} : ∀ (fs : List EffX) (i : Nat), (∀ j, j < fs.length → ((effAt fs j).rows.any fun x => x.1 == r) = true → L (i + j) = L' (i + j)) → lk (rowsX L i fs) r = lk (rowsX L' i fs) r
  | [], _, _ => rfl
  | f :: fs, i, h => by
    have ih := rows_agree (L := L) (L' := L') fs (i + 1) fun j hj hd => by have := h (j + 1) (by simp; omega) hd; rwa [show i + (j + 1) = i + 1 + j from by omega] at this
    simp only [rowsX, lk_append, ih]
    congr 1
    by_cases e : (f.rows.any fun x => x.1 == r) = true
    · rw [show L i = L' i from by simpa using h 0 (by simp) e]
    · have hn : lk f.rows r = none := lk_none fun x hx hxr => e (List.any_eq_true.2 ⟨x, hx, by simp [hxr]⟩)
      have : ∀ b : Bool, lk (if b then f.rows else []) r = none := fun b => by cases b <;> simp [lk, hn]
      rw [this, this]
theorem dead_agree {L L' : Nat → Bool} {r : Nat} : ∀ (fs : List EffX) (i : Nat), (∀ j, j < fs.length → (effAt fs j).dead.contains r = true → L (i + j) = L' (i + j)) → (deadX L i fs).contains r = (deadX L' i fs).contains r
  | [], _, _ => rfl
  | f :: fs, i, h => by
    have ih := dead_agree (L := L) (L' := L') fs (i + 1) fun j hj hd => by have := h (j + 1) (by simp; omega) hd; rwa [show i + (j + 1) = i + 1 + j from by omega] at this
    simp only [deadX, List.contains_append, ih]
    congr 1
    by_cases e : f.dead.contains r = true
    · rw [show L i = L' i from by simpa using h 0 (by simp) e]
    · have : ∀ b : Bool, (if b then f.dead else []).contains r = false := fun b => by cases b <;> simp_all
      rw [this, this]
theorem box_agree {L L' : Nat → Bool} {b : Nat} : ∀ (fs : List EffX) (i : Nat), (∀ j x, j < fs.length → (effAt fs j).box = some (b, x) → L (i + j) = L' (i + j)) → lk (boxX L i fs) b = lk (boxX L' i fs) b
  | [], _, _ => rfl
  | f :: fs, i, h => by
    have ih := box_agree (L := L) (L' := L') fs (i + 1) fun j x hj hd => by have := h (j + 1) x (by simp; omega) hd; rwa [show i + (j + 1) = i + 1 + j from by omega] at this
    simp only [boxX, lk_append, ih]
    congr 1
    cases hd : f.box with
    | none => simp
    | some y =>
      obtain ⟨c, x⟩ := y
      by_cases e : c = b
      · subst e
        rw [show L i = L' i from by simpa using h 0 x (by simp) hd]
      · have : ∀ q : Bool, lk (if q then [(c, x)] else []) b = none := fun q => by cases q <;> simp [lk, e]
        rw [this, this]
theorem lk_filterD {α : Type} (D : List Nat) (l : List (Nat × α)) (r : Nat) : lk (l.filter fun x => !D.contains x.1) r = if D.contains r then none else lk l r := by
  induction l with
  | nil => simp [lk]
  | cons x l ih =>
    obtain ⟨k, v⟩ := x
    by_cases hk : D.contains k = true
    · rw [List.filter_cons_of_neg (by show ¬ (!D.contains k) = true; rw [hk]; simp), ih]
      simp only [lk]
      by_cases e : k = r
      · subst e; rw [if_pos hk, if_pos hk]
      · rw [if_neg e]
    · rw [List.filter_cons_of_pos (by show (!D.contains k) = true; simp only [Bool.not_eq_true', Bool.not_eq_true] at hk ⊢; exact hk)]
      simp only [lk]
      by_cases e : k = r
      · subst e; rw [if_pos rfl, if_neg hk, if_pos rfl]
      · rw [if_neg e, if_neg e, ih]
theorem mkF_row (E0 : Env) (L : Nat → Bool) (fs : List EffX) (r : Nat) : (mkF E0 L fs).row r = if (deadX L 0 fs).contains r then none else (lk (rowsX L 0 fs) r).or (E0.row r) := by
  show lk (List.filter _ _) r = _
  rw [lk_filterD, lk_append]; rfl
theorem mkF_get (E0 : Env) (L : Nat → Bool) (fs : List EffX) (t : Nat) : (mkF E0 L fs).get t = ((lk (tmX L 0 fs) t).or (lk E0.tm t)).getD (.one .und) := by
  show (lk (_ ++ _) t).getD _ = _
  rw [lk_append]
theorem mkF_box (E0 : Env) (L : Nat → Bool) (fs : List EffX) (b : Nat) : (mkF E0 L fs).box b = (lk (boxX L 0 fs) b).or (E0.box b) := by
  show lk (_ ++ _) b = _
  rw [lk_append]; rfl
theorem app_row (f : EffX) (E : Env) (r : Nat) : (f.app E).row r = (lk f.rows r).or (if f.dead.contains r then none else E.row r) := by
  show lk (_ ++ _) r = _
  rw [lk_append]
  congr 1
  split
  · rename_i h; rw [h]; simp; rfl
  · rw [lk_filterD]; rfl
theorem app_get (f : EffX) (E : Env) (t : Nat) : (f.app E).get t = if f.dst = some t then f.pv else E.get t := by
  show (lk (_ ++ _) t).getD _ = _
  rw [lk_append]
  cases hd : f.dst with
  | none => simp [lk]; rfl
  | some s =>
    by_cases e : s = t
    · subst e; simp [lk]
    · simp [lk, e]; rfl
theorem app_box (f : EffX) (E : Env) (b : Nat) : (f.app E).box b = (match f.box with | some x => if x.1 = b then some x.2 else none | none => none).or (E.box b) := by
  show lk (_ ++ _) b = _
  rw [lk_append]
  cases hd : f.box with
  | none => simp [lk]; rfl
  | some y =>
    obtain ⟨c, x⟩ := y
    by_cases e : c = b
    · subst e; simp [lk]
    · simp [lk, e]; rfl
theorem tmX_mem {L : Nat → Bool} {x : Nat × PV} : ∀ (fs : List EffX) (i : Nat), x ∈ tmX L i fs → ∃ j, j < fs.length ∧ L (i + j) = true ∧ (effAt fs j).dst = some x.1 ∧ (effAt fs j).pv = x.2
  | [], _, h => by cases h
  | f :: fs, i, h => by
    simp only [tmX] at h
    rcases List.mem_append.1 h with h | h
    · split at h
      · rename_i hL
        cases hd : f.dst with
        | none => rw [hd] at h; cases h
        | some t =>
          rw [hd] at h
          have e := List.mem_singleton.1 h
          subst e
          exact ⟨0, by simp, by simpa using hL, hd, rfl⟩
      · cases h
    · obtain ⟨j, h1, h2, h3, h4⟩ := tmX_mem fs (i + 1) h
      exact ⟨j + 1, by simp; omega, by rw [show i + (j + 1) = i + 1 + j from by omega]; exact h2, h3, h4⟩
theorem boxX_mem {L : Nat → Bool} {x : Nat × (TypeId × List PC)} : ∀ (fs : List EffX) (i : Nat), x ∈ boxX L i fs → ∃ j, j < fs.length ∧ L (i + j) = true ∧ (effAt fs j).box = some x
  | [], _, h => by cases h
  | f :: fs, i, h => by
    simp only [boxX] at h
    rcases List.mem_append.1 h with h | h
    · obtain ⟨j, h1, h2, h3⟩ := boxX_mem fs (i + 1) h
      exact ⟨j + 1, by simp; omega, by rw [show i + (j + 1) = i + 1 + j from by omega]; exact h2, h3⟩
    · split at h
      · rename_i hL
        cases hd : f.box with
        | none => rw [hd] at h; cases h
        | some t =>
          rw [hd] at h
          have e := List.mem_singleton.1 h
          subst e
          exact ⟨0, by simp, by simpa using hL, hd⟩
      · cases h
theorem tm_only {L : Nat → Bool} {t i0 : Nat} : ∀ (fs : List EffX) (i : Nat), i0 < fs.length → L (i + i0) = true → (effAt fs i0).dst = some t → (∀ j, j < fs.length → j ≠ i0 → (effAt fs j).dst ≠ some t) → lk (tmX L i fs) t = some (effAt fs i0).pv := fun fs i h1 h2 h3 h4 => by
  induction fs generalizing i i0 with
  | nil => simp at h1
  | cons f fs ih =>
    simp only [tmX, lk_append]
    cases i0 with
    | zero =>
      rw [effAt_zero] at h3 ⊢
      rw [if_pos (by simpa using h2), h3]
      simp [lk]
    | succ i0 =>
      have hne := h4 0 (by simp) (by omega)
      rw [effAt_zero] at hne
      have : lk (if L i then (match f.dst with | some t => [(t, f.pv)] | none => []) else []) t = none := by
        split
        · cases hd : f.dst with
          | none => rfl
          | some s => simp [lk]; rintro rfl; exact hne hd
        · rfl
      rw [this, Option.none_or, effAt_succ]
      exact ih (i + 1) (by simpa using h1) (by rw [← h2]; congr 1; omega) h3 (fun j hj hji => by have := h4 (j + 1) (by simp; omega) (by omega); exact this)
theorem rows_only {L : Nat → Bool} {r i0 : Nat} : ∀ (fs : List EffX) (i : Nat), i0 < fs.length → L (i + i0) = true → (∀ j, j < fs.length → j ≠ i0 → ((effAt fs j).rows.any fun x => x.1 == r) = false) → lk (rowsX L i fs) r = lk (effAt fs i0).rows r := fun fs i h1 h2 h4 => by
  induction fs generalizing i i0 with
  | nil => simp at h1
  | cons f fs ih =>
    have hno : ∀ q : EffX, (q.rows.any fun x => x.1 == r) = false → lk q.rows r = none := fun q hq => lk_none fun x hx hxr => by rw [List.any_eq_false] at hq; exact hq x hx (by simp [hxr])
    simp only [rowsX, lk_append]
    cases i0 with
    | zero =>
      rw [effAt_zero, if_pos (by simpa using h2)]
      have : lk (rowsX L (i + 1) fs) r = none := by
        have := rows_agree (L := L) (L' := fun _ => false) (r := r) fs (i + 1) fun j hj hd => by
          have := h4 (j + 1) (by simp; omega) (by omega)
          rw [effAt_succ] at this
          rw [this] at hd; cases hd
        rw [this]
        clear this ih h4 h1 h2
        generalize i + 1 = k
        induction fs generalizing k with
        | nil => rfl
        | cons g fs ih => simp only [rowsX]; simpa using ih _
      rw [this]; simp
    | succ i0 =>
      have hne := h4 0 (by simp) (by omega)
      rw [effAt_zero] at hne
      have : lk (if L i then f.rows else []) r = none := by
        split
        · exact hno f hne
        · rfl
      rw [this, Option.none_or, effAt_succ]
      exact ih (i + 1) (by simpa using h1) (by rw [← h2]; congr 1; omega) (fun j hj hji => by have := h4 (j + 1) (by simp; omega) (by omega); exact this)
theorem box_top {L : Nat → Bool} {b i0 : Nat} {x : TypeId × List PC} : ∀ (fs : List EffX) (i : Nat), i0 < fs.length → L (i + i0) = true → (effAt fs i0).box = some (b, x) → (∀ j y, i0 < j → j < fs.length → (effAt fs j).box = some (b, y) → L (i + j) = false) → lk (boxX L i fs) b = some x := fun fs i h1 h2 h3 h4 => by
  induction fs generalizing i i0 with
  | nil => simp at h1
  | cons f fs ih =>
    simp only [boxX, lk_append]
    cases i0 with
    | zero =>
      rw [effAt_zero] at h3
      have : lk (boxX L (i + 1) fs) b = none := by
        have := box_agree (L := L) (L' := fun _ => false) (b := b) fs (i + 1) fun j y hj hd => by
          have := h4 (j + 1) y (by omega) (by simp; omega) hd
          rwa [show i + (j + 1) = i + 1 + j from by omega] at this
        rw [this]
        clear this ih h4 h1 h2
        generalize i + 1 = k
        induction fs generalizing k with
        | nil => rfl
        | cons g fs ih => simp only [boxX]; simpa using ih _
      rw [this, if_pos (by simpa using h2), h3]
      simp [lk]
    | succ i0 =>
      rw [ih (i + 1) (by simpa using h1) (by rw [← h2]; congr 1; omega) h3 (fun j y hij hj hd => by have := h4 (j + 1) y (by omega) (by simp; omega) hd; rwa [show i + (j + 1) = i + 1 + j from by omega] at this)]
      rfl

/-- The region may be told so. -/
def okX (E0 : Env) (l : List Oper) (fs : List EffX) : Bool :=
  let m := l.length
  fs.length == m &&
  allLt m (fun i => (l.getD i default).after.toList.all fun e => !Region.binds .any e || decide (e.on < i)) &&
  allLt m (fun i => (l.getD i default).dst == (effAt fs i).dst) &&
  allLt m (fun i => allLt m fun j => i == j || (effAt fs i).dst == none || (effAt fs i).dst != (effAt fs j).dst) &&
  allLt m (fun i => (effAt fs i).rows.all fun x => E0.noref' x.1 && !(effAt fs i).dead.contains x.1 && allLt m fun j => i == j || (!((effAt fs j).rows.any fun y => y.1 == x.1) && (reach l j i || (!(effAt fs j).pv.cells.any (·.ment x.1) && (match (effAt fs j).box with | some y => y.2.2.all (fun c => !c.ment x.1) | none => true) && !(effAt fs j).dead.contains x.1)))) &&
  allLt m (fun i => match (effAt fs i).box with
    | some x => allLt m fun j => i == j || (match (effAt fs j).box with | some y => y.1 != x.1 || reach l i j || reach l j i | none => true)
    | none => true)
def seen (l : List Oper) (i j : Nat) : Bool := reach l i j || reach l j i || i == j
/-- What the state must be where operation i comes up. -/
structure AtX (E0 : Env) (l : List Oper) (fs : List EffX) (i : Nat) (E : Env) : Prop where
  get : ∀ t, (allLt fs.length fun j => (effAt fs j).dst != some t || seen l i j) = true → E.get t = (mkF E0 (reach l i) fs).get t
  row : ∀ r, (allLt fs.length fun j => (!((effAt fs j).rows.any fun x => x.1 == r) && !(effAt fs j).dead.contains r) || seen l i j) = true → E.row r = (mkF E0 (reach l i) fs).row r
  box : ∀ b, (allLt fs.length fun j => (match (effAt fs j).box with | some y => y.1 != b | none => true) || seen l i j) = true → E.box b = (mkF E0 (reach l i) fs).box b
  fresh : ∀ x ∈ (effAt fs i).rows, E.noref' x.1 = true
inductive StepsX (P : Program) (C : Ctx) (E0 : Env) (l : List Oper) (fs : List EffX) : Nat → List Oper → List EffX → Prop
  | nil (i : Nat) (os : List Oper) : StepsX P C E0 l fs i os []
  | cons {i : Nat} {o : Oper} {os : List Oper} {f : EffX} {gs : List EffX} : (∀ E, AtX E0 l fs i E → OpStep P C l.toArray o E (f.app E)) → StepsX P C E0 l fs (i + 1) os gs → StepsX P C E0 l fs i (o :: os) (f :: gs)
theorem StepsX.at_ {P : Program} {C : Ctx} {E0 : Env} {l : List Oper} {fs : List EffX} {i : Nat} {os : List Oper} {gs : List EffX} (h : StepsX P C E0 l fs i os gs) : ∀ (j : Nat) (o : Oper) (f : EffX), os[j]? = some o → gs[j]? = some f → ∀ E, AtX E0 l fs (i + j) E → OpStep P C l.toArray o E (f.app E) := by
  induction h with
  | nil i os => intro j o f _ hf; simp at hf
  | @cons i o os f gs h1 _ ih =>
    intro j o' f' ho hf
    cases j with
    | zero => simp at ho hf; subst ho hf; exact h1
    | succ j =>
      intro E hE
      exact ih j o' f' (by simpa using ho) (by simpa using hf) E (by rw [show i + 1 + j = i + (j + 1) from by omega]; exact hE)
theorem any_X {P : Program} {C : Ctx} {E0 : Env} {l : List Oper} {fs : List EffX} {QQ : Exit → Act → World → Prop} (hok : okX E0 l fs = true) (hst : StepsX P C E0 l fs 0 l fs)
    (hend : ∀ a w, Rel C (mkF E0 (fun _ => true) fs) a w → QQ .normal a w) :
    ∀ (fuel : Nat) (U : List Nat) (listed : Array Bool) (a : Act) (w : World), listed.size = l.length → (∀ j, j < l.length → listed.getD j false = false → j ∈ U) → U.length ≤ fuel →
      (∀ i o, l[i]? = some o → listed.getD i false = true → ∀ e ∈ o.after, Region.binds .any e = true → listed.getD e.on false = true) →
      Rel C (mkF E0 (fun j => listed.getD j false) fs) a w → wpAny P .any l.toArray QQ fuel listed a w := by
  simp only [okX, Bool.and_eq_true, beq_iff_eq] at hok
  obtain ⟨⟨⟨⟨⟨o1, o2⟩, o3⟩, o4⟩, o5⟩, o6⟩ := hok
  have hac : ∀ i o, l[i]? = some o → ∀ e ∈ o.after, Region.binds .any e = true → e.on < i := fun i o ho e he hb => by
    have hil : i < l.length := (List.getElem?_eq_some_iff.1 ho).1
    have := allLt_spec o2 i hil
    rw [List.all_eq_true] at this
    have hd : l.getD i default = o := by rw [List.getD_eq_getElem?_getD, ho]; rfl
    have := this e (by rw [hd]; simpa using he)
    simp only [hb, Bool.not_true, Bool.false_or, decide_eq_true_eq] at this
    exact this
  have hdst : ∀ i, i < l.length → ∀ j, j < l.length → i ≠ j → ∀ t, (effAt fs i).dst = some t → (effAt fs j).dst ≠ some t := fun i hi j hj hne t h1 h2 => by
    have := allLt_spec (allLt_spec o4 i hi) j hj
    simp only [Bool.or_eq_true, beq_iff_eq, bne_iff_ne, h1, h2] at this
    rcases this with (h | h) | h
    · exact hne h
    · cases h
    · exact h rfl
  have hrow5 : ∀ i, i < l.length → ∀ x ∈ (effAt fs i).rows, E0.noref' x.1 = true ∧ (effAt fs i).dead.contains x.1 = false ∧ ∀ j, j < l.length → i ≠ j → ((effAt fs j).rows.any fun y => y.1 == x.1) = false ∧ (reach l j i = true ∨ ((effAt fs j).pv.cells.any (·.ment x.1) = false ∧ (match (effAt fs j).box with | some y => y.2.2.all (fun c => !c.ment x.1) | none => true) = true ∧ (effAt fs j).dead.contains x.1 = false)) := fun i hi x hx => by
    have := allLt_spec o5 i hi
    rw [List.all_eq_true] at this
    have := this x hx
    simp only [Bool.and_eq_true, Bool.not_eq_true'] at this
    obtain ⟨⟨h1, h2⟩, h3⟩ := this
    refine ⟨h1, h2, fun j hj hne => ?_⟩
    have := allLt_spec h3 j hj
    simp only [Bool.or_eq_true, beq_iff_eq, Bool.and_eq_true, Bool.not_eq_true'] at this
    rcases this with h | ⟨h, h'⟩
    · exact absurd h hne
    · refine ⟨h, ?_⟩
      rcases h' with h' | ⟨⟨p, q⟩, s⟩
      · exact .inl h'
      · exact .inr ⟨p, q, s⟩
  have hall : ∀ (L : Nat → Bool), (∀ j, j < fs.length → L j = true) → mkF E0 L fs = mkF E0 (fun _ => true) fs := fun L hL => by
    have t1 : ∀ (gs : List EffX) (k : Nat), (∀ j, j < gs.length → L (k + j) = true) → tmX L k gs = tmX (fun _ => true) k gs ∧ rowsX L k gs = rowsX (fun _ => true) k gs ∧ deadX L k gs = deadX (fun _ => true) k gs ∧ boxX L k gs = boxX (fun _ => true) k gs := by
      intro gs
      induction gs with
      | nil => intro k _; exact ⟨rfl, rfl, rfl, rfl⟩
      | cons g gs ih =>
        intro k h
        obtain ⟨h1, h2, h3, h4⟩ := ih (k + 1) fun j hj => by have := h (j + 1) (by simp; omega); rwa [show k + (j + 1) = k + 1 + j from by omega] at this
        have h0 : L k = true := by simpa using h 0 (by simp)
        simp only [tmX, rowsX, deadX, boxX, h1, h2, h3, h4, h0]
        exact ⟨trivial, trivial, trivial, trivial⟩
    obtain ⟨h1, h2, h3, h4⟩ := t1 fs 0 fun j hj => by rw [Nat.zero_add]; exact hL j hj
    simp only [mkF, h1, h2, h3, h4]
  intro fuel
  induction fuel with
  | zero =>
    intro U listed a w hs hU hf hcl R
    have hl : ∀ j, j < l.length → listed.getD j false = true := fun j hj => by
      cases h : listed.getD j false with
      | true => rfl
      | false => have := hU j hj h; have h0 : U = [] := List.eq_nil_of_length_eq_zero (by omega); rw [h0] at this; cases this
    rw [hall _ fun j hj => hl j (by omega)] at R
    refine ⟨?_, hend a w R⟩
    rw [List.eq_nil_iff_forall_not_mem]
    intro j hj
    obtain ⟨h1, o, ho, _⟩ := mem_ready.1 hj
    have hjl : j < l.length := by simpa using (Array.getElem?_eq_some_iff.1 ho).1
    have e : listed.getD j true = listed.getD j false := by simp [Array.getD_eq_getD_getElem?, Array.getElem?_eq_getElem (show j < listed.size by omega)]
    rw [e, hl j hjl] at h1
    cases h1
  | succ fuel ih =>
    intro U listed a w hs hU hf hcl R
    refine ⟨fun hr => ?_, fun i hi => ?_⟩
    · refine hend a w ?_
      rw [← hall (fun j => listed.getD j false) fun j hj => ?_]
      · exact R
      · cases h : listed.getD j false with
        | true => rfl
        | false =>
          exfalso
          have least : ∀ n, ∀ j, j ≤ n → j < l.length → listed.getD j false = false → ∃ q, q < l.length ∧ listed.getD q false = false ∧ ∀ p, p < q → listed.getD p false = true := by
            intro n
            induction n with
            | zero => intro j hjn hj hjf; exact ⟨j, hj, hjf, fun p hp => by omega⟩
            | succ n ihn =>
              intro j hjn hj hjf
              by_cases hlow : ∃ p, p < j ∧ listed.getD p false = false
              · obtain ⟨p, hp, hpf⟩ := hlow; exact ihn p (by omega) (by omega) hpf
              · exact ⟨j, hj, hjf, fun p hp => by cases h : listed.getD p false with | true => rfl | false => exact absurd ⟨p, hp, h⟩ hlow⟩
          obtain ⟨q, hq, hqf, hlow⟩ := least j j (Nat.le_refl _) (by omega) h
          have hqo : l[q]? = some l[q] := List.getElem?_eq_getElem hq
          have : q ∈ Region.ready .any l.toArray listed := mem_ready.2 ⟨by
            rw [← hqf]; simp [Array.getD_eq_getD_getElem?, Array.getElem?_eq_getElem (show q < listed.size by omega)], l[q], by simpa using hqo, fun e he hb => hlow _ (hac q _ hqo e he hb)⟩
          rw [hr] at this
          cases this
    · obtain ⟨h1, o, ho, hpre⟩ := mem_ready.1 hi
      have hil : i < l.length := by simpa using (Array.getElem?_eq_some_iff.1 ho).1
      have hio : l[i]? = some o := by simpa using ho
      have hif : listed.getD i false = false := by
        rw [← h1]; simp [Array.getD_eq_getD_getElem?, Array.getElem?_eq_getElem (show i < listed.size by omega)]
      have hrc := reach_closed (L := fun q => listed.getD q false) hac hcl i o hio hpre
      have hnot : ∀ j, j < l.length → reach l j i = true → listed.getD j false = false := fun j hj h => by
        cases hLj : listed.getD j false with
        | false => rfl
        | true =>
          have hjo : l[j]? = some l[j] := List.getElem?_eq_getElem hj
          have := reach_closed (L := fun q => listed.getD q false) hac hcl j _ hjo (fun e he hb => hcl j _ hjo hLj e he hb) i h
          rw [hif] at this; cases this
      have hsame : ∀ j, j < l.length → seen l i j = true → listed.getD j false = reach l i j := fun j hj h => by
        by_cases hr : reach l i j = true
        · rw [hr]; exact hrc j hr
        · simp only [seen, Bool.or_eq_true, beq_iff_eq] at h
          have hr' : reach l i j = false := by simpa using hr
          rw [hr']
          rcases h with (h | h) | h
          · exact absurd h hr
          · exact hnot j hj h
          · subst h; exact hif
      have hlen : fs.length = l.length := o1
      have hf' : fs[i]? = some (effAt fs i) := by rw [effAt, List.getD_eq_getElem?_getD, List.getElem?_eq_getElem (by omega)]; rfl
      have hat : AtX E0 l fs i (mkF E0 (fun j => listed.getD j false) fs) := by
        refine ⟨fun t ht => ?_, fun r hr => ?_, fun b hb => ?_, fun x hx => ?_⟩
        · rw [mkF_get, mkF_get, tm_agree (L' := reach l i) fs 0 fun j hj hd => by
            rw [Nat.zero_add]
            have := allLt_spec ht j hj
            simp only [Bool.or_eq_true, bne_iff_ne] at this
            rcases this with h | h
            · exact absurd hd h
            · exact hsame j (by omega) h]
        · rw [mkF_row, mkF_row]
          have hk : ∀ j, j < fs.length → (((effAt fs j).rows.any fun x => x.1 == r) = true ∨ (effAt fs j).dead.contains r = true) → listed.getD (0 + j) false = reach l i (0 + j) := fun j hj hd => by
            rw [Nat.zero_add]
            have := allLt_spec hr j hj
            simp only [Bool.or_eq_true, Bool.and_eq_true, Bool.not_eq_true'] at this
            rcases this with ⟨p, q⟩ | h
            · rcases hd with hd | hd
              · rw [p] at hd; cases hd
              · rw [q] at hd; cases hd
            · exact hsame j (by omega) h
          rw [dead_agree (L' := reach l i) fs 0 fun j hj hd => hk j hj (.inr hd), rows_agree (L' := reach l i) fs 0 fun j hj hd => hk j hj (.inl hd)]
        · rw [mkF_box, mkF_box, box_agree (L' := reach l i) fs 0 fun j x hj hd => by
            rw [Nat.zero_add]
            have := allLt_spec hb j hj
            simp only [hd, Bool.or_eq_true, bne_iff_ne, ne_eq, not_true_eq_false, false_or] at this
            exact hsame j (by omega) this]
        · obtain ⟨e1, e0, e2⟩ := hrow5 i hil x hx
          simp only [Env.noref', Bool.and_eq_true, List.all_eq_true, Option.isNone_iff_eq_none] at e1 ⊢
          obtain ⟨⟨f1, f2⟩, f3⟩ := e1
          refine ⟨⟨fun y hy c hc => ?_, fun y hy => ?_⟩, ?_⟩
          · rcases List.mem_append.1 hy with h | h
            · obtain ⟨j, hj, hLj, hd, hp⟩ := tmX_mem fs 0 h
              rw [Nat.zero_add] at hLj
              have hji : i ≠ j := by rintro rfl; rw [hif] at hLj; cases hLj
              rcases (e2 j (by omega) hji).2 with h | ⟨h, _⟩
              · rw [hnot j (by omega) h] at hLj; cases hLj
              · rw [← hp] at hc
                rw [List.any_eq_false] at h
                simpa using h c hc
            · exact f1 y h c hc
          · rcases List.mem_append.1 hy with h | h
            · obtain ⟨j, hj, hLj, hd⟩ := boxX_mem fs 0 h
              rw [Nat.zero_add] at hLj
              have hji : i ≠ j := by rintro rfl; rw [hif] at hLj; cases hLj
              rcases (e2 j (by omega) hji).2 with h | ⟨_, h, _⟩
              · rw [hnot j (by omega) h] at hLj; cases hLj
              · rw [hd] at h
                intro c hc
                rw [List.all_eq_true] at h
                exact h c hc
            · exact f2 y h
          · show (mkF E0 (fun j => listed.getD j false) fs).row x.1 = none
            rw [mkF_row]
            split
            · rfl
            · have : lk (rowsX (fun j => listed.getD j false) 0 fs) x.1 = lk (rowsX (fun _ => false) 0 fs) x.1 := rows_agree fs 0 fun j hj hd => by
                rw [Nat.zero_add]
                by_cases hji : i = j
                · subst hji; exact hif
                · rw [(e2 j (by omega) hji).1] at hd; cases hd
              rw [this]
              have hz : ∀ (gs : List EffX) (k : Nat), rowsX (fun _ => false) k gs = [] := by
                intro gs
                induction gs with
                | nil => intro k; rfl
                | cons g gs ih => intro k; simp only [rowsX]; simpa using ih _
              rw [hz]
              exact f3
      have hstep := hst.at_ i o (effAt fs i) hio hf' _ (by rw [Nat.zero_add]; exact hat)
      unfold wpOp
      rw [ho]
      simp only
      have hgo := hstep a w R (wpAny P .any l.toArray QQ fuel (listed.setIfInBounds i true)) QQ fun a' w' R' => ?_
      · split
        · rename_i hw; rw [if_pos hw] at hgo; exact .inl hgo
        · rename_i hw; rw [if_neg hw] at hgo; exact hgo
      · have hset : ∀ j, (listed.setIfInBounds i true).getD j false = if j = i then true else listed.getD j false := fun j => by
          by_cases h : i = j
          · subst h; simp [Array.getD_eq_getD_getElem?, Array.getElem?_setIfInBounds, hs, hil]
          · rw [getD_set_ne false h, if_neg (fun e => h e.symm)]
        refine ih (U.erase i) _ a' w' (by simp [hs]) (fun j hj hjf => ?_) ?_ (fun q oq hq hql e he hb => ?_) ?_
        · rw [hset] at hjf
          split at hjf
          · cases hjf
          · rename_i hji; exact (List.mem_erase_of_ne hji).2 (hU j hj hjf)
        · have := List.length_erase_of_mem (hU i hil hif)
          have hpos : 0 < U.length := List.length_pos_of_mem (hU i hil hif)
          omega
        · rw [hset] at hql ⊢
          split at hql
          · rename_i hqi; subst hqi
            rw [hio] at hq; injection hq with hq; subst hq
            split
            · rfl
            · exact hpre e he hb
          · split
            · rfl
            · exact hcl q oq hq hql e he hb
        · -- the state behind it
          have hoff : ∀ j, j ≠ i → (listed.setIfInBounds i true).getD j false = listed.getD j false := fun j hj => by rw [hset, if_neg hj]
          refine R'.weaken ⟨fun t => ?_, fun r x hx => ?_, fun b T ps hb => ?_⟩
          · rw [app_get]
            have : (mkF E0 (fun j => (listed.setIfInBounds i true).getD j false) fs).get t = if (effAt fs i).dst = some t then (effAt fs i).pv else (mkF E0 (fun j => listed.getD j false) fs).get t := by
              by_cases ht : (effAt fs i).dst = some t
              · rw [if_pos ht, mkF_get, tm_only fs 0 (by omega) (by rw [Nat.zero_add, hset, if_pos rfl]) ht (fun j hj hji => hdst i hil j (by omega) (fun e => hji e.symm) t ht)]
                rfl
              · rw [if_neg ht, mkF_get, mkF_get, tm_agree (L' := fun j => listed.getD j false) fs 0 fun j hj hd => by
                  rw [Nat.zero_add]
                  refine hoff j ?_
                  rintro rfl; exact ht hd]
            rw [this]
            exact PV.le_refl _
          · rw [app_row]
            rw [mkF_row] at hx
            by_cases hd : (effAt fs i).dead.contains r = true
            · exfalso
              have : (deadX (fun j => (listed.setIfInBounds i true).getD j false) 0 fs).contains r = true := by
                have key : ∀ (gs : List EffX) (k i0 : Nat) (L : Nat → Bool), i0 < gs.length → L (k + i0) = true → (effAt gs i0).dead.contains r = true → (deadX L k gs).contains r = true := by
                  intro gs
                  induction gs with
                  | nil => intro k i0 L h; simp at h
                  | cons g gs ih =>
                    intro k i0 L h1 h2 h3
                    simp only [deadX, List.contains_append, Bool.or_eq_true]
                    cases i0 with
                    | zero => left; rw [if_pos (by simpa using h2)]; exact h3
                    | succ i0 => right; exact ih (k + 1) i0 L (by simpa using h1) (by rw [← h2]; congr 1; omega) h3
                exact key fs 0 i _ (by omega) (by rw [Nat.zero_add, hset, if_pos rfl]) hd
              rw [if_pos this] at hx
              cases hx
            · rw [if_neg hd, mkF_row]
              rw [dead_agree (L' := fun j => listed.getD j false) fs 0 fun j hj hdj => by
                rw [Nat.zero_add]
                refine hoff j ?_
                rintro rfl; exact hd hdj] at hx
              by_cases hin : ((effAt fs i).rows.any fun x => x.1 == r) = true
              · obtain ⟨y, hy, hyr⟩ := List.any_eq_true.1 hin
                have hyr' : y.1 = r := by simpa using hyr
                rw [rows_only (i0 := i) fs 0 (by omega) (by rw [Nat.zero_add, hset, if_pos rfl]) (fun j hj hji => by
                  have := ((hrow5 i hil y hy).2.2 j (by omega) (fun e => hji e.symm)).1
                  rwa [hyr'] at this)] at hx
                split at hx
                · cases hx
                · cases hl : lk (effAt fs i).rows r with
                  | some z => rw [hl] at hx; rw [← hx]; rfl
                  | none =>
                    exfalso
                    have hsome : (lk (effAt fs i).rows r).isSome = true := by
                      clear hx hl hin
                      generalize (effAt fs i).rows = q at hy
                      induction q with
                      | nil => cases hy
                      | cons z q ih =>
                        obtain ⟨k, v⟩ := z
                        simp only [lk]
                        split
                        · rfl
                        · rename_i hne
                          rcases List.mem_cons.1 hy with rfl | hy
                          · exact absurd hyr' hne
                          · exact ih hy
                    rw [hl] at hsome; cases hsome
              · have hln : lk (effAt fs i).rows r = none := lk_none fun y hy hyr => hin (List.any_eq_true.2 ⟨y, hy, by simp [hyr]⟩)
                rw [hln, Option.none_or]
                rw [rows_agree (L' := fun j => listed.getD j false) fs 0 fun j hj hdj => by
                  rw [Nat.zero_add]
                  refine hoff j ?_
                  rintro rfl; exact hin hdj] at hx
                exact hx
          · rw [app_box]
            rw [mkF_box] at hb
            refine ⟨ps, ?_, All2.refl PC.le_refl ps⟩
            cases hbi : (effAt fs i).box with
            | none =>
              simp only [Option.none_or]
              rw [mkF_box]
              rw [box_agree (L' := fun j => listed.getD j false) fs 0 fun j x hj hdj => by
                rw [Nat.zero_add]
                refine hoff j ?_
                rintro rfl; rw [hbi] at hdj; cases hdj] at hb
              exact hb
            | some y =>
              obtain ⟨c, x⟩ := y
              by_cases e : c = b
              · subst e
                rw [box_top (b := c) (x := x) fs 0 (show i < fs.length by omega) (by rw [Nat.zero_add, hset, if_pos rfl]) hbi (fun j y hij hj hdj => by
                  rw [Nat.zero_add, hoff j (by omega)]
                  have := allLt_spec o6 i hil
                  rw [hbi] at this
                  have := allLt_spec this j (by omega)
                  simp only [hdj, Bool.or_eq_true, beq_iff_eq, bne_iff_ne, ne_eq, not_true_eq_false, false_or] at this
                  rcases this with h | h | h
                  · omega
                  · exfalso
                    have := hac
                    have hlt : j < i := by
                      have hh := reach_closed (l := l) (L := fun q => decide (q < i)) hac (fun a oa ha hLa e he hb => by
                        have := hac a oa ha e he hb
                        simp only [decide_eq_true_eq] at hLa ⊢; omega) i o hio (fun e he hb => by simpa using hac i o hio e he hb) j h
                      simpa using hh
                    omega
                  · exact hnot j (by omega) h)] at hb
                simp only [if_pos]
                exact hb
              · simp only [if_neg e, Option.none_or]
                rw [mkF_box]
                rw [box_agree (L' := fun j => listed.getD j false) fs 0 fun j z hj hdj => by
                  rw [Nat.zero_add]
                  refine hoff j ?_
                  rintro rfl; rw [hbi] at hdj; injection hdj with hdj; injection hdj with h _; exact e h] at hb
                exact hb
/-- A region that draws its order. -/
theorem T.drawX {P : Program} {C : Ctx} {id : Nat} {l : List Oper} {E0 : Env} {Q : Exit → Env → Prop} (fs : List EffX) (hm : P.follows .mixedOrders = true) (hok : okX E0 l fs = true) (hst : StepsX P C E0 l fs 0 l fs)
    (htail : TL P C l.toArray [] (mkF E0 (fun _ => true) fs) (Q .normal)) : T P C (.region id l.toArray true) E0 Q := by
  intro a w ⟨M, R⟩
  refine wp_region_any hm ?_
  have R' := R.drew
  have hrep : ∀ j, (Array.replicate l.toArray.size false).getD j false = false := fun j => by simp [Array.getD_eq_getD_getElem?, Array.getElem?_replicate]; split <;> rfl
  refine any_X hok hst (fun a w R => htail a w R _ fun a' w' E' hq R' => ⟨E', hq, R'⟩) _ (List.range l.length) _ a _ (by simp) (fun j hj _ => by simpa using hj) (by simp) (fun i o ho h => ?_) ?_
  · rw [hrep i] at h; cases h
  · have e : mkF E0 (fun j => (Array.replicate l.toArray.size false).getD j false) fs = E0 := by
      have t1 : ∀ (gs : List EffX) (k : Nat), tmX (fun j => (Array.replicate l.toArray.size false).getD j false) k gs = [] ∧ rowsX (fun j => (Array.replicate l.toArray.size false).getD j false) k gs = [] ∧ deadX (fun j => (Array.replicate l.toArray.size false).getD j false) k gs = [] ∧ boxX (fun j => (Array.replicate l.toArray.size false).getD j false) k gs = [] := by
        intro gs
        induction gs with
        | nil => intro k; exact ⟨rfl, rfl, rfl, rfl⟩
        | cons g gs ih =>
          intro k
          obtain ⟨h1, h2, h3, h4⟩ := ih (k + 1)
          have h0 := hrep k
          simp only [tmX, rowsX, deadX, boxX, h1, h2, h3, h4, h0]
          simp
      obtain ⟨h1, h2, h3, h4⟩ := t1 fs 0
      simp only [mkF, h1, h2, h3, h4, List.nil_append]
      have : (E0.rows.filter fun x => !([] : List Nat).contains x.1) = E0.rows := by simp
      rw [this]
    rw [e]
    exact ⟨M, R'⟩
end Go.Proofs.Ytmdojlglemnijaa.Rf
