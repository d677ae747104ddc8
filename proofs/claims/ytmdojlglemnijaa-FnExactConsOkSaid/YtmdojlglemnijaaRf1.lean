/- A logic of our own over the kit's 'wp': data as trees, who owns which block. First part: data, reading, owning. Plain definitions and theorems. -/
import Derived.Below
import Derived.Deep.Draws
import Derived.Deep.AppendLies
import Derived.Maps.AppendAt
import Derived.OwnWalk
import Derived.Laws.BytesArg
import Derived.Laws.MakeOwn
import Derived.Laws.OwnMore
import Derived.Laws.CopyRow
import Derived.Laws.Slices
import Derived.Laws.Rows
import Derived.Deep.MidRow
import Derived.Deep.WholeRow
import Derived.WalkKit
import Derived.KernelRfl
import Derived.Orders
import Derived.Deep.Upon
namespace Go.Proofs.Ytmdojlglemnijaa.Rf
open Go.RowKit
set_option linter.unusedVariables false
set_option linter.unnecessarySimpa false
set_option linter.unusedSimpArgs false

/-- Data: numbers, bools, strings, functions, and slices of them. -/
inductive D where
  | int (k : IntKind) (n : Int)
  | bool (b : Bool)
  | str (s : ByteArray)
  | fn (f : FuncId)
  | ints (k : IntKind) (xs : List Int)
  | bss (xs : List (List Int))
  | sl (z : Nat) (es : List (List D))

/-- The value of a datum of one cell that is no slice. -/
def D.val : D → Option Value
  | .int k n => some (.int k n)
  | .bool b => some (.bool b)
  | .str s => some (.string s)
  | .fn f => some (.func (.func f) #[] #[])
  | _ => none
def D.isSl : D → Bool
  | .ints .. | .bss _ | .sl .. => true
  | _ => false
/-- How many elements. -/
def D.size : D → Nat
  | .ints _ xs => xs.length
  | .bss xs => xs.length
  | .sl _ es => es.length
  | _ => 0
/-- How many cells an element has. -/
def D.z : D → Nat
  | .sl z _ => z
  | _ => 1
/-- Each element has its number of cells. -/
def D.wf : D → Prop
  | .sl z es => ∀ e ∈ es, e.length = z
  | _ => True
/-- All cells. -/
def D.flat : D → List D
  | .ints k xs => xs.map (.int k)
  | .bss xs => xs.map (.ints .u8)
  | .sl _ es => es.flatten
  | _ => []

/-- Cell j of element i. -/
def D.cell : D → Nat → Nat → D
  | .ints k xs, i, _ => .int k (xs.getD i 0)
  | .bss xs, i, _ => .ints .u8 (xs.getD i [])
  | .sl _ es, i, j => (es.getD i []).getD j (.bool false)
  | _, _, _ => .bool false
theorem flatten_length {α : Type} (z : Nat) : ∀ (es : List (List α)), (∀ e ∈ es, e.length = z) → es.flatten.length = es.length * z
  | [], _ => by simp
  | e :: es, h => by
    rw [List.flatten_cons, List.length_append, h e (by simp), flatten_length z es (fun x hx => h x (by simp [hx])), List.length_cons, Nat.succ_mul, Nat.add_comm]
theorem flatten_get {α : Type} (z : Nat) : ∀ (es : List (List α)), (∀ e ∈ es, e.length = z) → ∀ i j, j < z → es.flatten[i * z + j]? = (es[i]?).bind (·[j]?)
  | [], _, i, j, hj => by simp
  | e :: es, h, i, j, hj => by
    have he := h e (by simp)
    rw [List.flatten_cons]
    cases i with
    | zero => rw [List.getElem?_append_left (by rw [he]; omega)]; simp
    | succ i =>
      rw [List.getElem?_append_right (by rw [he, Nat.succ_mul]; omega), he]
      have : (i + 1) * z + j - z = i * z + j := by rw [Nat.succ_mul]; omega
      rw [this, flatten_get z es (fun x hx => h x (by simp [hx])) i j hj]
      simp
theorem D.flat_length {d : D} (h : d.wf) (hs : d.isSl = true) : d.flat.length = d.size * d.z := by
  cases d <;> simp [D.isSl] at hs
  · simp [D.flat, D.size, D.z]
  · simp [D.flat, D.size, D.z]
  · exact flatten_length _ _ h
theorem D.flat_get {d : D} (h : d.wf) (hs : d.isSl = true) {i j : Nat} (hi : i < d.size) (hj : j < d.z) : d.flat[i * d.z + j]? = some (d.cell i j) := by
  cases d <;> simp [D.isSl] at hs
  case ints k xs =>
    have hj0 : j = 0 := by simp [D.z] at hj; omega
    subst hj0
    simp only [D.size] at hi
    simp [D.flat, D.z, D.cell, List.getElem?_eq_getElem hi, List.getD_eq_getElem?_getD]
  case bss xs =>
    have hj0 : j = 0 := by simp [D.z] at hj; omega
    subst hj0
    simp only [D.size] at hi
    simp [D.flat, D.z, D.cell, List.getElem?_eq_getElem hi, List.getD_eq_getElem?_getD]
  case sl z es =>
    simp only [D.size] at hi
    simp only [D.z] at hj
    simp only [D.flat, D.z, D.cell]
    rw [flatten_get z es h i j hj]
    have he := h (es[i]) (List.getElem_mem hi)
    simp [List.getElem?_eq_getElem hi, List.getD_eq_getElem?_getD, List.getElem?_eq_getElem (show j < (es[i]).length by omega)]

/-- Cells that read as data, in blocks of Z. -/
inductive Rd (w : World) (Z : Nat → Prop) : List Value → List D → Prop
  | nil : Rd w Z [] []
  | val {v : Value} {d : D} {vs : List Value} {ds : List D} : d.val = some v → Rd w Z vs ds → Rd w Z (v :: vs) (d :: ds)
  | sl {A : Option Addr} {cap : Nat} {d : D} {cs vs : List Value} {ds : List D} : d.isSl = true → d.size ≤ 9223372036854775807 → d.size ≤ cap → d.wf →
      (d.size ≠ 0 → ∃ a, A = some a ∧ Z a.block) → (∀ j c, cs[j]? = some c → ∃ a, A = some a ∧ w.cell? (a.add j) = some c) → Rd w Z cs d.flat → Rd w Z vs ds →
      Rd w Z (.slice A d.size cap :: vs) (d :: ds)

/-- Cells that read as data and own each block below them, once. -/
inductive Own (w : World) : List Value → List D → List Nat → Prop
  | nil : Own w [] [] []
  | val {v : Value} {d : D} {vs : List Value} {ds : List D} {bs : List Nat} : d.val = some v → Own w vs ds bs → Own w (v :: vs) (d :: ds) bs
  | empty {d : D} {vs : List Value} {ds : List D} {bs : List Nat} : d.isSl = true → d.size = 0 → d.wf → Own w vs ds bs → Own w (.slice none 0 0 :: vs) (d :: ds) bs
  | sl {g cap : Nat} {cs : Array Value} {t : TypeId} {d : D} {vs : List Value} {ds : List D} {b1 b2 : List Nat} : d.isSl = true → w.heap[g]? = some (.cells cs t (0, 0)) → d.size ≤ cap → cap ≤ 9223372036854775807 →
      cs.size = cap * d.z → d.wf → Own w (cs.toList.take d.flat.length) d.flat b1 → Own w vs ds b2 →
      Own w (.slice (some ⟨g, 0, none⟩) d.size cap :: vs) (d :: ds) (g :: (b1 ++ b2))

theorem Rd.length {w : World} {Z : Nat → Prop} {vs : List Value} {ds : List D} (h : Rd w Z vs ds) : vs.length = ds.length := by
  induction h with
  | nil => rfl
  | val _ _ ih => simp [ih]
  | sl _ _ _ _ _ _ _ _ _ ih => simp [ih]

theorem Own.length {w : World} {vs : List Value} {ds : List D} {bs : List Nat} (h : Own w vs ds bs) : vs.length = ds.length := by
  induction h with
  | nil => rfl
  | val _ _ ih => simp [ih]
  | empty _ _ _ _ ih => simp [ih]
  | sl _ _ _ _ _ _ _ _ _ ih => simp [ih]

theorem cell_of_heap {w w' : World} {a : Addr} (h : w'.heap[a.block]? = w.heap[a.block]?) : w'.cell? a = w.cell? a := World.cell?_of_block h

theorem add_plain' (g j : Nat) : (⟨g, 0, none⟩ : Addr).add j = ⟨g, j, none⟩ := by unfold Addr.add; split <;> simp_all
theorem add_block (a : Addr) (n : Nat) : (a.add n).block = a.block := by unfold Addr.add; split <;> rfl

/-- Reading goes on where the blocks stay. -/
theorem Rd.keep {w w' : World} {Z Z' : Nat → Prop} {vs : List Value} {ds : List D} (h : Rd w Z vs ds) (hw : ∀ k, Z k → w'.heap[k]? = w.heap[k]?) (hz : ∀ k, Z k → Z' k) : Rd w' Z' vs ds := by
  induction h with
  | nil => exact .nil
  | val hv _ ih => exact .val hv ih
  | @sl A cap d cs vs ds h1 h2 h3 h4 h5 h6 h7 h8 ih1 ih2 =>
    refine .sl h1 h2 h3 h4 (fun h0 => ?_) (fun j c hc => ?_) ih1 ih2
    · obtain ⟨a, ha, hz'⟩ := h5 h0
      exact ⟨a, ha, hz _ hz'⟩
    · obtain ⟨a, ha, hca⟩ := h6 j c hc
      refine ⟨a, ha, ?_⟩
      have hn : d.size ≠ 0 := by
        intro h0
        have := h7.length
        rw [D.flat_length h4 h1, h0, Nat.zero_mul] at this
        have : cs = [] := List.eq_nil_of_length_eq_zero this
        subst this
        simp at hc
      obtain ⟨a', ha', hz'⟩ := h5 hn
      rw [ha] at ha'
      injection ha' with ha'
      subst ha'
      exact (cell_of_heap (by rw [add_block]; exact hw _ hz')).trans hca

theorem Own.keep {w w' : World} {vs : List Value} {ds : List D} {bs : List Nat} (h : Own w vs ds bs) (hw : ∀ k ∈ bs, w'.heap[k]? = w.heap[k]?) : Own w' vs ds bs := by
  induction h with
  | nil => exact .nil
  | val hv _ ih => exact .val hv (ih hw)
  | empty h1 h2 h3 _ ih => exact .empty h1 h2 h3 (ih hw)
  | sl h1 h2 h3 h4 h5 h6 _ _ ih1 ih2 =>
    exact .sl h1 ((hw _ (by simp)).trans h2) h3 h4 h5 h6 (ih1 fun k hk => hw k (by simp [hk])) (ih2 fun k hk => hw k (by simp [hk]))

theorem Own.lt {w : World} {vs : List Value} {ds : List D} {bs : List Nat} (h : Own w vs ds bs) : ∀ k ∈ bs, k < w.heap.size := by
  induction h with
  | nil => intro k hk; cases hk
  | val _ _ ih => exact ih
  | empty _ _ _ _ ih => exact ih
  | sl h1 h2 h3 h4 h5 h6 _ _ ih1 ih2 =>
    intro k hk
    rcases List.mem_cons.1 hk with rfl | hk
    · exact (Array.getElem?_eq_some_iff.1 h2).1
    · rcases List.mem_append.1 hk with hk | hk
      · exact ih1 k hk
      · exact ih2 k hk

theorem cell_at {w : World} {g : Nat} {cs : Array Value} {t : TypeId} {fr : Nat × Nat} (h : w.heap[g]? = some (.cells cs t fr)) (j : Nat) : w.cell? ((⟨g, 0, none⟩ : Addr).add j) = cs[j]? := by
  have : ((⟨g, 0, none⟩ : Addr).add j) = ⟨g, j, none⟩ := by unfold Addr.add; split <;> simp_all
  rw [this]
  simp [World.cell?, h]

/-- What owns, reads. -/
theorem Own.rd {w : World} {vs : List Value} {ds : List D} {bs : List Nat} (h : Own w vs ds bs) {Z : Nat → Prop} (hz : ∀ k ∈ bs, Z k) : Rd w Z vs ds := by
  induction h with
  | nil => exact .nil
  | val hv _ ih => exact .val hv (ih hz)
  | @empty d vs ds bs h1 h2 h3 _ ih =>
    have e : (Value.slice none 0 0) = .slice none d.size 0 := by rw [h2]
    rw [e]
    have hf : d.flat = [] := List.eq_nil_of_length_eq_zero (by rw [D.flat_length h3 h1, h2, Nat.zero_mul])
    refine .sl (cs := []) h1 (by omega) (by omega) h3 (fun h0 => absurd h2 h0) (fun j c hc => by simp at hc) (by rw [hf]; exact .nil) (ih hz)
  | @sl g cap cs t d vs ds b1 b2 h1 h2 h3 h4 h5 h6 _ _ ih1 ih2 =>
    refine .sl (cs := cs.toList.take d.flat.length) h1 (by omega) h3 h6 (fun _ => ⟨_, rfl, hz g (by simp)⟩) (fun j c hc => ⟨_, rfl, ?_⟩) (ih1 fun k hk => hz k (by simp [hk])) (ih2 fun k hk => hz k (by simp [hk]))
    rw [cell_at h2]
    rw [List.getElem?_take] at hc
    split at hc
    · simpa using hc
    · simp at hc

theorem Rd.append {w : World} {Z : Nat → Prop} {vs us : List Value} {ds es : List D} (h : Rd w Z vs ds) (h' : Rd w Z us es) : Rd w Z (vs ++ us) (ds ++ es) := by
  induction h with
  | nil => exact h'
  | val hv _ ih => exact .val hv ih
  | sl h1 h2 h3 h4 h5 h6 h7 _ _ ih => exact .sl h1 h2 h3 h4 h5 h6 h7 ih

theorem Own.append {w : World} {vs us : List Value} {ds es : List D} {b c : List Nat} (h : Own w vs ds b) (h' : Own w us es c) : Own w (vs ++ us) (ds ++ es) (b ++ c) := by
  induction h with
  | nil => exact h'
  | val hv _ ih => exact .val hv ih
  | empty h1 h2 h3 _ ih => exact .empty h1 h2 h3 ih
  | sl h1 h2 h3 h4 h5 h6 h7 _ _ ih =>
    have := Own.sl h1 h2 h3 h4 h5 h6 h7 ih
    simpa using this

/-- Cell by cell. -/
theorem Rd.get {w : World} {Z : Nat → Prop} {vs : List Value} {ds : List D} (h : Rd w Z vs ds) : ∀ (j : Nat) (d : D), ds[j]? = some d → ∃ v, vs[j]? = some v ∧ Rd w Z [v] [d] := by
  induction h with
  | nil => intro j d hd; simp at hd
  | @val v d' vs ds hv _ ih =>
    intro j d hd
    cases j with
    | zero => simp at hd; subst hd; exact ⟨v, rfl, .val hv .nil⟩
    | succ j => exact ih j d (by simpa using hd)
  | @sl A cap d' cs vs ds h1 h2 h3 h4 h5 h6 h7 _ _ ih =>
    intro j d hd
    cases j with
    | zero => simp at hd; subst hd; exact ⟨_, rfl, .sl h1 h2 h3 h4 h5 h6 h7 .nil⟩
    | succ j => exact ih j d (by simpa using hd)

theorem Rd.of_get {w : World} {Z : Nat → Prop} : ∀ (vs : List Value) (ds : List D), vs.length = ds.length → (∀ (j : Nat) v d, vs[j]? = some v → ds[j]? = some d → Rd w Z [v] [d]) → Rd w Z vs ds
  | [], [], _, _ => .nil
  | [], _ :: _, h, _ => by simp at h
  | _ :: _, [], h, _ => by simp at h
  | v :: vs, d :: ds, h, H => Rd.append (H 0 v d rfl rfl) (Rd.of_get vs ds (by simpa using h) fun j v d hv hd => H (j + 1) v d (by simpa using hv) (by simpa using hd))

theorem Rd.head {w : World} {Z : Nat → Prop} {v : Value} {d : D} {vs : List Value} {ds : List D} (h : Rd w Z (v :: vs) (d :: ds)) : Rd w Z [v] [d] ∧ Rd w Z vs ds := by
  cases h with
  | val hv h => exact ⟨.val hv .nil, h⟩
  | sl h1 h2 h3 h4 h5 h6 h7 h8 => exact ⟨.sl h1 h2 h3 h4 h5 h6 h7 .nil, h8⟩

/-- Parting a row of cells that own. -/
theorem Own.split {w : World} {ds es : List D} {vs us : List Value} {bs : List Nat} (hl : vs.length = ds.length) (h : Own w (vs ++ us) (ds ++ es) bs) : ∃ b c, bs = b ++ c ∧ Own w vs ds b ∧ Own w us es c := by
  induction ds generalizing vs bs with
  | nil =>
    have : vs = [] := List.eq_nil_of_length_eq_zero hl
    subst this
    exact ⟨[], bs, rfl, .nil, h⟩
  | cons d ds ih =>
    cases vs with
    | nil => simp at hl
    | cons v vs =>
      rw [List.cons_append, List.cons_append] at h
      cases h with
      | val hv h =>
        obtain ⟨b, c, rfl, h1, h2⟩ := ih (by simpa using hl) h
        exact ⟨b, c, rfl, .val hv h1, h2⟩
      | empty h1 h2 h3 h =>
        obtain ⟨b, c, rfl, k1, k2⟩ := ih (by simpa using hl) h
        exact ⟨b, c, rfl, .empty h1 h2 h3 k1, k2⟩
      | @sl g cap cs t _ _ _ b1 b2 h1 h2 h3 h4 h5 h6 h7 h =>
        obtain ⟨b, c, rfl, k1, k2⟩ := ih (by simpa using hl) h
        exact ⟨g :: (b1 ++ b), c, by simp, .sl h1 h2 h3 h4 h5 h6 h7 k1, k2⟩

/-- One cell of a row that owns: what it owns itself, and the row anew with another datum there. -/
theorem Own.lend1 {w : World} {vs : List Value} {ds : List D} {bs : List Nat} (h : Own w vs ds bs) : ∀ (j : Nat) (d : D), ds[j]? = some d → ∃ v b1 b b2, vs[j]? = some v ∧ bs = b1 ++ b ++ b2 ∧ Own w [v] [d] b ∧
    ∀ (w' : World) (v' : Value) (d' : D) (b' : List Nat), Own w' [v'] [d'] b' → (∀ k ∈ b1, w'.heap[k]? = w.heap[k]?) → (∀ k ∈ b2, w'.heap[k]? = w.heap[k]?) → Own w' (vs.set j v') (ds.set j d') (b1 ++ b' ++ b2) := by
  intro j d hd
  have hl := h.length
  have hj : j < ds.length := (List.getElem?_eq_some_iff.1 hd).1
  have hjv : j < vs.length := by omega
  have e1 : vs = vs.take j ++ ([vs[j]] ++ vs.drop (j + 1)) := by simp
  have e2 : ds = ds.take j ++ ([ds[j]] ++ ds.drop (j + 1)) := by simp
  have hdj : ds[j] = d := by rw [List.getElem?_eq_getElem hj] at hd; injection hd
  rw [e1, e2] at h
  obtain ⟨b1, c, rfl, h1, h2⟩ := Own.split (by simp; omega) h
  obtain ⟨b, b2, rfl, h3, h4⟩ := Own.split (by simp) h2
  refine ⟨vs[j], b1, b, b2, List.getElem?_eq_getElem hjv, by simp, by rw [hdj] at h3; exact h3, fun w' v' d' b' ho hk1 hk2 => ?_⟩
  have k1 := h1.keep hk1
  have k2 := h4.keep hk2
  have := (k1.append (ho.append k2))
  have s1 : vs.set j v' = vs.take j ++ ([v'] ++ vs.drop (j + 1)) := by rw [List.set_eq_take_append_cons_drop, if_pos hjv]; simp
  have s2 : ds.set j d' = ds.take j ++ ([d'] ++ ds.drop (j + 1)) := by rw [List.set_eq_take_append_cons_drop, if_pos hj]; simp
  rw [s1, s2]
  simpa using this

/-- Another datum in cell j of element i. -/
def D.put : D → Nat → Nat → D → Option D
  | .ints k xs, i, 0, .int k' n => if k = k' then some (.ints k (xs.set i n)) else none
  | .bss xs, i, 0, .ints .u8 ys => some (.bss (xs.set i ys))
  | .sl z es, i, j, x => some (.sl z (es.set i ((es.getD i []).set j x)))
  | _, _, _, _ => none
theorem flatten_set {α : Type} (z : Nat) (x : α) : ∀ (es : List (List α)), (∀ e ∈ es, e.length = z) → ∀ i j, i < es.length → j < z → (es.set i ((es.getD i []).set j x)).flatten = es.flatten.set (i * z + j) x
  | [], _, i, j, hi, _ => by simp at hi
  | e :: es, h, i, j, hi, hj => by
    have he := h e (by simp)
    cases i with
    | zero =>
      simp only [List.set_cons_zero, List.getD_cons_zero, List.flatten_cons, Nat.zero_mul, Nat.zero_add]
      rw [List.set_append_left _ _ (by omega)]
    | succ i =>
      have := flatten_set z x es (fun y hy => h y (by simp [hy])) i j (by simpa using hi) hj
      simp only [List.set_cons_succ, List.getD_cons_succ, List.flatten_cons]
      rw [this, List.set_append_right _ _ (by rw [he, Nat.succ_mul]; omega), he]
      congr 2
      rw [Nat.succ_mul]; omega
theorem D.put_flat {d d' x : D} {i j : Nat} (h : d.put i j x = some d') (hw : d.wf) (hi : i < d.size) (hj : j < d.z) : d'.flat = d.flat.set (i * d.z + j) x ∧ d'.size = d.size ∧ d'.z = d.z ∧ d'.wf ∧ d'.isSl = true := by
  cases d with
  | ints k xs =>
    have hj0 : j = 0 := by simp [D.z] at hj; omega
    subst hj0
    cases x with
    | int k' n =>
      simp only [D.put] at h
      split at h
      · rename_i e; subst e; injection h with h; subst h
        exact ⟨by simp [D.flat, D.z, List.map_set], by simp [D.size], rfl, trivial, rfl⟩
      · exact absurd h (by simp)
    | _ => simp [D.put] at h
  | bss xs =>
    have hj0 : j = 0 := by simp [D.z] at hj; omega
    subst hj0
    cases x with
    | ints k' n =>
      cases k' with
      | u8 =>
        simp only [D.put] at h
        injection h with h; subst h
        exact ⟨by simp [D.flat, D.z, List.map_set], by simp [D.size], rfl, trivial, rfl⟩
      | _ => simp [D.put] at h
    | _ => simp [D.put] at h
  | sl z es =>
    simp only [D.put] at h
    injection h with h; subst h
    simp only [D.size] at hi
    simp only [D.z] at hj
    refine ⟨flatten_set z x es hw i j hi hj, by simp [D.size], rfl, fun e he => ?_, rfl⟩
    rcases List.mem_or_eq_of_mem_set he with he | rfl
    · exact hw e he
    · rw [List.length_set, List.getD_eq_getElem?_getD, List.getElem?_eq_getElem hi]; exact hw _ (List.getElem_mem hi)
  | _ => simp [D.put] at h

end Go.Proofs.Ytmdojlglemnijaa.Rf
