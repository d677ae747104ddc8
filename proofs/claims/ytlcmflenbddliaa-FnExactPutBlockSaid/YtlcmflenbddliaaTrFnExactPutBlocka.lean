/- A logic of our own over the kit's 'wp', as much of it as this claim uses. Plain definitions and theorems. -/
import Derived.Below
import Derived.Deep.Draws
import Derived.Deep.AppendLies
import Derived.Maps.AppendAt
import Derived.OwnWalk
import Derived.Laws.BytesArg
import Derived.Laws.MakeOwn
import Derived.Laws.OwnMore
import Derived.Laws.CopyRow
import Derived.Laws.Slices
import Derived.Laws.Rows
import Derived.Deep.MidRow
import Derived.Deep.WholeRow
import Derived.WalkKit
import Derived.KernelRfl
import Derived.Orders
import Derived.Deep.Upon
import Derived.IntWalk
import Derived.ProofKit
import Derived.OpenShut
import Derived.ShutString
import Derived.ChangeOld
import Derived.SizedLaws
import Derived.Deep.Slices
namespace Go.Proofs.Ytlcmflenbddliaa.Rf
open Go.RowKit
set_option linter.unusedVariables false
set_option linter.unnecessarySimpa false
set_option linter.unusedSimpArgs false
open Go.RowKit Go.ChangeShapes Go.WideShapes Go.ChangeAt
inductive D where
  | int (k : IntKind) (n : Int)
  | bool (b : Bool)
  | str (s : ByteArray)
  | fn (f : FuncId)
  | ints (k : IntKind) (xs : List Int)
  | bss (xs : List (List Int))
  | sl (z : Nat) (es : List (List D))
def D.val : D → Option Value
  | .int k n => some (.int k n)
  | .bool b => some (.bool b)
  | .str s => some (.string s)
  | .fn f => some (.func (.func f) #[] #[])
  | _ => none
def D.isSl : D → Bool
  | .ints .. | .bss _ | .sl .. => true
  | _ => false
def D.size : D → Nat
  | .ints _ xs => xs.length
  | .bss xs => xs.length
  | .sl _ es => es.length
  | _ => 0
def D.z : D → Nat
  | .sl z _ => z
  | _ => 1
def D.wf : D → Prop
  | .sl z es => ∀ e ∈ es, e.length = z
  | _ => True
def D.flat : D → List D
  | .ints k xs => xs.map (.int k)
  | .bss xs => xs.map (.ints .u8)
  | .sl _ es => es.flatten
  | _ => []
def D.cell : D → Nat → Nat → D
  | .ints k xs, i, _ => .int k (xs.getD i 0)
  | .bss xs, i, _ => .ints .u8 (xs.getD i [])
  | .sl _ es, i, j => (es.getD i []).getD j (.bool false)
  | _, _, _ => .bool false
theorem flatten_length {α : Type} (z : Nat) : ∀ (es : List (List α)), (∀ e ∈ es, e.length = z) → es.flatten.length = es.length * z
  | [], _ => by simp
  | e :: es, h => by
    rw [List.flatten_cons, List.length_append, h e (by simp), flatten_length z es (fun x hx => h x (by simp [hx])), List.length_cons, Nat.succ_mul, Nat.add_comm]
theorem flatten_get {α : Type} (z : Nat) : ∀ (es : List (List α)), (∀ e ∈ es, e.length = z) → ∀ i j, j < z → es.flatten[i * z + j]? = (es[i]?).bind (·[j]?)
  | [], _, i, j, hj => by simp
  | e :: es, h, i, j, hj => by
    have he := h e (by simp)
    rw [List.flatten_cons]
    cases i with
    | zero => rw [List.getElem?_append_left (by rw [he]; omega)]; simp
    | succ i =>
      rw [List.getElem?_append_right (by rw [he, Nat.succ_mul]; omega), he]
      have : (i + 1) * z + j - z = i * z + j := by rw [Nat.succ_mul]; omega
      rw [this, flatten_get z es (fun x hx => h x (by simp [hx])) i j hj]
      simp
theorem D.flat_length {d : D} (h : d.wf) (hs : d.isSl = true) : d.flat.length = d.size * d.z := by
  cases d <;> simp [D.isSl] at hs
  · simp [D.flat, D.size, D.z]
  · simp [D.flat, D.size, D.z]
  · exact flatten_length _ _ h
theorem D.flat_get {d : D} (h : d.wf) (hs : d.isSl = true) {i j : Nat} (hi : i < d.size) (hj : j < d.z) : d.flat[i * d.z + j]? = some (d.cell i j) := by
  cases d <;> simp [D.isSl] at hs
  case ints k xs =>
    have hj0 : j = 0 := by simp [D.z] at hj; omega
    subst hj0
    simp only [D.size] at hi
    simp [D.flat, D.z, D.cell, List.getElem?_eq_getElem hi, List.getD_eq_getElem?_getD]
  case bss xs =>
    have hj0 : j = 0 := by simp [D.z] at hj; omega
    subst hj0
    simp only [D.size] at hi
    simp [D.flat, D.z, D.cell, List.getElem?_eq_getElem hi, List.getD_eq_getElem?_getD]
  case sl z es =>
    simp only [D.size] at hi
    simp only [D.z] at hj
    simp only [D.flat, D.z, D.cell]
    rw [flatten_get z es h i j hj]
    have he := h (es[i]) (List.getElem_mem hi)
    simp [List.getElem?_eq_getElem hi, List.getD_eq_getElem?_getD, List.getElem?_eq_getElem (show j < (es[i]).length by omega)]
inductive Rd (w : World) (Z : Nat → Prop) : List Value → List D → Prop
  | nil : Rd w Z [] []
  | val {v : Value} {d : D} {vs : List Value} {ds : List D} : d.val = some v → Rd w Z vs ds → Rd w Z (v :: vs) (d :: ds)
  | sl {A : Option Addr} {cap : Nat} {d : D} {cs vs : List Value} {ds : List D} : d.isSl = true → d.size ≤ 9223372036854775807 → d.size ≤ cap → d.wf →
      (d.size ≠ 0 → ∃ a, A = some a ∧ Z a.block) → (∀ j c, cs[j]? = some c → ∃ a, A = some a ∧ w.cell? (a.add j) = some c) → Rd w Z cs d.flat → Rd w Z vs ds →
      Rd w Z (.slice A d.size cap :: vs) (d :: ds)
inductive Own (w : World) : List Value → List D → List Nat → Prop
  | nil : Own w [] [] []
  | val {v : Value} {d : D} {vs : List Value} {ds : List D} {bs : List Nat} : d.val = some v → Own w vs ds bs → Own w (v :: vs) (d :: ds) bs
  | empty {d : D} {vs : List Value} {ds : List D} {bs : List Nat} : d.isSl = true → d.size = 0 → d.wf → Own w vs ds bs → Own w (.slice none 0 0 :: vs) (d :: ds) bs
  | sl {g cap : Nat} {cs : Array Value} {t : TypeId} {d : D} {vs : List Value} {ds : List D} {b1 b2 : List Nat} : d.isSl = true → w.heap[g]? = some (.cells cs t (0, 0)) → d.size ≤ cap → cap ≤ 9223372036854775807 →
      cs.size = cap * d.z → d.wf → Own w (cs.toList.take d.flat.length) d.flat b1 → Own w vs ds b2 →
      Own w (.slice (some ⟨g, 0, none⟩) d.size cap :: vs) (d :: ds) (g :: (b1 ++ b2))
theorem Rd.length {w : World} {Z : Nat → Prop} {vs : List Value} {ds : List D} (h : Rd w Z vs ds) : vs.length = ds.length := by
  induction h with
  | nil => rfl
  | val _ _ ih => simp [ih]
  | sl _ _ _ _ _ _ _ _ _ ih => simp [ih]
theorem Own.length {w : World} {vs : List Value} {ds : List D} {bs : List Nat} (h : Own w vs ds bs) : vs.length = ds.length := by
  induction h with
  | nil => rfl
  | val _ _ ih => simp [ih]
  | empty _ _ _ _ ih => simp [ih]
  | sl _ _ _ _ _ _ _ _ _ ih => simp [ih]
theorem cell_of_heap {w w' : World} {a : Addr} (h : w'.heap[a.block]? = w.heap[a.block]?) : w'.cell? a = w.cell? a := World.cell?_of_block h
theorem add_plain' (g j : Nat) : (⟨g, 0, none⟩ : Addr).add j = ⟨g, j, none⟩ := by unfold Addr.add; split <;> simp_all
theorem add_block (a : Addr) (n : Nat) : (a.add n).block = a.block := by unfold Addr.add; split <;> rfl
theorem Rd.keep {w w' : World} {Z Z' : Nat → Prop} {vs : List Value} {ds : List D} (h : Rd w Z vs ds) (hw : ∀ k, Z k → w'.heap[k]? = w.heap[k]?) (hz : ∀ k, Z k → Z' k) : Rd w' Z' vs ds := by
  induction h with
  | nil => exact .nil
  | val hv _ ih => exact .val hv ih
  | @sl A cap d cs vs ds h1 h2 h3 h4 h5 h6 h7 h8 ih1 ih2 =>
    refine .sl h1 h2 h3 h4 (fun h0 => ?_) (fun j c hc => ?_) ih1 ih2
    · obtain ⟨a, ha, hz'⟩ := h5 h0
      exact ⟨a, ha, hz _ hz'⟩
    · obtain ⟨a, ha, hca⟩ := h6 j c hc
      refine ⟨a, ha, ?_⟩
      have hn : d.size ≠ 0 := by
        intro h0
        have := h7.length
        rw [D.flat_length h4 h1, h0, Nat.zero_mul] at this
        have : cs = [] := List.eq_nil_of_length_eq_zero this
        subst this
        simp at hc
      obtain ⟨a', ha', hz'⟩ := h5 hn
      rw [ha] at ha'
      injection ha' with ha'
      subst ha'
      exact (cell_of_heap (by rw [add_block]; exact hw _ hz')).trans hca
theorem Own.keep {w w' : World} {vs : List Value} {ds : List D} {bs : List Nat} (h : Own w vs ds bs) (hw : ∀ k ∈ bs, w'.heap[k]? = w.heap[k]?) : Own w' vs ds bs := by
  induction h with
  | nil => exact .nil
  | val hv _ ih => exact .val hv (ih hw)
  | empty h1 h2 h3 _ ih => exact .empty h1 h2 h3 (ih hw)
  | sl h1 h2 h3 h4 h5 h6 _ _ ih1 ih2 =>
    exact .sl h1 ((hw _ (by simp)).trans h2) h3 h4 h5 h6 (ih1 fun k hk => hw k (by simp [hk])) (ih2 fun k hk => hw k (by simp [hk]))
theorem Own.lt {w : World} {vs : List Value} {ds : List D} {bs : List Nat} (h : Own w vs ds bs) : ∀ k ∈ bs, k < w.heap.size := by
  induction h with
  | nil => intro k hk; cases hk
  | val _ _ ih => exact ih
  | empty _ _ _ _ ih => exact ih
  | sl h1 h2 h3 h4 h5 h6 _ _ ih1 ih2 =>
    intro k hk
    rcases List.mem_cons.1 hk with rfl | hk
    · exact (Array.getElem?_eq_some_iff.1 h2).1
    · rcases List.mem_append.1 hk with hk | hk
      · exact ih1 k hk
      · exact ih2 k hk
theorem cell_at {w : World} {g : Nat} {cs : Array Value} {t : TypeId} {fr : Nat × Nat} (h : w.heap[g]? = some (.cells cs t fr)) (j : Nat) : w.cell? ((⟨g, 0, none⟩ : Addr).add j) = cs[j]? := by
  have : ((⟨g, 0, none⟩ : Addr).add j) = ⟨g, j, none⟩ := by unfold Addr.add; split <;> simp_all
  rw [this]
  simp [World.cell?, h]
theorem Own.rd {w : World} {vs : List Value} {ds : List D} {bs : List Nat} (h : Own w vs ds bs) {Z : Nat → Prop} (hz : ∀ k ∈ bs, Z k) : Rd w Z vs ds := by
  induction h with
  | nil => exact .nil
  | val hv _ ih => exact .val hv (ih hz)
  | @empty d vs ds bs h1 h2 h3 _ ih =>
    have e : (Value.slice none 0 0) = .slice none d.size 0 := by rw [h2]
    rw [e]
    have hf : d.flat = [] := List.eq_nil_of_length_eq_zero (by rw [D.flat_length h3 h1, h2, Nat.zero_mul])
    refine .sl (cs := []) h1 (by omega) (by omega) h3 (fun h0 => absurd h2 h0) (fun j c hc => by simp at hc) (by rw [hf]; exact .nil) (ih hz)
  | @sl g cap cs t d vs ds b1 b2 h1 h2 h3 h4 h5 h6 _ _ ih1 ih2 =>
    refine .sl (cs := cs.toList.take d.flat.length) h1 (by omega) h3 h6 (fun _ => ⟨_, rfl, hz g (by simp)⟩) (fun j c hc => ⟨_, rfl, ?_⟩) (ih1 fun k hk => hz k (by simp [hk])) (ih2 fun k hk => hz k (by simp [hk]))
    rw [cell_at h2]
    rw [List.getElem?_take] at hc
    split at hc
    · simpa using hc
    · simp at hc
theorem Rd.append {w : World} {Z : Nat → Prop} {vs us : List Value} {ds es : List D} (h : Rd w Z vs ds) (h' : Rd w Z us es) : Rd w Z (vs ++ us) (ds ++ es) := by
  induction h with
  | nil => exact h'
  | val hv _ ih => exact .val hv ih
  | sl h1 h2 h3 h4 h5 h6 h7 _ _ ih => exact .sl h1 h2 h3 h4 h5 h6 h7 ih
theorem Own.append {w : World} {vs us : List Value} {ds es : List D} {b c : List Nat} (h : Own w vs ds b) (h' : Own w us es c) : Own w (vs ++ us) (ds ++ es) (b ++ c) := by
  induction h with
  | nil => exact h'
  | val hv _ ih => exact .val hv ih
  | empty h1 h2 h3 _ ih => exact .empty h1 h2 h3 ih
  | sl h1 h2 h3 h4 h5 h6 h7 _ _ ih =>
    have := Own.sl h1 h2 h3 h4 h5 h6 h7 ih
    simpa using this
theorem Rd.get {w : World} {Z : Nat → Prop} {vs : List Value} {ds : List D} (h : Rd w Z vs ds) : ∀ (j : Nat) (d : D), ds[j]? = some d → ∃ v, vs[j]? = some v ∧ Rd w Z [v] [d] := by
  induction h with
  | nil => intro j d hd; simp at hd
  | @val v d' vs ds hv _ ih =>
    intro j d hd
    cases j with
    | zero => simp at hd; subst hd; exact ⟨v, rfl, .val hv .nil⟩
    | succ j => exact ih j d (by simpa using hd)
  | @sl A cap d' cs vs ds h1 h2 h3 h4 h5 h6 h7 _ _ ih =>
    intro j d hd
    cases j with
    | zero => simp at hd; subst hd; exact ⟨_, rfl, .sl h1 h2 h3 h4 h5 h6 h7 .nil⟩
    | succ j => exact ih j d (by simpa using hd)
theorem Rd.of_get {w : World} {Z : Nat → Prop} : ∀ (vs : List Value) (ds : List D), vs.length = ds.length → (∀ (j : Nat) v d, vs[j]? = some v → ds[j]? = some d → Rd w Z [v] [d]) → Rd w Z vs ds
  | [], [], _, _ => .nil
  | [], _ :: _, h, _ => by simp at h
  | _ :: _, [], h, _ => by simp at h
  | v :: vs, d :: ds, h, H => Rd.append (H 0 v d rfl rfl) (Rd.of_get vs ds (by simpa using h) fun j v d hv hd => H (j + 1) v d (by simpa using hv) (by simpa using hd))
theorem Own.split {w : World} {ds es : List D} {vs us : List Value} {bs : List Nat} (hl : vs.length = ds.length) (h : Own w (vs ++ us) (ds ++ es) bs) : ∃ b c, bs = b ++ c ∧ Own w vs ds b ∧ Own w us es c := by
  induction ds generalizing vs bs with
  | nil =>
    have : vs = [] := List.eq_nil_of_length_eq_zero hl
    subst this
    exact ⟨[], bs, rfl, .nil, h⟩
  | cons d ds ih =>
    cases vs with
    | nil => simp at hl
    | cons v vs =>
      rw [List.cons_append, List.cons_append] at h
      cases h with
      | val hv h =>
        obtain ⟨b, c, rfl, h1, h2⟩ := ih (by simpa using hl) h
        exact ⟨b, c, rfl, .val hv h1, h2⟩
      | empty h1 h2 h3 h =>
        obtain ⟨b, c, rfl, k1, k2⟩ := ih (by simpa using hl) h
        exact ⟨b, c, rfl, .empty h1 h2 h3 k1, k2⟩
      | @sl g cap cs t _ _ _ b1 b2 h1 h2 h3 h4 h5 h6 h7 h =>
        obtain ⟨b, c, rfl, k1, k2⟩ := ih (by simpa using hl) h
        exact ⟨g :: (b1 ++ b), c, by simp, .sl h1 h2 h3 h4 h5 h6 h7 k1, k2⟩
theorem Own.lend1 {w : World} {vs : List Value} {ds : List D} {bs : List Nat} (h : Own w vs ds bs) : ∀ (j : Nat) (d : D), ds[j]? = some d → ∃ v b1 b b2, vs[j]? = some v ∧ bs = b1 ++ b ++ b2 ∧ Own w [v] [d] b ∧
    ∀ (w' : World) (v' : Value) (d' : D) (b' : List Nat), Own w' [v'] [d'] b' → (∀ k ∈ b1, w'.heap[k]? = w.heap[k]?) → (∀ k ∈ b2, w'.heap[k]? = w.heap[k]?) → Own w' (vs.set j v') (ds.set j d') (b1 ++ b' ++ b2) := by
  intro j d hd
  have hl := h.length
  have hj : j < ds.length := (List.getElem?_eq_some_iff.1 hd).1
  have hjv : j < vs.length := by omega
  have e1 : vs = vs.take j ++ ([vs[j]] ++ vs.drop (j + 1)) := by simp
  have e2 : ds = ds.take j ++ ([ds[j]] ++ ds.drop (j + 1)) := by simp
  have hdj : ds[j] = d := by rw [List.getElem?_eq_getElem hj] at hd; injection hd
  rw [e1, e2] at h
  obtain ⟨b1, c, rfl, h1, h2⟩ := Own.split (by simp; omega) h
  obtain ⟨b, b2, rfl, h3, h4⟩ := Own.split (by simp) h2
  refine ⟨vs[j], b1, b, b2, List.getElem?_eq_getElem hjv, by simp, by rw [hdj] at h3; exact h3, fun w' v' d' b' ho hk1 hk2 => ?_⟩
  have k1 := h1.keep hk1
  have k2 := h4.keep hk2
  have := (k1.append (ho.append k2))
  have s1 : vs.set j v' = vs.take j ++ ([v'] ++ vs.drop (j + 1)) := by rw [List.set_eq_take_append_cons_drop, if_pos hjv]; simp
  have s2 : ds.set j d' = ds.take j ++ ([d'] ++ ds.drop (j + 1)) := by rw [List.set_eq_take_append_cons_drop, if_pos hj]; simp
  rw [s1, s2]
  simpa using this
def D.put : D → Nat → Nat → D → Option D
  | .ints k xs, i, 0, .int k' n => if k = k' then some (.ints k (xs.set i n)) else none
  | .bss xs, i, 0, .ints .u8 ys => some (.bss (xs.set i ys))
  | .sl z es, i, j, x => some (.sl z (es.set i ((es.getD i []).set j x)))
  | _, _, _, _ => none
theorem flatten_set {α : Type} (z : Nat) (x : α) : ∀ (es : List (List α)), (∀ e ∈ es, e.length = z) → ∀ i j, i < es.length → j < z → (es.set i ((es.getD i []).set j x)).flatten = es.flatten.set (i * z + j) x
  | [], _, i, j, hi, _ => by simp at hi
  | e :: es, h, i, j, hi, hj => by
    have he := h e (by simp)
    cases i with
    | zero =>
      simp only [List.set_cons_zero, List.getD_cons_zero, List.flatten_cons, Nat.zero_mul, Nat.zero_add]
      rw [List.set_append_left _ _ (by omega)]
    | succ i =>
      have := flatten_set z x es (fun y hy => h y (by simp [hy])) i j (by simpa using hi) hj
      simp only [List.set_cons_succ, List.getD_cons_succ, List.flatten_cons]
      rw [this, List.set_append_right _ _ (by rw [he, Nat.succ_mul]; omega), he]
      congr 2
      rw [Nat.succ_mul]; omega
theorem D.put_flat {d d' x : D} {i j : Nat} (h : d.put i j x = some d') (hw : d.wf) (hi : i < d.size) (hj : j < d.z) : d'.flat = d.flat.set (i * d.z + j) x ∧ d'.size = d.size ∧ d'.z = d.z ∧ d'.wf ∧ d'.isSl = true := by
  cases d with
  | ints k xs =>
    have hj0 : j = 0 := by simp [D.z] at hj; omega
    subst hj0
    cases x with
    | int k' n =>
      simp only [D.put] at h
      split at h
      · rename_i e; subst e; injection h with h; subst h
        exact ⟨by simp [D.flat, D.z, List.map_set], by simp [D.size], rfl, trivial, rfl⟩
      · exact absurd h (by simp)
    | _ => simp [D.put] at h
  | bss xs =>
    have hj0 : j = 0 := by simp [D.z] at hj; omega
    subst hj0
    cases x with
    | ints k' n =>
      cases k' with
      | u8 =>
        simp only [D.put] at h
        injection h with h; subst h
        exact ⟨by simp [D.flat, D.z, List.map_set], by simp [D.size], rfl, trivial, rfl⟩
      | _ => simp [D.put] at h
    | _ => simp [D.put] at h
  | sl z es =>
    simp only [D.put] at h
    injection h with h; subst h
    simp only [D.size] at hi
    simp only [D.z] at hj
    refine ⟨flatten_set z x es hw i j hi hj, by simp [D.size], rfl, fun e he => ?_, rfl⟩
    rcases List.mem_or_eq_of_mem_set he with he | rfl
    · exact hw e he
    · rw [List.length_set, List.getD_eq_getElem?_getD, List.getElem?_eq_getElem hi]; exact hw _ (List.getElem_mem hi)
  | _ => simp [D.put] at h
inductive PC where
  | d (x : D)
  | nil
  | row (r : Nat) (p : List (Nat × Nat))
  | und
  | ptr (b off : Nat)
  | eptr (x : D) (i j : Nat)
  | rptr (r : Nat) (p : List (Nat × Nat)) (i j : Nat)
inductive PV where
  | one (c : PC)
  | agg (cs : List PC)
  | tup (vs : List (Bool × List PC))
inductive All2 {α β : Type} (R : α → β → Prop) : List α → List β → Prop
  | nil : All2 R [] []
  | cons {a : α} {b : β} {as : List α} {bs : List β} : R a b → All2 R as bs → All2 R (a :: as) (b :: bs)
theorem All2.length {α β : Type} {R : α → β → Prop} {as : List α} {bs : List β} (h : All2 R as bs) : as.length = bs.length := by
  induction h with
  | nil => rfl
  | cons _ _ ih => simp [ih]
theorem All2.imp {α β : Type} {R R' : α → β → Prop} {as : List α} {bs : List β} (h : All2 R as bs) (H : ∀ a b, b ∈ bs → R a b → R' a b) : All2 R' as bs := by
  induction h with
  | nil => exact .nil
  | cons h1 _ ih => exact .cons (H _ _ (by simp) h1) (ih fun a b hb => H a b (by simp [hb]))
theorem All2.get {α β : Type} {R : α → β → Prop} {as : List α} {bs : List β} (h : All2 R as bs) : ∀ (j : Nat) (b : β), bs[j]? = some b → ∃ a, as[j]? = some a ∧ R a b := by
  induction h with
  | nil => intro j b hb; simp at hb
  | @cons a b as bs h1 _ ih =>
    intro j b' hb
    cases j with
    | zero => simp at hb; subst hb; exact ⟨a, rfl, h1⟩
    | succ j => exact ih j b' (by simpa using hb)
theorem All2.of_get {α β : Type} {R : α → β → Prop} : ∀ (as : List α) (bs : List β), as.length = bs.length → (∀ (j : Nat) a b, as[j]? = some a → bs[j]? = some b → R a b) → All2 R as bs
  | [], [], _, _ => .nil
  | [], _ :: _, h, _ => by simp at h
  | _ :: _, [], h, _ => by simp at h
  | a :: as, b :: bs, h, H => .cons (H 0 a b rfl rfl) (All2.of_get as bs (by simpa using h) fun j x y hx hy => H (j + 1) x y (by simpa using hx) (by simpa using hy))
def lk {α : Type} : List (Nat × α) → Nat → Option α
  | [], _ => none
  | (k, v) :: l, t => if k = t then some v else lk l t
structure Env where
  tm : List (Nat × PV) := []
  rows : List (Nat × (TypeId × D)) := []
  boxes : List (Nat × (TypeId × List PC)) := []
def Env.get (E : Env) (t : Nat) : PV := (lk E.tm t).getD (.one .und)
def Env.row (E : Env) (r : Nat) : Option (TypeId × D) := lk E.rows r
def Env.box (E : Env) (b : Nat) : Option (TypeId × List PC) := lk E.boxes b
def Env.set (E : Env) (t : Nat) (v : PV) : Env := { E with tm := (t, v) :: E.tm }
inductive Tag where
  | none
  | froz
  | row (r : Nat)
  | box (b : Nat)
structure Maps where
  hdl : Nat → Value
  fp : Nat → List Nat
  blk : Nat → Nat
  own : Nat → Tag
def PathTo (w : World) : Value → D → List (Nat × Nat) → Value → Prop
  | v, _, [], u => u = v
  | v, d, (i, j) :: p, u => ∃ g cap cs t c, v = .slice (some ⟨g, 0, none⟩) d.size cap ∧ w.heap[g]? = some (.cells cs t (0, 0)) ∧ i < d.size ∧ j < d.z ∧ cs[i * d.z + j]? = some c ∧ PathTo w c (d.cell i j) p u
def D.at_ : D → List (Nat × Nat) → D
  | d, [] => d
  | d, (i, j) :: p => (d.cell i j).at_ p
def COk (M : Maps) (E : Env) (w : World) (v : Value) : PC → Prop
  | .d x => Rd w (fun k => M.own k = .froz) [v] [x]
  | .nil => v = .slice none 0 0
  | .row r p => ∀ T d, E.row r = some (T, d) → PathTo w (M.hdl r) d p v
  | .und => True
  | .ptr b off => v = .pointer (some ⟨M.blk b, off, none⟩)
  | .eptr x i j => ∃ a cap, Rd w (fun k => M.own k = .froz) [.slice (some a) x.size cap] [x] ∧ i < x.size ∧ j < x.z ∧ v = .pointer (some (a.add (i * x.z + j)))
  | .rptr r p i j => ∀ T d, E.row r = some (T, d) → ∃ g cap, PathTo w (M.hdl r) d p (.slice (some ⟨g, 0, none⟩) (d.at_ p).size cap) ∧ i < (d.at_ p).size ∧ j < (d.at_ p).z ∧ v = .pointer (some ⟨g, i * (d.at_ p).z + j, none⟩)
def AOk (M : Maps) (E : Env) (w : World) (v : Value) (cs : List PC) : Prop := ∃ arr : Array Value, v = .agg arr ∧ All2 (COk M E w) arr.toList cs
def TOk (M : Maps) (E : Env) (w : World) (v : Value) : Bool × List PC → Prop
  | (true, cs) => AOk M E w v cs
  | (false, [c]) => COk M E w v c
  | _ => False
def POk (M : Maps) (E : Env) (w : World) (v : Value) : PV → Prop
  | .one c => COk M E w v c
  | .agg cs => AOk M E w v cs
  | .tup vs => ∃ arr : Array Value, v = .tuple arr ∧ All2 (TOk M E w) arr.toList vs
def RowOk (w : World) (T : TypeId) (v : Value) (d : D) (fp : List Nat) : Prop :=
  d.isSl = true ∧ Own w [v] [d] fp ∧ ∀ a n c, v = .slice (some a) n c → ∃ cs fr, w.heap[a.block]? = some (.cells cs T fr)
structure Ctx where
  base : Nat
  w0 : World
  Z0 : Nat → Prop
  IX : Nat → Prop
  pin : List (Nat × Value)
  n : Nat
structure Frame_ (C : Ctx) (w : World) : Prop where
  os : w.os = C.w0.os
  tape : w.tape = C.w0.tape
  output : w.output = C.w0.output
  size : C.w0.heap.size ≤ w.heap.size
  block : ∀ k, k < C.base → ¬ C.IX k → w.heap[k]? = C.w0.heap[k]?
structure RelM (C : Ctx) (M : Maps) (E : Env) (a : Act) (w : World) : Prop where
  tn : a.tmps.size = C.n
  df : a.defers = []
  fr : Frame_ C w
  ba : C.base ≤ w.heap.size
  lt : ∀ k, M.own k ≠ .none → k < w.heap.size
  z0 : ∀ k, C.Z0 k → M.own k = .froz
  zb : ∀ k, M.own k = .froz → C.Z0 k ∨ C.base ≤ k
  wr : ∀ k, M.own k ≠ .none → M.own k ≠ .froz → C.IX k ∨ C.base ≤ k
  tm : ∀ t, POk M E w (a.tmps.getD t undef) (E.get t)
  rows : ∀ r T d, E.row r = some (T, d) → RowOk w T (M.hdl r) d (M.fp r) ∧ (M.fp r).Nodup ∧ ∀ k ∈ M.fp r, M.own k = .row r
  boxes : ∀ b T ps, E.box b = some (T, ps) → M.own (M.blk b) = .box b ∧ ∃ cs : Array Value, w.heap[M.blk b]? = some (.cells cs T (0, 0)) ∧ All2 (COk M E w) cs.toList ps
  pin : ∀ r v, (r, v) ∈ C.pin → ∀ T d, E.row r = some (T, d) → M.hdl r = v
  bpin : ∀ b v, (b, v) ∈ C.pin → C.n ≤ b → ∀ T ps, E.box b = some (T, ps) → v = .pointer (some ⟨M.blk b, 0, none⟩)
def Rel (C : Ctx) (E : Env) (a : Act) (w : World) : Prop := ∃ M, RelM C M E a w
def PC.ment (r : Nat) : PC → Bool
  | .row r' _ => r == r'
  | .rptr r' _ _ _ => r == r'
  | _ => false
def PC.kill (r : Nat) (c : PC) : PC := if c.ment r then .und else c
def PC.killDeep (r : Nat) : PC → PC
  | .row r' p => if r == r' && !p.isEmpty then .und else .row r' p
  | .rptr r' p i j => if r == r' && !p.isEmpty then .und else .rptr r' p i j
  | c => c
theorem lk_map {α β : Type} (f : α → β) (l : List (Nat × α)) (t : Nat) : lk (l.map fun x => (x.1, f x.2)) t = (lk l t).map f := by
  induction l with
  | nil => rfl
  | cons x l ih =>
    obtain ⟨k, v⟩ := x
    simp only [List.map_cons, lk]
    split <;> simp_all
theorem lk_mem {α : Type} {l : List (Nat × α)} {t : Nat} {v : α} (h : lk l t = some v) : (t, v) ∈ l := by
  induction l with
  | nil => simp [lk] at h
  | cons x l ih =>
    obtain ⟨k, u⟩ := x
    simp only [lk] at h
    split at h
    · rename_i e; subst e; injection h with h; subst h; simp
    · simp [ih h]
theorem Env.get_set (E : Env) (t u : Nat) (v : PV) : (E.set t v).get u = if t = u then v else E.get u := by
  simp only [Env.get, Env.set, lk]
  split <;> rfl
def D.putAt : D → List (Nat × Nat) → D → Option D
  | _, [], x => some x
  | d, (i, j) :: p, x => ((d.cell i j).putAt p x).bind fun y => d.put i j y
theorem own_sl {w : World} {g n cap : Nat} {d : D} {bs : List Nat} (h : Own w [.slice (some ⟨g, 0, none⟩) n cap] [d] bs) : d.isSl = true ∧ d.wf ∧ n = d.size ∧ d.size ≤ cap ∧ cap ≤ 9223372036854775807 ∧ ∃ cs t b, w.heap[g]? = some (.cells cs t (0, 0)) ∧ cs.size = cap * d.z ∧ Own w (cs.toList.take d.flat.length) d.flat b ∧ bs = g :: b := by
  cases h with
  | val hv _ => cases d <;> simp [D.val] at hv
  | sl h1 h2 h3 h4 h5 h6 h7 h8 =>
    cases h8
    exact ⟨h1, h6, rfl, h3, h4, _, _, _, h2, h5, h7, by simp⟩
theorem Own.lend {w : World} : ∀ (p : List (Nat × Nat)) (v : Value) (d : D) (u : Value) (bs : List Nat), Own w [v] [d] bs → PathTo w v d p u → ∃ b1 b b2, bs = b1 ++ b ++ b2 ∧ Own w [u] [d.at_ p] b ∧
    ∀ (w' : World) (e d' : D) (b' : List Nat), d.putAt p e = some d' → Own w' [u] [e] b' → (∀ k ∈ b1, w'.heap[k]? = w.heap[k]?) → (∀ k ∈ b2, w'.heap[k]? = w.heap[k]?) → Own w' [v] [d'] (b1 ++ b' ++ b2)
  | [], v, d, u, bs, h, hp => by
    simp only [PathTo] at hp
    subst hp
    exact ⟨[], bs, [], by simp, h, fun w' e d' b' he ho _ _ => by simp only [D.putAt, Option.some.injEq] at he; subst he; simpa using ho⟩
  | (i, j) :: p, v, d, u, bs, h, ⟨g, cap, cs, t, c, h1, h2, h3, h4, h5, h6⟩ => by
    subst h1
    obtain ⟨k1, k2, _, k3, k4, cs', t', b, k5, k6, k7, rfl⟩ := own_sl h
    rw [h2] at k5
    injection k5 with k5
    injection k5 with e1 e2
    subst e1 e2
    have hlt : i * d.z + j < d.flat.length := by
      rw [D.flat_length k2 k1]
      calc i * d.z + j < i * d.z + d.z := by omega
        _ = (i + 1) * d.z := by rw [Nat.succ_mul]
        _ ≤ d.size * d.z := Nat.mul_le_mul_right _ (by omega)
    obtain ⟨c', c1, b0, c2, hc', rfl, ho, hback⟩ := k7.lend1 (i * d.z + j) (d.cell i j) (D.flat_get k2 k1 h3 h4)
    obtain rfl : c' = c := by
      rw [List.getElem?_take, if_pos hlt] at hc'
      have : cs[i * d.z + j]? = some c' := by simpa using hc'
      rw [h5] at this
      injection this with this
      exact this.symm
    obtain ⟨a1, a, a2, rfl, hoa, hbk⟩ := Own.lend p c' (d.cell i j) u b0 ho h6
    refine ⟨g :: (c1 ++ a1), a, a2 ++ c2, by simp, hoa, fun w' e d' b' he ho' hk1 hk2 => ?_⟩
    simp only [D.putAt] at he
    obtain ⟨y, hy, hput⟩ := Option.bind_eq_some_iff.1 he
    obtain ⟨f1, f2, f3, f4, f5⟩ := D.put_flat hput k2 h3 h4
    have hb := hbk w' e y b' hy ho' (fun k hk => hk1 k (by simp [hk])) (fun k hk => hk2 k (by simp [hk]))
    have hc := hback w' c' y _ hb (fun k hk => hk1 k (by simp [hk])) (fun k hk => hk2 k (by simp [hk]))
    have hset : (cs.toList.take d.flat.length).set (i * d.z + j) c' = cs.toList.take d.flat.length := by
      apply List.ext_getElem? 
      intro q
      rw [List.getElem?_set]
      split
      · rename_i e; subst e; split
        · rw [hc']
        · rename_i hh; rw [List.getElem?_eq_none (by omega)]
      · rfl
    rw [hset, ← f1] at hc
    have hlen : d'.flat.length = d.flat.length := by rw [f1, List.length_set]
    have hg : w'.heap[g]? = some (.cells cs t (0, 0)) := (hk1 g (by simp)).trans h2
    have := Own.sl (w := w') (vs := []) (ds := []) (b2 := []) f5 hg (by rw [f2]; exact k3) k4 (by rw [f3]; exact k6) f4 (by rw [hlen]; exact hc) .nil
    rw [f2] at this
    simpa using this
theorem PathTo.keep {w w' : World} : ∀ (p : List (Nat × Nat)) (v : Value) (d : D) (u : Value) (bs : List Nat), Own w [v] [d] bs → PathTo w v d p u → (∀ k ∈ bs, w'.heap[k]? = w.heap[k]?) → PathTo w' v d p u
  | [], _, _, _, _, _, h, _ => h
  | (i, j) :: p, v, d, u, bs, ho, ⟨g, cap, cs, t, c, h1, h2, h3, h4, h5, h6⟩, hw => by
    subst h1
    obtain ⟨k1, k2, _, k3, k4, cs', t', b, k5, k6, k7, rfl⟩ := own_sl ho
    rw [h2] at k5
    injection k5 with k5
    injection k5 with e1 e2
    subst e1 e2
    obtain ⟨c', c1, b0, c2, hc', rfl, ho', hback⟩ := k7.lend1 (i * d.z + j) (d.cell i j) (D.flat_get k2 k1 h3 h4)
    have hlt : i * d.z + j < d.flat.length := by
      rw [D.flat_length k2 k1]
      calc i * d.z + j < i * d.z + d.z := by omega
        _ = (i + 1) * d.z := by rw [Nat.succ_mul]
        _ ≤ d.size * d.z := Nat.mul_le_mul_right _ (by omega)
    obtain rfl : c' = c := by
      rw [List.getElem?_take, if_pos hlt] at hc'
      have : cs[i * d.z + j]? = some c' := by simpa using hc'
      rw [h5] at this
      injection this with this
      exact this.symm
    exact ⟨g, cap, cs, t, c', rfl, (hw g (by simp)).trans h2, h3, h4, h5, PathTo.keep p c' _ u b0 ho' h6 fun k hk => hw k (by simp [hk])⟩
theorem COk.mono {C : Ctx} {M M' : Maps} {E E' : Env} {a : Act} {w w' : World} (R : RelM C M E a w) {v : Value} {c : PC} (h : COk M E w v c)
    (hZ : ∀ k, M.own k = .froz → M'.own k = .froz ∧ w'.heap[k]? = w.heap[k]?) (hb : ∀ b off, c = .ptr b off → M'.blk b = M.blk b)
    (hr : ∀ r, c.ment r = true → ∀ T d, E'.row r = some (T, d) → E.row r = some (T, d) ∧ M'.hdl r = M.hdl r ∧ ∀ k ∈ M.fp r, w'.heap[k]? = w.heap[k]?) : COk M' E' w' v c := by
  cases c with
  | d x => exact Rd.keep h (fun k hk => (hZ k hk).2) (fun k hk => (hZ k hk).1)
  | nil => exact h
  | row r p =>
    intro T d hT
    obtain ⟨h1, h2, h3⟩ := hr r (by simp [PC.ment]) T d hT
    rw [h2]
    exact PathTo.keep p _ d v _ (R.rows r T d h1).1.2.1 (h T d h1) h3
  | und => trivial
  | ptr b off => simp only [COk] at h ⊢; rw [hb b off rfl]; exact h
  | eptr x i j =>
    obtain ⟨ad, cap, h1, h2⟩ := h
    exact ⟨ad, cap, Rd.keep h1 (fun k hk => (hZ k hk).2) (fun k hk => (hZ k hk).1), h2⟩
  | rptr r p i j =>
    intro T d hT
    obtain ⟨h1, h2, h3⟩ := hr r (by simp [PC.ment]) T d hT
    obtain ⟨g, cap, h4, h5⟩ := h T d h1
    refine ⟨g, cap, ?_, h5⟩
    rw [h2]
    exact PathTo.keep p _ d _ _ (R.rows r T d h1).1.2.1 h4 h3
def PV.cells : PV → List PC
  | .one c => [c]
  | .agg cs => cs
  | .tup vs => vs.flatMap (·.2)
theorem POk.mono {M M' : Maps} {E E' : Env} {w w' : World} {v : Value} {p : PV} (h : POk M E w v p) (H : ∀ c ∈ p.cells, ∀ v, COk M E w v c → COk M' E' w' v c) : POk M' E' w' v p := by
  cases p with
  | one c => exact H c (by simp [PV.cells]) v h
  | agg cs =>
    obtain ⟨arr, h1, h2⟩ := h
    exact ⟨arr, h1, h2.imp fun a b hb hab => H b (by simpa [PV.cells] using hb) a hab⟩
  | tup vs =>
    obtain ⟨arr, h1, h2⟩ := h
    refine ⟨arr, h1, h2.imp fun a b hb hab => ?_⟩
    obtain ⟨f, cs⟩ := b
    have hc : ∀ c ∈ cs, c ∈ (PV.tup vs).cells := fun c hc => by
      simp only [PV.cells, List.mem_flatMap]
      exact ⟨(f, cs), hb, hc⟩
    match f, cs, hab with
    | true, cs, ⟨arr', k1, k2⟩ => exact ⟨arr', k1, k2.imp fun a b hb' hab' => H b (hc b hb') a hab'⟩
    | false, [c], hab => exact H c (hc c (by simp)) a hab
def PV.ofValue : Value → PV
  | .int k n => .one (.d (.int k n))
  | .bool b => .one (.d (.bool b))
  | .string s => .one (.d (.str s))
  | .slice none 0 0 => .one .nil
  | _ => .one .und
def Env.ev (E : Env) : Operand → PV
  | .tmp t => E.get t
  | .const v => PV.ofValue v
  | .func f => .one (.d (.fn f))
  | .global _ => .one .und
theorem ev_ok {C : Ctx} {M : Maps} {E : Env} {a : Act} {w : World} (R : RelM C M E a w) (x : Operand) : POk M E w (a.eval x) (E.ev x) := by
  cases x with
  | tmp t => exact R.tm t
  | const v =>
    simp only [Env.ev, Act.eval]
    unfold PV.ofValue
    split
    · exact Rd.val rfl .nil
    · exact Rd.val rfl .nil
    · exact Rd.val rfl .nil
    · exact rfl
    · trivial
  | func f => exact Rd.val rfl .nil
  | global g => trivial
theorem ev_d {C : Ctx} {M : Maps} {E : Env} {a : Act} {w : World} (R : RelM C M E a w) {x : Operand} {d : D} (h : E.ev x = .one (.d d)) : Rd w (fun k => M.own k = .froz) [a.eval x] [d] := by
  have := ev_ok R x
  rw [h] at this
  exact this
theorem rd_val {w : World} {Z : Nat → Prop} {v u : Value} {d : D} (h : Rd w Z [v] [d]) (hd : d.val = some u) : v = u := by
  cases h with
  | val hv _ => rw [hd] at hv; injection hv with hv; exact hv.symm
  | sl h1 _ _ _ _ _ _ _ => cases d <;> simp [D.isSl] at h1 <;> simp [D.val] at hd
theorem ev_val {C : Ctx} {M : Maps} {E : Env} {a : Act} {w : World} (R : RelM C M E a w) {x : Operand} {d : D} {u : Value} (h : E.ev x = .one (.d d)) (hd : d.val = some u) : a.eval x = u := rd_val (ev_d R h) hd
theorem ok_val (M : Maps) (E : Env) (w : World) {d : D} {u : Value} (hd : d.val = some u) : POk M E w u (.one (.d d)) := Rd.val hd .nil
def Step (P : Program) (C : Ctx) (o : Oper) (E E' : Env) : Prop :=
  ∀ a w, Rel C E a w → ∀ (K : Act → World → Prop) (Q : Exit → Act → World → Prop), (∀ a' w', Rel C E' a' w' → K a' w') → o.wp P a w K Q
theorem getD_set (a : Array Value) (t u : Nat) (v : Value) : (a.setIfInBounds t v).getD u undef = if t = u ∧ t < a.size then v else a.getD u undef := by
  simp only [Array.getD_eq_getD_getElem?, Array.getElem?_setIfInBounds]
  by_cases h : t = u
  · subst h
    by_cases h2 : t < a.size
    · simp [h2]
    · simp [h2, Array.getElem?_eq_none]
  · simp [h]
theorem RelM.put {C : Ctx} {M : Maps} {E : Env} {a : Act} {w : World} (R : RelM C M E a w) {t : Nat} {v : Value} {p : PV} (ht : t < C.n) (hp : POk M E w v p) : RelM C M (E.set t p) (a.put (some t) v) w := by
  have hE : ∀ c : PC, ∀ v, COk M E w v c → COk M (E.set t p) w v c := fun c v h => by cases c <;> exact h
  refine { R with tn := ?_, df := ?_, tm := ?_, boxes := ?_ }
  · simp [Act.put, R.tn]
  · exact R.df
  · intro u
    rw [Env.get_set]
    show POk M (E.set t p) w ((a.tmps.setIfInBounds t v).getD u undef) _
    rw [getD_set]
    by_cases h : t = u
    · subst h
      simp only [true_and, if_true]
      rw [if_pos (by rw [R.tn]; exact ht)]
      exact hp.mono fun c _ v h => hE c v h
    · rw [if_neg (fun h' => h h'.1), if_neg h]
      exact (R.tm u).mono fun c _ v h => hE c v h
  · intro b T ps hb
    obtain ⟨h1, cs, h2, h3⟩ := R.boxes b T ps hb
    exact ⟨h1, cs, h2, h3.imp fun v c _ h => hE c v h⟩
theorem Step.value {P : Program} {C : Ctx} {o : Oper} {E : Env} {t : Nat} {p : PV} (hd : o.dst = some t) (ht : t < C.n)
    (h : ∀ M a w, RelM C M E a w → ∃ v, (execOp a.eval o).run P w = .ok (.value v) w ∧ POk M E w v p) : Step P C o E (E.set t p) := by
  intro a w ⟨M, R⟩ K Q hK
  obtain ⟨v, hr, hp⟩ := h M a w R
  unfold Oper.wp
  rw [hr, Oper.upon_value, hd]
  exact hK _ _ ⟨M, R.put ht hp⟩
theorem Step.change {P : Program} {C : Ctx} {o : Oper} {E E1 : Env} {t : Nat} {p : PV} (hd : o.dst = some t) (ht : t < C.n)
    (h : ∀ M a w, RelM C M E a w → ∃ v w' M', (execOp a.eval o).run P w = .ok (.value v) w' ∧ RelM C M' E1 a w' ∧ POk M' E1 w' v p) : Step P C o E (E1.set t p) := by
  intro a w ⟨M, R⟩ K Q hK
  obtain ⟨v, w', M', hr, R', hp⟩ := h M a w R
  unfold Oper.wp
  rw [hr, Oper.upon_value, hd]
  exact hK _ _ ⟨M', R'.put ht hp⟩
theorem Step.skip {P : Program} {C : Ctx} {o : Oper} {E E1 : Env} (hd : o.dst = none)
    (h : ∀ M a w, RelM C M E a w → ∃ w' M', (execOp a.eval o).run P w = .ok .skip w' ∧ RelM C M' E1 a w') : Step P C o E E1 := by
  intro a w ⟨M, R⟩ K Q hK
  obtain ⟨w', M', hr, R'⟩ := h M a w R
  unfold Oper.wp
  rw [hr, Oper.upon_skip, hd]
  exact hK _ _ ⟨M', R'⟩
theorem Step.move {P : Program} {C : Ctx} {o : Oper} {E : Env} {t : Nat} {x : Operand} {p : PV} (ho : o.op = .move x) (hd : o.dst = some t) (ht : t < C.n) (hx : E.ev x = p) : Step P C o E (E.set t p) :=
  .value hd ht fun M a w R => ⟨a.eval x, by unfold execOp; rw [ho]; rfl, by rw [← hx]; exact ev_ok R x⟩
theorem Step.assign {P : Program} {C : Ctx} {o : Oper} {E : Env} {t : Nat} {x : Operand} {p : PV} (ho : o.op = .assign x) (hd : o.dst = some t) (ht : t < C.n) (hx : E.ev x = p) : Step P C o E (E.set t p) :=
  .value hd ht fun M a w R => ⟨a.eval x, by unfold execOp; rw [ho]; rfl, by rw [← hx]; exact ev_ok R x⟩
def Bin (op : BinOp) (x y r : D) : Prop := ∃ vx vy vr, x.val = some vx ∧ y.val = some vy ∧ r.val = some vr ∧ ∀ (P : Program) (w : World) (t : TypeId) (ox oy : Operand), ((do eqGuard op t ox oy vx vy; binOp op t vx vy : Sem Value)).run P w = .ok vr w
theorem Step.bin {P : Program} {C : Ctx} {o : Oper} {E : Env} {t : Nat} {op : BinOp} {tx ty : TypeId} {x y : Operand} {dx dy r : D} (ho : o.op = .binOp op tx x y ty) (hd : o.dst = some t) (ht : t < C.n)
    (hx : E.ev x = .one (.d dx)) (hy : E.ev y = .one (.d dy)) (hb : Bin op dx dy r) : Step P C o E (E.set t (.one (.d r))) := by
  obtain ⟨vx, vy, vr, h1, h2, h3, h4⟩ := hb
  refine .value hd ht fun M a w R => ⟨vr, ?_, ok_val M E w h3⟩
  unfold execOp
  rw [ho]
  simp only [Sem.run_bind, Sem.run_pure]
  rw [ev_val R hx h1, ev_val R hy h2]
  have := h4 P w tx x y
  simp only [Sem.run_bind] at this
  rw [this]
  rfl
section
variable {k : IntKind} {a b c : Int}
theorem Bin.add (h : k.wrap (a + b) = c) : Bin .add (.int k a) (.int k b) (.int k c) := ⟨_, _, _, rfl, rfl, rfl, fun P w t ox oy => by simp [eqGuard, binOp, Op.intArith, h]⟩
theorem Bin.sub (h : k.wrap (a - b) = c) : Bin .sub (.int k a) (.int k b) (.int k c) := ⟨_, _, _, rfl, rfl, rfl, fun P w t ox oy => by simp [eqGuard, binOp, Op.intArith, h]⟩
theorem Bin.mul (h : k.wrap (a * b) = c) : Bin .mul (.int k a) (.int k b) (.int k c) := ⟨_, _, _, rfl, rfl, rfl, fun P w t ox oy => by simp [eqGuard, binOp, Op.intArith, h]⟩
theorem Bin.quo (h0 : b ≠ 0) (h : k.wrap (a.tdiv b) = c) : Bin .quo (.int k a) (.int k b) (.int k c) := ⟨_, _, _, rfl, rfl, rfl, fun P w t ox oy => by simp [eqGuard, binOp, Op.intDiv, h0, h]⟩
theorem Bin.rem (h0 : b ≠ 0) (h : a.tmod b = c) : Bin .rem (.int k a) (.int k b) (.int k c) := ⟨_, _, _, rfl, rfl, rfl, fun P w t ox oy => by simp [eqGuard, binOp, Op.intDiv, h0, h]⟩
theorem Bin.and (h : k.wrap (BitVec.ofInt k.bits a &&& BitVec.ofInt k.bits b).toNat = c) : Bin .and (.int k a) (.int k b) (.int k c) := ⟨_, _, _, rfl, rfl, rfl, fun P w t ox oy => by simp [eqGuard, binOp, Op.intBits, ← h]⟩
theorem Bin.or (h : k.wrap (BitVec.ofInt k.bits a ||| BitVec.ofInt k.bits b).toNat = c) : Bin .or (.int k a) (.int k b) (.int k c) := ⟨_, _, _, rfl, rfl, rfl, fun P w t ox oy => by simp [eqGuard, binOp, Op.intBits, ← h]⟩
theorem Bin.xor (h : k.wrap (BitVec.ofInt k.bits a ^^^ BitVec.ofInt k.bits b).toNat = c) : Bin .xor (.int k a) (.int k b) (.int k c) := ⟨_, _, _, rfl, rfl, rfl, fun P w t ox oy => by simp [eqGuard, binOp, Op.intBits, ← h]⟩
theorem Bin.shl {k' : IntKind} (h0 : ¬ b < 0) (h : k.wrap (a * 2 ^ (min b.toNat k.bits)) = c) : Bin .shl (.int k a) (.int k' b) (.int k c) := ⟨_, _, _, rfl, rfl, rfl, fun P w t ox oy => by simp [eqGuard, binOp, Op.shift, h0, h]⟩
theorem Bin.shr {k' : IntKind} (h0 : ¬ b < 0) (h : a.fdiv (2 ^ (min b.toNat k.bits)) = c) : Bin .shr (.int k a) (.int k' b) (.int k c) := ⟨_, _, _, rfl, rfl, rfl, fun P w t ox oy => by simp [eqGuard, binOp, Op.shift, h0, h]⟩
theorem Bin.eql : Bin .eql (.int k a) (.int k b) (.bool (decide (a = b))) := ⟨_, _, _, rfl, rfl, rfl, fun P w t ox oy => by simp [eqGuard, binOp, Op.intCmp]; rfl⟩
theorem Bin.neq : Bin .neq (.int k a) (.int k b) (.bool (decide (a ≠ b))) := ⟨_, _, _, rfl, rfl, rfl, fun P w t ox oy => by simp [eqGuard, binOp, Op.intCmp, bne]; by_cases h : a = b <;> simp [h]⟩
theorem Bin.lss : Bin .lss (.int k a) (.int k b) (.bool (decide (a < b))) := ⟨_, _, _, rfl, rfl, rfl, fun P w t ox oy => by simp [eqGuard, binOp, Op.intCmp]⟩
theorem Bin.leq : Bin .leq (.int k a) (.int k b) (.bool (decide (a ≤ b))) := ⟨_, _, _, rfl, rfl, rfl, fun P w t ox oy => by simp [eqGuard, binOp, Op.intCmp]⟩
theorem Bin.gtr : Bin .gtr (.int k a) (.int k b) (.bool (decide (b < a))) := ⟨_, _, _, rfl, rfl, rfl, fun P w t ox oy => by simp [eqGuard, binOp, Op.intCmp]⟩
theorem Bin.geq : Bin .geq (.int k a) (.int k b) (.bool (decide (b ≤ a))) := ⟨_, _, _, rfl, rfl, rfl, fun P w t ox oy => by simp [eqGuard, binOp, Op.intCmp]⟩
theorem Bin.streq {s u : ByteArray} : Bin .eql (.str s) (.str u) (.bool (s.toList == u.toList)) := ⟨_, _, _, rfl, rfl, rfl, fun P w t ox oy => by simp [eqGuard, binOp, Op.stringOp]⟩
end
theorem Step.not {P : Program} {C : Ctx} {o : Oper} {E : Env} {t : Nat} {tx : TypeId} {x : Operand} {b : Bool} (ho : o.op = .unOp .not tx x) (hd : o.dst = some t) (ht : t < C.n)
    (hx : E.ev x = .one (.d (.bool b))) : Step P C o E (E.set t (.one (.d (.bool !b)))) :=
  .value hd ht fun M a w R => ⟨.bool !b, by unfold execOp; rw [ho]; simp only [ev_val R hx rfl, Op.unary]; rfl, ok_val M E w rfl⟩
theorem Step.pick {P : Program} {C : Ctx} {o : Oper} {E : Env} {t : Nat} {x y z : Operand} {b : Bool} {p : PV} (ho : o.op = .pick x y z) (hd : o.dst = some t) (ht : t < C.n)
    (hx : E.ev x = .one (.d (.bool b))) (hp : E.ev (bif b then y else z) = p) : Step P C o E (E.set t p) :=
  .value hd ht fun M a w R => ⟨a.eval (bif b then y else z), by
    unfold execOp
    rw [ho]
    simp only [ev_val R hx rfl, asBool]
    cases b <;> rfl, by rw [← hp]; exact ev_ok R _⟩
theorem Step.extract {P : Program} {C : Ctx} {o : Oper} {E : Env} {t i : Nat} {x : Operand} {vs : List (Bool × List PC)} {p : PV} (ho : o.op = .extract x i) (hd : o.dst = some t) (ht : t < C.n)
    (hx : E.ev x = .tup vs) (hp : (match vs[i]? with | some (true, cs) => some (PV.agg cs) | some (false, [c]) => some (.one c) | _ => none) = some p) : Step P C o E (E.set t p) :=
  .value hd ht fun M a w R => by
    have := ev_ok R x
    rw [hx] at this
    obtain ⟨arr, h1, h2⟩ := this
    cases hi : vs[i]? with
    | none => rw [hi] at hp; exact absurd hp (by simp)
    | some y =>
      rw [hi] at hp
      obtain ⟨v, hv, hok⟩ := h2.get i y hi
      refine ⟨v, ?_, ?_⟩
      · unfold execOp
        rw [ho]
        have hv' : arr[i]? = some v := by simpa using hv
        simp only [h1, Instr.extract, hv']
        rfl
      · match y, hp, hok with
        | (true, cs), hp, hok => simp only [Option.some.injEq] at hp; subst hp; exact hok
        | (false, [c]), hp, hok => simp only [Option.some.injEq] at hp; subst hp; exact hok
theorem Step.conv {P : Program} {C : Ctx} {o : Oper} {E : Env} {t : Nat} {ts td : TypeId} {x : Operand} {k k' : IntKind} {n c : Int} (ho : o.op = .convert ts td x) (hd : o.dst = some t) (ht : t < C.n)
    (hs : P.underlying ts = some (.int k)) (hdt : P.underlying td = some (.int k')) (hx : E.ev x = .one (.d (.int k n))) (h : k'.wrap n = c) : Step P C o E (E.set t (.one (.d (.int k' c)))) :=
  .value hd ht fun M a w R => ⟨.int k' c, by
    unfold execOp
    rw [ho]
    simp only [ev_val R hx rfl, convert, Sem.run_bind, run_underlying hs, run_underlying hdt, Result.andThen, Conv.intToInt, h]
    rfl, ok_val M E w rfl⟩
def isOne (P : Program) (T : TypeId) : Bool := match P.underlying T with
  | some (.struct _) | some (.array ..) => false
  | some _ => true
  | none => false
def isMany (P : Program) (T : TypeId) (n : Nat) : Bool := (match P.underlying T with
  | some (.struct _) | some (.array ..) => true
  | _ => false) && (P.info? T).map (·.size) == some n
def isSlice (P : Program) (T e : TypeId) (z : Nat) : Bool := (match P.underlying T with
  | some (.slice e') => e' == e
  | _ => false) && (P.info? e).map (·.size) == some z
def isField (P : Program) (T : TypeId) (f off n : Nat) (one : Bool) : Bool := match P.underlying T with
  | some (.struct fs) => match fs[f]? with
    | some fd => fd.offset == off && ((P.info? fd.type).map (·.size) == some n && (if one then isOne P fd.type else isMany P fd.type n))
    | none => false
  | _ => false
theorem isSlice_spec {P : Program} {T e : TypeId} {z : Nat} (h : isSlice P T e z = true) : P.underlying T = some (.slice e) ∧ (P.info? e).map (·.size) = some z := by
  unfold isSlice at h
  simp only [Bool.and_eq_true, beq_iff_eq] at h
  obtain ⟨h1, h2⟩ := h
  refine ⟨?_, h2⟩
  split at h1
  · rename_i e' he; simp at h1; subst h1; exact he
  · exact absurd h1 (by simp)
theorem run_size {P : Program} {e : TypeId} {z : Nat} (h : (P.info? e).map (·.size) = some z) (w : World) : (sizeOf e).run P w = .ok z w := by
  obtain ⟨i, hi, hz⟩ := Option.map_eq_some_iff.1 h
  simp [sizeOf, typeInfo, hi, hz]
def Env.cont (E : Env) : PC → Option D
  | .d x => if x.isSl then some x else none
  | .row r p => (E.row r).bind fun y => let d := y.2.at_ p; if d.isSl then some d else none
  | _ => none
theorem own_form {w : World} {v : Value} {d : D} {bs : List Nat} (h : Own w [v] [d] bs) (hs : d.isSl = true) : ∃ A cap, v = .slice A d.size cap ∧ d.size ≤ 9223372036854775807 := by
  cases h with
  | val hv _ => cases d <;> simp [D.isSl] at hs <;> simp [D.val] at hv
  | empty h1 h2 h3 _ => exact ⟨none, 0, by rw [h2], by omega⟩
  | sl h1 h2 h3 h4 h5 h6 h7 h8 => exact ⟨_, _, rfl, by omega⟩
theorem rd_form {w : World} {Z : Nat → Prop} {v : Value} {d : D} (h : Rd w Z [v] [d]) (hs : d.isSl = true) : ∃ A cap, v = .slice A d.size cap ∧ d.size ≤ 9223372036854775807 ∧ d.size ≤ cap := by
  cases h with
  | val hv _ => cases d <;> simp [D.isSl] at hs <;> simp [D.val] at hv
  | sl h1 h2 h3 _ _ _ _ _ => exact ⟨_, _, rfl, h2, h3⟩
theorem own_some {w : World} {v : Value} {d : D} {bs : List Nat} (h : Own w [v] [d] bs) (hs : d.isSl = true) (h0 : 0 < d.size) : ∃ g cap, v = .slice (some ⟨g, 0, none⟩) d.size cap := by
  cases h with
  | val hv _ => cases d <;> simp [D.isSl] at hs <;> simp [D.val] at hv
  | empty h1 h2 h3 _ => omega
  | sl h1 h2 h3 h4 h5 h6 h7 h8 => exact ⟨_, _, rfl⟩
theorem rd_some {w : World} {Z : Nat → Prop} {v : Value} {d : D} (h : Rd w Z [v] [d]) (hs : d.isSl = true) (h0 : 0 < d.size) : ∃ ad cap cs, v = .slice (some ad) d.size cap ∧ Z ad.block ∧ (∀ (j : Nat) c, cs[j]? = some c → w.cell? (ad.add j) = some c) ∧ Rd w Z cs d.flat ∧ d.wf := by
  cases h with
  | val hv _ => cases d <;> simp [D.isSl] at hs <;> simp [D.val] at hv
  | @sl A cap d cs vs ds h1 h2 h3 h4 h5 h6 h7 h8 =>
    obtain ⟨ad, rfl, hz⟩ := h5 (by omega)
    exact ⟨ad, cap, cs, rfl, hz, fun j c hc => by obtain ⟨ad', e1, e2⟩ := h6 j c hc; injection e1 with e1; subst e1; exact e2, h7, h4⟩
theorem row_at {C : Ctx} {M : Maps} {E : Env} {a : Act} {w : World} (R : RelM C M E a w) {r : Nat} {p : List (Nat × Nat)} {T : TypeId} {d : D} (hr : E.row r = some (T, d)) {v : Value} (h : PathTo w (M.hdl r) d p v) :
    ∃ b, Own w [v] [d.at_ p] b ∧ ∀ k ∈ b, M.own k = .row r := by
  obtain ⟨h1, _, h3⟩ := R.rows r T d hr
  obtain ⟨b1, b, b2, e, ho, _⟩ := Own.lend p _ _ _ _ h1.2.1 h
  exact ⟨b, ho, fun k hk => h3 k (by rw [e]; simp [hk])⟩
theorem cont_form {C : Ctx} {M : Maps} {E : Env} {a : Act} {w : World} (R : RelM C M E a w) {v : Value} {c : PC} {d : D} (hc : COk M E w v c) (hd : E.cont c = some d) : ∃ A cap, v = .slice A d.size cap ∧ d.size ≤ 9223372036854775807 := by
  cases c with
  | d x =>
    simp only [Env.cont] at hd
    split at hd
    · rename_i hs; injection hd with hd; subst hd; obtain ⟨A, cap, h1, h2, _⟩ := rd_form hc hs; exact ⟨A, cap, h1, h2⟩
    · exact absurd hd (by simp)
  | row r p =>
    simp only [Env.cont] at hd
    obtain ⟨⟨T, d'⟩, h1, h2⟩ := Option.bind_eq_some_iff.1 hd
    dsimp only at h2
    split at h2
    · rename_i hs
      injection h2 with h2
      subst h2
      obtain ⟨b, ho, _⟩ := row_at R h1 (hc T d' h1)
      exact own_form ho hs
    · exact absurd h2 (by simp)
  | _ => simp [Env.cont] at hd
theorem Step.len {P : Program} {C : Ctx} {o : Oper} {E : Env} {t : Nat} {T e : TypeId} {z : Nat} {x : Operand} {c : PC} {d : D} (ho : o.op = .call { callee := .builtin .len, args := #[x], argTypes := #[T] }) (hd : o.dst = some t) (ht : t < C.n)
    (hT : isSlice P T e z = true) (hx : E.ev x = .one c) (hc : E.cont c = some d) : Step P C o E (E.set t (.one (.d (.int .i64 d.size)))) :=
  .value hd ht fun M a w R => by
    have h := ev_ok R x
    rw [hx] at h
    obtain ⟨A, cap, h1, h2⟩ := cont_form R h hc
    refine ⟨.int .i64 d.size, ?_, ok_val M E w rfl⟩
    unfold execOp
    rw [ho]
    simp only [resolve, invoke, builtin, Sem.run_bind, Sem.run_pure, Result.andThen]
    simp [Builtin.len_, run_underlying (isSlice_spec hT).1, h1, goInt, Result.andThen]
theorem run_indexAt {P : Program} {T e : TypeId} {z : Nat} (hT : isSlice P T e z = true) (w : World) (A : Addr) (n cap : Nat) (k : IntKind) (i : Int) (h0 : 0 ≤ i) (h1 : i < n) :
    (Instr.indexAt T (.slice (some A) n cap) (.int k i)).run P w = .ok (.pointer (some (A.add (i.toNat * z)))) w := by
  obtain ⟨hu, hz⟩ := isSlice_spec hT
  have : (Instr.indexAt T (.slice (some A) n cap) (.int k i)).run P w = if 0 ≤ i ∧ i < n then ((sizeOf e).run P w).andThen fun s w => .ok (.pointer (some (A.add (i.toNat * s)))) w
      else (boundsPanic k i n .index).run P w := by
    have h := run_indexAt_slice (P := P) (w := w) T A n cap k i (by rw [hu]; simp [Program.elem, hu])
    rw [h]
    simp [Program.elem, hu]
  rw [this, if_pos ⟨h0, h1⟩, run_size hz]
  rfl
theorem Step.index {P : Program} {C : Ctx} {o : Oper} {E : Env} {t : Nat} {T e : TypeId} {z : Nat} {x y : Operand} {d : D} {k : IntKind} {i : Int} (ho : o.op = .indexAddr T x y) (hd : o.dst = some t) (ht : t < C.n)
    (hT : isSlice P T e z = true) (hx : E.ev x = .one (.d d)) (hs : d.isSl = true) (hz : d.z = z) (hz0 : 0 < z) (hy : E.ev y = .one (.d (.int k i))) (h0 : 0 ≤ i) (h1 : i < d.size) : Step P C o E (E.set t (.one (.eptr d i.toNat 0))) :=
  .value hd ht fun M a w R => by
    have h := ev_d R hx
    obtain ⟨ad, cap, cs, h2, _⟩ := rd_some h hs (by omega)
    rw [h2] at h
    refine ⟨_, ?_, ad, cap, h, by omega, by omega, rfl⟩
    unfold execOp
    rw [ho]
    simp only [h2, ev_val R hy rfl, Sem.run_bind, run_indexAt hT w ad d.size cap k i h0 h1, Result.andThen, Sem.run_pure, hz, Nat.add_zero]
theorem Step.index_row {P : Program} {C : Ctx} {o : Oper} {E : Env} {t : Nat} {T e T' : TypeId} {z : Nat} {x y : Operand} {r : Nat} {p : List (Nat × Nat)} {d : D} {k : IntKind} {i : Int} (ho : o.op = .indexAddr T x y) (hd : o.dst = some t) (ht : t < C.n)
    (hT : isSlice P T e z = true) (hx : E.ev x = .one (.row r p)) (hr : E.row r = some (T', d)) (hs : (d.at_ p).isSl = true) (hz : (d.at_ p).z = z) (hz0 : 0 < z) (hy : E.ev y = .one (.d (.int k i))) (h0 : 0 ≤ i) (h1 : i < (d.at_ p).size) :
    Step P C o E (E.set t (.one (.rptr r p i.toNat 0))) :=
  .value hd ht fun M a w R => by
    have h := ev_ok R x
    rw [hx] at h
    have hp := h T' d hr
    obtain ⟨b, hown, _⟩ := row_at R hr hp
    obtain ⟨g, cap, he⟩ := own_some hown hs (by omega)
    refine ⟨.pointer (some ⟨g, i.toNat * z, none⟩), ?_, fun T2 d2 h2 => ?_⟩
    · unfold execOp
      rw [ho]
      simp only [he, ev_val R hy rfl, Sem.run_bind, run_indexAt hT w ⟨g, 0, none⟩ _ cap k i h0 h1, Result.andThen, Sem.run_pure, add_plain']
    · rw [hr] at h2
      injection h2 with h2
      injection h2 with _ h2
      subst h2
      exact ⟨g, cap, by rw [← he]; exact hp, by omega, by omega, by rw [hz, Nat.add_zero]⟩
theorem isOne_spec {P : Program} {T : TypeId} (h : isOne P T = true) (w : World) : (isAgg T).run P w = .ok false w := by
  unfold isOne at h
  cases hu : P.underlying T with
  | none => rw [hu] at h; exact absurd h (by simp)
  | some d => rw [hu] at h; cases d <;> first | (simp [isAgg, underlying, hu]; done) | (simp at h; done)
theorem isMany_spec {P : Program} {T : TypeId} {n : Nat} (h : isMany P T n = true) (w : World) : (isAgg T).run P w = .ok true w ∧ (P.info? T).map (·.size) = some n := by
  unfold isMany at h
  simp only [Bool.and_eq_true, beq_iff_eq] at h
  obtain ⟨h1, h2⟩ := h
  refine ⟨?_, h2⟩
  cases hu : P.underlying T with
  | none => rw [hu] at h1; exact absurd h1 (by simp)
  | some d => rw [hu] at h1; cases d <;> first | (simp [isAgg, underlying, hu]; done) | (simp at h1; done)
theorem run_load1 {P : Program} {T : TypeId} (h : isOne P T = true) {w : World} {ad : Addr} {v : Value} (hc : w.cell? ad = some v) : (Instr.loadAt T (.pointer (some ad))).run P w = .ok v w := by
  simp [Instr.loadAt, Instr.sureAddr, loadVar, isOne_spec h, hc]
theorem run_loadN {P : Program} {T : TypeId} {n : Nat} (h : isMany P T n = true) {w : World} {ad : Addr} {cs : List Value} (hl : cs.length = n) (hc : ∀ (j : Nat) v, cs[j]? = some v → w.cell? (ad.add j) = some v) :
    (Instr.loadAt T (.pointer (some ad))).run P w = .ok (.agg cs.toArray) w := by
  obtain ⟨h1, h2⟩ := isMany_spec h w
  have := run_loadCells_list (P := P) (w := w) ad cs hc
  simp [Instr.loadAt, Instr.sureAddr, loadVar, h1, run_size h2, ← hl, this]
theorem add_add' (a : Addr) (x y : Nat) : (a.add x).add y = a.add (x + y) := by
  unfold Addr.add
  split
  · rename_i h; subst h; simp
  · rename_i h; split
    · rename_i h'; subst h'; simp [h]
    · rename_i h'; rw [if_neg (by omega)]; simp [Nat.add_assoc]
theorem Step.load {P : Program} {C : Ctx} {o : Oper} {E : Env} {t : Nat} {T : TypeId} {x : Operand} {d : D} {i j : Nat} {e : D} (ho : o.op = .load T x) (hd : o.dst = some t) (ht : t < C.n)
    (hT : isOne P T = true) (hx : E.ev x = .one (.eptr d i j)) (he : d.cell i j = e) : Step P C o E (E.set t (.one (.d e))) :=
  .value hd ht fun M a w R => by
    have h := ev_ok R x
    rw [hx] at h
    obtain ⟨ad, cap, h1, h2, h3, h4⟩ := h
    have hs : d.isSl = true := by cases d <;> simp [D.size] at h2 <;> rfl
    obtain ⟨ad', cap', cs, k1, k2, k3, k4, k5⟩ := rd_some h1 hs (by omega)
    injection k1 with e1 _ _
    injection e1 with e1
    subst e1
    obtain ⟨v, hv, hok⟩ := k4.get _ _ (D.flat_get k5 hs h2 h3)
    refine ⟨v, ?_, by rw [← he]; exact hok⟩
    unfold execOp
    rw [ho]
    simp only [h4, Sem.run_bind, run_load1 hT (k3 _ _ hv), Result.andThen, Sem.run_pure]
theorem PathTo.snoc {w : World} {i j : Nat} {g cap : Nat} {cs : Array Value} {t : TypeId} {c : Value} : ∀ (p : List (Nat × Nat)) (v : Value) (d : D), PathTo w v d p (.slice (some ⟨g, 0, none⟩) (d.at_ p).size cap) → w.heap[g]? = some (.cells cs t (0, 0)) → i < (d.at_ p).size → j < (d.at_ p).z →
    cs[i * (d.at_ p).z + j]? = some c → PathTo w v d (p ++ [(i, j)]) c
  | [], v, d, h, h1, h2, h3, h4 => ⟨g, cap, cs, t, c, h.symm, h1, h2, h3, h4, rfl⟩
  | (a, b) :: p, v, d, ⟨g', cap', cs', t', c', k1, k2, k3, k4, k5, k6⟩, h1, h2, h3, h4 => ⟨g', cap', cs', t', c', k1, k2, k3, k4, k5, PathTo.snoc p c' _ k6 h1 h2 h3 h4⟩
theorem row_cells {C : Ctx} {M : Maps} {E : Env} {a : Act} {w : World} (R : RelM C M E a w) {r : Nat} {p : List (Nat × Nat)} {T : TypeId} {d : D} (hr : E.row r = some (T, d)) {g cap : Nat} (h : PathTo w (M.hdl r) d p (.slice (some ⟨g, 0, none⟩) (d.at_ p).size cap)) :
    (d.at_ p).wf ∧ (d.at_ p).isSl = true ∧ M.own g = .row r ∧ ∃ cs t b, w.heap[g]? = some (.cells cs t (0, 0)) ∧ (d.at_ p).size * (d.at_ p).z ≤ cs.size ∧ Own w (cs.toList.take (d.at_ p).flat.length) (d.at_ p).flat b := by
  obtain ⟨b, ho, hb⟩ := row_at R hr h
  obtain ⟨k1, k2, _, k3, k4, cs, t, b', k5, k6, k7, rfl⟩ := own_sl ho
  exact ⟨k2, k1, hb g (by simp), cs, t, b', k5, by rw [k6]; exact Nat.mul_le_mul_right _ k3, k7⟩
def PC.ofRow (r : Nat) (p : List (Nat × Nat)) (i j : Nat) (e : D) : PC := if e.isSl then .row r (p ++ [(i, j)]) else .d e
theorem own_val {w : World} {Z : Nat → Prop} {v : Value} {d : D} {bs : List Nat} (h : Own w [v] [d] bs) (hs : d.isSl = false) : Rd w Z [v] [d] := by
  cases h with
  | val hv _ => exact .val hv .nil
  | empty h1 _ _ _ => rw [hs] at h1; exact absurd h1 (by simp)
  | sl h1 _ _ _ _ _ _ _ => rw [hs] at h1; exact absurd h1 (by simp)
theorem row_cell {C : Ctx} {M : Maps} {E : Env} {a : Act} {w : World} (R : RelM C M E a w) {r : Nat} {p : List (Nat × Nat)} {T : TypeId} {d : D} (hr : E.row r = some (T, d)) {g cap : Nat} (h : PathTo w (M.hdl r) d p (.slice (some ⟨g, 0, none⟩) (d.at_ p).size cap))
    {i j : Nat} (hi : i < (d.at_ p).size) (hj : j < (d.at_ p).z) : ∃ v, w.cell? ⟨g, i * (d.at_ p).z + j, none⟩ = some v ∧ COk M E w v (.ofRow r p i j ((d.at_ p).cell i j)) := by
  obtain ⟨h1, h2, h3, cs, t, b, h4, h5, h6⟩ := row_cells R hr h
  obtain ⟨v, c1, b0, c2, hv, _, ho, _⟩ := h6.lend1 _ _ (D.flat_get h1 h2 hi hj)
  have hv' : cs[i * (d.at_ p).z + j]? = some v := by
    rw [List.getElem?_take] at hv
    split at hv
    · simpa using hv
    · exact absurd hv (by simp)
  refine ⟨v, by simp [World.cell?, h4, hv'], ?_⟩
  unfold PC.ofRow
  split
  · intro T' d' hr'
    rw [hr] at hr'
    injection hr' with hr'
    injection hr' with _ hr'
    subst hr'
    exact PathTo.snoc p _ d h h4 hi hj hv'
  · rename_i hs
    exact own_val ho (by simpa using hs)
theorem Step.load_row {P : Program} {C : Ctx} {o : Oper} {E : Env} {t : Nat} {T T' : TypeId} {x : Operand} {d : D} {r : Nat} {p : List (Nat × Nat)} {i j : Nat} {c : PC} (ho : o.op = .load T x) (hd : o.dst = some t) (ht : t < C.n)
    (hT : isOne P T = true) (hx : E.ev x = .one (.rptr r p i j)) (hr : E.row r = some (T', d)) (he : PC.ofRow r p i j ((d.at_ p).cell i j) = c) : Step P C o E (E.set t (.one c)) :=
  .value hd ht fun M a w R => by
    have h := ev_ok R x
    rw [hx] at h
    obtain ⟨g, cap, h1, h2, h3, h4⟩ := h T' d hr
    obtain ⟨v, hv, hok⟩ := row_cell R hr h1 h2 h3
    refine ⟨v, ?_, by rw [← he]; exact hok⟩
    unfold execOp
    rw [ho]
    simp only [h4, Sem.run_bind, run_load1 hT hv, Result.andThen, Sem.run_pure]
theorem Frame_.then_ {C : Ctx} {w w' : World} (h : Frame_ C w) (hb : Below w.heap.size w w') (hB : C.base ≤ w.heap.size) : Frame_ C w' :=
  ⟨hb.os.trans h.os, hb.tape.trans h.tape, hb.output.trans h.output, Nat.le_trans h.size hb.size, fun k hk hi => (hb.block k (by omega)).trans (h.block k hk hi)⟩
theorem RelM.grow {C : Ctx} {M : Maps} {E : Env} {a : Act} {w w' : World} (R : RelM C M E a w) (hb : Below w.heap.size w w') : RelM C M E a w' := by
  have hk : ∀ k, M.own k ≠ .none → w'.heap[k]? = w.heap[k]? := fun k h => hb.block k (R.lt k h)
  have hc : ∀ c : PC, ∀ v, COk M E w v c → COk M E w' v c := fun c v h => h.mono R (fun k h => ⟨h, hk k (by rw [h]; simp)⟩) (fun _ _ _ => rfl)
    (fun r _ T d hT => ⟨hT, rfl, fun k hk' => hk k (by rw [(R.rows r T d hT).2.2 k hk']; simp)⟩)
  refine { R with fr := R.fr.then_ hb R.ba, ba := Nat.le_trans R.ba hb.size, lt := fun k h => Nat.lt_of_lt_of_le (R.lt k h) hb.size, tm := fun t => (R.tm t).mono fun c _ v h => hc c v h, rows := ?_, boxes := ?_ }
  · intro r T d hr
    obtain ⟨⟨h1, h2, h3⟩, h4, h5⟩ := R.rows r T d hr
    refine ⟨⟨h1, h2.keep fun k hk' => hk k (by rw [h5 k hk']; simp), fun ad n c hv => ?_⟩, h4, h5⟩
    obtain ⟨cs, fr, h6⟩ := h3 ad n c hv
    exact ⟨cs, fr, (hb.block _ (Array.getElem?_eq_some_iff.1 h6).1).trans h6⟩
  · intro b T ps h
    obtain ⟨h1, cs, h2, h3⟩ := R.boxes b T ps h
    exact ⟨h1, cs, (hk _ (by rw [h1]; simp)).trans h2, h3.imp fun v c _ h => hc c v h⟩
def PC.isBox (b : Nat) : PC → Bool
  | .ptr b' _ => b == b'
  | _ => false
def Env.nobox (E : Env) (b : Nat) : Bool := (E.tm.all fun x => x.2.cells.all fun c => !c.isBox b) && (E.boxes.all fun x => x.2.2.all fun c => !c.isBox b) && (lk E.boxes b).isNone
def Env.noref' (E : Env) (r : Nat) : Bool := (E.tm.all fun x => x.2.cells.all fun c => !c.ment r) && (E.boxes.all fun x => x.2.2.all fun c => !c.ment r) && (lk E.rows r).isNone
theorem Env.get_mem {E : Env} {t : Nat} {c : PC} (h : c ∈ (E.get t).cells) : c = .und ∨ ∃ x ∈ E.tm, c ∈ x.2.cells := by
  unfold Env.get at h
  cases hl : lk E.tm t with
  | none => rw [hl] at h; simp [PV.cells] at h; exact .inl h
  | some v => rw [hl] at h; exact .inr ⟨(t, v), lk_mem hl, h⟩
theorem RelM.addBox {C : Ctx} {M : Maps} {E : Env} {a : Act} {w : World} (R : RelM C M E a w) {b g : Nat} {T : TypeId} {ps : List PC} {cs : Array Value} (hf : E.nobox b = true) (hg : w.heap[g]? = some (.cells cs T (0, 0))) (ho : M.own g = .none) (hb : C.base ≤ g)
    (hps : All2 (COk M E w) cs.toList ps) (hnp : ps.all (fun c => !c.isBox b) = true) (hbn : ∀ x ∈ C.pin, C.n ≤ x.1 → x.1 ≠ b) :
    RelM C { M with blk := fun x => if x = b then g else M.blk x, own := fun k => if k = g then .box b else M.own k } { E with boxes := (b, (T, ps)) :: E.boxes } a w := by
  simp only [Env.nobox, Bool.and_eq_true, List.all_eq_true, Option.isNone_iff_eq_none] at hf
  obtain ⟨⟨f1, f2⟩, f3⟩ := hf
  generalize hM : ({ M with blk := fun x => if x = b then g else M.blk x, own := fun k => if k = g then .box b else M.own k } : Maps) = M'
  generalize hE : ({ E with boxes := (b, (T, ps)) :: E.boxes } : Env) = E'
  have hown : ∀ k, M.own k ≠ .none → M'.own k = M.own k := fun k h => by subst hM; simp only; rw [if_neg]; rintro rfl; exact h ho
  have hrow : ∀ r, E'.row r = E.row r := fun r => by subst hE; rfl
  have hget : ∀ t, E'.get t = E.get t := fun t => by subst hE; rfl
  have hhdl : M'.hdl = M.hdl := by subst hM; rfl
  have hfp : M'.fp = M.fp := by subst hM; rfl
  have hblk : ∀ x, x ≠ b → M'.blk x = M.blk x := fun x hx => by subst hM; simp [hx]
  have hc : ∀ c : PC, c.isBox b = false → ∀ v, COk M E w v c → COk M' E' w v c := fun c hcb v h => h.mono R (fun k hk => ⟨by rw [hown k (by rw [hk]; simp)]; exact hk, rfl⟩)
    (fun b' off e => by subst e; refine hblk _ ?_; rintro rfl; simp [PC.isBox] at hcb) (fun r _ T d hT => ⟨by rw [← hrow]; exact hT, by rw [hhdl], fun _ _ => rfl⟩)
  have hnew : ∀ k, M'.own k ≠ M.own k → k = g ∧ M'.own k = .box b := fun k h => by
    subst hM; simp only at h ⊢
    by_cases e : k = g
    · exact ⟨e, by rw [if_pos e]⟩
    · rw [if_neg e] at h; exact absurd rfl h
  have hcase : ∀ k, M'.own k = M.own k ∨ (k = g ∧ M'.own k = .box b) := fun k => by
    by_cases e : k = g
    · right; exact ⟨e, by subst hM; simp [e]⟩
    · left; subst hM; simp [e]
  refine { tn := R.tn, df := R.df, fr := R.fr, ba := R.ba, lt := ?_, z0 := ?_, zb := ?_, wr := ?_, tm := ?_, rows := ?_, boxes := ?_, pin := ?_, bpin := fun b' v hp hn T' ps' hb' => (by have hne : b' ≠ b := hbn (b', v) hp hn; rw [hblk b' hne]; refine R.bpin b' v hp hn T' ps' ?_; subst hE; simpa [Env.box, lk, hne.symm] using hb') }
  · intro k hk
    rcases hcase k with e | ⟨rfl, _⟩
    · exact R.lt k (by rw [← e]; exact hk)
    · exact (Array.getElem?_eq_some_iff.1 hg).1
  · intro k hk
    have := R.z0 k hk
    rw [hown k (by rw [this]; simp)]; exact this
  · intro k hk
    rcases hcase k with e | ⟨rfl, e⟩
    · exact R.zb k (by rw [← e]; exact hk)
    · rw [e] at hk; cases hk
  · intro k hk hk'
    rcases hcase k with e | ⟨rfl, _⟩
    · exact R.wr k (by rw [← e]; exact hk) (by rw [← e]; exact hk')
    · exact .inr hb
  · intro t
    rw [hget]
    refine (R.tm t).mono fun c hcm v h => hc c ?_ v h
    rcases Env.get_mem hcm with rfl | ⟨x, hx, hcx⟩
    · rfl
    · simpa using f1 x hx c hcx
  · intro r T d hr
    rw [hrow] at hr
    obtain ⟨h1, h2, h3⟩ := R.rows r T d hr
    rw [hhdl, hfp]
    exact ⟨h1, h2, fun k hk => by rw [hown k (by rw [h3 k hk]; simp)]; exact h3 k hk⟩
  · intro b' T' ps' hb'
    by_cases e : b' = b
    · subst e
      have : (T', ps') = (T, ps) := by
        subst hE; simp [Env.box, lk] at hb'; rw [← hb'.1, ← hb'.2]
      injection this with e1 e2
      subst e1 e2
      refine ⟨by subst hM; simp, cs, by subst hM; simpa using hg, hps.imp fun v c hcm h => hc c ?_ v h⟩
      rw [List.all_eq_true] at hnp
      simpa using hnp c hcm
    · have hb2 : E.box b' = some (T', ps') := by
        subst hE; simp only [Env.box, lk] at hb' ⊢; rw [if_neg (fun h => e h.symm)] at hb'; exact hb'
      obtain ⟨h1, cs', h2, h3⟩ := R.boxes b' T' ps' hb2
      rw [hblk b' e]
      exact ⟨by rw [hown _ (by rw [h1]; simp)]; exact h1, cs', h2, h3.imp fun v c hcm h => hc c (by simpa using f2 (b', T', ps') (lk_mem hb2) c hcm) v h⟩
  · intro r v hrv T d hr
    rw [hrow] at hr
    rw [hhdl]
    exact R.pin r v hrv T d hr
open Classical in
theorem RelM.addRow {C : Ctx} {M : Maps} {E : Env} {a : Act} {w : World} (R : RelM C M E a w) {r : Nat} {T : TypeId} {d : D} {v : Value} {fp : List Nat} (hf : E.noref' r = true) (hpin : ∀ x ∈ C.pin, x.1 ≠ r) (hrow : RowOk w T v d fp) (hnd : fp.Nodup)
    (hfree : ∀ k ∈ fp, (M.own k = .none ∧ (C.IX k ∨ C.base ≤ k)) ∨ ∃ s, M.own k = .row s ∧ E.row s = none) :
    RelM C { M with hdl := fun x => if x = r then v else M.hdl x, fp := fun x => if x = r then fp else M.fp x, own := fun k => if k ∈ fp then .row r else M.own k } { E with rows := (r, (T, d)) :: E.rows } a w := by
  simp only [Env.noref', Bool.and_eq_true, List.all_eq_true, Option.isNone_iff_eq_none] at hf
  obtain ⟨⟨f1, f2⟩, f3⟩ := hf
  generalize hM : ({ M with hdl := fun x => if x = r then v else M.hdl x, fp := fun x => if x = r then fp else M.fp x, own := fun k => if k ∈ fp then .row r else M.own k } : Maps) = M'
  generalize hE : ({ E with rows := (r, (T, d)) :: E.rows } : Env) = E'
  have hcase : ∀ k, (k ∉ fp ∧ M'.own k = M.own k) ∨ (k ∈ fp ∧ M'.own k = .row r) := fun k => by
    by_cases e : k ∈ fp
    · right; exact ⟨e, by subst hM; simp [e]⟩
    · left; exact ⟨e, by subst hM; simp [e]⟩
  have hkeep : ∀ k, M.own k ≠ .none → (∀ s, M.own k = .row s → (E.row s).isSome = true) → M'.own k = M.own k := fun k h0 h1 => by
    rcases hcase k with ⟨_, e⟩ | ⟨e, _⟩
    · exact e
    · rcases hfree k e with ⟨h, _⟩ | ⟨s, h, h'⟩
      · exact absurd h h0
      · have := h1 s h
        rw [h'] at this; exact absurd this (by simp)
  have hfroz : ∀ k, M.own k = .froz → M'.own k = .froz := fun k h => by rw [hkeep k (by rw [h]; simp) (fun s hs => by rw [h] at hs; cases hs)]; exact h
  have hr' : ∀ x, x ≠ r → E'.row x = E.row x := fun x hx => by subst hE; simp only [Env.row, lk]; rw [if_neg (fun h => hx h.symm)]
  have hget : ∀ t, E'.get t = E.get t := fun t => by subst hE; rfl
  have hbox : ∀ t, E'.box t = E.box t := fun t => by subst hE; rfl
  have hhdl : ∀ x, x ≠ r → M'.hdl x = M.hdl x := fun x hx => by subst hM; simp [hx]
  have hfp : ∀ x, x ≠ r → M'.fp x = M.fp x := fun x hx => by subst hM; simp [hx]
  have hblk : M'.blk = M.blk := by subst hM; rfl
  have hc : ∀ c : PC, c.ment r = false → ∀ v, COk M E w v c → COk M' E' w v c := fun c hcb v h => h.mono R (fun k hk => ⟨hfroz k hk, rfl⟩)
    (fun b' off e => by rw [hblk]) (fun x hx T d hT => by
      have hne : x ≠ r := by rintro rfl; rw [hcb] at hx; cases hx
      exact ⟨by rw [← hr' x hne]; exact hT, hhdl x hne, fun _ _ => rfl⟩)
  refine { tn := R.tn, df := R.df, fr := R.fr, ba := R.ba, lt := ?_, z0 := fun k hk => hfroz k (R.z0 k hk), zb := ?_, wr := ?_, tm := ?_, rows := ?_, boxes := ?_, pin := ?_, bpin := fun b v hp hn T ps hb => by rw [hblk]; rw [hbox] at hb; exact R.bpin b v hp hn T ps hb }
  · intro k hk
    rcases hcase k with ⟨_, e⟩ | ⟨e, _⟩
    · exact R.lt k (by rw [← e]; exact hk)
    · exact hrow.2.1.lt k e
  · intro k hk
    rcases hcase k with ⟨_, e⟩ | ⟨_, e⟩
    · exact R.zb k (by rw [← e]; exact hk)
    · rw [e] at hk; cases hk
  · intro k hk hk'
    rcases hcase k with ⟨_, e⟩ | ⟨e, _⟩
    · exact R.wr k (by rw [← e]; exact hk) (by rw [← e]; exact hk')
    · rcases hfree k e with ⟨_, h⟩ | ⟨s, h, _⟩
      · exact h
      · exact R.wr k (by rw [h]; simp) (by rw [h]; simp)
  · intro t
    rw [hget]
    refine (R.tm t).mono fun c hcm v h => hc c ?_ v h
    rcases Env.get_mem hcm with rfl | ⟨x, hx, hcx⟩
    · rfl
    · simpa using f1 x hx c hcx
  · intro x T' d' hx
    by_cases e : x = r
    · subst e
      have : (T', d') = (T, d) := by subst hE; simp [Env.row, lk] at hx; rw [← hx.1, ← hx.2]
      injection this with e1 e2
      subst e1 e2
      have e1 : M'.hdl x = v := by subst hM; simp
      have e2 : M'.fp x = fp := by subst hM; simp
      rw [e1, e2]
      exact ⟨hrow, hnd, fun k hk => by rcases hcase k with ⟨h, _⟩ | ⟨_, h⟩; exact absurd hk h; exact h⟩
    · rw [hr' x e] at hx
      obtain ⟨h1, h2, h3⟩ := R.rows x T' d' hx
      rw [hhdl x e, hfp x e]
      refine ⟨h1, h2, fun k hk => ?_⟩
      have ho := h3 k hk
      rw [hkeep k (by rw [ho]; simp) (fun s hs => by rw [ho] at hs; injection hs with hs; subst hs; rw [hx]; rfl)]
      exact ho
  · intro b' T' ps' hb'
    rw [hbox] at hb'
    obtain ⟨h1, cs', h2, h3⟩ := R.boxes b' T' ps' hb'
    rw [hblk]
    exact ⟨by rw [hkeep _ (by rw [h1]; simp) (fun s hs => by rw [h1] at hs; cases hs)]; exact h1, cs', h2, h3.imp fun v c hcm h => hc c (by simpa using f2 (b', T', ps') (lk_mem hb') c hcm) v h⟩
  · intro x v' hxv T' d' hx
    have e : x ≠ r := hpin (x, v') hxv
    rw [hr' x e] at hx
    rw [hhdl x e]
    exact R.pin x v' hxv T' d' hx
open Classical in
theorem RelM.addFroz {C : Ctx} {M : Maps} {E : Env} {a : Act} {w : World} (R : RelM C M E a w) (S : Nat → Prop) (ho : ∀ k, S k → M.own k = .none) (hb : ∀ k, S k → C.base ≤ k) (hl : ∀ k, S k → k < w.heap.size) :
    RelM C { M with own := fun k => if S k then .froz else M.own k } E a w := by
  generalize hM : ({ M with own := fun k => if S k then .froz else M.own k } : Maps) = M'
  have hcase : ∀ k, (¬ S k ∧ M'.own k = M.own k) ∨ (S k ∧ M'.own k = .froz) := fun k => by
    by_cases e : S k
    · right; exact ⟨e, by subst hM; simp [e]⟩
    · left; exact ⟨e, by subst hM; simp [e]⟩
  have hown : ∀ k, M.own k ≠ .none → M'.own k = M.own k := fun k h => by
    rcases hcase k with ⟨_, e⟩ | ⟨e, _⟩
    · exact e
    · exact absurd (ho k e) h
  have hhdl : M'.hdl = M.hdl := by subst hM; rfl
  have hfp : M'.fp = M.fp := by subst hM; rfl
  have hblk : M'.blk = M.blk := by subst hM; rfl
  have hc : ∀ c : PC, ∀ v, COk M E w v c → COk M' E w v c := fun c v h => h.mono R (fun k hk => ⟨by rw [hown k (by rw [hk]; simp)]; exact hk, rfl⟩)
    (fun b' off e => by rw [hblk]) (fun x hx T d hT => ⟨hT, by rw [hhdl], fun _ _ => rfl⟩)
  refine { tn := R.tn, df := R.df, fr := R.fr, ba := R.ba, lt := ?_, z0 := ?_, zb := ?_, wr := ?_, tm := fun t => (R.tm t).mono fun c _ v h => hc c v h, rows := ?_, boxes := ?_, pin := ?_, bpin := by subst hM; exact R.bpin }
  · intro k hk
    rcases hcase k with ⟨_, e⟩ | ⟨e, _⟩
    · exact R.lt k (by rw [← e]; exact hk)
    · exact hl k e
  · intro k hk
    have := R.z0 k hk
    rw [hown k (by rw [this]; simp)]; exact this
  · intro k hk
    rcases hcase k with ⟨_, e⟩ | ⟨e, _⟩
    · exact R.zb k (by rw [← e]; exact hk)
    · exact .inr (hb k e)
  · intro k hk hk'
    rcases hcase k with ⟨_, e⟩ | ⟨_, e⟩
    · exact R.wr k (by rw [← e]; exact hk) (by rw [← e]; exact hk')
    · exact absurd e hk'
  · intro x T' d' hx
    obtain ⟨h1, h2, h3⟩ := R.rows x T' d' hx
    rw [hhdl, hfp]
    exact ⟨h1, h2, fun k hk => by rw [hown k (by rw [h3 k hk]; simp)]; exact h3 k hk⟩
  · intro b' T' ps' hb'
    obtain ⟨h1, cs', h2, h3⟩ := R.boxes b' T' ps' hb'
    rw [hblk]
    exact ⟨by rw [hown _ (by rw [h1]; simp)]; exact h1, cs', h2, h3.imp fun v c hcm h => hc c v h⟩
  · intro x v' hxv T' d' hx
    rw [hhdl]
    exact R.pin x v' hxv T' d' hx
def PC.le (c' c : PC) : Prop := c' = .und ∨ c' = c
def PV.le : PV → PV → Prop
  | .one c', .one c => c'.le c
  | .agg cs', .agg cs => All2 PC.le cs' cs
  | .tup vs', .tup vs => All2 (fun x y => x.1 = y.1 ∧ All2 PC.le x.2 y.2) vs' vs
  | .one .und, _ => True
  | _, _ => False
theorem All2.refl {α : Type} {R : α → α → Prop} (h : ∀ a, R a a) : ∀ l : List α, All2 R l l
  | [] => .nil
  | a :: l => .cons (h a) (All2.refl h l)
theorem PC.le_refl (c : PC) : c.le c := .inr rfl
theorem PV.le_refl (p : PV) : p.le p := by
  cases p with
  | one c => exact .inr rfl
  | agg cs => exact All2.refl PC.le_refl cs
  | tup vs => exact All2.refl (fun x => ⟨rfl, All2.refl PC.le_refl x.2⟩) vs
theorem PV.und_le (p : PV) : (PV.one .und).le p := by
  cases p with
  | one c => exact .inl rfl
  | agg cs => trivial
  | tup vs => trivial
structure Env.le (E' E : Env) : Prop where
  tm : ∀ t, (E'.get t).le (E.get t)
  rows : ∀ r x, E'.row r = some x → E.row r = some x
  boxes : ∀ b T ps', E'.box b = some (T, ps') → ∃ ps, E.box b = some (T, ps) ∧ All2 PC.le ps' ps
theorem COk.less {M : Maps} {E E' : Env} {w : World} (hr : ∀ r x, E'.row r = some x → E.row r = some x) {v : Value} {c c' : PC} (hl : c'.le c) (h : COk M E w v c) : COk M E' w v c' := by
  rcases hl with rfl | rfl
  · trivial
  · cases c' with
    | row r p => exact fun T d hT => h T d (hr r _ hT)
    | rptr r p i j => exact fun T d hT => h T d (hr r _ hT)
    | _ => exact h
theorem All2.less {M : Maps} {E E' : Env} {w : World} (hr : ∀ r x, E'.row r = some x → E.row r = some x) {ps ps' : List PC} (hl : All2 PC.le ps' ps) : ∀ {vs : List Value}, All2 (COk M E w) vs ps → All2 (COk M E' w) vs ps' := by
  induction hl with
  | nil => intro vs h; cases h; exact .nil
  | cons h1 _ ih => intro vs h; cases h with | cons k1 k2 => exact .cons (k1.less hr h1) (ih k2)
theorem TOk.less {M : Maps} {E E' : Env} {w : World} (hr : ∀ r x, E'.row r = some x → E.row r = some x) {x y : Bool × List PC} (hl : x.1 = y.1 ∧ All2 PC.le x.2 y.2) {v : Value} (h : TOk M E w v y) : TOk M E' w v x := by
  obtain ⟨b, cs⟩ := x
  obtain ⟨b', cs'⟩ := y
  obtain ⟨rfl, hl⟩ := hl
  match b, cs', h with
  | true, cs', ⟨arr, e, h⟩ => exact ⟨arr, e, All2.less hr hl h⟩
  | false, [c], h =>
    cases hl with
    | cons h1 h2 => cases h2; exact COk.less hr h1 h
theorem POk.less {M : Maps} {E E' : Env} {w : World} (hr : ∀ r x, E'.row r = some x → E.row r = some x) {p' p : PV} (hl : p'.le p) {v : Value} (h : POk M E w v p) : POk M E' w v p' := by
  cases p with
  | one c =>
    cases p' with
    | one c' => exact COk.less hr hl h
    | agg cs => exact hl.elim
    | tup vs => exact hl.elim
  | agg cs =>
    cases p' with
    | one c' => cases c' <;> first | trivial | exact hl.elim
    | agg cs' => obtain ⟨arr, e, h⟩ := h; exact ⟨arr, e, All2.less hr hl h⟩
    | tup vs => exact hl.elim
  | tup vs =>
    cases p' with
    | one c' => cases c' <;> first | trivial | exact hl.elim
    | agg cs => exact hl.elim
    | tup vs' =>
      obtain ⟨arr, e, h⟩ := h
      refine ⟨arr, e, ?_⟩
      have hl' : All2 (fun (x y : Bool × List PC) => x.1 = y.1 ∧ All2 PC.le x.2 y.2) vs' vs := hl
      clear hl e
      generalize arr.toList = l at h
      induction hl' generalizing l with
      | nil => cases h; exact .nil
      | cons h1 _ ih => cases h with | cons k1 k2 => exact .cons (k1.less hr h1) (ih _ k2)
theorem RelM.weaken {C : Ctx} {M : Maps} {E E' : Env} {a : Act} {w : World} (R : RelM C M E a w) (h : E'.le E) : RelM C M E' a w := by
  refine { R with tm := fun t => (R.tm t).less h.rows (h.tm t), rows := fun r T d hr => R.rows r T d (h.rows r _ hr), boxes := ?_, pin := fun r v hp T d hr => R.pin r v hp T d (h.rows r _ hr), bpin := fun b v hp hn T ps hb => by obtain ⟨ps0, hb0, _⟩ := h.boxes b T ps hb; exact R.bpin b v hp hn T ps0 hb0 }
  intro b T ps hb
  obtain ⟨ps0, hb0, hle⟩ := h.boxes b T ps hb
  obtain ⟨h1, cs, h2, h3⟩ := R.boxes b T ps0 hb0
  exact ⟨h1, cs, h2, All2.less h.rows hle h3⟩
theorem Rel.weaken {C : Ctx} {E E' : Env} {a : Act} {w : World} (R : Rel C E a w) (h : E'.le E) : Rel C E' a w := let ⟨M, R⟩ := R; ⟨M, R.weaken h⟩
theorem All2.map_le {f : PC → PC} (hf : ∀ c, (f c).le c) : ∀ cs : List PC, All2 PC.le (cs.map f) cs
  | [] => .nil
  | c :: cs => .cons (hf c) (All2.map_le hf cs)
def PV.mapc (f : PC → PC) : PV → PV
  | .one c => .one (f c)
  | .agg cs => .agg (cs.map f)
  | .tup vs => .tup (vs.map fun y => (y.1, y.2.map f))
theorem PV.mapc_le {f : PC → PC} (hf : ∀ c, (f c).le c) (p : PV) : (p.mapc f).le p := by
  cases p with
  | one c => exact hf c
  | agg cs => exact All2.map_le hf cs
  | tup vs =>
    show All2 _ _ _
    induction vs with
    | nil => exact .nil
    | cons x vs ih => exact .cons ⟨rfl, All2.map_le hf x.2⟩ ih
def Env.mapc (E : Env) (f : PC → PC) : Env := { tm := E.tm.map fun x => (x.1, x.2.mapc f), rows := E.rows, boxes := E.boxes.map fun x => (x.1, (x.2.1, x.2.2.map f)) }
theorem Env.get_mapc (E : Env) (f : PC → PC) (hu : f .und = .und) (t : Nat) : (E.mapc f).get t = (E.get t).mapc f := by
  unfold Env.get Env.mapc
  simp only [lk_map]
  cases lk E.tm t with
  | none => simp [PV.mapc, hu]
  | some v => rfl
theorem Env.box_mapc (E : Env) (f : PC → PC) (b : Nat) : (E.mapc f).box b = (E.box b).map fun x => (x.1, x.2.map f) := by
  unfold Env.box Env.mapc
  exact lk_map (fun x : TypeId × List PC => (x.1, x.2.map f)) E.boxes b
theorem Env.mapc_le {f : PC → PC} (hf : ∀ c, (f c).le c) (E : Env) : (E.mapc f).le E := by
  have hu : f .und = .und := by rcases hf .und with h | h <;> exact h
  refine ⟨fun t => by rw [Env.get_mapc E f hu]; exact PV.mapc_le hf _, fun r x h => h, fun b T ps hb => ?_⟩
  rw [Env.box_mapc] at hb
  obtain ⟨⟨T', ps'⟩, h1, h2⟩ := Option.map_eq_some_iff.1 hb
  injection h2 with e1 e2
  subst e1 e2
  exact ⟨ps', h1, All2.map_le hf ps'⟩
theorem lk_filter {α : Type} (l : List (Nat × α)) (r t : Nat) : lk (l.filter fun x => x.1 != r) t = if t = r then none else lk l t := by
  induction l with
  | nil => simp [lk]
  | cons x l ih =>
    obtain ⟨k, v⟩ := x
    simp only [List.filter_cons]
    by_cases h : k = r
    · subst h
      simp only [bne_self_eq_false, Bool.false_eq_true, if_false, ih, lk]
      split
      · rfl
      · rename_i h; rw [if_neg (fun e => h e.symm)]
    · simp only [bne_iff_ne, ne_eq, h, not_false_eq_true, if_true, lk, ih]
      by_cases h2 : k = t
      · subst h2; rw [if_pos rfl, if_neg h, if_pos rfl]
      · rw [if_neg h2, if_neg h2]
def Env.drop (E : Env) (r : Nat) : Env := { E.mapc (PC.kill r) with rows := E.rows.filter fun x => x.1 != r }
theorem PC.kill_le (r : Nat) (c : PC) : (c.kill r).le c := by
  unfold PC.kill
  split
  · exact .inl rfl
  · exact .inr rfl
theorem Env.drop_le (E : Env) (r : Nat) : (E.drop r).le E := by
  have h := Env.mapc_le (PC.kill_le r) E
  refine ⟨h.tm, fun x y hx => ?_, h.boxes⟩
  have : lk (E.rows.filter fun x => x.1 != r) x = some y := hx
  rw [lk_filter] at this
  split at this
  · exact absurd this (by simp)
  · exact this
theorem Env.drop_row (E : Env) (r : Nat) : (E.drop r).row r = none := by
  show lk (E.rows.filter fun x => x.1 != r) r = none
  rw [lk_filter, if_pos rfl]
theorem Env.drop_row' (E : Env) {r x : Nat} (h : x ≠ r) : (E.drop r).row x = E.row x := by
  show lk (E.rows.filter fun x => x.1 != r) x = _
  rw [lk_filter, if_neg h]; rfl
open Classical in
theorem RelM.upd {C : Ctx} {M : Maps} {E : Env} {a : Act} {w w' : World} (R : RelM C M E a w) {f : PC → PC} {r : Nat} {T T' : TypeId} {d d' : D} {v' : Value} {fp' : List Nat} (hr : E.row r = some (T, d)) (hfr : Frame_ C w') (hsz : w.heap.size ≤ w'.heap.size)
    (hk : ∀ k, M.own k ≠ .none → (∀ s, M.own k = .row s → s ≠ r ∧ (E.row s).isSome = true) → w'.heap[k]? = w.heap[k]?) (hrow : RowOk w' T' v' d' fp') (hnd : fp'.Nodup)
    (hfree : ∀ k ∈ fp', (M.own k = .none ∧ C.base ≤ k) ∨ ∃ s, M.own k = .row s ∧ (s = r ∨ E.row s = none)) (hpin : ∀ x ∈ C.pin, x.1 = r → v' = x.2)
    (hf : ∀ c, f c = .und ∨ (f c = c ∧ (c.ment r = false ∨ (v' = M.hdl r ∧ d'.size = d.size ∧ d'.z = d.z ∧ (c = .row r [] ∨ ∃ i j, c = .rptr r [] i j))))) :
    RelM C { M with hdl := fun x => if x = r then v' else M.hdl x, fp := fun x => if x = r then fp' else M.fp x, own := fun k => if k ∈ fp' then .row r else M.own k } { E.mapc f with rows := (r, (T', d')) :: E.rows } a w' := by
  generalize hM : ({ M with hdl := fun x => if x = r then v' else M.hdl x, fp := fun x => if x = r then fp' else M.fp x, own := fun k => if k ∈ fp' then .row r else M.own k } : Maps) = M'
  generalize hE : ({ E.mapc f with rows := (r, (T', d')) :: E.rows } : Env) = E'
  have hcase : ∀ k, (k ∉ fp' ∧ M'.own k = M.own k) ∨ (k ∈ fp' ∧ M'.own k = .row r) := fun k => by
    by_cases e : k ∈ fp'
    · right; exact ⟨e, by subst hM; simp [e]⟩
    · left; exact ⟨e, by subst hM; simp [e]⟩
  have hkeep : ∀ k, M.own k ≠ .none → (∀ s, M.own k = .row s → s ≠ r ∧ (E.row s).isSome = true) → M'.own k = M.own k := fun k h0 h1 => by
    rcases hcase k with ⟨_, e⟩ | ⟨e, _⟩
    · exact e
    · rcases hfree k e with ⟨h, _⟩ | ⟨s, h, h'⟩
      · exact absurd h h0
      · obtain ⟨k1, k2⟩ := h1 s h
        rcases h' with h' | h'
        · exact absurd h' k1
        · rw [h'] at k2; exact absurd k2 (by simp)
  have hr' : ∀ x, x ≠ r → E'.row x = E.row x := fun x hx => by subst hE; simp only [Env.row, lk, Env.mapc]; rw [if_neg (fun h => hx h.symm)]
  have hrr : E'.row r = some (T', d') := by subst hE; simp [Env.row, lk]
  have hu : f .und = .und := by rcases hf .und with h | ⟨h, _⟩ <;> exact h
  have hget : ∀ t, E'.get t = (E.get t).mapc f := fun t => by subst hE; exact Env.get_mapc E f hu t
  have hbox : ∀ t, E'.box t = (E.box t).map fun x => (x.1, x.2.map f) := fun t => by subst hE; exact Env.box_mapc E f t
  have hhdl : ∀ x, x ≠ r → M'.hdl x = M.hdl x := fun x hx => by subst hM; simp [hx]
  have hhr : M'.hdl r = v' := by subst hM; simp
  have hfp : ∀ x, x ≠ r → M'.fp x = M.fp x := fun x hx => by subst hM; simp [hx]
  have hfpr : M'.fp r = fp' := by subst hM; simp
  have hblk : M'.blk = M.blk := by subst hM; rfl
  have hfroz : ∀ k, M.own k = .froz → M'.own k = .froz ∧ w'.heap[k]? = w.heap[k]? := fun k h =>
    ⟨by rw [hkeep k (by rw [h]; simp) (fun s hs => by rw [h] at hs; cases hs)]; exact h, hk k (by rw [h]; simp) (fun s hs => by rw [h] at hs; cases hs)⟩
  have hlive : ∀ s, s ≠ r → ∀ T d, E.row s = some (T, d) → ∀ k ∈ M.fp s, M'.own k = .row s ∧ w'.heap[k]? = w.heap[k]? := fun s hs T d hT k hkf => by
    have ho := (R.rows s T d hT).2.2 k hkf
    have hc : ∀ s', M.own k = .row s' → s' ≠ r ∧ (E.row s').isSome = true := fun s' e => by rw [ho] at e; injection e with e; subst e; exact ⟨hs, by rw [hT]; rfl⟩
    exact ⟨by rw [hkeep k (by rw [ho]; simp) hc]; exact ho, hk k (by rw [ho]; simp) hc⟩
  have hbx : ∀ b T ps, E.box b = some (T, ps) → M'.own (M.blk b) = .box b ∧ w'.heap[M.blk b]? = w.heap[M.blk b]? := fun b T ps hb => by
    have ho := (R.boxes b T ps hb).1
    have hc : ∀ s', M.own (M.blk b) = .row s' → s' ≠ r ∧ (E.row s').isSome = true := fun s' e => by rw [ho] at e; cases e
    exact ⟨by rw [hkeep _ (by rw [ho]; simp) hc]; exact ho, hk _ (by rw [ho]; simp) hc⟩
  have hc : ∀ c : PC, ∀ v, COk M E w v c → COk M' E' w' v (f c) := fun c v h => by
    rcases hf c with e | ⟨e, e2⟩
    · rw [e]; trivial
    · rw [e]
      rcases e2 with e2 | ⟨e3, e4, e5, e6⟩
      · exact h.mono R hfroz (fun _ _ _ => by rw [hblk]) (fun x hx T d hT => by
          have hne : x ≠ r := by rintro rfl; rw [e2] at hx; cases hx
          have hT' : E.row x = some (T, d) := by rw [← hr' x hne]; exact hT
          exact ⟨hT', hhdl x hne, fun k hk => (hlive x hne T d hT' k hk).2⟩)
      · rcases e6 with rfl | ⟨i, j, rfl⟩
        · intro T2 d2 _
          have := h T d hr
          simp only [PathTo] at this ⊢
          rw [hhr, e3]; exact this
        · intro T2 d2 h2
          rw [hrr] at h2
          injection h2 with h2
          injection h2 with _ h2
          subst h2
          obtain ⟨g, cap, k1, k2, k3, k4⟩ := h T d hr
          refine ⟨g, cap, ?_, by simp only [D.at_] at k2 ⊢; rw [e4]; exact k2, by simp only [D.at_] at k3 ⊢; rw [e5]; exact k3, by simp only [D.at_] at k4 ⊢; rw [e5]; exact k4⟩
          simp only [PathTo, D.at_] at k1 ⊢
          rw [hhr, e3, e4]; exact k1
  have hall : ∀ (vs : List Value) (ps : List PC), All2 (COk M E w) vs ps → All2 (COk M' E' w') vs (ps.map f) := fun vs ps h => by
    induction h with
    | nil => exact .nil
    | cons h1 _ ih => exact .cons (hc _ _ h1) ih
  refine { tn := R.tn, df := R.df, fr := hfr, ba := Nat.le_trans R.ba hsz, lt := ?_, z0 := fun k hk => (hfroz k (R.z0 k hk)).1, zb := ?_, wr := ?_, tm := ?_, rows := ?_, boxes := ?_, pin := ?_, bpin := fun b v hp hn T ps hb => (by rw [hbox] at hb; obtain ⟨⟨T2, ps2⟩, h1, h2⟩ := Option.map_eq_some_iff.1 hb; rw [hblk]; exact R.bpin b v hp hn T2 ps2 h1) }
  · intro k hk
    rcases hcase k with ⟨_, e⟩ | ⟨e, _⟩
    · exact Nat.lt_of_lt_of_le (R.lt k (by rw [← e]; exact hk)) hsz
    · exact hrow.2.1.lt k e
  · intro k hk
    rcases hcase k with ⟨_, e⟩ | ⟨_, e⟩
    · exact R.zb k (by rw [← e]; exact hk)
    · rw [e] at hk; cases hk
  · intro k hk hk'
    rcases hcase k with ⟨_, e⟩ | ⟨e, _⟩
    · exact R.wr k (by rw [← e]; exact hk) (by rw [← e]; exact hk')
    · rcases hfree k e with ⟨_, h⟩ | ⟨s, h, _⟩
      · exact .inr h
      · exact R.wr k (by rw [h]; simp) (by rw [h]; simp)
  · intro t
    rw [hget]
    have h := R.tm t
    generalize E.get t = p at h
    cases p with
    | one c => exact hc c _ h
    | agg cs => obtain ⟨arr, e, h⟩ := h; exact ⟨arr, e, hall _ _ h⟩
    | tup vs =>
      obtain ⟨arr, e, h⟩ := h
      refine ⟨arr, e, ?_⟩
      clear e
      generalize arr.toList = l at h
      show All2 _ l (vs.map _)
      induction h with
      | nil => exact .nil
      | @cons v y l vs h1 _ ih =>
        refine .cons ?_ ih
        obtain ⟨b, cs⟩ := y
        match b, cs, h1 with
        | true, cs, ⟨arr', e', h'⟩ => exact ⟨arr', e', hall _ _ h'⟩
        | false, [c], h' => exact hc c _ h'
  · intro x Tx dx hx
    by_cases e : x = r
    · subst e
      rw [hrr] at hx
      injection hx with hx
      injection hx with e1 e2
      subst e1 e2
      rw [hhr, hfpr]
      exact ⟨hrow, hnd, fun k hk => by rcases hcase k with ⟨h, _⟩ | ⟨_, h⟩; exact absurd hk h; exact h⟩
    · rw [hr' x e] at hx
      obtain ⟨⟨h1, h2, h3⟩, h4, h5⟩ := R.rows x Tx dx hx
      have hl := hlive x e Tx dx hx
      rw [hhdl x e, hfp x e]
      refine ⟨⟨h1, h2.keep fun k hk => (hl k hk).2, fun ad n c hv => ?_⟩, h4, fun k hk => (hl k hk).1⟩
      obtain ⟨cs, fr, h6⟩ := h3 ad n c hv
      have hmem : ad.block ∈ M.fp x := by
        rw [hv] at h2
        generalize M.fp x = q at h2
        cases h2 with
        | val hv' _ => cases dx <;> simp [D.val] at hv'
        | sl _ _ _ _ _ _ _ _ => simp
      exact ⟨cs, fr, ((hl _ hmem).2).trans h6⟩
  · intro b Tb ps' hb
    rw [hbox] at hb
    obtain ⟨⟨T2, ps⟩, h1, h2⟩ := Option.map_eq_some_iff.1 hb
    injection h2 with e1 e2
    subst e1 e2
    obtain ⟨k1, cs, k2, k3⟩ := R.boxes b _ ps h1
    obtain ⟨k4, k5⟩ := hbx b _ ps h1
    rw [hblk]
    exact ⟨k4, cs, k5.trans k2, hall _ _ k3⟩
  · intro x v hxv Tx dx hx
    by_cases e : x = r
    · subst e; rw [hhr]; exact hpin (x, v) hxv rfl
    · rw [hr' x e] at hx
      rw [hhdl x e]
      exact R.pin x v hxv Tx dx hx
def PV.flat : PV → Option (List PC)
  | .one c => some [c]
  | .agg cs => some cs
  | .tup _ => none
def Env.fine (E : Env) : PC → Bool
  | .und => false
  | .row r p => match E.row r with | some (_, d) => (d.at_ p).isSl | none => false
  | .rptr r _ _ _ => (E.row r).isSome
  | _ => true
theorem fine_one {C : Ctx} {M : Maps} {E : Env} {a : Act} {w : World} (R : RelM C M E a w) {v : Value} {c : PC} (h : COk M E w v c) (hf : E.fine c = true) : v.oneCell' = true ∧ v.cells = #[v] := by
  cases c with
  | d x =>
    cases h with
    | val hv _ => cases x <;> simp [D.val] at hv <;> subst hv <;> exact ⟨rfl, rfl⟩
    | sl _ _ _ _ _ _ _ _ => exact ⟨rfl, rfl⟩
  | nil => simp only [COk] at h; subst h; exact ⟨rfl, rfl⟩
  | row r p =>
    simp only [Env.fine] at hf
    split at hf
    · rename_i T d hr
      obtain ⟨b, ho, _⟩ := row_at R hr (h T d hr)
      obtain ⟨A, cap, e, _⟩ := own_form ho hf
      rw [e]; exact ⟨rfl, rfl⟩
    · exact absurd hf (by simp)
  | und => exact absurd hf (by simp [Env.fine])
  | ptr b off => simp only [COk] at h; subst h; exact ⟨rfl, rfl⟩
  | eptr x i j => obtain ⟨_, _, _, _, _, e⟩ := h; subst e; exact ⟨rfl, rfl⟩
  | rptr r p i j =>
    simp only [Env.fine] at hf
    obtain ⟨⟨T, d⟩, hr⟩ := Option.isSome_iff_exists.1 hf
    obtain ⟨_, _, _, _, _, e⟩ := h T d hr
    subst e; exact ⟨rfl, rfl⟩
theorem cells_ok {C : Ctx} {M : Maps} {E : Env} {a : Act} {w : World} (R : RelM C M E a w) {v : Value} {p : PV} {ps : List PC} (h : POk M E w v p) (hp : p.flat = some ps) (hf : ps.all E.fine = true) : All2 (COk M E w) v.cells.toList ps ∧ ∀ u ∈ v.cells.toList, u.oneCell' = true := by
  rw [List.all_eq_true] at hf
  have key : All2 (COk M E w) v.cells.toList ps := by
    cases p with
    | one c =>
      simp only [PV.flat, Option.some.injEq] at hp
      subst hp
      rw [(fine_one R h (hf c (by simp))).2]
      exact .cons h .nil
    | agg cs =>
      simp only [PV.flat, Option.some.injEq] at hp
      subst hp
      obtain ⟨arr, rfl, h2⟩ := h
      exact h2
    | tup vs => simp [PV.flat] at hp
  refine ⟨key, fun u hu => ?_⟩
  obtain ⟨j, hj⟩ := List.mem_iff_getElem?.1 hu
  have hlt : j < ps.length := by rw [← key.length]; exact (List.getElem?_eq_some_iff.1 hj).1
  obtain ⟨u', hu', hok⟩ := key.get j ps[j] (List.getElem?_eq_getElem hlt)
  rw [hj] at hu'
  injection hu' with hu'
  subst hu'
  exact (fine_one R hok (hf _ (List.getElem_mem hlt))).1
theorem heap_last (w : World) (o : Obj) : (w.alloc o).heap[w.heap.size]? = some o := by show (w.heap.push o)[w.heap.size]? = _; simp
theorem own_new {C : Ctx} {M : Maps} {E : Env} {a : Act} {w : World} (R : RelM C M E a w) {k : Nat} (hk : w.heap.size ≤ k) : M.own k = .none := by
  cases h : M.own k with
  | none => rfl
  | _ => have := R.lt k (by rw [h]; simp); omega
theorem RelM.newBox {C : Ctx} {M : Maps} {E : Env} {a : Act} {w : World} (R : RelM C M E a w) {b : Nat} {T : TypeId} {ps : List PC} {cs : Array Value} (hf : E.nobox b = true) (hps : All2 (COk M E w) cs.toList ps) (hnp : ps.all (fun c => !c.isBox b) = true) (hbn : ∀ x ∈ C.pin, C.n ≤ x.1 → x.1 ≠ b) :
    ∃ M', RelM C M' { E with boxes := (b, (T, ps)) :: E.boxes } a (w.alloc (.cells cs T)) ∧ M'.blk b = w.heap.size := by
  have hb : Below w.heap.size w (w.alloc (.cells cs T)) := (Below.refl _ w).alloc (Nat.le_refl _) _
  have R1 := R.grow hb
  have hk : ∀ k, M.own k ≠ .none → (w.alloc (.cells cs T)).heap[k]? = w.heap[k]? := fun k h => hb.block k (R.lt k h)
  refine ⟨_, R1.addBox hf (heap_last w _) (own_new R (Nat.le_refl _)) R.ba (hps.imp fun v c _ h => ?_) hnp hbn, by simp⟩
  exact h.mono R (fun k h => ⟨h, hk k (by rw [h]; simp)⟩) (fun _ _ _ => rfl) (fun r _ T d hT => ⟨hT, rfl, fun k hk' => hk k (by rw [(R.rows r T d hT).2.2 k hk']; simp)⟩)
theorem Step.box {P : Program} {C : Ctx} {o : Oper} {E : Env} {t : Nat} {T : TypeId} {x : Operand} {p : PV} {ps : List PC} (ho : o.op = .box T x) (hd : o.dst = some t) (ht : t < C.n)
    (hx : E.ev x = p) (hp : p.flat = some ps) (hf : ps.all E.fine = true) (hb : E.nobox t = true) (hnp : ps.all (fun c => !c.isBox t) = true) :
    Step P C o E ({ E with boxes := (t, (T, ps)) :: E.boxes }.set t (.one (.ptr t 0))) :=
  .change hd ht fun M a w R => by
    have h := ev_ok R x
    rw [hx] at h
    obtain ⟨M', R', hM⟩ := R.newBox (T := T) hb (cells_ok R h hp hf).1 hnp (fun x _ hx => by omega)
    refine ⟨_, _, M', ?_, R', rfl⟩
    unfold execOp
    rw [ho, hM]
    simp [Instr.box, newVar, newRow]
def zeroCells (P : Program) (T : TypeId) : Option (List Value) := ((P.info? T).bind (·.zero)).map (·.cells.toList)
def PC.ofValue (v : Value) : PC := match PV.ofValue v with | .one c => c | _ => .und
theorem zero_ok (M : Maps) (E : Env) (w : World) (v : Value) (h : PC.ofValue v ≠ .und) : COk M E w v (.ofValue v) := by
  unfold PC.ofValue PV.ofValue at h ⊢
  cases v with
  | bool b => exact Rd.val rfl .nil
  | int k n => exact Rd.val rfl .nil
  | string s => exact Rd.val rfl .nil
  | slice A n c =>
    cases A with
    | none =>
      cases n with
      | zero =>
        cases c with
        | zero => exact rfl
        | succ c => trivial
      | succ n => trivial
    | some A => trivial
  | _ => trivial
theorem Step.alloc {P : Program} {C : Ctx} {o : Oper} {E : Env} {t : Nat} {T : TypeId} {cs : List Value} {ps : List PC} (ho : o.op = .alloc T) (hd : o.dst = some t) (ht : t < C.n)
    (hz : zeroCells P T = some cs) (hps : cs.map PC.ofValue = ps) (hu : ps.all E.fine = true) (hb : E.nobox t = true) (hnp : ps.all (fun c => !c.isBox t) = true) :
    Step P C o E ({ E with boxes := (t, (T, ps)) :: E.boxes }.set t (.one (.ptr t 0))) :=
  .change hd ht fun M a w R => by
    obtain ⟨z, hz1, hz2⟩ := Option.map_eq_some_iff.1 hz
    obtain ⟨i, hi, hiz⟩ := Option.bind_eq_some_iff.1 hz1
    rw [List.all_eq_true] at hu
    have hall : All2 (COk M E w) z.cells.toList ps := by
      rw [hz2, ← hps]
      refine All2.of_get _ _ (by simp) fun j v c hv hc => ?_
      rw [List.getElem?_map, hv] at hc
      simp only [Option.map_some, Option.some.injEq] at hc
      subst hc
      refine zero_ok M E w v fun hund => ?_
      have := hu (PC.ofValue v) (by rw [← hps]; exact List.mem_map.2 ⟨v, List.mem_of_getElem? hv, rfl⟩)
      rw [hund] at this
      exact absurd this (by simp [Env.fine])
    obtain ⟨M', R', hM⟩ := R.newBox (T := T) hb hall hnp (fun x _ hx => by omega)
    refine ⟨_, _, M', ?_, R', rfl⟩
    unfold execOp
    rw [ho, hM]
    simp [Instr.alloc, zeroValue, typeInfo, hi, hiz, newVar, newRow]
theorem Step.load_box {P : Program} {C : Ctx} {o : Oper} {E : Env} {t : Nat} {T T' : TypeId} {x : Operand} {b off : Nat} {ps : List PC} {c : PC} (ho : o.op = .load T x) (hd : o.dst = some t) (ht : t < C.n)
    (hT : isOne P T = true) (hx : E.ev x = .one (.ptr b off)) (hb : E.box b = some (T', ps)) (hc : ps[off]? = some c) : Step P C o E (E.set t (.one c)) :=
  .value hd ht fun M a w R => by
    have h := ev_ok R x
    rw [hx] at h
    obtain ⟨h1, cs, h2, h3⟩ := R.boxes b T' ps hb
    obtain ⟨v, hv, hok⟩ := h3.get off c hc
    refine ⟨v, ?_, hok⟩
    unfold execOp
    rw [ho]
    have h' : a.eval x = .pointer (some ⟨M.blk b, off, none⟩) := h
    have hcell : w.cell? ⟨M.blk b, off, none⟩ = some v := by
      have : cs[off]? = some v := by simpa using hv
      simp [World.cell?, h2, this]
    simp only [h', Sem.run_bind, run_load1 hT hcell, Result.andThen, Sem.run_pure]
theorem Step.load_box_agg {P : Program} {C : Ctx} {o : Oper} {E : Env} {t : Nat} {T T' : TypeId} {x : Operand} {b off n : Nat} {ps qs : List PC} (ho : o.op = .load T x) (hd : o.dst = some t) (ht : t < C.n)
    (hT : isMany P T n = true) (hx : E.ev x = .one (.ptr b off)) (hb : E.box b = some (T', ps)) (hq : (ps.drop off).take n = qs) (hl : qs.length = n) : Step P C o E (E.set t (.agg qs)) :=
  .value hd ht fun M a w R => by
    have h := ev_ok R x
    rw [hx] at h
    obtain ⟨h1, cs, h2, h3⟩ := R.boxes b T' ps hb
    have h' : a.eval x = .pointer (some ⟨M.blk b, off, none⟩) := h
    have hlen : ((cs.toList.drop off).take n).length = n := by
      have := congrArg List.length hq
      rw [hl, List.length_take, List.length_drop] at this
      rw [List.length_take, List.length_drop, h3.length]; omega
    refine ⟨.agg ((cs.toList.drop off).take n).toArray, ?_, _, rfl, ?_⟩
    · unfold execOp
      rw [ho]
      have := run_loadN hT (w := w) (ad := ⟨M.blk b, off, none⟩) hlen (fun j v hv => by
        rw [List.getElem?_take] at hv
        split at hv
        · rw [List.getElem?_drop] at hv
          have : (⟨M.blk b, off, none⟩ : Addr).add j = ⟨M.blk b, off + j, none⟩ := by unfold Addr.add; split <;> simp_all
          rw [this]
          have hv' : cs[off + j]? = some v := by simpa using hv
          simp [World.cell?, h2, hv']
        · exact absurd hv (by simp))
      simp only [h', Sem.run_bind, this, Result.andThen, Sem.run_pure]
    · subst hq
      refine All2.of_get _ _ (by simp [h3.length]) fun j v c hv hc => ?_
      rw [List.getElem?_take] at hc
      simp only [List.getElem?_take] at hv
      split at hc
      · rename_i hj
        rw [if_pos hj] at hv
        rw [List.getElem?_drop] at hv hc
        obtain ⟨v', hv', hok⟩ := h3.get _ c hc
        rw [hv] at hv'
        injection hv' with hv'
        subst hv'
        exact hok
      · exact absurd hc (by simp)
theorem isField_spec {P : Program} {T f off n : Nat} {one : Bool} (h : isField P T f off n one = true) : ∃ fs fd, P.underlying T = some (.struct fs) ∧ fs[f]? = some fd ∧ fd.offset = off ∧ (P.info? fd.type).map (·.size) = some n ∧ (if one then isOne P fd.type = true else isMany P fd.type n = true) := by
  unfold isField at h
  split at h
  · rename_i fs hu
    split at h
    · rename_i fd hfd
      simp only [Bool.and_eq_true, beq_iff_eq] at h
      obtain ⟨h1, h2, h3⟩ := h
      exact ⟨fs, fd, hu, hfd, h1, h2, by cases one <;> simpa using h3⟩
    · exact absurd h (by simp)
  · exact absurd h (by simp)
theorem run_fieldAt {P : Program} {T f off n : Nat} {one : Bool} (h : isField P T f off n one = true) (hn : n ≠ 0) (w : World) (ad : Addr) : (Instr.fieldAt T (.pointer (some ad)) f).run P w = .ok (.pointer (some (ad.add off))) w := by
  obtain ⟨fs, fd, h1, h2, h3, h4, h5⟩ := isField_spec h
  simp [Instr.fieldAt, run_underlying h1, h2, Instr.sureAddr, fieldPlace, run_size h4, hn, h3, Result.andThen]
theorem Step.fieldAddr {P : Program} {C : Ctx} {o : Oper} {E : Env} {t : Nat} {T f off n b q : Nat} {one : Bool} {x : Operand} (ho : o.op = .fieldAddr T x f) (hd : o.dst = some t) (ht : t < C.n)
    (hf : isField P T f off n one = true) (hn : n ≠ 0) (hx : E.ev x = .one (.ptr b q)) : Step P C o E (E.set t (.one (.ptr b (q + off)))) :=
  .value hd ht fun M a w R => by
    have h := ev_ok R x
    rw [hx] at h
    have h' : a.eval x = .pointer (some ⟨M.blk b, q, none⟩) := h
    refine ⟨_, ?_, rfl⟩
    unfold execOp
    rw [ho]
    have e : (⟨M.blk b, q, none⟩ : Addr).add off = ⟨M.blk b, q + off, none⟩ := by unfold Addr.add; split <;> simp_all
    simp only [h', Sem.run_bind, run_fieldAt hf hn w, Result.andThen, Sem.run_pure, e]
theorem Step.nilCheck {P : Program} {C : Ctx} {o : Oper} {E : Env} {t : Nat} {x : Operand} {b off : Nat} (ho : o.op = .nilCheck x) (hd : o.dst = some t) (ht : t < C.n) (hx : E.ev x = .one (.ptr b off)) : Step P C o E (E.set t (.one (.ptr b off))) :=
  .value hd ht fun M a w R => by
    have h := ev_ok R x
    rw [hx] at h
    have h' : a.eval x = .pointer (some ⟨M.blk b, off, none⟩) := h
    exact ⟨_, by unfold execOp; rw [ho]; simp [h'], rfl⟩
theorem Own.lendN {w : World} {vs : List Value} {ds : List D} {bs : List Nat} (h : Own w vs ds bs) (k n : Nat) (hk : k + n ≤ ds.length) : ∃ b1 b b2, bs = b1 ++ b ++ b2 ∧ Own w ((vs.drop k).take n) ((ds.drop k).take n) b ∧
    ∀ (w' : World) (us : List Value) (es : List D) (b' : List Nat), Own w' us es b' → (∀ k ∈ b1, w'.heap[k]? = w.heap[k]?) → (∀ k ∈ b2, w'.heap[k]? = w.heap[k]?) →
      Own w' (vs.take k ++ us ++ vs.drop (k + n)) (ds.take k ++ es ++ ds.drop (k + n)) (b1 ++ b' ++ b2) := by
  have hl := h.length
  have e1 : vs = vs.take k ++ ((vs.drop k).take n ++ vs.drop (k + n)) := by
    rw [← List.drop_drop, List.take_append_drop, List.take_append_drop]
  have e2 : ds = ds.take k ++ ((ds.drop k).take n ++ ds.drop (k + n)) := by
    rw [← List.drop_drop, List.take_append_drop, List.take_append_drop]
  have h' := h
  rw [e1, e2] at h'
  obtain ⟨b1, c, rfl, h1, h2⟩ := Own.split (by rw [List.length_take, List.length_take, hl]) h'
  obtain ⟨b, b2, rfl, h3, h4⟩ := Own.split (by simp [hl]) h2
  refine ⟨b1, b, b2, by simp, h3, fun w' us es b' ho hk1 hk2 => ?_⟩
  have := (h1.keep hk1).append (ho.append (h4.keep hk2))
  simpa using this
def Putd (d : D) (i j : Nat) (es : List D) (d' : D) : Prop :=
  i * d.z + j + es.length ≤ d.flat.length ∧ d'.flat = d.flat.take (i * d.z + j) ++ es ++ d.flat.drop (i * d.z + j + es.length) ∧ d'.size = d.size ∧ d'.z = d.z ∧ d'.wf ∧ d'.isSl = true
theorem Putd.one {d d' x : D} {i j : Nat} (h : d.put i j x = some d') (hw : d.wf) (hs : d.isSl = true) (hi : i < d.size) (hj : j < d.z) : Putd d i j [x] d' := by
  obtain ⟨h1, h2, h3, h4, h5⟩ := D.put_flat h hw hi hj
  have hlt : i * d.z + j < d.flat.length := by
    rw [D.flat_length hw hs]
    calc i * d.z + j < i * d.z + d.z := by omega
      _ = (i + 1) * d.z := by rw [Nat.succ_mul]
      _ ≤ d.size * d.z := Nat.mul_le_mul_right _ (by omega)
  refine ⟨by simp; omega, ?_, h2, h3, h4, h5⟩
  rw [h1, List.set_eq_take_append_cons_drop, if_pos hlt]
  simp
theorem flatten_take {α : Type} (z : Nat) : ∀ (es : List (List α)), (∀ e ∈ es, e.length = z) → ∀ i, es.flatten.take (i * z) = (es.take i).flatten
  | [], _, i => by simp
  | e :: es, h, i => by
    have he := h e (by simp)
    cases i with
    | zero => simp
    | succ i =>
      rw [List.flatten_cons, List.take_append, he, List.take_of_length_le (by rw [he, Nat.succ_mul]; omega), List.take_succ_cons, List.flatten_cons]
      congr 1
      have : (i + 1) * z - z = i * z := by rw [Nat.succ_mul]; omega
      rw [this]
      exact flatten_take z es (fun x hx => h x (by simp [hx])) i
theorem flatten_drop {α : Type} (z : Nat) : ∀ (es : List (List α)), (∀ e ∈ es, e.length = z) → ∀ i, es.flatten.drop (i * z) = (es.drop i).flatten
  | [], _, i => by simp
  | e :: es, h, i => by
    have he := h e (by simp)
    cases i with
    | zero => simp
    | succ i =>
      rw [List.flatten_cons, List.drop_append, he, List.drop_of_length_le (by rw [he, Nat.succ_mul]; omega), List.drop_succ_cons, List.nil_append]
      have : (i + 1) * z - z = i * z := by rw [Nat.succ_mul]; omega
      rw [this]
      exact flatten_drop z es (fun x hx => h x (by simp [hx])) i
theorem nodup_repl {b1 c1 c c2 b2 bx : List Nat} {g : Nat} (h : (b1 ++ (g :: (c1 ++ c ++ c2)) ++ b2).Nodup) (hx : bx.Nodup) (hd : ∀ k ∈ bx, k ∉ b1 ++ (g :: (c1 ++ c ++ c2)) ++ b2) : (b1 ++ (g :: (c1 ++ (bx ++ c2) ++ [])) ++ b2).Nodup := by
  rw [List.nodup_iff_count] at h hx ⊢
  intro a
  have h1 := h a
  have h2 := hx a
  simp only [List.count_append, List.count_cons, List.count_nil] at h1 ⊢
  by_cases ha : a ∈ bx
  · have h3 := List.count_eq_zero.2 (hd a ha)
    simp only [List.count_append, List.count_cons] at h3
    omega
  · have h3 := List.count_eq_zero.2 ha
    omega
theorem store_own {w : World} {q : List (Nat × Nat)} {v0 : Value} {d d1 d' : D} {fp : List Nat} {g cap i j : Nat} {vs : List Value} {es : List D} {bx : List Nat} (ho : Own w [v0] [d] fp) (hnd : fp.Nodup) (hp : PathTo w v0 d q (.slice (some ⟨g, 0, none⟩) (d.at_ q).size cap))
    (hx : Own w vs es bx) (hbx : bx.Nodup) (hdis : ∀ k ∈ bx, k ∉ fp) (hput : Putd (d.at_ q) i j es d1) (hat : d.putAt q d1 = some d') :
    ∃ cs t fp', w.heap[g]? = some (.cells cs t (0, 0)) ∧ i * (d.at_ q).z + j + vs.length ≤ cs.size ∧ g ∈ fp ∧
      Own (w.setRow g (cs.toList.take (i * (d.at_ q).z + j) ++ vs ++ cs.toList.drop (i * (d.at_ q).z + j + vs.length)).toArray) [v0] [d'] fp' ∧ fp'.Nodup ∧ ∀ k ∈ fp', k ∈ fp ∨ k ∈ bx := by
  obtain ⟨b1, b, b2, rfl, hb, hback⟩ := Own.lend q _ _ _ _ ho hp
  obtain ⟨k1, k2, _, k3, k4, cs, t, bb, k5, k6, k7, rfl⟩ := own_sl hb
  obtain ⟨p1, p2, p3, p4, p5, p6⟩ := hput
  have hvl : vs.length = es.length := hx.length
  obtain ⟨c1, c, c2, rfl, _, hb2⟩ := k7.lendN (i * (d.at_ q).z + j) es.length p1
  have hflen := D.flat_length k2 k1
  have hfit : (d.at_ q).flat.length ≤ cs.size := by rw [hflen, k6]; exact Nat.mul_le_mul_right _ k3
  generalize hw' : w.setRow g (cs.toList.take (i * (d.at_ q).z + j) ++ vs ++ cs.toList.drop (i * (d.at_ q).z + j + vs.length)).toArray = w'
  have hother : ∀ k, k ≠ g → w'.heap[k]? = w.heap[k]? := fun k hk => by rw [← hw']; exact setRow_other w g k _ hk
  have hsame : w'.heap[g]? = some (.cells (cs.toList.take (i * (d.at_ q).z + j) ++ vs ++ cs.toList.drop (i * (d.at_ q).z + j + vs.length)).toArray t (0, 0)) := by rw [← hw']; exact setRow_heap w g cs _ t (0, 0) k5
  have hgb1 : g ∉ b1 := fun h => by
    have := (List.nodup_append.1 (List.nodup_append.1 hnd).1).2.2 g h g (by simp)
    exact this rfl
  have hgb2 : g ∉ b2 := fun h => by
    have := (List.nodup_append.1 hnd).2.2 g (by simp) g h
    exact this rfl
  have hin : (g :: (c1 ++ c ++ c2)).Nodup := (List.nodup_append.1 (List.nodup_append.1 hnd).1).2.1
  have hgc1 : g ∉ c1 := fun h => (List.nodup_cons.1 hin).1 (by simp [h])
  have hgc2 : g ∉ c2 := fun h => (List.nodup_cons.1 hin).1 (by simp [h])
  have hgx : g ∉ bx := fun h => hdis g h (by simp)
  have ho2 := hb2 w' vs es bx (hx.keep fun k hk => hother k fun e => hgx (e ▸ hk)) (fun k hk => hother k fun e => hgc1 (e ▸ hk)) (fun k hk => hother k fun e => hgc2 (e ▸ hk))
  have hlen' : d1.flat.length = (d.at_ q).flat.length := by
    rw [D.flat_length p5 p6, p3, p4, hflen]
  have hcl : cs.toList.length = cs.size := by simp
  have hvals : (cs.toList.take (d.at_ q).flat.length).take (i * (d.at_ q).z + j) ++ vs ++ (cs.toList.take (d.at_ q).flat.length).drop (i * (d.at_ q).z + j + es.length) =
      (cs.toList.take (i * (d.at_ q).z + j) ++ vs ++ cs.toList.drop (i * (d.at_ q).z + j + vs.length)).take (d.at_ q).flat.length := by
    generalize cs.toList = L at hcl ⊢
    generalize (d.at_ q).flat.length = F at p1 hfit ⊢
    generalize i * (d.at_ q).z + j = K at p1 ⊢
    rw [List.take_append, List.take_append, List.take_take, Nat.min_eq_left (by omega), hvl]
    rw [List.take_of_length_le (show (L.take K).length ≤ F by rw [List.length_take]; omega), List.length_take, Nat.min_eq_left (by omega)]
    rw [List.take_of_length_le (show vs.length ≤ F - K by omega)]
    congr 1
    rw [List.length_append, List.length_take, Nat.min_eq_left (by omega), List.drop_take, hvl]
  rw [hvals, ← p2, ← hlen'] at ho2
  have hb' := Own.sl (vs := []) (ds := []) (b2 := []) (cap := cap) p6 hsame (by rw [p3]; exact k3) k4 (by
    rw [p4, ← k6]
    simp only [List.size_toArray, List.length_append, List.length_take, List.length_drop, hcl]
    omega) p5 (by simpa using ho2) .nil
  rw [p3] at hb'
  have hfin := hback w' d1 d' _ hat hb' (fun k hk => hother k fun e => hgb1 (e ▸ hk)) (fun k hk => hother k fun e => hgb2 (e ▸ hk))
  refine ⟨cs, t, b1 ++ (g :: (c1 ++ (bx ++ c2) ++ [])) ++ b2, k5, by omega, by simp, by rw [hw']; simpa using hfin, ?_, fun k hk => ?_⟩
  · exact nodup_repl hnd hbx hdis
  · simp only [List.append_assoc, List.cons_append, List.append_nil, List.mem_append, List.mem_cons, List.not_mem_nil, or_false] at hk ⊢
    rcases hk with h | h | h | h | h | h <;> simp [h]
theorem D.put_sl {d x d' : D} {i j : Nat} (h : d.put i j x = some d') : d'.isSl = true ∧ d'.size = d.size ∧ d'.z = d.z := by
  cases d with
  | ints k xs =>
    cases j with
    | zero =>
      cases x with
      | int k' n =>
        simp only [D.put] at h
        split at h
        · injection h with h; subst h; exact ⟨rfl, by simp [D.size], rfl⟩
        · exact absurd h (by simp)
      | _ => simp [D.put] at h
    | succ j => simp [D.put] at h
  | bss xs =>
    cases j with
    | zero =>
      cases x with
      | ints k' n => cases k' <;> simp [D.put] at h <;> subst h <;> exact ⟨rfl, by simp [D.size], rfl⟩
      | _ => simp [D.put] at h
    | succ j => simp [D.put] at h
  | sl z es => simp only [D.put] at h; injection h with h; subst h; exact ⟨rfl, by simp [D.size], rfl⟩
  | _ => simp [D.put] at h
theorem D.putAt_sl {d1 d' : D} {q : List (Nat × Nat)} {d : D} (h : d.putAt q d1 = some d') (h1 : d1.isSl = true ∧ d1.size = (d.at_ q).size ∧ d1.z = (d.at_ q).z) : d'.isSl = true ∧ d'.size = d.size ∧ d'.z = d.z := by
  cases q with
  | nil => simp only [D.putAt, Option.some.injEq] at h; subst h; exact h1
  | cons x q =>
    obtain ⟨i, j⟩ := x
    simp only [D.putAt] at h
    obtain ⟨y, _, hy⟩ := Option.bind_eq_some_iff.1 h
    exact D.put_sl hy
inductive Moved (E : Env) : List PC → List D → List Nat → Prop
  | nil : Moved E [] [] []
  | val {x : D} {ps : List PC} {es : List D} {ss : List Nat} : x.val.isSome = true → Moved E ps es ss → Moved E (.d x :: ps) (x :: es) ss
  | empty {x : D} {ps : List PC} {es : List D} {ss : List Nat} : x.isSl = true → x.size = 0 → x.wf → Moved E ps es ss → Moved E (.nil :: ps) (x :: es) ss
  | row {s : Nat} {T : TypeId} {d : D} {ps : List PC} {es : List D} {ss : List Nat} : E.row s = some (T, d) → s ∉ ss → Moved E ps es ss → Moved E (.row s [] :: ps) (d :: es) (s :: ss)
def Env.drops (E : Env) : List Nat → Env
  | [] => E
  | s :: ss => (E.drop s).drops ss
theorem Env.le_refl (E : Env) : E.le E := ⟨fun t => PV.le_refl _, fun r x h => h, fun b T ps h => ⟨ps, h, All2.refl PC.le_refl ps⟩⟩
theorem PC.le_trans {a b c : PC} (h : a.le b) (h' : b.le c) : a.le c := by
  rcases h with rfl | rfl
  · exact .inl rfl
  · exact h'
theorem All2.trans {α : Type} {R : α → α → Prop} (ht : ∀ a b c, R a b → R b c → R a c) {l1 l2 : List α} (h : All2 R l1 l2) : ∀ {l3 : List α}, All2 R l2 l3 → All2 R l1 l3 := by
  induction h with
  | nil => intro l3 h; cases h; exact .nil
  | cons h1 _ ih => intro l3 h; cases h with | cons k1 k2 => exact .cons (ht _ _ _ h1 k1) (ih k2)
theorem All2.le_trans {a b c : List PC} (h : All2 PC.le a b) (h' : All2 PC.le b c) : All2 PC.le a c := All2.trans (R := PC.le) (fun _ _ _ x y => PC.le_trans x y) h h'
theorem PV.le_trans {a b c : PV} (h : a.le b) (h' : b.le c) : a.le c := by
  by_cases hu : a = .one .und
  · subst hu; exact PV.und_le c
  · cases b with
    | one b =>
      cases a with
      | one a =>
        cases c with
        | one c => exact PC.le_trans h h'
        | agg cs => cases b <;> first | (rcases h with rfl | rfl; exact absurd rfl hu; exact absurd rfl hu) | exact h'.elim
        | tup vs => cases b <;> first | (rcases h with rfl | rfl; exact absurd rfl hu; exact absurd rfl hu) | exact h'.elim
      | agg as => exact h.elim
      | tup as => exact h.elim
    | agg bs =>
      cases a with
      | one a => cases a <;> first | exact absurd rfl hu | exact h.elim
      | agg as =>
        cases c with
        | one c => exact h'.elim
        | agg cs => exact All2.le_trans h h'
        | tup vs => exact h'.elim
      | tup as => exact h.elim
    | tup bs =>
      cases a with
      | one a => cases a <;> first | exact absurd rfl hu | exact h.elim
      | agg as => exact h.elim
      | tup as =>
        cases c with
        | one c => exact h'.elim
        | agg cs => exact h'.elim
        | tup vs => exact All2.trans (R := fun (x y : Bool × List PC) => x.1 = y.1 ∧ All2 PC.le x.2 y.2) (fun _ _ _ h1 h2 => ⟨h1.1.trans h2.1, All2.le_trans h1.2 h2.2⟩) h h'
theorem Env.le_trans {A B E : Env} (h : A.le B) (h' : B.le E) : A.le E :=
  ⟨fun t => PV.le_trans (h.tm t) (h'.tm t), fun r x hx => h'.rows r x (h.rows r x hx), fun b T ps hb => by
    obtain ⟨ps1, h1, h2⟩ := h.boxes b T ps hb
    obtain ⟨ps2, h3, h4⟩ := h'.boxes b T ps1 h1
    exact ⟨ps2, h3, All2.le_trans h2 h4⟩⟩
theorem Env.drops_le (ss : List Nat) : ∀ E : Env, (E.drops ss).le E := by
  induction ss with
  | nil => exact fun E => Env.le_refl E
  | cons s ss ih => exact fun E => Env.le_trans (ih (E.drop s)) (Env.drop_le E s)
theorem Env.drops_row (ss : List Nat) : ∀ (E : Env) (r : Nat), (E.drops ss).row r = if r ∈ ss then none else E.row r := by
  induction ss with
  | nil => intro E r; simp [Env.drops]
  | cons s ss ih =>
    intro E r
    simp only [Env.drops, ih, List.mem_cons]
    by_cases h : r = s
    · subst h; simp [Env.drop_row]
    · rw [Env.drop_row' E h]; simp [h]
theorem Moved.own {C : Ctx} {M : Maps} {E : Env} {a : Act} {w : World} (R : RelM C M E a w) {ps : List PC} {es : List D} {ss : List Nat} (h : Moved E ps es ss) : ∀ {vs : List Value}, All2 (COk M E w) vs ps →
    ∃ bx, Own w vs es bx ∧ bx.Nodup ∧ ∀ k ∈ bx, ∃ s ∈ ss, M.own k = .row s := by
  induction h with
  | nil => intro vs h; cases h; exact ⟨[], .nil, by simp, by simp⟩
  | @val x ps es ss hx _ ih =>
    intro vs h
    cases h with
    | cons h1 h2 =>
      obtain ⟨bx, k1, k2, k3⟩ := ih h2
      obtain ⟨u, hu⟩ := Option.isSome_iff_exists.1 hx
      have e := rd_val h1 hu
      subst e
      exact ⟨bx, .val hu k1, k2, k3⟩
  | @empty x ps es ss h1 h2 h3 _ ih =>
    intro vs h
    cases h with
    | cons k1 k2 =>
      obtain ⟨bx, j1, j2, j3⟩ := ih k2
      have e : _ = Value.slice none 0 0 := k1
      subst e
      exact ⟨bx, .empty h1 h2 h3 j1, j2, j3⟩
  | @row s T d ps es ss hs hn _ ih =>
    intro vs h
    cases h with
    | cons k1 k2 =>
      obtain ⟨bx, j1, j2, j3⟩ := ih k2
      obtain ⟨⟨_, h2, _⟩, h4, h5⟩ := R.rows s T d hs
      have e := k1 T d hs
      simp only [PathTo] at e
      subst e
      refine ⟨M.fp s ++ bx, (h2.append j1), ?_, fun k hk => ?_⟩
      · rw [List.nodup_append]
        refine ⟨h4, j2, fun a ha b hb e => ?_⟩
        subst e
        obtain ⟨s', hs', ho⟩ := j3 a hb
        rw [h5 a ha] at ho
        injection ho with ho
        subst ho
        exact hn hs'
      · rcases List.mem_append.1 hk with hk | hk
        · exact ⟨s, by simp, h5 k hk⟩
        · obtain ⟨s', hs', ho⟩ := j3 k hk
          exact ⟨s', by simp [hs'], ho⟩
theorem PC.killDeep_ok (r : Nat) (c : PC) : c.killDeep r = .und ∨ (c.killDeep r = c ∧ (c.ment r = false ∨ (c = .row r [] ∨ ∃ i j, c = .rptr r [] i j))) := by
  cases c with
  | row r' p =>
    simp only [PC.killDeep, PC.ment]
    by_cases h : r = r'
    · subst h
      cases p with
      | nil => right; simp
      | cons x p => left; simp
    · right; simp [h]
  | rptr r' p i j =>
    simp only [PC.killDeep, PC.ment]
    by_cases h : r = r'
    · subst h
      cases p with
      | nil => right; simp
      | cons x p => left; simp
    · right; simp [h]
  | _ => right; simp [PC.killDeep, PC.ment]
theorem run_storeAt {P : Program} {T : TypeId} {w : World} {g o n : Nat} {cs : Array Value} {t : TypeId} {v : Value} (hT : (P.info? T).map (·.size) = some n) (hv : v.cells.size = n) (hg : w.heap[g]? = some (.cells cs t (0, 0))) (hfit : o + n ≤ cs.size) (h1 : ∀ u ∈ v.cells.toList, u.oneCell' = true) :
    (Instr.storeAt T (.pointer (some ⟨g, o, none⟩)) v).run P w = .ok () (w.setRow g (cs.toList.take o ++ v.cells.toList ++ cs.toList.drop (o + v.cells.toList.length)).toArray) := by
  have h := run_storeCells_at P g o t v.cells.toList 0 cs w hg (by simpa [hv] using hfit) h1
  simp only [Nat.add_zero] at h
  simp [Instr.storeAt, Instr.sureAddr, storeVar, run_size hT, hv, h]
theorem Step.store_row {P : Program} {C : Ctx} {o : Oper} {E : Env} {T T' : TypeId} {x y : Operand} {r : Nat} {q : List (Nat × Nat)} {i j n : Nat} {d d1 d' : D} {p : PV} {ps : List PC} {es : List D} {ss : List Nat} (ho : o.op = .store T x y) (hd : o.dst = none)
    (hT : (P.info? T).map (·.size) = some n) (hx : E.ev x = .one (.rptr r q i j)) (hr : E.row r = some (T', d)) (hy : E.ev y = p) (hp : p.flat = some ps) (hn : ps.length = n) (hf : ps.all E.fine = true) (hm : Moved E ps es ss) (hrs : r ∉ ss)
    (hput : Putd (d.at_ q) i j es d1) (hat : d.putAt q d1 = some d') :
    Step P C o E { (E.drops ss).mapc (PC.killDeep r) with rows := (r, (T', d')) :: (E.drops ss).rows } :=
  .skip hd fun M a w R => by
    have hxo := ev_ok R x
    rw [hx] at hxo
    obtain ⟨g, cap, h1, h2, h3, h4⟩ := hxo T' d hr
    have hyo := ev_ok R y
    rw [hy] at hyo
    obtain ⟨hcells, hone⟩ := cells_ok R hyo hp hf
    obtain ⟨bx, hb1, hb2, hb3⟩ := hm.own R hcells
    obtain ⟨⟨r1, r2, r3⟩, r4, r5⟩ := R.rows r T' d hr
    have hdis : ∀ k ∈ bx, k ∉ M.fp r := fun k hk hk' => by
      obtain ⟨s, hs, ho⟩ := hb3 k hk
      rw [r5 k hk'] at ho
      injection ho with ho
      subst ho
      exact hrs hs
    obtain ⟨cs, t, fp', k1, k2, k3, k4, k5, k6⟩ := store_own r2 r4 h1 hb1 hb2 hdis hput hat
    generalize hw' : w.setRow g (cs.toList.take (i * (d.at_ q).z + j) ++ (a.eval y).cells.toList ++ cs.toList.drop (i * (d.at_ q).z + j + (a.eval y).cells.toList.length)).toArray = w' at k4
    have hown : M.own g = .row r := r5 g k3
    have hother : ∀ k, k ≠ g → w'.heap[k]? = w.heap[k]? := fun k hk => by rw [← hw']; exact setRow_other w g k _ hk
    have hsame : w'.heap[g]? = some (.cells (cs.toList.take (i * (d.at_ q).z + j) ++ (a.eval y).cells.toList ++ cs.toList.drop (i * (d.at_ q).z + j + (a.eval y).cells.toList.length)).toArray t (0, 0)) := by rw [← hw']; exact setRow_heap w g cs _ t (0, 0) k1
    have R1 := R.weaken (Env.drops_le ss E)
    have hr1 : (E.drops ss).row r = some (T', d) := by rw [Env.drops_row, if_neg hrs]; exact hr
    have hfr : Frame_ C w' := ⟨by rw [← hw']; exact R.fr.os, by rw [← hw']; exact R.fr.tape, by rw [← hw']; exact R.fr.output, by rw [← hw', setRow_size]; exact R.fr.size, fun k hk hi => by
      rw [hother k (fun e => by
        subst e
        rcases R.wr k (by rw [hown]; simp) (by rw [hown]; simp) with h | h
        · exact hi h
        · omega)]
      exact R.fr.block k hk hi⟩
    refine ⟨w', _, ?_, R1.upd (f := PC.killDeep r) (v' := M.hdl r) hr1 hfr (by rw [← hw', setRow_size]; exact Nat.le_refl _) (fun k h0 hs => hother k fun e => ?_) ⟨?_, k4, ?_⟩ k5 ?_ ?_ ?_⟩
    · unfold execOp
      rw [ho]
      have hl : (a.eval y).cells.size = n := by rw [← hn, ← hcells.length]; simp
      have hst := run_storeAt (P := P) (T := T) hT hl k1 (o := i * (d.at_ q).z + j) (by rw [← hl]; simpa using k2) hone
      rw [hw'] at hst
      simp only [h4, Sem.run_bind, hst, Result.andThen, Sem.run_pure]
    · subst e
      exact (hs r hown).1 rfl
    · exact (D.putAt_sl hat ⟨hput.2.2.2.2.2, hput.2.2.1, hput.2.2.2.1⟩).1
    · intro ad nn cc hv
      obtain ⟨cs0, fr0, h6⟩ := r3 ad nn cc hv
      by_cases e : ad.block = g
      · rw [e] at h6 ⊢
        rw [k1] at h6
        injection h6 with h6
        injection h6 with e1 e2 e3
        subst e2 
        exact ⟨_, _, hsame⟩
      · exact ⟨cs0, fr0, (hother _ e).trans h6⟩
    · intro k hk
      right
      rcases k6 k hk with h | h
      · exact ⟨r, r5 k h, .inl rfl⟩
      · obtain ⟨s, hs, ho⟩ := hb3 k h
        exact ⟨s, ho, .inr (by rw [Env.drops_row, if_pos hs])⟩
    · intro y' hy' e
      have := R.pin y'.1 y'.2 hy' T' d (by rw [e]; exact hr)
      rw [e] at this
      exact this
    · intro c
      rcases PC.killDeep_ok r c with h | ⟨h, h'⟩
      · exact .inl h
      · refine .inr ⟨h, ?_⟩
        rcases h' with h' | h'
        · exact .inl h'
        · exact .inr ⟨rfl, (D.putAt_sl hat ⟨hput.2.2.2.2.2, hput.2.2.1, hput.2.2.2.1⟩).2.1, (D.putAt_sl hat ⟨hput.2.2.2.2.2, hput.2.2.1, hput.2.2.2.1⟩).2.2, h'⟩
theorem RelM.updBox {C : Ctx} {M : Maps} {E : Env} {a : Act} {w w' : World} (R : RelM C M E a w) {b : Nat} {T : TypeId} {ps ps' : List PC} {cs' : Array Value} (hb : E.box b = some (T, ps)) (hk : ∀ k, k ≠ M.blk b → w'.heap[k]? = w.heap[k]?)
    (hs : w'.heap[M.blk b]? = some (.cells cs' T (0, 0))) (hsz : w'.heap.size = w.heap.size) (hos : w'.os = w.os) (htp : w'.tape = w.tape) (hout : w'.output = w.output) (hps : All2 (COk M E w) cs'.toList ps') :
    RelM C M { E with boxes := (b, (T, ps')) :: E.boxes } a w' := by
  obtain ⟨o1, _⟩ := R.boxes b T ps hb
  have hkk : ∀ k, M.own k ≠ .box b → w'.heap[k]? = w.heap[k]? := fun k h => hk k fun e => h (by rw [e]; exact o1)
  have hc : ∀ c : PC, ∀ v, COk M E w v c → COk M { E with boxes := (b, (T, ps')) :: E.boxes } w' v c := fun c v h => h.mono R (fun k h => ⟨h, hkk k (by rw [h]; simp)⟩) (fun _ _ _ => rfl)
    (fun r _ T d hT => ⟨hT, rfl, fun k hk' => hkk k (by rw [(R.rows r T d hT).2.2 k hk']; simp)⟩)
  refine { R with fr := ?_, ba := by rw [hsz]; exact R.ba, lt := fun k h => by rw [hsz]; exact R.lt k h, tm := fun t => (R.tm t).mono fun c _ v h => hc c v h, rows := ?_, boxes := ?_, bpin := fun b' v hp hn T' ps2 hb' => (by by_cases e : b' = b; (subst e; exact R.bpin b' v hp hn T ps hb); (refine R.bpin b' v hp hn T' ps2 ?_; simpa [Env.box, lk, Ne.symm e] using hb')) }
  · refine ⟨hos.trans R.fr.os, htp.trans R.fr.tape, hout.trans R.fr.output, by rw [hsz]; exact R.fr.size, fun k hkb hi => ?_⟩
    rw [hk k (fun e => by
      subst e
      rcases R.wr _ (by rw [o1]; simp) (by rw [o1]; simp) with h | h
      · exact hi h
      · omega)]
    exact R.fr.block k hkb hi
  · intro r T2 d hr
    obtain ⟨⟨h1, h2, h3⟩, h4, h5⟩ := R.rows r T2 d hr
    refine ⟨⟨h1, h2.keep fun k hk' => hkk k (by rw [h5 k hk']; simp), fun ad n c hv => ?_⟩, h4, h5⟩
    obtain ⟨cs, fr, h6⟩ := h3 ad n c hv
    have hmem : ad.block ∈ M.fp r := by
      rw [hv] at h2
      generalize M.fp r = q at h2
      cases h2 with
      | val hv' _ => cases d <;> simp [D.val] at hv'
      | sl _ _ _ _ _ _ _ _ => simp
    exact ⟨cs, fr, (hkk _ (by rw [h5 _ hmem]; simp)).trans h6⟩
  · intro b2 T2 ps2 hb2
    by_cases e : b2 = b
    · subst e
      have : (T2, ps2) = (T, ps') := by simp [Env.box, lk] at hb2; rw [← hb2.1, ← hb2.2]
      injection this with e1 e2
      subst e1 e2
      exact ⟨o1, cs', hs, hps.imp fun v c _ h => hc c v h⟩
    · have hb3 : E.box b2 = some (T2, ps2) := by simp only [Env.box, lk] at hb2 ⊢; rw [if_neg (fun h => e h.symm)] at hb2; exact hb2
      obtain ⟨h1, cs, h2, h3⟩ := R.boxes b2 T2 ps2 hb3
      exact ⟨h1, cs, (hkk _ (by rw [h1]; intro h; injection h with h; exact e h)).trans h2, h3.imp fun v c _ h => hc c v h⟩
theorem All2.append {α β : Type} {R : α → β → Prop} {as as' : List α} {bs bs' : List β} (h : All2 R as bs) (h' : All2 R as' bs') : All2 R (as ++ as') (bs ++ bs') := by
  induction h with
  | nil => exact h'
  | cons h1 _ ih => exact .cons h1 ih
theorem All2.take {α β : Type} {R : α → β → Prop} {as : List α} {bs : List β} (h : All2 R as bs) : ∀ n : Nat, All2 R (as.take n) (bs.take n) := by
  induction h with
  | nil => intro n; simp; exact .nil
  | cons h1 _ ih => intro n; cases n with | zero => exact .nil | succ n => exact .cons h1 (ih n)
theorem All2.drop {α β : Type} {R : α → β → Prop} {as : List α} {bs : List β} (h : All2 R as bs) : ∀ n : Nat, All2 R (as.drop n) (bs.drop n) := by
  induction h with
  | nil => intro n; simp; exact .nil
  | cons h1 h2 ih => intro n; cases n with | zero => exact .cons h1 h2 | succ n => exact ih n
theorem Step.store_box {P : Program} {C : Ctx} {o : Oper} {E : Env} {T T' : TypeId} {x y : Operand} {b off n : Nat} {p : PV} {ps qs ps' : List PC} (ho : o.op = .store T x y) (hd : o.dst = none)
    (hT : (P.info? T).map (·.size) = some n) (hx : E.ev x = .one (.ptr b off)) (hb : E.box b = some (T', ps)) (hy : E.ev y = p) (hp : p.flat = some qs) (hn : qs.length = n) (hf : qs.all E.fine = true) (hfit : off + n ≤ ps.length)
    (hps : ps.take off ++ qs ++ ps.drop (off + n) = ps') : Step P C o E { E with boxes := (b, (T', ps')) :: E.boxes } :=
  .skip hd fun M a w R => by
    have hxo := ev_ok R x
    rw [hx] at hxo
    have hxv : a.eval x = .pointer (some ⟨M.blk b, off, none⟩) := hxo
    have hyo := ev_ok R y
    rw [hy] at hyo
    obtain ⟨hcells, hone⟩ := cells_ok R hyo hp hf
    obtain ⟨h1, cs, h2, h3⟩ := R.boxes b T' ps hb
    have hl : (a.eval y).cells.size = n := by rw [← hn, ← hcells.length]; simp
    have hcl : cs.size = ps.length := by rw [← h3.length]; simp
    have hst := run_storeAt (P := P) (T := T) hT hl h2 (o := off) (by omega) hone
    obtain ⟨arr, harr⟩ : ∃ arr : Array Value, arr = (cs.toList.take off ++ (a.eval y).cells.toList ++ cs.toList.drop (off + (a.eval y).cells.toList.length)).toArray := ⟨_, rfl⟩
    rw [← harr] at hst
    refine ⟨w.setRow (M.blk b) arr, M, ?_, R.updBox (cs' := arr) hb (fun k hk => setRow_other w _ k _ hk) (setRow_heap w _ cs _ T' (0, 0) h2) (by rw [setRow_size]) rfl rfl rfl (ps' := ps') ?_⟩
    · unfold execOp
      rw [ho]
      simp only [hxv, Sem.run_bind, hst, Result.andThen, Sem.run_pure]
    · subst hps
      have hl2 : (a.eval y).cells.toList.length = n := by simpa using hl
      rw [harr, hl2]
      exact ((h3.take off).append hcells).append (h3.drop (off + n))
def isElem (P : Program) (T e z by_ : Nat) : Bool := isSlice P T e z && (match P.info? e with
  | some i => i.bytes == by_ && (match i.zero with | some v => v.cells.size == z | none => false)
  | none => false)
theorem isElem_spec {P : Program} {T e z by_ : Nat} (h : isElem P T e z by_ = true) : P.underlying T = some (.slice e) ∧ ∃ i v, P.info? e = some i ∧ i.zero = some v ∧ i.size = z ∧ i.bytes = by_ ∧ v.cells.size = z := by
  unfold isElem at h
  rw [Bool.and_eq_true] at h
  obtain ⟨h1, h2⟩ := h
  obtain ⟨h3, h4⟩ := isSlice_spec h1
  refine ⟨h3, ?_⟩
  split at h2
  · rename_i i hi
    rw [Bool.and_eq_true] at h2
    obtain ⟨h5, h6⟩ := h2
    split at h6
    · rename_i v hv
      rw [hi] at h4
      simp at h4 h5 h6
      exact ⟨i, v, hi, hv, h4, h5, h6⟩
    · exact absurd h6 (by simp)
  · exact absurd h2 (by simp)
def D.app : D → D → Option D
  | .ints k xs, .ints k' ys => if k = k' then some (.ints k (xs ++ ys)) else none
  | .bss xs, .bss ys => some (.bss (xs ++ ys))
  | .sl z es, .sl z' fs => if z = z' then some (.sl z (es ++ fs)) else none
  | _, _ => none
theorem D.app_spec {d e f : D} (h : d.app e = some f) (hd : d.wf) (he : e.wf) : f.flat = d.flat ++ e.flat ∧ f.size = d.size + e.size ∧ f.z = d.z ∧ e.z = d.z ∧ f.wf ∧ f.isSl = true ∧ d.isSl = true ∧ e.isSl = true := by
  cases d <;> cases e <;> first | (simp [D.app] at h; done) | skip
  all_goals simp only [D.app] at h
  · split at h
    · rename_i e; subst e; injection h with h; subst h; exact ⟨by simp [D.flat], by simp [D.size], rfl, rfl, trivial, rfl, rfl, rfl⟩
    · exact absurd h (by simp)
  · injection h with h; subst h; exact ⟨by simp [D.flat], by simp [D.size], rfl, rfl, trivial, rfl, rfl, rfl⟩
  · split at h
    · rename_i e; subst e; injection h with h; subst h
      refine ⟨by simp [D.flat], by simp [D.size], rfl, rfl, fun x hx => ?_, rfl, rfl, rfl⟩
      rcases List.mem_append.1 hx with hx | hx
      · exact hd x hx
      · exact he x hx
    · exact absurd h (by simp)
theorem own_one {w : World} {vs : List Value} {ds : List D} {bs : List Nat} (h : Own w vs ds bs) : ∀ u ∈ vs, u.oneCell' = true := by
  induction h with
  | nil => intro u hu; cases hu
  | @val v d vs ds bs hv _ ih =>
    intro u hu
    rcases List.mem_cons.1 hu with rfl | hu
    · cases d <;> simp [D.val] at hv <;> subst hv <;> rfl
    · exact ih u hu
  | empty _ _ _ _ ih =>
    intro u hu
    rcases List.mem_cons.1 hu with rfl | hu
    · rfl
    · exact ih u hu
  | sl _ _ _ _ _ _ _ _ _ ih =>
    intro u hu
    rcases List.mem_cons.1 hu with rfl | hu
    · rfl
    · exact ih u hu
theorem own_row {w : World} {T : TypeId} {v : Value} {d : D} {fp : List Nat} (h : RowOk w T v d fp) : ∃ xs b, w.ownsRow 0 T d.z v d.size xs ∧ Own w xs d.flat b ∧ (v = .slice none 0 0 ∧ fp = [] ∧ b = [] ∨ ∃ g, v.ownBlock = some g ∧ fp = g :: b) ∧ d.wf := by
  obtain ⟨hs, h, ht⟩ := h
  generalize hL : [v] = L at h
  generalize hM : [d] = M at h
  cases h with
  | nil => cases hL
  | val hv _ => injection hM with e1 e2; subst e1; cases d <;> simp [D.isSl] at hs <;> simp [D.val] at hv
  | empty k1 k2 k3 k4 =>
    injection hL with e1 e2; injection hM with e3 e4; subst e1 e2 e3 e4
    cases k4
    have hf : d.flat = [] := List.eq_nil_of_length_eq_zero (by rw [D.flat_length k3 hs, k2, Nat.zero_mul])
    exact ⟨[], [], ⟨by rw [k2]; simp, .inl ⟨rfl, k2⟩⟩, by rw [hf]; exact .nil, .inl ⟨rfl, rfl, rfl⟩, k3⟩
  | @sl g cap cs t _ _ _ b1 b2 k1 k2 k3 k4 k5 k6 k7 k8 =>
    injection hL with e1 e2; injection hM with e3 e4; subst e1 e2 e3 e4
    cases k8
    obtain ⟨cs', fr, ht'⟩ := ht _ _ _ rfl
    rw [k2] at ht'
    injection ht' with ht'
    injection ht' with f1 f2 f3
    subst f2
    refine ⟨cs.toList.take d.flat.length, b1, ⟨?_, .inr ⟨g, cap, cs, rfl, Nat.zero_le _, k2, k3, by simp only [maxLen]; omega, k5, by rw [D.flat_length k6 hs]⟩⟩, k7, .inr ⟨g, rfl, by simp⟩, k6⟩
    have := k7.length
    rw [this, D.flat_length k6 hs]
theorem row_own {w : World} {T : TypeId} {v : Value} {d : D} {xs : List Value} {b : List Nat} (hs : d.isSl = true) (hw : d.wf) (h : w.ownsRow 0 T d.z v d.size xs) (ho : Own w xs d.flat b) : ∃ fp, RowOk w T v d fp ∧ (v = .slice none 0 0 ∧ fp = [] ∨ ∃ g, v.ownBlock = some g ∧ fp = g :: b) := by
  obtain ⟨h1, h2⟩ := h
  rcases h2 with ⟨rfl, h3⟩ | ⟨g, cap, cur, rfl, _, k2, k3, k4, k5, k6⟩
  · refine ⟨[], ⟨hs, .empty hs h3 hw .nil, fun ad n c hv => ?_⟩, .inl ⟨rfl, rfl⟩⟩
    injection hv with e; cases e
  · have hn : d.flat.length = d.size * d.z := D.flat_length hw hs
    refine ⟨g :: (b ++ []), ⟨hs, .sl hs k2 k3 (by simp only [maxLen] at k4; omega) k5 hw (by rw [hn, k6]; exact ho) .nil, fun ad n c hv => ?_⟩, .inr ⟨g, rfl, by simp⟩⟩
    injection hv with e1 e2 e3
    injection e1 with e1
    subst e1
    exact ⟨cur, (0, 0), k2⟩
theorem row_block {w : World} {T : TypeId} {v : Value} {d : D} {fp : List Nat} (h : RowOk w T v d fp) {g : Nat} (hg : v.ownBlock = some g) : g ∈ fp := by
  obtain ⟨hs, h, ht⟩ := h
  cases h with
  | val hv _ => cases d <;> simp [D.val] at hv <;> subst hv <;> simp [Value.ownBlock] at hg
  | empty _ _ _ _ => simp [Value.ownBlock] at hg
  | sl _ _ _ _ _ _ _ _ => simp [Value.ownBlock] at hg; subst hg; simp
theorem append_row {P : Program} {C : Ctx} {M : Maps} {E : Env} {a : Act} {w : World} (R : RelM C M E a w) {T ty e z by_ : Nat} (hT : isElem P T e z by_ = true) (hz0 : 0 < z) {v : Value} {d dy d' : D} {fp : List Nat} (hrow : RowOk w e v d fp) (hnd : fp.Nodup) (hz : d.z = z)
    {vy : Value} {ys : List Value} {b : List Nat} {A : Option Addr} {cap : Nat} (hvy : vy = .slice A dy.size cap) (hys : ∀ (j : Nat) c, ys[j]? = some c → ∃ ad, A = some ad ∧ w.cell? (ad.add j) = some c) (ho : Own w ys dy.flat b) (hb : b.Nodup) (hdis : ∀ k ∈ b, k ∉ fp) (hwy : dy.wf)
    (hap : d.app dy = some d') (h63 : (d.size + dy.size) * by_ ≤ 140737488355328) (h64 : d.size + dy.size ≤ 9223372036854775807) :
    ∃ v' w' fp', (Builtin.append_ #[T, T] ty #[v, vy]).run P w = .ok v' w' ∧ RowOk w' e v' d' fp' ∧ fp'.Nodup ∧ (∀ k ∈ fp', k ∈ fp ∨ k ∈ b ∨ k = w.heap.size) ∧ w.grownBy w' v.ownBlock := by
  obtain ⟨hu, i, zv, hi, hiz, hsz, hby, hzs⟩ := isElem_spec hT
  obtain ⟨xs, b1, k1, k2, k3, hwd⟩ := own_row hrow
  obtain ⟨a1, a2, a3, a4, a5, a6, a7, a8⟩ := D.app_spec hap hwd hwy
  rw [hz] at k1
  by_cases h0 : dy.size = 0
  · -- nothing comes
    have hfl : dy.flat = [] := List.eq_nil_of_length_eq_zero (by rw [D.flat_length hwy a8, h0, Nat.zero_mul])
    have hys0 : ys = [] := List.eq_nil_of_length_eq_zero (by rw [ho.length, hfl]; rfl)
    subst hys0
    obtain ⟨Av, cv, hv, _⟩ := own_form hrow.2.1 hrow.1
    have hcap : d.size ≤ cv := by
      rcases k1.2 with ⟨e1, e2⟩ | ⟨g, cap', cur, e1, _, _, e2, _⟩
      · omega
      · rw [hv] at e1; injection e1 with _ _ e3; omega
    have hsrc : Src P i.size T vy 0 [] w := by
      subst hvy
      refine ⟨.inl ⟨e, hu⟩, fun w' => by rw [h0]; simp [Builtin.lenOf], ?_, ?_, by simp, by simp⟩
      · cases A <;> simp [Builtin.firstCells, loadCells, loadCellsFrom]
      · cases A <;> simp [Builtin.firstCells, loadCells, loadCellsFrom]
    have hrun := run_append_nothing (P := P) w T T ty e i hu hi Av d.size cv hcap vy hsrc
    have e1 : d'.flat = d.flat := by rw [a1, hfl, List.append_nil]
    have e2 : d'.size = d.size := by omega
    refine ⟨v, w, fp, by rw [hv]; exact hrun, ⟨a6, ?_, hrow.2.2⟩, hnd, fun k hk => .inl hk, ⟨rfl, rfl, rfl, Nat.le_refl _, fun _ _ _ => rfl⟩⟩
    have k1' : w.ownsRow 0 e d'.z v d'.size xs := by rw [a3, e2, hz]; exact k1
    obtain ⟨fp', ⟨_, h2, _⟩, h3⟩ := row_own a6 a5 k1' (by rw [e1]; exact k2)
    have : fp' = fp := by
      rcases h3 with ⟨_, h3⟩ | ⟨g, h3, h4⟩
      · rcases k3 with ⟨_, k3, _⟩ | ⟨g', k3, k4⟩
        · rw [h3, k3]
        · rename_i hvn; rw [hvn] at k3; simp [Value.ownBlock] at k3
      · rcases k3 with ⟨k3, _⟩ | ⟨g', k3, k4⟩
        · rw [k3] at h3; simp [Value.ownBlock] at h3
        · rw [h3] at k3; injection k3 with k3; rw [h4, k4, k3]
    rw [← this]; exact h2
  · obtain ⟨ad, rfl⟩ : ∃ ad, A = some ad := by
      have hpos : 0 < ys.length := by
        rw [ho.length, D.flat_length hwy a8, a4, hz]
        exact Nat.mul_pos (by omega) hz0
      obtain ⟨ad, h, _⟩ := hys 0 ys[0] (List.getElem?_eq_getElem hpos)
      exact ⟨ad, h⟩
    have hnews : ∀ (j : Nat) u, ys[j]? = some u → w.cell? (ad.add j) = some u := fun j u hu => by
      obtain ⟨ad', e1, e2⟩ := hys j u hu
      injection e1 with e1
      subst e1
      exact e2
    have hyl : ys.length = dy.size * z := by rw [ho.length, D.flat_length hwy a8, a4, hz]
    obtain ⟨v', w', q1, q2, q3, q4, q5⟩ := run_append_own_at (P := P) (w := w) 0 T ty e i zv z by_ hu hi hiz hsz hby hzs hz0 v d.size xs k1 ad dy.size cap ys hyl hnews (own_one ho) (by simp only [maxLen]; omega) h63 (Nat.zero_le _)
    have q2' : w'.ownsRow 0 e d'.z v' d'.size (xs ++ ys) := by rw [a3, a2, hz]; exact q2
    have hkeep : ∀ k, k < w.heap.size → k ∉ fp → w'.heap[k]? = w.heap[k]? := fun k hk hn => q3.block k hk fun e => hn (row_block hrow e.symm)
    have hb1 : ∀ k ∈ b1, w'.heap[k]? = w.heap[k]? := fun k hk => by
      refine q3.block k (k2.lt k hk) fun e => ?_
      rcases k3 with ⟨_, _, k3⟩ | ⟨g, k3, k4⟩
      · rw [k3] at hk; cases hk
      · rw [k3] at e; injection e with e; subst e
        rw [k4] at hnd
        exact (List.nodup_cons.1 hnd).1 hk
    have ho' : Own w' (xs ++ ys) d'.flat (b1 ++ b) := by
      rw [a1]
      exact (k2.keep hb1).append (ho.keep fun k hk => hkeep k (ho.lt k hk) (hdis k hk))
    obtain ⟨fp', h2, h3⟩ := row_own a6 a5 q2' ho'
    have hb1fp : ∀ k ∈ b1, k ∈ fp := fun k hk => by
      rcases k3 with ⟨_, _, k3⟩ | ⟨g, k3, k4⟩
      · rw [k3] at hk; cases hk
      · rw [k4]; simp [hk]
    have hb1n : b1.Nodup := by
      rcases k3 with ⟨_, _, k3⟩ | ⟨g, k3, k4⟩
      · rw [k3]; simp
      · rw [k4] at hnd; exact (List.nodup_cons.1 hnd).2
    refine ⟨v', w', fp', by rw [hvy]; exact q1, h2, ?_, ?_, q3⟩
    · rcases h3 with ⟨_, h3⟩ | ⟨g, h3, h4⟩
      · rw [h3]; simp
      · rw [h4, List.nodup_cons, List.nodup_append]
        refine ⟨fun hg => ?_, hb1n, hb, fun x hx y hy e => hdis y hy (by rw [← e]; exact hb1fp x hx)⟩
        rcases q5 with q5 | q5
        · rw [h3] at q5
          rcases k3 with ⟨k3, _⟩ | ⟨g', k3, k4⟩
          · rw [k3] at q5; simp [Value.ownBlock] at q5
          · rw [← q5] at k3; injection k3 with k3; subst k3
            rcases List.mem_append.1 hg with hg | hg
            · rw [k4] at hnd; exact (List.nodup_cons.1 hnd).1 hg
            · exact hdis g hg (by rw [k4]; simp)
        · rw [h3] at q5; injection q5 with q5
          rcases List.mem_append.1 hg with hg | hg
          · have := k2.lt g hg; omega
          · have := ho.lt g hg; omega
    · intro k hk
      rcases h3 with ⟨_, h3⟩ | ⟨g, h3, h4⟩
      · rw [h3] at hk; cases hk
      · rw [h4] at hk
        rcases List.mem_cons.1 hk with rfl | hk
        · rcases q5 with q5 | q5
          · left; exact row_block hrow (by rw [← q5]; exact h3)
          · rw [h3] at q5; injection q5 with q5; exact .inr (.inr q5)
        · rcases List.mem_append.1 hk with hk | hk
          · exact .inl (hb1fp k hk)
          · exact .inr (.inl hk)
inductive AppSrc (E : Env) : PC → D → List Nat → Prop
  | froz {d : D} : d.isSl = true → d.flat.all (fun x => x.val.isSome) = true → AppSrc E (.d d) d []
  | nil {d : D} : d.isSl = true → d.size = 0 → d.wf → AppSrc E .nil d []
  | copy {s : Nat} {p : List (Nat × Nat)} {T : TypeId} {d d' : D} : E.row s = some (T, d) → d.at_ p = d' → d'.isSl = true → d'.flat.all (fun x => x.val.isSome) = true → AppSrc E (.row s p) d' []
  | move {s : Nat} {T : TypeId} {d : D} : E.row s = some (T, d) → AppSrc E (.row s []) d [s]
theorem rd_scal {w : World} {Z : Nat → Prop} {vs : List Value} {ds : List D} (h : Rd w Z vs ds) (hs : ds.all (fun x => x.val.isSome) = true) : Own w vs ds [] := by
  induction h with
  | nil => exact .nil
  | val hv _ ih => simp only [List.all_cons, Bool.and_eq_true] at hs; exact .val hv (ih hs.2)
  | @sl A cap d cs vs ds h1 _ _ _ _ _ _ _ _ _ =>
    simp only [List.all_cons, Bool.and_eq_true] at hs
    cases d <;> simp [D.isSl] at h1 <;> simp [D.val] at hs
theorem rd_open {w : World} {Z : Nat → Prop} {v : Value} {d : D} (h : Rd w Z [v] [d]) (hs : d.isSl = true) : ∃ A cap ys, v = .slice A d.size cap ∧ (∀ (j : Nat) c, ys[j]? = some c → ∃ ad, A = some ad ∧ w.cell? (ad.add j) = some c) ∧ Rd w Z ys d.flat ∧ d.wf := by
  cases h with
  | val hv _ => cases d <;> simp [D.isSl] at hs <;> simp [D.val] at hv
  | sl h1 h2 h3 h4 h5 h6 h7 h8 => exact ⟨_, _, _, rfl, h6, h7, h4⟩
theorem own_open {w : World} {v : Value} {d : D} {bs : List Nat} (h : Own w [v] [d] bs) (hs : d.isSl = true) : ∃ A cap ys b, v = .slice A d.size cap ∧ (∀ (j : Nat) c, ys[j]? = some c → ∃ ad, A = some ad ∧ w.cell? (ad.add j) = some c) ∧ Own w ys d.flat b ∧ d.wf ∧ (bs.Nodup → b.Nodup) ∧ ∀ k ∈ b, k ∈ bs := by
  cases h with
  | val hv _ => cases d <;> simp [D.isSl] at hs <;> simp [D.val] at hv
  | empty h1 h2 h3 h4 =>
    cases h4
    refine ⟨none, 0, [], [], by rw [h2], fun j c hc => by simp at hc, ?_, h3, fun h => h, fun k hk => hk⟩
    have hf0 : d.flat = [] := List.eq_nil_of_length_eq_zero (by rw [D.flat_length h3 h1, h2, Nat.zero_mul])
    rw [hf0]
    exact .nil
  | @sl g cap cs t _ _ _ b1 b2 h1 h2 h3 h4 h5 h6 h7 h8 =>
    cases h8
    refine ⟨_, _, _, b1, rfl, fun j c hc => ⟨_, rfl, ?_⟩, h7, h6, fun h => by simpa using (List.nodup_cons.1 h).2, fun k hk => by simp [hk]⟩
    rw [cell_at h2]
    rw [List.getElem?_take] at hc
    split at hc
    · simpa using hc
    · simp at hc
theorem AppSrc.own {C : Ctx} {M : Maps} {E : Env} {a : Act} {w : World} (R : RelM C M E a w) {c : PC} {d : D} {ss : List Nat} (h : AppSrc E c d ss) {v : Value} (hc : COk M E w v c) : ∃ A cap ys b, v = .slice A d.size cap ∧ (∀ (j : Nat) c, ys[j]? = some c → ∃ ad, A = some ad ∧ w.cell? (ad.add j) = some c) ∧
    Own w ys d.flat b ∧ b.Nodup ∧ (∀ k ∈ b, ∃ s ∈ ss, M.own k = .row s) ∧ d.wf := by
  cases h with
  | froz h1 h2 =>
    obtain ⟨A, cap, ys, k1, k2, k3, k4⟩ := rd_open hc h1
    exact ⟨A, cap, ys, [], k1, k2, rd_scal k3 h2, by simp, by simp, k4⟩
  | nil h1 h2 h3 =>
    have e : v = .slice none 0 0 := hc
    refine ⟨none, 0, [], [], by rw [e, h2], fun j c hc => by simp at hc, ?_, by simp, by simp, h3⟩
    have hf0 : d.flat = [] := List.eq_nil_of_length_eq_zero (by rw [D.flat_length h3 h1, h2, Nat.zero_mul])
    rw [hf0]
    exact .nil
  | @copy s p T d0 _ h1 h2 h3 h4 =>
    subst h2
    obtain ⟨b, ho, hb⟩ := row_at R h1 (hc T d0 h1)
    obtain ⟨A, cap, ys, b', k1, k2, k3, k4, _⟩ := own_open ho h3
    exact ⟨A, cap, ys, [], k1, k2, rd_scal (k3.rd (Z := fun _ => True) fun _ _ => trivial) h4, by simp, by simp, k4⟩
  | @move s T _ h1 =>
    obtain ⟨⟨r1, r2, r3⟩, r4, r5⟩ := R.rows s T d h1
    have e := hc T d h1
    simp only [PathTo] at e
    subst e
    obtain ⟨A, cap, ys, b', k1, k2, k3, k4, k5, k6⟩ := own_open r2 r1
    exact ⟨A, cap, ys, b', k1, k2, k3, k5 r4, fun k hk => ⟨s, by simp, r5 k (k6 k hk)⟩, k4⟩
theorem PC.kill_ok (r : Nat) (c : PC) : c.kill r = .und ∨ (c.kill r = c ∧ c.ment r = false) := by
  unfold PC.kill
  split
  · exact .inl rfl
  · rename_i h; exact .inr ⟨rfl, by simpa using h⟩
theorem RelM.append {P : Program} {C : Ctx} {M : Maps} {E : Env} {a : Act} {w : World} (R : RelM C M E a w) {T ty e z by_ : Nat} (hT : isElem P T e z by_ = true) (hz0 : 0 < z) {r : Nat} {d dy d' : D} (hr : E.row r = some (e, d)) (hz : d.z = z) {vy : Value} {c : PC} {ss : List Nat} (hs : AppSrc E c dy ss) (hrs : r ∉ ss) (hc : COk M E w vy c)
    (hap : d.app dy = some d') (h63 : (d.size + dy.size) * by_ ≤ 140737488355328) (h64 : d.size + dy.size ≤ 9223372036854775807) (hpin : ∀ x ∈ C.pin, x.1 ≠ r) :
    ∃ v' w' M', (Builtin.append_ #[T, T] ty #[M.hdl r, vy]).run P w = .ok v' w' ∧ RelM C M' { (E.drops ss).mapc (PC.kill r) with rows := (r, (e, d')) :: (E.drops ss).rows } a w' ∧ M'.hdl r = v' := by
  obtain ⟨A, cap, ys, b, hv, hys, hown, hb, hbs, hwy⟩ := hs.own R hc
  obtain ⟨hrow, hnd, hfp⟩ := R.rows r e d hr
  have hdis : ∀ k ∈ b, k ∉ M.fp r := fun k hk hk' => by
    obtain ⟨s, hs, ho⟩ := hbs k hk
    rw [hfp k hk'] at ho
    injection ho with ho
    subst ho
    exact hrs hs
  obtain ⟨v', w', fp', q1, q2, q3, q4, q5⟩ := append_row (ty := ty) R hT hz0 hrow hnd hz hv hys hown hb hdis hwy hap h63 h64
  have R1 := R.weaken (Env.drops_le ss E)
  have hr1 : (E.drops ss).row r = some (e, d) := by rw [Env.drops_row, if_neg hrs]; exact hr
  have hblk : ∀ g, (M.hdl r).ownBlock = some g → M.own g = .row r := fun g hg => hfp g (row_block hrow hg)
  have hfr : Frame_ C w' := ⟨q5.os.trans R.fr.os, q5.tape.trans R.fr.tape, q5.output.trans R.fr.output, Nat.le_trans R.fr.size q5.size, fun k hk hi => by
    rw [q5.block k (Nat.lt_of_lt_of_le hk R.ba) (fun e => by
      have ho := hblk k e.symm
      rcases R.wr k (by rw [ho]; simp) (by rw [ho]; simp) with h | h
      · exact hi h
      · omega)]
    exact R.fr.block k hk hi⟩
  refine ⟨v', w', _, q1, R1.upd (f := PC.kill r) hr1 hfr q5.size (fun k h0 hs => q5.block k (R.lt k h0) fun e => ?_) q2 q3 ?_ (fun x hx e => absurd e (hpin x hx)) (fun c => ?_), by simp⟩
  · exact (hs r (hblk k e.symm)).1 rfl
  · intro k hk
    rcases q4 k hk with h | h | h
    · exact .inr ⟨r, hfp k h, .inl rfl⟩
    · obtain ⟨s, hs, ho⟩ := hbs k h
      exact .inr ⟨s, ho, .inr (by rw [Env.drops_row, if_pos hs])⟩
    · exact .inl ⟨own_new R (by omega), by have := R.ba; omega⟩
  · rcases PC.kill_ok r c with h | ⟨h, h'⟩
    · exact .inl h
    · exact .inr ⟨h, .inl h'⟩
theorem Step.append {P : Program} {C : Ctx} {o : Oper} {E : Env} {t : Nat} {T e z by_ : Nat} {x y : Operand} {r : Nat} {d dy d' : D} {c : PC} {ss : List Nat} (ho : o.op = .call { callee := .builtin .append, args := #[x, y], argTypes := #[T, T] }) (hd : o.dst = some t) (ht : t < C.n)
    (hT : isElem P T e z by_ = true) (hx : E.ev x = .one (.row r [])) (hr : E.row r = some (e, d)) (hz : d.z = z) (hz0 : 0 < z) (hy : E.ev y = .one c) (hs : AppSrc E c dy ss) (hrs : r ∉ ss)
    (hap : d.app dy = some d') (h63 : (d.size + dy.size) * by_ ≤ 140737488355328) (h64 : d.size + dy.size ≤ 9223372036854775807) (hpin : ∀ x ∈ C.pin, x.1 ≠ r) :
    Step P C o E ({ (E.drops ss).mapc (PC.kill r) with rows := (r, (e, d')) :: (E.drops ss).rows }.set t (.one (.row r []))) :=
  .change hd ht fun M a w R => by
    have hxo := ev_ok R x
    rw [hx] at hxo
    have hxv := hxo e d hr
    simp only [PathTo] at hxv
    have hyo := ev_ok R y
    rw [hy] at hyo
    obtain ⟨v', w', M', q1, q2, q3⟩ := R.append (ty := o.type) hT hz0 hr hz hs hrs hyo hap h63 h64 hpin
    refine ⟨v', w', M', ?_, q2, fun T2 d2 _ => ?_⟩
    · unfold execOp
      rw [ho]
      simp only [resolve, invoke, builtin, Sem.run_bind, Sem.run_pure, Result.andThen, List.map_toArray, List.map_cons, List.map_nil]
      rw [hxv, q1]
    · simp only [PathTo]
      exact q3.symm
theorem RelM.newRow {C : Ctx} {M : Maps} {E : Env} {a : Act} {w : World} (R : RelM C M E a w) {r : Nat} {e : TypeId} {d : D} {cs : Array Value} {b : List Nat} (hf : E.noref' r = true) (hpin : ∀ x ∈ C.pin, x.1 ≠ r) (hs : d.isSl = true) (hw : d.wf) (hl : d.size ≤ 9223372036854775807)
    (ho : Own w cs.toList d.flat b) (hb : b.Nodup) (hbo : ∀ k ∈ b, (M.own k = .none ∧ C.base ≤ k) ∨ ∃ s, M.own k = .row s ∧ E.row s = none) :
    ∃ M', RelM C M' { E with rows := (r, (e, d)) :: E.rows } a (w.alloc (.cells cs e)) ∧ M'.hdl r = .slice (some ⟨w.heap.size, 0, none⟩) d.size d.size := by
  have hbel : Below w.heap.size w (w.alloc (.cells cs e)) := (Below.refl _ w).alloc (Nat.le_refl _) _
  have R1 := R.grow hbel
  have hcs : cs.size = d.size * d.z := by rw [← D.flat_length hw hs, ← ho.length]; simp
  have hrow : RowOk (w.alloc (.cells cs e)) e (.slice (some ⟨w.heap.size, 0, none⟩) d.size d.size) d (w.heap.size :: (b ++ [])) := by
    refine ⟨hs, .sl hs (heap_last w _) (Nat.le_refl _) hl hcs hw ?_ .nil, fun ad n c h => ?_⟩
    · rw [List.take_of_length_le (by rw [D.flat_length hw hs, ← hcs]; simp)]
      exact ho.keep fun k hk => hbel.block k (ho.lt k hk)
    · injection h with h1 _ _
      injection h1 with h1
      subst h1
      exact ⟨_, _, heap_last w _⟩
  refine ⟨_, R1.addRow hf hpin hrow ?_ ?_, by simp⟩
  · rw [List.append_nil, List.nodup_cons]
    exact ⟨fun h => by have := ho.lt _ h; omega, hb⟩
  · intro k hk
    rw [List.append_nil] at hk
    rcases List.mem_cons.1 hk with rfl | hk
    · exact .inl ⟨own_new R (Nat.le_refl _), .inr R.ba⟩
    · exact (hbo k hk).imp (fun h => ⟨h.1, .inr h.2⟩) id
theorem madeCells_list (zs : Array Value) (m : Nat) (hz : 0 < zs.size) : (madeCells zs (m * zs.size)).toList = (List.replicate m zs.toList).flatten := by
  apply List.ext_getElem?
  intro k
  have hlen : ∀ e ∈ List.replicate m zs.toList, e.length = zs.size := fun e he => by rw [List.eq_of_mem_replicate he]; simp
  have hk : k = k / zs.size * zs.size + k % zs.size := by rw [Nat.mul_comm]; exact (Nat.div_add_mod k zs.size).symm
  have hmod : k % zs.size < zs.size := Nat.mod_lt _ hz
  have h2 := flatten_get zs.size (List.replicate m zs.toList) hlen (k / zs.size) (k % zs.size) hmod
  rw [← hk] at h2
  rw [h2]
  simp only [madeCells, Array.toList_map, Array.toList_range, List.getElem?_map]
  by_cases hlt : k < m * zs.size
  · have : k / zs.size < m := Nat.div_lt_of_lt_mul (by rw [Nat.mul_comm]; exact hlt)
    rw [List.getElem?_range hlt, List.getElem?_replicate, if_pos this]
    simp [getElem!_pos, hmod]
  · have : ¬ k / zs.size < m := fun h => hlt ((Nat.div_lt_iff_lt_mul hz).1 h)
    rw [List.getElem?_eq_none (by simpa using hlt), List.getElem?_replicate, if_neg this]
    rfl
inductive ZeroOk : List Value → List D → Prop
  | nil : ZeroOk [] []
  | val {v : Value} {d : D} {vs : List Value} {ds : List D} : d.val = some v → ZeroOk vs ds → ZeroOk (v :: vs) (d :: ds)
  | empty {d : D} {vs : List Value} {ds : List D} : d.isSl = true → d.size = 0 → d.wf → ZeroOk vs ds → ZeroOk (.slice none 0 0 :: vs) (d :: ds)
theorem ZeroOk.own {vs : List Value} {ds : List D} (h : ZeroOk vs ds) (w : World) : Own w vs ds [] := by
  induction h with
  | nil => exact .nil
  | val h _ ih => exact .val h ih
  | empty h1 h2 h3 _ ih => exact .empty h1 h2 h3 ih
theorem ZeroOk.rep {vs : List Value} {ds : List D} (h : ZeroOk vs ds) (w : World) : ∀ n : Nat, Own w (List.replicate n vs).flatten (List.replicate n ds).flatten []
  | 0 => .nil
  | n + 1 => by
    rw [List.replicate_succ, List.replicate_succ, List.flatten_cons, List.flatten_cons]
    exact (h.own w).append (h.rep w n)
theorem Step.make {P : Program} {C : Ctx} {o : Oper} {E : Env} {t : Nat} {T e z by_ : Nat} {x : Operand} {k : IntKind} {n : Int} {zs : List Value} {zd : List D} {d : D} (ho : o.op = .makeSlice T x x) (hd : o.dst = some t) (ht : t < C.n)
    (hT : isElem P T e z by_ = true) (hz0 : 0 < z) (hx : E.ev x = .one (.d (.int k n))) (hn : 0 ≤ n) (hby : by_ * n.toNat ≤ 281474976710656) (h63 : n ≤ 9223372036854775807) (hzs : zeroCells P e = some zs) (hzd : ZeroOk zs zd) (hf : E.noref' t = true) (hpin : ∀ x ∈ C.pin, x.1 ≠ t)
    (hfl : d.flat = (List.replicate n.toNat zd).flatten) (hsz : d.size = n.toNat) (hs : d.isSl = true) (hw : d.wf) :
    Step P C o E ({ E with rows := (t, (e, d)) :: E.rows }.set t (.one (.row t []))) :=
  .change hd ht fun M a w R => by
    obtain ⟨hu, i, zv, hi, hiz, h1, h2, h3⟩ := isElem_spec hT
    have hzv : zv.cells.toList = zs := by simp [zeroCells, hi, hiz] at hzs; exact hzs
    have hb' : (i.bytes : Int) * n ≤ 281474976710656 := by
      rw [h2]
      have : ((by_ * n.toNat : Nat) : Int) ≤ 281474976710656 := by omega
      rw [Int.natCast_mul, Int.toNat_of_nonneg hn] at this
      exact this
    have hr := run_make (P := P) w T e i zv hu hi hiz k k n n hn (Int.le_refl _) hb' h63
    have hcs : (madeCells zv.cells (n.toNat * i.size)).toList = (List.replicate n.toNat zs).flatten := by
      rw [h1, ← h3, madeCells_list _ _ (by omega), hzv]
    obtain ⟨M', R', hM⟩ := R.newRow (r := t) (e := e) (d := d) (cs := madeCells zv.cells (n.toNat * i.size)) (b := []) hf hpin hs hw (by omega) (by rw [hcs, hfl]; exact hzd.rep w _) (by simp) (by simp)
    refine ⟨.slice (some ⟨w.heap.size, 0, none⟩) n.toNat n.toNat, _, M', ?_, R', fun T2 d2 _ => ?_⟩
    · unfold execOp
      rw [ho]
      simp only [ev_val R hx rfl, Sem.run_bind, hr, Result.andThen, Sem.run_pure]
    · simp only [PathTo]
      rw [hM, hsz]
theorem fold_set : ∀ (l : List Value) (o j : Nat) (cs : Array Value), o + j + l.length ≤ cs.size → ((l.zipIdx j).foldl (fun cs x => cs.setIfInBounds (o + x.2) x.1) cs).toList = cs.toList.take (o + j) ++ l ++ cs.toList.drop (o + j + l.length)
  | [], o, j, cs, _ => by simp
  | v :: l, o, j, cs, h => by
    simp only [List.length_cons] at h
    rw [List.zipIdx_cons, List.foldl_cons, fold_set l o (j + 1) _ (by simp; omega)]
    have hcl : cs.toList.length = cs.size := by simp
    simp only [Array.toList_setIfInBounds, List.length_cons]
    generalize cs.toList = L at hcl ⊢
    rw [List.take_set, List.drop_set_of_lt (by omega), List.set_eq_take_append_cons_drop, if_pos (by rw [List.length_take]; omega), List.take_take, Nat.min_eq_left (by omega)]
    rw [List.drop_of_length_le (by rw [List.length_take]; omega)]
    simp [Nat.add_assoc, Nat.add_comm 1 l.length]
theorem fold_set' (v : Array Value) (o : Nat) (cs : Array Value) (h : o + v.size ≤ cs.size) : (v.zipIdx.foldl (fun cs x => cs.setIfInBounds (o + x.2) x.1) cs).toList = cs.toList.take o ++ v.toList ++ cs.toList.drop (o + v.size) := by
  have := fold_set v.toList o 0 cs (by simpa using h)
  rw [← Array.foldl_toList, Array.toList_zipIdx]
  simpa using this
theorem fill_all (z : Nat) : ∀ (vs : List Value) (k : Nat) (cs : Array Value), (∀ v ∈ vs, v.cells.size = z) → (k + vs.length) * z ≤ cs.size →
    ∃ cs' : Array Value, Instr.fill (fun i => some (i * z, z)) cs ((vs.zipIdx k).map fun x => (x.2, x.1)) = some cs' ∧ cs'.toList = cs.toList.take (k * z) ++ (vs.map fun v => v.cells.toList).flatten ++ cs.toList.drop ((k + vs.length) * z)
  | [], k, cs, _, _ => ⟨cs, rfl, by simp⟩
  | v :: vs, k, cs, hv, h => by
    have hvz := hv v (by simp)
    have hle : k * z + z ≤ cs.size := by
      rw [← Nat.succ_mul]; exact Nat.le_trans (Nat.mul_le_mul_right _ (by simp only [List.length_cons]; omega)) h
    have hf := fold_set' v.cells (k * z) cs (by omega)
    generalize hcs2 : v.cells.zipIdx.foldl (fun cs x => cs.setIfInBounds (k * z + x.2) x.1) cs = cs2 at hf
    have hsz2 : cs2.size = cs.size := by
      have := congrArg List.length hf
      simp only [List.length_append, List.length_take, List.length_drop, Array.length_toList] at this
      omega
    obtain ⟨cs', h1, h2⟩ := fill_all z vs (k + 1) cs2 (fun u hu => hv u (by simp [hu])) (by rw [hsz2, show k + 1 + vs.length = k + (vs.length + 1) from by omega]; simpa using h)
    refine ⟨cs', ?_, ?_⟩
    · simp only [List.zipIdx_cons, List.map_cons, Instr.fill]
      rw [if_neg (by simp only [hvz, ne_eq, not_true_eq_false, Bool.or_eq_true, decide_eq_true_eq, false_or, decide_not, Bool.not_eq_true', decide_eq_false_iff_not]; omega), hcs2]
      exact h1
    · rw [h2, hf]
      have hcl : cs.toList.length = cs.size := by simp
      have hvl : v.cells.toList.length = z := by simpa using hvz
      have hvs : v.cells.size = z := hvz
      simp only [List.length_cons, List.map_cons, List.flatten_cons]
      have e1 : (k + 1) * z = k * z + z := by rw [Nat.succ_mul]
      have e2 : (k + 1 + vs.length) * z = (k + (vs.length + 1)) * z := by rw [show k + 1 + vs.length = k + (vs.length + 1) from by omega]
      have e3 : k * z + z ≤ (k + (vs.length + 1)) * z := by rw [← Nat.succ_mul]; exact Nat.mul_le_mul_right _ (by omega)
      rw [e1, e2, hvs]
      simp only [List.length_cons] at h
      generalize (k + (vs.length + 1)) * z = X at h e3 ⊢
      generalize cs.toList = L at hcl ⊢
      have t1 : (L.take (k * z) ++ v.cells.toList ++ L.drop (k * z + z)).take (k * z + z) = L.take (k * z) ++ v.cells.toList := by
        rw [List.take_append_of_le_length (by rw [List.length_append, List.length_take]; omega)]
        rw [List.take_of_length_le (by rw [List.length_append, List.length_take]; omega)]
      have t2 : (L.take (k * z) ++ v.cells.toList ++ L.drop (k * z + z)).drop X = L.drop X := by
        rw [List.drop_append, List.drop_of_length_le (by rw [List.length_append, List.length_take]; omega), List.nil_append, List.length_append, List.length_take, List.drop_drop]
        congr 1
        omega
      rw [t1, t2]
      simp
theorem run_buildSlice {P : Program} {T e z by_ : Nat} (hT : isElem P T e z by_ = true) (w : World) {n : Nat} {parts : Array (Nat × Value)} {vs : List Value} (hp : parts.toList = vs.zipIdx.map fun x => (x.2, x.1)) (hn : vs.length = n) (hv : ∀ v ∈ vs, v.cells.size = z) (hb : n * z ≤ 16777216) :
    ∃ cs : Array Value, (Instr.buildSlice T n parts).run P w = .ok (.slice (some ⟨w.heap.size, 0, none⟩) n n) (w.alloc (.cells cs e)) ∧ cs.toList = (vs.map fun v => v.cells.toList).flatten := by
  obtain ⟨hu, i, zv, hi, hiz, h1, h2, h3⟩ := isElem_spec hT
  have hs : (P.info? e).map (·.size) = some z := by rw [hi]; simp [h1]
  obtain ⟨cs, k1, k2⟩ := fill_all z vs 0 ((Array.range (n * z)).map ((if n * z = 0 then #[] else zv.cells)[· % (if n * z = 0 then #[] else zv.cells).size]!)) hv (by simp [hn])
  refine ⟨cs, ?_, ?_⟩
  · have hne : ¬ n * z > 2 ^ 24 := by omega
    by_cases h0 : n * z = 0
    · simp only [h0, if_true] at k1
      simp only [Instr.buildSlice, Sem.run_bind, run_underlying hu, run_size hs, Result.andThen, hp, h0, if_true, Sem.run_pure]
      rw [if_neg (by omega)]
      simp only [Sem.run_bind, Sem.run_pure, Result.andThen]
      rw [k1]
      simp [newRow]
    · simp only [h0, if_false] at k1
      simp only [Instr.buildSlice, Sem.run_bind, run_underlying hu, run_size hs, Result.andThen, hp, h0, hne, if_false, zeroValue, run_typeInfo w hi, hiz, Sem.run_pure]
      rw [k1]
      simp [newRow]
  · rw [k2, Nat.zero_mul, List.take_zero, List.nil_append, Nat.zero_add, hn, List.drop_of_length_le (by simp), List.append_nil]
theorem zipIdx_map {α β : Type} (f : α → β) : ∀ (l : List α) (k : Nat), (l.map f).zipIdx k = (l.zipIdx k).map fun x => (f x.1, x.2)
  | [], k => rfl
  | a :: l, k => by simp [List.zipIdx_cons, zipIdx_map f l (k + 1)]
def Flats (E : Env) (xs : List Operand) (pss : List (List PC)) : Prop := All2 (fun x ps => (E.ev x).flat = some ps) xs pss
theorem flats_ok {C : Ctx} {M : Maps} {E : Env} {a : Act} {w : World} (R : RelM C M E a w) {xs : List Operand} {pss : List (List PC)} (h : Flats E xs pss) (hf : pss.flatten.all E.fine = true) {z : Nat} (hz : ∀ ps ∈ pss, ps.length = z) :
    All2 (COk M E w) ((xs.map a.eval).map fun v => v.cells.toList).flatten pss.flatten ∧ ∀ v ∈ xs.map a.eval, v.cells.size = z := by
  induction h with
  | nil => exact ⟨.nil, by simp⟩
  | @cons x ps xs pss h1 _ ih =>
    rw [List.flatten_cons, List.all_append, Bool.and_eq_true] at hf
    obtain ⟨k1, k2⟩ := ih hf.2 (fun q hq => hz q (by simp [hq]))
    obtain ⟨j1, j2⟩ := cells_ok R (ev_ok R x) h1 hf.1
    simp only [List.map_cons, List.flatten_cons]
    refine ⟨j1.append k1, fun v hv => ?_⟩
    rcases List.mem_cons.1 hv with rfl | hv
    · have := j1.length
      rw [hz ps (by simp)] at this
      simpa using this
    · exact k2 v hv
theorem parts_list {parts : Array (Nat × Operand)} {xs : List Operand} (hp : parts.toList = xs.zipIdx.map fun x => (x.2, x.1)) (f : Operand → Value) : (parts.map fun (i, x) => (i, f x)).toList = (xs.map f).zipIdx.map fun x => (x.2, x.1) := by
  rw [zipIdx_map, Array.toList_map, hp]
  simp [List.map_map]
theorem Step.lit {P : Program} {C : Ctx} {o : Oper} {E : Env} {t n : Nat} {T e z by_ : Nat} {parts : Array (Nat × Operand)} {xs : List Operand} {pss : List (List PC)} {es : List D} {ss : List Nat} {d : D} (ho : o.op = .buildSlice T n parts) (hd : o.dst = some t) (ht : t < C.n)
    (hT : isElem P T e z by_ = true) (hp : parts.toList = xs.zipIdx.map fun x => (x.2, x.1)) (hn : xs.length = n) (hfl : Flats E xs pss) (hz : ∀ ps ∈ pss, ps.length = z) (hb : n * z ≤ 16777216) (hn63 : n ≤ 9223372036854775807) (hf : pss.flatten.all E.fine = true) (hm : Moved E pss.flatten es ss)
    (hr : (E.drops ss).noref' t = true) (hts : t ∉ ss) (hpin : ∀ x ∈ C.pin, x.1 ≠ t) (hs : d.isSl = true) (hw : d.wf) (hsz : d.size = n) (hde : d.flat = es) :
    Step P C o E ({ E.drops ss with rows := (t, (e, d)) :: (E.drops ss).rows }.set t (.one (.row t []))) :=
  .change hd ht fun M a w R => by
    obtain ⟨hc, hv⟩ := flats_ok R hfl hf hz
    obtain ⟨bx, hown, hbn, hbs⟩ := hm.own R hc
    obtain ⟨cs, hrun, hcs⟩ := run_buildSlice hT w (parts_list hp a.eval) (by simpa using hn) hv hb
    have R1 := R.weaken (Env.drops_le ss E)
    obtain ⟨M0, R0, g2⟩ := R1.newRow (r := t) (e := e) (d := d) (cs := cs) (b := bx) hr hpin hs hw (by rw [hsz]; exact hn63) (by rw [hcs, hde]; exact hown) hbn (fun k hk => by
      obtain ⟨s, hs, ho⟩ := hbs k hk
      exact .inr ⟨s, ho, by rw [Env.drops_row, if_pos hs]⟩)
    refine ⟨.slice (some ⟨w.heap.size, 0, none⟩) n n, _, M0, ?_, R0, fun T2 d2 _ => ?_⟩
    · unfold execOp
      rw [ho]
      simp only [Sem.run_bind, hrun, Result.andThen, Sem.run_pure]
    · simp only [PathTo]
      rw [g2, hsz]
theorem pure_d {E : Env} {pss : List PC} {xs : List D} (h : pss = xs.map PC.d) {M : Maps} {w : World} {vs : List Value} (hc : All2 (COk M E w) vs pss) : Rd w (fun k => M.own k = .froz) vs xs := by
  subst h
  refine Rd.of_get _ _ (by rw [hc.length]; simp) fun j v d hv hd => ?_
  obtain ⟨v', hv', hok⟩ := hc.get j (.d d) (by rw [List.getElem?_map, hd]; rfl)
  rw [hv] at hv'
  injection hv' with hv'
  subst hv'
  exact hok
theorem Step.lit_d {P : Program} {C : Ctx} {o : Oper} {E : Env} {t n : Nat} {T e z by_ : Nat} {parts : Array (Nat × Operand)} {xs : List Operand} {pss : List (List PC)} {ds : List D} {d : D} (ho : o.op = .buildSlice T n parts) (hd : o.dst = some t) (ht : t < C.n)
    (hT : isElem P T e z by_ = true) (hp : parts.toList = xs.zipIdx.map fun x => (x.2, x.1)) (hn : xs.length = n) (hfl : Flats E xs pss) (hz : ∀ ps ∈ pss, ps.length = z) (hb : n * z ≤ 16777216) (hn63 : n ≤ 9223372036854775807) (hps : pss.flatten = ds.map PC.d)
    (hs : d.isSl = true) (hw : d.wf) (hsz : d.size = n) (hde : d.flat = ds) :
    Step P C o E (E.set t (.one (.d d))) :=
  .change hd ht fun M a w R => by
    obtain ⟨hc, hv⟩ := flats_ok R hfl (by rw [hps, List.all_eq_true]; intro c hc; obtain ⟨x, _, rfl⟩ := List.mem_map.1 hc; rfl) hz
    have hrd := pure_d hps hc
    obtain ⟨cs, hrun, hcs⟩ := run_buildSlice hT w (parts_list hp a.eval) (by simpa using hn) hv hb
    have hbel : Below w.heap.size w (w.alloc (.cells cs e)) := (Below.refl _ w).alloc (Nat.le_refl _) _
    have R1 := R.grow hbel
    obtain ⟨M0, R0, g1, g2⟩ : ∃ M0 : Maps, RelM C M0 E a (w.alloc (.cells cs e)) ∧ M0.own w.heap.size = .froz ∧ ∀ k, M.own k = .froz → M0.own k = .froz :=
      ⟨_, R1.addFroz (fun k => k = w.heap.size) (fun k hk => own_new R (by omega)) (fun k hk => by have := R.ba; omega) (fun k hk => by subst hk; simp), by simp, fun k hk => by simp; exact fun _ => hk⟩
    refine ⟨.slice (some ⟨w.heap.size, 0, none⟩) n n, _, M0, ?_, R0, ?_⟩
    · unfold execOp
      rw [ho]
      simp only [Sem.run_bind, hrun, Result.andThen, Sem.run_pure]
    · have := Rd.sl (w := w.alloc (.cells cs e)) (Z := fun k => M0.own k = .froz) (A := some ⟨w.heap.size, 0, none⟩) (cap := n) (d := d) (cs := cs.toList) (vs := []) (ds := []) hs (by omega) (by omega) hw (fun _ => ⟨_, rfl, g1⟩) (fun j c hj => ⟨_, rfl, by rw [cell_at (heap_last w _)]; simpa using hj⟩)
        (by rw [hcs, hde]; exact hrd.keep (fun k hk => hbel.block k (R.lt k (by rw [hk]; simp))) g2) .nil
      rw [hsz] at this
      exact this
def PC.frz (r : Nat) (d : D) : PC → PC
  | .row r' p => if r = r' then .d (d.at_ p) else .row r' p
  | .rptr r' p i j => if r = r' then .eptr (d.at_ p) i j else .rptr r' p i j
  | c => c
def Env.freeze (E : Env) (r : Nat) (d : D) : Env := { E.mapc (PC.frz r d) with rows := E.rows.filter fun x => x.1 != r }
open Classical in
theorem RelM.freeze {C : Ctx} {M : Maps} {E : Env} {a : Act} {w : World} (R : RelM C M E a w) {r : Nat} {T : TypeId} {d : D} (hr : E.row r = some (T, d)) (hio : ∀ k, ¬ C.IX k) : ∃ M', RelM C M' (E.freeze r d) a w := by
  refine ⟨{ M with own := fun k => if M.own k = .row r then .froz else M.own k }, ?_⟩
  generalize hM : ({ M with own := fun k => if M.own k = .row r then .froz else M.own k } : Maps) = M'
  have hcase : ∀ k, (M.own k ≠ .row r ∧ M'.own k = M.own k) ∨ (M.own k = .row r ∧ M'.own k = .froz) := fun k => by
    by_cases e : M.own k = .row r
    · right; exact ⟨e, by subst hM; simp [e]⟩
    · left; exact ⟨e, by subst hM; simp [e]⟩
  have hkeep : ∀ k, M.own k ≠ .row r → M'.own k = M.own k := fun k h => by
    rcases hcase k with ⟨_, e⟩ | ⟨e, _⟩
    · exact e
    · exact absurd e h
  have hhdl : M'.hdl = M.hdl := by subst hM; rfl
  have hfp : M'.fp = M.fp := by subst hM; rfl
  have hblk : M'.blk = M.blk := by subst hM; rfl
  have hrow : ∀ x, (E.freeze r d).row x = if x = r then none else E.row x := fun x => lk_filter E.rows r x
  have hget : ∀ t, (E.freeze r d).get t = (E.get t).mapc (PC.frz r d) := fun t => Env.get_mapc E (PC.frz r d) rfl t
  have hbox : ∀ b, (E.freeze r d).box b = (E.box b).map fun x => (x.1, x.2.map (PC.frz r d)) := fun b => Env.box_mapc E (PC.frz r d) b
  have hZ : ∀ k, M.own k = .froz → M'.own k = .froz ∧ w.heap[k]? = w.heap[k]? := fun k h => ⟨by rw [hkeep k (by rw [h]; simp)]; exact h, rfl⟩
  have hrf : ∀ k, M.own k = .row r → M'.own k = .froz := fun k h => by
    rcases hcase k with ⟨e, _⟩ | ⟨_, e⟩
    · exact absurd h e
    · exact e
  have hc : ∀ (c : PC) v, COk M E w v c → COk M' (E.freeze r d) w v (c.frz r d) := fun c v h => by
    cases c with
    | row r' p =>
      simp only [PC.frz]
      split
      · rename_i e; subst e
        obtain ⟨b, ho, hb⟩ := row_at R hr (h T d hr)
        exact ho.rd fun k hk => hrf k (hb k hk)
      · rename_i e
        intro T2 d2 h2
        rw [hrow, if_neg (fun e' => e e'.symm)] at h2
        rw [hhdl]; exact h T2 d2 h2
    | rptr r' p i j =>
      simp only [PC.frz]
      split
      · rename_i e; subst e
        obtain ⟨g, cap, k1, k2, k3, k4⟩ := h T d hr
        obtain ⟨b, ho, hb⟩ := row_at R hr k1
        exact ⟨⟨g, 0, none⟩, cap, ho.rd fun k hk => hrf k (hb k hk), k2, k3, by rw [add_plain']; exact k4⟩
      · rename_i e
        intro T2 d2 h2
        rw [hrow, if_neg (fun e' => e e'.symm)] at h2
        rw [hhdl]; exact h T2 d2 h2
    | d x => exact Rd.keep h (fun k hk => (hZ k hk).2) (fun k hk => (hZ k hk).1)
    | nil => exact h
    | und => trivial
    | ptr b off => simp only [PC.frz, COk] at h ⊢; rw [hblk]; exact h
    | eptr x i j =>
      obtain ⟨ad, cap, h1, h2⟩ := h
      exact ⟨ad, cap, Rd.keep h1 (fun k hk => (hZ k hk).2) (fun k hk => (hZ k hk).1), h2⟩
  have hall : ∀ (vs : List Value) (ps : List PC), All2 (COk M E w) vs ps → All2 (COk M' (E.freeze r d) w) vs (ps.map (PC.frz r d)) := fun vs ps h => by
    induction h with
    | nil => exact .nil
    | cons h1 _ ih => exact .cons (hc _ _ h1) ih
  refine { tn := R.tn, df := R.df, fr := R.fr, ba := R.ba, lt := ?_, z0 := fun k hk => (hZ k (R.z0 k hk)).1, zb := ?_, wr := ?_, tm := ?_, rows := ?_, boxes := ?_, pin := ?_, bpin := fun b v hp hn T ps hb => (by rw [hbox] at hb; obtain ⟨⟨T2, ps2⟩, h1, h2⟩ := Option.map_eq_some_iff.1 hb; rw [hblk]; exact R.bpin b v hp hn T2 ps2 h1) }
  · intro k hk
    rcases hcase k with ⟨_, e⟩ | ⟨e, _⟩
    · exact R.lt k (by rw [← e]; exact hk)
    · exact R.lt k (by rw [e]; simp)
  · intro k hk
    rcases hcase k with ⟨_, e⟩ | ⟨e, _⟩
    · exact R.zb k (by rw [← e]; exact hk)
    · rcases R.wr k (by rw [e]; simp) (by rw [e]; simp) with h | h
      · exact absurd h (hio k)
      · exact .inr h
  · intro k hk hk'
    rcases hcase k with ⟨_, e⟩ | ⟨_, e⟩
    · exact R.wr k (by rw [← e]; exact hk) (by rw [← e]; exact hk')
    · exact absurd e hk'
  · intro t
    rw [hget]
    have h := R.tm t
    generalize E.get t = p at h
    cases p with
    | one c => exact hc c _ h
    | agg cs => obtain ⟨arr, e, h⟩ := h; exact ⟨arr, e, hall _ _ h⟩
    | tup vs =>
      obtain ⟨arr, e, h⟩ := h
      refine ⟨arr, e, ?_⟩
      clear e
      generalize arr.toList = l at h
      show All2 _ l (vs.map _)
      induction h with
      | nil => exact .nil
      | @cons v y l vs h1 _ ih =>
        refine .cons ?_ ih
        obtain ⟨b, cs⟩ := y
        match b, cs, h1 with
        | true, cs, ⟨arr', e', h'⟩ => exact ⟨arr', e', hall _ _ h'⟩
        | false, [c], h' => exact hc c _ h'
  · intro x Tx dx hx
    rw [hrow] at hx
    split at hx
    · exact absurd hx (by simp)
    · rename_i e
      obtain ⟨h1, h2, h3⟩ := R.rows x Tx dx hx
      rw [hhdl, hfp]
      exact ⟨h1, h2, fun k hk => by rw [hkeep k (by rw [h3 k hk]; intro h; injection h with h; exact e h)]; exact h3 k hk⟩
  · intro b Tb ps' hb
    rw [hbox] at hb
    obtain ⟨⟨T2, ps⟩, h1, h2⟩ := Option.map_eq_some_iff.1 hb
    injection h2 with e1 e2
    subst e1 e2
    obtain ⟨k1, cs, k2, k3⟩ := R.boxes b _ ps h1
    rw [hblk]
    exact ⟨by rw [hkeep _ (by rw [k1]; simp)]; exact k1, cs, k2, hall _ _ k3⟩
  · intro x v hxv Tx dx hx
    rw [hrow] at hx
    split at hx
    · exact absurd hx (by simp)
    · rw [hhdl]; exact R.pin x v hxv Tx dx hx
def D.sub : D → Nat → Nat → D
  | .ints k xs, lo, hi => .ints k ((xs.drop lo).take (hi - lo))
  | .bss xs, lo, hi => .bss ((xs.drop lo).take (hi - lo))
  | .sl z es, lo, hi => .sl z ((es.drop lo).take (hi - lo))
  | d, _, _ => d
theorem D.sub_spec {d : D} {lo hi : Nat} (hs : d.isSl = true) (hw : d.wf) (h1 : lo ≤ hi) (h2 : hi ≤ d.size) : (d.sub lo hi).isSl = true ∧ (d.sub lo hi).wf ∧ (d.sub lo hi).size = hi - lo ∧ (d.sub lo hi).z = d.z ∧ (d.sub lo hi).flat = (d.flat.drop (lo * d.z)).take ((hi - lo) * d.z) := by
  cases d <;> simp [D.isSl] at hs
  case ints k xs =>
    simp only [D.size] at h2
    exact ⟨rfl, trivial, by simp [D.sub, D.size]; omega, rfl, by simp [D.sub, D.flat, D.z, List.map_take, List.map_drop]⟩
  case bss xs =>
    simp only [D.size] at h2
    exact ⟨rfl, trivial, by simp [D.sub, D.size]; omega, rfl, by simp [D.sub, D.flat, D.z, List.map_take, List.map_drop]⟩
  case sl z es =>
    simp only [D.size] at h2
    have hw' : ∀ e ∈ es, e.length = z := hw
    have hd : ∀ e ∈ es.drop lo, e.length = z := fun e he => hw' e (List.mem_of_mem_drop he)
    refine ⟨rfl, fun e he => hw' e (List.mem_of_mem_drop (List.mem_of_mem_take he)), by simp [D.sub, D.size]; omega, rfl, ?_⟩
    simp only [D.sub, D.flat, D.z]
    rw [flatten_drop z es hw' lo, flatten_take z _ hd]
theorem run_slice {P : Program} {T e z : Nat} (hT : isSlice P T e z = true) (w : World) (A : Option Addr) (n cap : Nat) (lo hi : Option Value) (l h : Nat) (hlo : lo = none ∧ l = 0 ∨ ∃ k, lo = some (.int k l)) (hhi : hi = none ∧ h = n ∨ ∃ k, hi = some (.int k h)) (h1 : l ≤ h) (h2 : h ≤ n) (h3 : n ≤ cap) :
    (Instr.sliceAt T (.slice A n cap) lo hi none).run P w = .ok (sliced A l h cap z) w := by
  obtain ⟨hu, hz⟩ := isSlice_spec hT
  have hu' : P.underlying T = some (.slice (P.elem T)) := by rw [hu]; simp [Program.elem, hu]
  have he : P.elem T = e := by simp [Program.elem, hu]
  rw [run_sliceAt_slice (P := P) (w := w) T _ _ _ _ hu']
  rcases hlo with ⟨rfl, rfl⟩ | ⟨k, rfl⟩ <;> rcases hhi with ⟨rfl, rfl⟩ | ⟨k', rfl⟩
  · rw [run_slice_all (P := P) (w := w) (ht := hu'), he, run_size hz]; rfl
  · rw [run_slice_h (P := P) (w := w) (ht := hu') (kh := k') (h := (h : Int)) (h0 := by omega) (h2 := by omega), he, run_size hz]; simp [Result.andThen]
  · rw [run_slice_l (P := P) (w := w) (ht := hu') (kl := k) (l := (l : Int)) (h0 := by omega) (h1 := by omega), he, run_size hz]; simp [Result.andThen]
  · rw [run_slice_lh (P := P) (w := w) (ht := hu') (kl := k) (kh := k') (l := (l : Int)) (h := (h : Int)) (h0 := by omega) (h1 := by omega) (h2 := by omega), he, run_size hz]; simp [Result.andThen]
inductive Bnd (E : Env) : Option Operand → Nat → Nat → Prop
  | none (n : Nat) : Bnd E none n n
  | some {x : Operand} {k : IntKind} {i : Int} {df : Nat} : E.ev x = .one (.d (.int k i)) → 0 ≤ i → Bnd E (some x) df i.toNat
theorem Step.slice {P : Program} {C : Ctx} {o : Oper} {E : Env} {t : Nat} {T e z : Nat} {x : Operand} {lo hi : Option Operand} {d d' : D} {l h : Nat} (ho : o.op = .slice T x lo hi none) (hd : o.dst = some t) (ht : t < C.n)
    (hT : isSlice P T e z = true) (hx : E.ev x = .one (.d d)) (hs : d.isSl = true) (hz : d.z = z) (hlo : Bnd E lo 0 l) (hhi : Bnd E hi d.size h) (h1 : l ≤ h) (h2 : h ≤ d.size) (hd' : d.sub l h = d') : Step P C o E (E.set t (.one (.d d'))) :=
  .value hd ht fun M a w R => by
    have hr := ev_d R hx
    obtain ⟨A, cap, ys, k1, k2, k3, k4⟩ := rd_open hr hs
    obtain ⟨A', cap', k5, k6, k7⟩ := rd_form hr hs
    rw [k1] at k5
    injection k5 with e1 e2 e3
    subst e1 e3
    have hlo' : (lo.map a.eval) = none ∧ l = 0 ∨ ∃ k, (lo.map a.eval) = some (.int k l) := by
      cases hlo with
      | none => exact .inl ⟨rfl, rfl⟩
      | @some x k i df he h0 => exact .inr ⟨k, by rw [Option.map_some, ev_val R he rfl, Int.toNat_of_nonneg h0]⟩
    have hhi' : (hi.map a.eval) = none ∧ h = d.size ∨ ∃ k, (hi.map a.eval) = some (.int k h) := by
      cases hhi with
      | none => exact .inl ⟨rfl, rfl⟩
      | @some x k i df he h0 => exact .inr ⟨k, by rw [Option.map_some, ev_val R he rfl, Int.toNat_of_nonneg h0]⟩
    have hrun := run_slice hT w A d.size cap _ _ l h hlo' hhi' h1 h2 k7
    refine ⟨sliced A l h cap z, ?_, ?_⟩
    · unfold execOp
      rw [ho]
      simp only [k1, Option.map_none, Sem.run_bind, hrun, Result.andThen, Sem.run_pure]
    · obtain ⟨s1, s2, s3, s4, s5⟩ := D.sub_spec hs k4 h1 h2
      subst hd'
      unfold sliced
      have hcap : h - l ≤ cap - l := by omega
      have hcells : ∀ (A2 : Option Addr), (d.sub l h).size ≠ 0 → (A2 = A.map (·.add (l * z))) → Rd w (fun k => M.own k = .froz) [.slice A2 (h - l) (cap - l)] [d.sub l h] := fun A2 hne hA => by
        obtain ⟨ad, cap2, cs, j1, j2, j3, j4, j5⟩ := rd_some hr hs (by rw [s3] at hne; omega)
        rw [k1] at j1
        injection j1 with j1 _ _
        subst j1
        rw [← s3]
        refine .sl (cs := (cs.drop (l * z)).take ((h - l) * z)) s1 (by rw [s3]; omega) (by rw [s3]; omega) s2 (fun _ => ⟨ad.add (l * z), by rw [hA]; rfl, by rw [add_block]; exact j2⟩) (fun j c hj => ⟨ad.add (l * z), by rw [hA]; rfl, ?_⟩) ?_ .nil
        · rw [List.getElem?_take] at hj
          split at hj
          · rw [List.getElem?_drop] at hj
            rw [add_add']
            exact j3 _ _ hj
          · exact absurd hj (by simp)
        · rw [s5, hz]
          refine Rd.of_get _ _ (by simp [j4.length]) fun j v dd hv hdd => ?_
          rw [List.getElem?_take] at hv hdd
          split at hv
          · rename_i hjj
            rw [if_pos hjj] at hdd
            rw [List.getElem?_drop] at hv hdd
            obtain ⟨v', hv', hok⟩ := j4.get _ dd hdd
            rw [hv] at hv'
            injection hv' with hv'
            subst hv'
            exact hok
          · exact absurd hv (by simp)
      by_cases hne : (d.sub l h).size = 0
      · have e : h - l = (d.sub l h).size := s3.symm
        rw [e]
        refine .sl (cs := []) s1 (by omega) (by omega) s2 (fun h0 => absurd hne h0) (fun j c hj => by simp at hj) ?_ .nil
        have hf : (d.sub l h).flat = [] := List.eq_nil_of_length_eq_zero (by rw [D.flat_length s2 s1, hne, Nat.zero_mul])
        rw [hf]; exact .nil
      · rw [s3] at hne
        by_cases hc : cap = l
        · omega
        · rw [if_neg hc]
          exact hcells _ (by rw [s3]; exact hne) rfl
theorem Step.toStr {P : Program} {C : Ctx} {o : Oper} {E : Env} {t : Nat} {ts td e : Nat} {x : Operand} {c : PC} {xs : List Int} (ho : o.op = .convert ts td x) (hd : o.dst = some t) (ht : t < C.n)
    (hs : isSlice P ts e 1 = true) (he : P.underlying e = some (.int .u8)) (htd : P.underlying td = some .string) (hx : E.ev x = .one c) (hc : E.cont c = some (.ints .u8 xs)) : Step P C o E (E.set t (.one (.d (.str (strOfNums xs))))) :=
  .value hd ht fun M a w R => by
    have h := ev_ok R x
    rw [hx] at h
    have hu := (isSlice_spec hs).1
    have hopen : ∃ A cap ys, a.eval x = .slice A xs.length cap ∧ (∀ (j : Nat) c, ys[j]? = some c → ∃ ad, A = some ad ∧ w.cell? (ad.add j) = some c) ∧ Rd w (fun _ => True) ys (xs.map (D.int .u8)) := by
      cases c with
      | d y =>
        simp only [Env.cont] at hc
        split at hc
        · rename_i hsl; injection hc with hc; subst hc
          obtain ⟨A, cap, ys, k1, k2, k3, _⟩ := rd_open h hsl
          exact ⟨A, cap, ys, k1, k2, k3.keep (fun _ _ => rfl) fun _ _ => trivial⟩
        · exact absurd hc (by simp)
      | row r p =>
        simp only [Env.cont] at hc
        obtain ⟨⟨T, d'⟩, h1, h2⟩ := Option.bind_eq_some_iff.1 hc
        dsimp only at h2
        split at h2
        · rename_i hsl
          injection h2 with h2
          obtain ⟨b, hb, _⟩ := row_at R h1 (h T d' h1)
          rw [h2] at hb hsl
          obtain ⟨A, cap, ys, b', k1, k2, k3, _⟩ := own_open hb hsl
          exact ⟨A, cap, ys, k1, k2, k3.rd fun _ _ => trivial⟩
        · exact absurd h2 (by simp)
      | _ => simp [Env.cont] at hc
    obtain ⟨A, cap, ys, k1, k2, k3⟩ := hopen
    have hyl : ys.length = xs.length := by rw [k3.length]; simp
    have hcell : ∀ j, j < xs.length → ys[j]? = some (.int .u8 (xs.getD j 0)) := fun j hj => by
      obtain ⟨v, hv, hok⟩ := k3.get j (.int .u8 (xs.getD j 0)) (by simp [List.getElem?_eq_getElem hj, List.getD_eq_getElem?_getD])
      rw [hv, rd_val hok rfl]
    refine ⟨.string (strOfNums xs), ?_, ok_val M E w rfl⟩
    unfold execOp
    rw [ho]
    have hrun : (convert ts td (a.eval x)).run P w = .ok (.string (strOfNums xs)) w := by
      rw [k1]
      cases hA : A with
      | none =>
        have : xs = [] := by
          cases hxs : xs with
          | nil => rfl
          | cons y l =>
            obtain ⟨ad, h1, _⟩ := k2 0 _ (hcell 0 (by rw [hxs]; simp))
            rw [hA] at h1; cases h1
        subst this
        exact run_convert_bytes_nil w ts e hu he 0 cap td htd
      | some ad =>
        subst hA
        cases hxs : xs with
        | nil => 
          simp [convert, Sem.run_bind, run_underlying hu, run_underlying htd, run_underlying he, Conv.bytesToString, loadCells, loadCellsFrom, strOfNums, Result.andThen]
          try rfl
        | cons y l =>
          have hsp : ad.spot = none := by
            obtain ⟨ad', e1, e2⟩ := k2 0 _ (hcell 0 (by rw [hxs]; simp))
            injection e1 with e1
            subst e1
            have e3 : ad.add 0 = ad := by unfold Addr.add; simp
            rw [e3] at e2
            unfold World.cell? at e2
            split at e2
            · cases hs' : ad.spot with
              | none => rfl
              | some s => rw [hs'] at e2; simp at e2
            · exact absurd e2 (by simp)
          obtain ⟨b, off, sp⟩ := ad
          simp only at hsp
          subst hsp
          rw [← hxs]
          refine run_convert_bytes_arg w ts e hu he b off xs.length cap xs rfl (fun i hi => ?_) td htd
          obtain ⟨ad', e1, e2⟩ := k2 i _ (hcell i hi)
          injection e1 with e1
          subst e1
          have e3 : (⟨b, off, none⟩ : Addr).add i = ⟨b, off + i, none⟩ := by unfold Addr.add; split <;> simp_all
          rw [e3] at e2
          exact e2
    simp only [Sem.run_bind, hrun, Result.andThen, Sem.run_pure]
inductive A where
  | one (d : D)
  | agg (ds : List D)
def AOk' (w : World) (Z : Nat → Prop) (v : Value) : A → Prop
  | .one d => Rd w Z [v] [d]
  | .agg ds => ∃ arr : Array Value, v = .agg arr ∧ Rd w Z arr.toList ds
inductive RC where
  | rd (d : D)
  | own (T : TypeId) (d : D)
abbrev Res := List (Bool × List RC)
def RCOk (w : World) (Z : Nat → Prop) (O : Nat → Tag) (j : Nat) (v : Value) : RC → Prop
  | .rd d => Rd w (fun k => Z k ∨ O k = .froz) [v] [d]
  | .own T d => ∃ fp, RowOk w T v d fp ∧ fp.Nodup ∧ ∀ k ∈ fp, O k = .row j
def RCs (w : World) (Z : Nat → Prop) (O : Nat → Tag) : Nat → List Value → List RC → Prop
  | _, [], [] => True
  | j, v :: vs, rc :: rcs => RCOk w Z O j v rc ∧ RCs w Z O (j + 1) vs rcs
  | _, _, _ => False
def Packs (v : Value) (x : Bool × List Value) : Prop := if x.1 then v = .agg x.2.toArray else x.2 = [v]
def shape {α : Type} (l : List (Bool × List α)) : List (Bool × Nat) := l.map fun x => (x.1, x.2.length)
def packed : List Value → Value
  | [v] => v
  | vs => .tuple vs.toArray
def Returns (w : World) (Z : Nat → Prop) (res : Res) (e : Ending) (w' : World) : Prop :=
  Below w.heap.size w w' ∧ ∃ (vs : List Value) (bcs : List (Bool × List Value)) (O : Nat → Tag), e = .returned (packed vs) ∧ (∀ k, O k ≠ .none → w.heap.size ≤ k ∧ k < w'.heap.size) ∧ All2 Packs vs bcs ∧ shape bcs = shape res ∧ RCs w' Z O 0 (bcs.flatMap (·.2)) (res.flatMap (·.2))
def RO (P : Program) (f : FuncId) (args : List A) (res : Res) : Prop :=
  ∀ (w : World) (Z : Nat → Prop) (vals : List Value), (∀ k, Z k → k < w.heap.size) → All2 (AOk' w Z) vals args → Calls P f vals.toArray w (Returns w Z res)
def rid (t j : Nat) : Nat := t + 1000 * (j + 1)
def RC.pc (t j : Nat) : RC → PC
  | .rd d => .d d
  | .own _ _ => .row (rid t j) []
def pcs (t : Nat) : Nat → List RC → List PC
  | _, [] => []
  | j, rc :: rcs => rc.pc t j :: pcs t (j + 1) rcs
def Env.addRows (E : Env) (t : Nat) : Nat → List RC → Env
  | _, [] => E
  | j, .rd _ :: rcs => E.addRows t (j + 1) rcs
  | j, .own T d :: rcs => ({ E with rows := (rid t j, (T, d)) :: E.rows } : Env).addRows t (j + 1) rcs
def respvs (t : Nat) : Nat → Res → List (Bool × List PC)
  | _, [] => []
  | j, (b, rcs) :: rest => (b, pcs t j rcs) :: respvs t (j + rcs.length) rest
theorem pcs_append (t : Nat) : ∀ (a b : List RC) (j : Nat), pcs t j (a ++ b) = pcs t j a ++ pcs t (j + a.length) b
  | [], b, j => rfl
  | x :: a, b, j => by simp only [List.cons_append, pcs, pcs_append t a b (j + 1), List.length_cons]; rw [Nat.add_assoc, Nat.add_comm 1]
theorem respvs_flat (t : Nat) : ∀ (res : Res) (j : Nat), (respvs t j res).flatMap (·.2) = pcs t j (res.flatMap (·.2))
  | [], j => rfl
  | (b, rcs) :: res, j => by simp only [respvs, List.flatMap_cons, respvs_flat t res, pcs_append]
theorem pcs_length (t : Nat) : ∀ (a : List RC) (j : Nat), (pcs t j a).length = a.length
  | [], j => rfl
  | x :: a, j => by simp [pcs, pcs_length t a]
theorem respvs_shape (t : Nat) : ∀ (res : Res) (j : Nat), shape (respvs t j res) = shape res
  | [], j => rfl
  | (b, rcs) :: res, j => by
    have := respvs_shape t res (j + rcs.length)
    simp only [shape] at this ⊢
    simp only [respvs, List.map_cons, pcs_length, this]
theorem All2.split {α β : Type} {R : α → β → Prop} {as as' : List α} {bs bs' : List β} (hl : as.length = bs.length) (h : All2 R (as ++ as') (bs ++ bs')) : All2 R as bs ∧ All2 R as' bs' := by
  induction bs generalizing as with
  | nil => have : as = [] := List.eq_nil_of_length_eq_zero hl; subst this; exact ⟨.nil, h⟩
  | cons b bs ih =>
    cases as with
    | nil => simp at hl
    | cons a as =>
      rw [List.cons_append, List.cons_append] at h
      cases h with
      | cons h1 h2 => obtain ⟨k1, k2⟩ := ih (by simpa using hl) h2; exact ⟨.cons h1 k1, k2⟩
theorem unflat {R : Value → PC → Prop} : ∀ (bcs : List (Bool × List Value)) (pss : List (Bool × List PC)), shape bcs = shape pss → All2 R (bcs.flatMap (·.2)) (pss.flatMap (·.2)) → All2 (fun x y => x.1 = y.1 ∧ All2 R x.2 y.2) bcs pss
  | [], [], _, _ => .nil
  | [], _ :: _, h, _ => by simp [shape] at h
  | _ :: _, [], h, _ => by simp [shape] at h
  | (b, cs) :: bcs, (b', ps) :: pss, h, H => by
    simp only [shape, List.map_cons, List.cons.injEq, Prod.mk.injEq] at h
    simp only [List.flatMap_cons] at H
    obtain ⟨h1, h2⟩ := H.split h.1.2
    exact .cons ⟨h.1.1, h1⟩ (unflat bcs pss h.2 h2)
def Env.freshRows (E : Env) (t : Nat) : Nat → List RC → Bool
  | _, [] => true
  | j, .rd _ :: rcs => E.freshRows t (j + 1) rcs
  | j, .own _ _ :: rcs => E.noref' (rid t j) && E.freshRows t (j + 1) rcs
theorem rid_inj {t i j : Nat} (h : rid t i = rid t j) : i = j := by simp only [rid] at h; omega
theorem noref_more {E : Env} {r s : Nat} {x : TypeId × D} (h : E.noref' r = true) (hne : s ≠ r) : ({ E with rows := (s, x) :: E.rows } : Env).noref' r = true := by
  simp only [Env.noref', lk] at h ⊢
  rw [if_neg hne]
  exact h
theorem fresh_more {E : Env} {t i : Nat} {x : TypeId × D} : ∀ (rcs : List RC) (j : Nat), i < j → E.freshRows t j rcs = true → ({ E with rows := (rid t i, x) :: E.rows } : Env).freshRows t j rcs = true
  | [], j, _, h => rfl
  | .rd _ :: rcs, j, hj, h => fresh_more rcs (j + 1) (by omega) h
  | .own _ _ :: rcs, j, hj, h => by
    simp only [Env.freshRows, Bool.and_eq_true] at h ⊢
    exact ⟨noref_more h.1 fun e => by have := rid_inj e; omega, fresh_more rcs (j + 1) (by omega) h.2⟩
theorem RelM.addCells {C : Ctx} {a : Act} {w : World} {Z : Nat → Prop} {O : Nat → Tag} {t : Nat} (hpin : ∀ x ∈ C.pin, x.1 < 1000) : ∀ (rcs : List RC) (vs : List Value) (j : Nat) (M : Maps) (E : Env), RelM C M E a w → RCs w Z O j vs rcs → (∀ k, Z k ∨ O k = .froz → M.own k = .froz) →
    (∀ k i, O k = .row i → j ≤ i → M.own k = .none ∧ (C.IX k ∨ C.base ≤ k)) → E.freshRows t j rcs = true →
    ∃ M', RelM C M' (E.addRows t j rcs) a w ∧ All2 (COk M' (E.addRows t j rcs) w) vs (pcs t j rcs) ∧ (∀ r, (E.row r).isSome = true → M'.hdl r = M.hdl r ∧ (E.addRows t j rcs).row r = E.row r) ∧ (∀ k, M.own k = .froz → M'.own k = .froz) ∧ M'.blk = M.blk
  | [], [], j, M, E, R, _, _, _, _ => ⟨M, R, .nil, fun r h => ⟨rfl, rfl⟩, fun k h => h, rfl⟩
  | [], _ :: _, _, _, _, _, h, _, _, _ => h.elim
  | _ :: _, [], _, _, _, _, h, _, _, _ => h.elim
  | .rd d :: rcs, v :: vs, j, M, E, R, h, hZ, hO, hf => by
    obtain ⟨M', R', h1, h2, h3, h4⟩ := RelM.addCells hpin rcs vs (j + 1) M E R h.2 hZ (fun k i ho hi => hO k i ho (by omega)) hf
    refine ⟨M', R', .cons ?_ h1, h2, h3, h4⟩
    exact Rd.keep (h.1 : Rd w _ [v] [d]) (fun _ _ => rfl) fun k hk => h3 k (hZ k hk)
  | .own T d :: rcs, v :: vs, j, M, E, R, h, hZ, hO, hf => by
    obtain ⟨⟨fp, k1, k2, k3⟩, hrest⟩ := h
    simp only [Env.freshRows, Bool.and_eq_true] at hf
    have hpin' : ∀ x ∈ C.pin, x.1 ≠ rid t j := fun x hx e => by have := hpin x hx; simp only [rid] at e; omega
    obtain ⟨M1, R1, g1, g2, g3, g5, g4⟩ : ∃ M1 : Maps, RelM C M1 { E with rows := (rid t j, (T, d)) :: E.rows } a w ∧ M1.hdl (rid t j) = v ∧ (∀ r, r ≠ rid t j → M1.hdl r = M.hdl r) ∧ (∀ k, M.own k = .froz → M1.own k = .froz) ∧ M1.blk = M.blk ∧ (∀ k, k ∉ fp → M1.own k = M.own k) :=
      ⟨_, R.addRow hf.1 hpin' k1 k2 (fun k hk => .inl (hO k j (k3 k hk) (Nat.le_refl _))), by simp, fun r hr => by simp [hr], fun k hk => by
        simp only
        rw [if_neg (fun hm => by rw [(hO k j (k3 k hm) (Nat.le_refl _)).1] at hk; cases hk)]
        exact hk, rfl, fun k hk => by simp [hk]⟩
    have hE0 : E.row (rid t j) = none := by
      have := hf.1
      simp only [Env.noref', Bool.and_eq_true, Option.isNone_iff_eq_none] at this
      exact this.2
    obtain ⟨M', R', h1, h2, h3, h4⟩ := RelM.addCells hpin rcs vs (j + 1) M1 _ R1 hrest (fun k hk => g3 k (hZ k hk)) (fun k i ho hi => by
      obtain ⟨p1, p2⟩ := hO k i ho (by omega)
      refine ⟨?_, p2⟩
      rw [g4 k fun hm => by have := k3 k hm; rw [ho] at this; injection this with this; omega]
      exact p1) (fresh_more rcs (j + 1) (by omega) hf.2)
    have hlive : (({ E with rows := (rid t j, (T, d)) :: E.rows } : Env).row (rid t j)).isSome = true := by simp [Env.row, lk]
    refine ⟨M', R', .cons ?_ h1, fun r hr => ?_, fun k hk => h3 k (g3 k hk), h4.trans g5⟩
    · intro T2 d2 hr2
      simp only [PathTo]
      rw [(h2 _ hlive).1, g1]
    · have hne : r ≠ rid t j := by rintro rfl; rw [hE0] at hr; exact absurd hr (by simp)
      have hrow : ({ E with rows := (rid t j, (T, d)) :: E.rows } : Env).row r = E.row r := by simp only [Env.row, lk]; rw [if_neg (fun e => hne e.symm)]
      obtain ⟨p1, p2⟩ := h2 r (by rw [hrow]; exact hr)
      exact ⟨p1.trans (g2 r hne), p2.trans hrow⟩
inductive ArgC (E : Env) (f : Bool) : PC → D → Prop
  | d (x : D) : ArgC E f (.d x) x
  | nil {x : D} : x.isSl = true → x.size = 0 → x.wf → ArgC E f .nil x
  | row {r : Nat} {p : List (Nat × Nat)} {T : TypeId} {d e : D} : f = false → E.row r = some (T, d) → d.at_ p = e → e.isSl = true → ArgC E f (.row r p) e
inductive ArgP (E : Env) (f : Bool) : PV → A → Prop
  | one {c : PC} {d : D} : ArgC E f c d → ArgP E f (.one c) (.one d)
  | agg {cs : List PC} {ds : List D} : All2 (ArgC E f) cs ds → ArgP E f (.agg cs) (.agg ds)
theorem argC_ok {C : Ctx} {M : Maps} {E : Env} {a : Act} {w : World} (R : RelM C M E a w) {f : Bool} {c : PC} {d : D} (h : ArgC E f c d) {v : Value} (hc : COk M E w v c) : Rd w (fun k => M.own k = .froz ∨ (f = false ∧ ∃ r, M.own k = .row r)) [v] [d] := by
  cases h with
  | d => exact Rd.keep hc (fun _ _ => rfl) fun k hk => .inl hk
  | nil h1 h2 h3 =>
    have e : v = .slice none 0 0 := hc
    subst e
    exact (Own.empty (w := w) h1 h2 h3 .nil).rd (by simp)
  | @row r p T d0 _ hf h1 h2 h3 =>
    subst h2
    obtain ⟨b, ho, hb⟩ := row_at R h1 (hc T d0 h1)
    exact ho.rd fun k hk => .inr ⟨hf, r, hb k hk⟩
theorem argP_ok {C : Ctx} {M : Maps} {E : Env} {a : Act} {w : World} (R : RelM C M E a w) {f : Bool} {p : PV} {x : A} (h : ArgP E f p x) {v : Value} (hc : POk M E w v p) : AOk' w (fun k => M.own k = .froz ∨ (f = false ∧ ∃ r, M.own k = .row r)) v x := by
  cases h with
  | one h => exact argC_ok R h hc
  | @agg cs ds h =>
    obtain ⟨arr, rfl, hc⟩ := hc
    refine ⟨arr, rfl, ?_⟩
    generalize arr.toList = l at hc
    induction h generalizing l with
    | nil => cases hc; exact .nil
    | cons h1 _ ih =>
      cases hc with
      | cons k1 k2 => exact Rd.append (argC_ok R h1 k1) (ih _ k2)
def isFn (P : Program) (f : FuncId) : Bool := match P.funcs[f]? with
  | some fn => !(fn.name == "runtime.NumGoroutine") && fn.body.isSome
  | none => false
theorem run_callFn {P : Program} {f : FuncId} (h : isFn P f = true) (args : Array Value) (w : World) : (callFunc f args).run P w = .ok (.enter f args) w := by
  unfold isFn at h
  split at h
  · rename_i fn hfn
    simp only [Bool.and_eq_true, Bool.not_eq_true', Option.isSome_iff_ne_none] at h
    obtain ⟨h1, h2⟩ := h
    cases hb : fn.body with
    | none => exact absurd hb h2
    | some c =>
      unfold callFunc
      have h1' : ¬ fn.name = "runtime.NumGoroutine" := by simpa using h1
      simp [Sem.run_bind, hfn, h1', hb, Result.andThen]
  · exact absurd h (by simp)
def resScal (res : Res) : Bool := (res.flatMap (·.2)).all fun rc => match rc with | .rd d => d.val.isSome | .own .. => true
theorem rcs_scal {w : World} {Z Z' : Nat → Prop} {O : Nat → Tag} : ∀ (rcs : List RC) (vs : List Value) (j : Nat), rcs.all (fun rc => match rc with | .rd d => d.val.isSome | .own .. => true) = true → RCs w Z O j vs rcs → RCs w Z' O j vs rcs
  | [], [], j, _, h => h
  | [], _ :: _, _, _, h => h.elim
  | _ :: _, [], _, _, h => h.elim
  | .rd d :: rcs, v :: vs, j, hs, h => by
    simp only [List.all_cons, Bool.and_eq_true] at hs
    obtain ⟨u, hu⟩ := Option.isSome_iff_exists.1 hs.1
    refine ⟨?_, rcs_scal rcs vs (j + 1) hs.2 h.2⟩
    have := rd_val (h.1 : Rd w _ [v] [d]) hu
    subst this
    exact Rd.val hu .nil
  | .own T d :: rcs, v :: vs, j, hs, h => by
    simp only [List.all_cons, Bool.and_eq_true] at hs
    exact ⟨h.1, rcs_scal rcs vs (j + 1) hs.2 h.2⟩
theorem rcs_mono {w : World} {Z Z' : Nat → Prop} {O : Nat → Tag} (hz : ∀ k, Z k → Z' k) : ∀ (rcs : List RC) (vs : List Value) (j : Nat), RCs w Z O j vs rcs → RCs w Z' O j vs rcs
  | [], [], j, h => h
  | [], _ :: _, _, h => h.elim
  | _ :: _, [], _, h => h.elim
  | .rd d :: rcs, v :: vs, j, h => ⟨Rd.keep (h.1 : Rd w _ [v] [d]) (fun _ _ => rfl) fun k hk => hk.imp (hz k) id, rcs_mono hz rcs vs (j + 1) h.2⟩
  | .own T d :: rcs, v :: vs, j, h => ⟨h.1, rcs_mono hz rcs vs (j + 1) h.2⟩
def PV.ofRes : List (Bool × List PC) → PV
  | [(false, [c])] => .one c
  | [(true, cs)] => .agg cs
  | vs => .tup vs
theorem Step.call {P : Program} {C : Ctx} {o : Oper} {E : Env} {t f : Nat} {ats : Array TypeId} {g : Operand} {xs : List Operand} {ps : List PV} {args : List A} {res : Res} (fz : Bool) (ho : o.op = .call { callee := .value g, args := xs.toArray, argTypes := ats }) (hd : o.dst = some t) (ht : t < C.n)
    (hg : E.ev g = .one (.d (.fn f))) (hfn : isFn P f = true) (hev : xs.map E.ev = ps) (hargs : All2 (ArgP E fz) ps args) (hro : RO P f args res) (hsc : fz = true ∨ resScal res = true) (hfr : E.freshRows t 0 (res.flatMap (·.2)) = true) (hpin : ∀ x ∈ C.pin, x.1 < 1000) (hsh : res.all (fun x => x.1 || x.2.length == 1) = true) :
    Step P C o E ((E.addRows t 0 (res.flatMap (·.2))).set t (.ofRes (respvs t 0 res))) := by
  intro a w ⟨M, R⟩ K Q hK
  have hrun : (execOp a.eval o).run P w = .ok (.enter f (xs.map a.eval).toArray) w := by
    unfold execOp
    rw [ho]
    have hgv : a.eval g = .func (.func f) #[] #[] := ev_val R hg rfl
    simp only [resolve, hgv, Deferred.ofValue, Sem.run_bind, Sem.run_pure, Result.andThen, invoke, List.map_toArray]
    simp [run_callFn hfn]
  unfold Oper.wp
  rw [hrun, Oper.upon_enter]
  have hall : All2 (AOk' w (fun k => M.own k = .froz ∨ (fz = false ∧ ∃ r, M.own k = .row r))) (xs.map a.eval) args := by
    subst hev
    clear hrun hfr hro ho
    induction xs generalizing args with
    | nil => cases hargs; exact .nil
    | cons x xs ih =>
      cases hargs with
      | cons h1 h2 => exact .cons (argP_ok R h1 (ev_ok R x)) (ih h2)
  refine (hro w _ (xs.map a.eval) (fun k hk => ?_) hall).mono fun e w' hret => ?_
  · rcases hk with h | ⟨_, r, h⟩
    · exact R.lt k (by rw [h]; simp)
    · exact R.lt k (by rw [h]; simp)
  · obtain ⟨hbel, vs, bcs, O, rfl, hOb, hpk, hshape, hrcs⟩ := hret
    have R1 := R.grow hbel
    obtain ⟨M1, R2, q1, q2, q3⟩ : ∃ M1 : Maps, RelM C M1 E a w' ∧ (∀ k, M.own k = .froz ∨ O k = .froz → M1.own k = .froz) ∧ (∀ k i, O k = .row i → M1.own k = .none) ∧ (∀ k, w.heap.size ≤ k → C.base ≤ k) := by
      have hnew : ∀ k, O k ≠ .none → M.own k = .none := fun k hk => own_new R (hOb k hk).1
      refine ⟨_, R1.addFroz (fun k => O k = .froz) (fun k hk => hnew k (by rw [hk]; simp)) (fun k hk => by have := (hOb k (by rw [hk]; simp)).1; have := R.ba; omega) (fun k hk => (hOb k (by rw [hk]; simp)).2), fun k hk => ?_, fun k i hk => ?_, fun k hk => by have := R.ba; omega⟩
      · simp only
        split
        · rfl
        · rename_i hn; rcases hk with h | h
          · exact h
          · exact absurd h hn
      · simp only
        rw [if_neg (by rw [hk]; simp)]
        exact hnew k (by rw [hk]; simp)
    have hrcs' : RCs w' (fun k => M.own k = .froz) O 0 (bcs.flatMap (·.2)) (res.flatMap (·.2)) := by
      rcases hsc with h | h
      · exact rcs_mono (fun k hk => by
          rcases hk with hk | ⟨hk, _⟩
          · exact hk
          · rw [h] at hk; cases hk) _ _ _ hrcs
      · exact rcs_scal _ _ _ h hrcs
    obtain ⟨M', R', h1, _, _⟩ := RelM.addCells (t := t) hpin _ _ 0 M1 E R2 hrcs' q1 (fun k i ho _ => ⟨q2 k i ho, .inr (q3 k (hOb k (by rw [ho]; simp)).1)⟩) hfr
    refine hK _ _ ⟨M', ?_⟩
    rw [hd]
    refine R'.put ht ?_
    -- the value
    rw [← respvs_flat] at h1
    have h2 := unflat _ _ (by rw [hshape, respvs_shape]) h1
    have hlen : ∀ x ∈ respvs t 0 res, x.1 = true ∨ x.2.length = 1 := by
      intro x hx
      have : (x.1, x.2.length) ∈ shape res := by rw [← respvs_shape t res 0]; exact List.mem_map.2 ⟨x, hx, rfl⟩
      obtain ⟨y, hy, e⟩ := List.mem_map.1 this
      rw [List.all_eq_true] at hsh
      have := hsh y hy
      injection e with e1 e2
      simp only [Bool.or_eq_true, beq_iff_eq] at this
      rw [← e1, ← e2]; exact this
    have h3 : All2 (TOk M' (E.addRows t 0 (res.flatMap (·.2))) w') vs (respvs t 0 res) := by
      clear hrcs hrcs' hshape h1 hK hfr hsh
      generalize respvs t 0 res = pss at h2 hlen ⊢
      induction hpk generalizing pss with
      | nil => cases h2; exact .nil
      | @cons v x vs bcs p1 _ ih =>
        cases h2 with
        | @cons _ y _ pss k1 k2 =>
          refine .cons ?_ (ih _ k2 fun z hz => hlen z (by simp [hz]))
          obtain ⟨b, cs⟩ := x
          obtain ⟨b', ps⟩ := y
          obtain ⟨rfl, k1⟩ := k1
          cases b with
          | true => exact ⟨cs.toArray, by simpa [Packs] using p1, by simpa using k1⟩
          | false =>
            have e : cs = [v] := by simpa [Packs] using p1
            subst e
            cases k1 with
            | cons j1 j2 => cases j2; exact j1
    clear h1 h2 hrcs hrcs' hshape hfr hsh hK hpk
    generalize respvs t 0 res = pss at h3 hlen ⊢
    cases h3 with
    | nil => exact ⟨#[], rfl, .nil⟩
    | @cons v y vs pss k1 k2 =>
      cases k2 with
      | nil =>
        obtain ⟨b, ps⟩ := y
        cases b with
        | true => exact k1
        | false =>
          match ps, k1 with
          | [c], k1 => exact k1
      | @cons v2 y2 vs pss k2 k3 =>
        have e : PV.ofRes (y :: y2 :: pss) = .tup (y :: y2 :: pss) := by
          obtain ⟨b, ps⟩ := y
          cases b <;> simp [PV.ofRes]
        rw [e]
        exact ⟨(v :: v2 :: vs).toArray, rfl, .cons k1 (.cons k2 k3)⟩
def T (P : Program) (C : Ctx) (c : Code) (E : Env) (Q : Exit → Env → Prop) : Prop := ∀ a w, Rel C E a w → c.wp P (fun e a' w' => ∃ E', Q e E' ∧ Rel C E' a' w') a w
def TL (P : Program) (C : Ctx) (ops : Array Oper) (l : List Oper) (E : Env) (Q : Env → Prop) : Prop :=
  ∀ a w, Rel C E a w → ∀ QQ : Exit → Act → World → Prop, (∀ a' w' E', Q E' → Rel C E' a' w' → QQ .normal a' w') → wpList P ops QQ l a w
theorem TL.nil {P : Program} {C : Ctx} {ops : Array Oper} {E : Env} {Q : Env → Prop} (h : Q E) : TL P C ops [] E Q := fun a w R QQ hQ => hQ a w E h R
theorem TL.cons {P : Program} {C : Ctx} {ops : Array Oper} {o : Oper} {l : List Oper} {E E1 : Env} {Q : Env → Prop} (hg : o.guard = none) (hs : Step P C o E E1) (h : TL P C ops l E1 Q) : TL P C ops (o :: l) E Q := by
  intro a w R QQ hQ
  refine wpList_plain hg fun K hK => hs a w R K QQ fun a' w' R' => hK a' w' (h a' w' R' QQ hQ)
theorem T.region {P : Program} {C : Ctx} {id : Nat} {l : List Oper} {E : Env} {Q : Exit → Env → Prop} (h : TL P C l.toArray l E (Q .normal)) : T P C (.region id l.toArray false) E Q := by
  intro a w R
  exact wp_region_lit (h a w R _ fun a' w' E' hq R' => ⟨E', hq, R'⟩)
theorem T.weaken {P : Program} {C : Ctx} {c : Code} {E E' : Env} {Q : Exit → Env → Prop} (hl : E'.le E) (h : T P C c E' Q) : T P C c E Q := fun a w R => h a w (R.weaken hl)
theorem TL.weaken {P : Program} {C : Ctx} {ops : Array Oper} {l : List Oper} {E E' : Env} {Q : Env → Prop} (hl : E'.le E) (h : TL P C ops l E' Q) : TL P C ops l E Q := fun a w R => h a w (R.weaken hl)
theorem TL.freeze {P : Program} {C : Ctx} {ops : Array Oper} {l : List Oper} {E : Env} {r : Nat} {Ty : TypeId} {d : D} {Q : Env → Prop} (hr : E.row r = some (Ty, d)) (hio : ∀ k, ¬ C.IX k) (h : TL P C ops l (E.freeze r d) Q) : TL P C ops l E Q := fun a w ⟨M, R⟩ => by
  obtain ⟨M', R'⟩ := R.freeze hr hio
  exact h a w ⟨M', R'⟩
theorem T.skip {P : Program} {C : Ctx} {E : Env} {Q : Exit → Env → Prop} (h : Q .normal E) : T P C .skip E Q := fun a w R => wp_skip ⟨E, h, R⟩
theorem T.ret {P : Program} {C : Ctx} {E : Env} {Q : Exit → Env → Prop} (h : Q .ret E) : T P C .ret E Q := fun a w R => wp_ret ⟨E, h, R⟩
theorem T.exit {P : Program} {C : Ctx} {E : Env} {id : Nat} {Q : Exit → Env → Prop} (h : Q (.exit id) E) : T P C (.exit id) E Q := fun a w R => wp_exit ⟨E, h, R⟩
def QThen (Q1 : Env → Prop) (Q : Exit → Env → Prop) : Exit → Env → Prop
  | .normal, E => Q1 E
  | e, E => Q e E
theorem T.seq {P : Program} {C : Ctx} {c d : Code} {E : Env} {Q : Exit → Env → Prop} (h : T P C c E (QThen (fun E' => T P C d E' Q) Q)) : T P C (.seq c d) E Q := by
  intro a w R
  refine wp_seq (wp_mono (h a w R) fun e a' w' ⟨E', hq, R'⟩ => ?_)
  cases e with
  | normal => exact hq a' w' R'
  | _ => exact ⟨E', hq, R'⟩
theorem T.cond {P : Program} {C : Ctx} {x : Operand} {c d : Code} {E : Env} {Q : Exit → Env → Prop} {b : Bool} (hx : E.ev x = .one (.d (.bool b))) (h1 : b = true → T P C c E Q) (h2 : b = false → T P C d E Q) : T P C (.cond x c d) E Q := by
  intro a w R
  obtain ⟨M, R0⟩ := R
  exact wp_cond_split (ev_val R0 hx rfl) (fun h => h1 h a w ⟨M, R0⟩) (fun h => h2 h a w ⟨M, R0⟩)
def QBlock (id : Nat) (Q : Exit → Env → Prop) : Exit → Env → Prop
  | .exit id', E => if id' = id then Q .normal E else Q (.exit id') E
  | e, E => Q e E
theorem T.block {P : Program} {C : Ctx} {id : Nat} {c : Code} {E : Env} {Q : Exit → Env → Prop} (h : T P C c E (QBlock id Q)) : T P C (.block id c) E Q := by
  intro a w R
  refine wp_block (wp_mono (h a w R) fun e a' w' ⟨E', hq, R'⟩ => ?_)
  cases e with
  | exit id' =>
    simp only [QBlock] at hq
    simp only [Exit.inBlock]
    split at hq
    · rename_i e; rw [if_pos e]; exact ⟨E', hq, R'⟩
    · rename_i e; rw [if_neg e]; exact ⟨E', hq, R'⟩
  | _ => exact ⟨E', hq, R'⟩
theorem T.loop {P : Program} {C : Ctx} {c : Code} {E : Env} {Q : Exit → Env → Prop} {ι : Type} (I : ι → Env) (H : ι → Prop) (μ : ι → Nat) (i0 : ι) (h0 : (I i0).le E) (hH : H i0)
    (h : ∀ i, H i → T P C c (I i) (QThen (fun E' => ∃ j, H j ∧ μ j < μ i ∧ (I j).le E') Q)) : T P C (.loop c) E Q := by
  intro a w R
  have key : ∀ n i, μ i = n → H i → ∀ a w, Rel C (I i) a w → ∀ (b : Frame) (k : List Item) (cs : List Frame), ∃ e a' w', (∃ E', Q e E' ∧ Rel C E' a' w') ∧ Arrives P (lone (b.at a (.code c :: .inLoop c :: k)) cs w) b k cs e a' w' := by
    intro n
    induction n using Nat.strongRecOn with
    | _ n ih =>
      intro i hi hHi a w R b k cs
      obtain ⟨e, a1, w1, hq, harr⟩ := h i hHi a w R b (.inLoop c :: k) cs
      obtain ⟨E1, hq, R1⟩ := hq
      cases e with
      | normal =>
        obtain ⟨j, hj, hlt, hle⟩ := hq
        obtain ⟨e2, a2, w2, hq2, harr2⟩ := ih (μ j) (hi ▸ hlt) j rfl hj a1 w1 (R1.weaken hle) b k cs
        exact ⟨e2, a2, w2, hq2, .of_steps (Steps.trans harr (.one step_inLoop)) harr2⟩
      | exit id => exact ⟨_, a1, w1, ⟨E1, hq, R1⟩, .pass (x := .inLoop c) rfl (fun _ _ => .inl (by simp)) harr⟩
      | goto l => exact ⟨_, a1, w1, ⟨E1, hq, R1⟩, .pass (x := .inLoop c) rfl (fun _ _ => .inl (by simp)) harr⟩
      | ret => exact ⟨_, a1, w1, ⟨E1, hq, R1⟩, .pass (x := .inLoop c) rfl (fun _ _ => .inl (by simp)) harr⟩
      | panic ch => exact ⟨_, a1, w1, ⟨E1, hq, R1⟩, .pass (x := .inLoop c) rfl (fun _ _ => .inl (by simp)) harr⟩
      | outgrown => exact ⟨_, a1, w1, ⟨E1, hq, R1⟩, .pass (x := .inLoop c) rfl (fun _ _ => .inl (by simp)) harr⟩
  intro b k cs
  obtain ⟨e, a', w', hq, harr⟩ := key _ i0 rfl hH a w (R.weaken h0) b k cs
  exact ⟨e, a', w', hq, .of_steps (.one step_loop) harr⟩
def retPC (P : Program) (E : Env) : ResultVar → Option (Bool × List PC)
  | .tmp t => match E.get t with
    | .one c => some (false, [c])
    | .agg cs => some (true, cs)
    | _ => none
  | .cell t T => match E.get t with
    | .one (.ptr b 0) => match E.box b with
      | some (_, ps) => if isMany P T ps.length then some (true, ps) else if isOne P T && ps.length == 1 then some (false, ps) else none
      | none => none
    | _ => none
inductive RetC (E : Env) : List PC → List RC → List Nat → Prop
  | nil : RetC E [] [] []
  | rd {x : D} {ps : List PC} {rcs : List RC} {ss : List Nat} : RetC E ps rcs ss → RetC E (.d x :: ps) (.rd x :: rcs) ss
  | nilrd {x : D} {ps : List PC} {rcs : List RC} {ss : List Nat} : x.isSl = true → x.size = 0 → x.wf → RetC E ps rcs ss → RetC E (.nil :: ps) (.rd x :: rcs) ss
  | nilown {x : D} {T : TypeId} {ps : List PC} {rcs : List RC} {ss : List Nat} : x.isSl = true → x.size = 0 → x.wf → RetC E ps rcs ss → RetC E (.nil :: ps) (.own T x :: rcs) ss
  | own {r : Nat} {T : TypeId} {d : D} {ps : List PC} {rcs : List RC} {ss : List Nat} : E.row r = some (T, d) → r ∉ ss → RetC E ps rcs ss → RetC E (.row r [] :: ps) (.own T d :: rcs) (r :: ss)
def RetOk (P : Program) (fn : Func) (res : Res) (E : Env) : Prop := ∃ pss : List (Bool × List PC), All2 (fun rv x => retPC P E rv = some x) fn.results.toList pss ∧ shape pss = shape res ∧ ∃ ss, RetC E (pss.flatMap (·.2)) (res.flatMap (·.2)) ss
def A.pv : A → PV
  | .one d => .one (.d d)
  | .agg ds => .agg (ds.map .d)
def Env.start (args : List A) : Env := { tm := args.zipIdx.map fun x => (x.2, x.1.pv) }
def QRet (P : Program) (fn : Func) (res : Res) : Exit → Env → Prop
  | .normal, E => RetOk P fn res E
  | .ret, E => RetOk P fn res E
  | _, _ => False
theorem lk_zip {α β : Type} (f : α → β) : ∀ (l : List α) (k t : Nat), lk ((l.zipIdx k).map fun x => (x.2, f x.1)) (k + t) = (l[t]?).map f
  | [], k, t => rfl
  | a :: l, k, t => by
    simp only [List.zipIdx_cons, List.map_cons, lk]
    cases t with
    | zero => simp
    | succ t =>
      rw [if_neg (by omega)]
      have := lk_zip f l (k + 1) t
      rw [show k + (t + 1) = k + 1 + t from by omega, this]
      simp
theorem rd_one {w : World} {Z : Nat → Prop} {vs : List Value} {ds : List D} (h : Rd w Z vs ds) {M : Maps} {E : Env} (hz : ∀ k, Z k → M.own k = .froz) : All2 (COk M E w) vs (ds.map .d) := by
  refine All2.of_get _ _ (by rw [h.length]; simp) fun j v c hv hc => ?_
  rw [List.getElem?_map] at hc
  obtain ⟨d, hd, rfl⟩ := Option.map_eq_some_iff.1 hc
  obtain ⟨v', hv', hok⟩ := h.get j d hd
  rw [hv] at hv'
  injection hv' with hv'
  subst hv'
  exact hok.keep (fun _ _ => rfl) hz
open Classical in
theorem start_ok {w : World} {Z : Nat → Prop} {vals : List Value} {args : List A} {n : Nat} (hz : ∀ k, Z k → k < w.heap.size) (h : All2 (AOk' w Z) vals args) (hn : vals.length ≤ n) :
    Rel ⟨w.heap.size, w, Z, fun _ => False, [], n⟩ (Env.start args) { tmps := vals.toArray ++ Array.replicate (n - vals.toArray.size) undef, defers := [] } w := by
  refine ⟨⟨fun _ => undef, fun _ => [], fun _ => 0, fun k => if Z k then .froz else .none⟩, ?_⟩
  refine { tn := by simp; omega, df := rfl, fr := ⟨rfl, rfl, rfl, Nat.le_refl _, fun _ _ _ => rfl⟩, ba := Nat.le_refl _, lt := ?_, z0 := fun k hk => by have hk' : Z k := hk; simp [hk'], zb := ?_, wr := ?_, tm := ?_, rows := ?_, boxes := ?_, pin := ?_, bpin := fun b v hp => by cases hp }
  · intro k hk
    simp only at hk
    split at hk
    · rename_i hz'; exact hz k hz'
    · exact absurd rfl hk
  · intro k hk
    simp only at hk
    split at hk
    · rename_i hz'; exact .inl hz'
    · cases hk
  · intro k hk hk'
    simp only at hk hk'
    split at hk
    · rename_i hz'; rw [if_pos hz'] at hk'; exact absurd rfl hk'
    · exact absurd rfl hk
  · intro t
    have hget : (Env.start args).get t = ((args[t]?).map A.pv).getD (.one .und) := by
      unfold Env.get Env.start
      have := lk_zip A.pv args 0 t
      rw [Nat.zero_add] at this
      simp only
      rw [this]
    rw [hget]
    cases hx : args[t]? with
    | none => trivial
    | some x =>
      obtain ⟨v, hv, hok⟩ := h.get t x hx
      have hval : ({ tmps := vals.toArray ++ Array.replicate (n - vals.toArray.size) undef, defers := [] } : Act).tmps.getD t undef = v := by
        have hlt : t < vals.length := (List.getElem?_eq_some_iff.1 hv).1
        have : (vals.toArray ++ Array.replicate (n - vals.toArray.size) undef)[t]? = some v := by
          rw [Array.getElem?_append_left (by simpa using hlt)]; simpa using hv
        simp only [Array.getD_eq_getD_getElem?, this, Option.getD_some]
      rw [hval]
      cases x with
      | one d => exact Rd.keep (hok : Rd w Z [v] [d]) (fun _ _ => rfl) fun k hk => by simp [hk]
      | agg ds =>
        obtain ⟨arr, rfl, hr⟩ := hok
        exact ⟨arr, rfl, rd_one hr fun k hk => by simp [hk]⟩
  · intro r T d hr; simp [Env.row, Env.start, lk] at hr
  · intro b T ps hb; simp [Env.box, Env.start, lk] at hb
  · intro r v hrv; cases hrv
def rvSem (tmps : Array Value) : ResultVar → Sem Value
  | .tmp t => pure (tmps.getD t undef)
  | .cell q t => do loadVar t (← asAddr (tmps.getD q undef))
theorem ret_one {P : Program} {C : Ctx} {M : Maps} {E : Env} {a : Act} {w : World} (R : RelM C M E a w) {rv : ResultVar} {x : Bool × List PC} (h : retPC P E rv = some x) :
    ∃ v cs, (rvSem a.tmps rv).run P w = .ok v w ∧ Packs v (x.1, cs) ∧ All2 (COk M E w) cs x.2 := by
  cases rv with
  | tmp t =>
    simp only [retPC] at h
    have ht := R.tm t
    split at h
    · rename_i c hc
      injection h with h; subst h
      rw [hc] at ht
      exact ⟨a.tmps.getD t undef, [a.tmps.getD t undef], rfl, rfl, .cons ht .nil⟩
    · rename_i cs hc
      injection h with h; subst h
      rw [hc] at ht
      obtain ⟨arr, e, h2⟩ := ht
      refine ⟨a.tmps.getD t undef, arr.toList, rfl, ?_, h2⟩
      simp [Packs, e]
    · exact absurd h (by simp)
  | cell t T =>
    simp only [retPC] at h
    have ht := R.tm t
    split at h
    · rename_i b hc
      rw [hc] at ht
      have hptr : a.tmps.getD t undef = .pointer (some ⟨M.blk b, 0, none⟩) := ht
      split at h
      · rename_i T' ps hb
        obtain ⟨h1, cs, h2, h3⟩ := R.boxes b T' ps hb
        split at h
        · rename_i hT
          injection h with h; subst h
          have hl : cs.toList.length = ps.length := h3.length
          have := run_loadN (P := P) hT (w := w) (ad := ⟨M.blk b, 0, none⟩) hl (fun j v hv => by rw [cell_at h2]; simpa using hv)
          refine ⟨.agg cs.toList.toArray, cs.toList, ?_, by simp [Packs], h3⟩
          simp only [rvSem, hptr]
          simp only [Instr.loadAt, Instr.sureAddr, Sem.run_bind, Sem.run_pure, Result.andThen] at this
          simp only [asAddr, Sem.run_bind, Sem.run_pure, Result.andThen]
          exact this
        · split at h
          · rename_i hT
            injection h with h; subst h
            simp only [Bool.and_eq_true, beq_iff_eq] at hT
            obtain ⟨hT1, hT2⟩ := hT
            have hl : cs.toList.length = 1 := by rw [h3.length, hT2]
            obtain ⟨v, hv⟩ : ∃ v, cs.toList = [v] := by
              match cs.toList, hl with
              | [v], _ => exact ⟨v, rfl⟩
            have hcell : w.cell? ⟨M.blk b, 0, none⟩ = some v := by
              have := cell_at h2 0
              rw [add_plain'] at this
              rw [this, ← Array.getElem?_toList, hv]
              rfl
            refine ⟨v, [v], ?_, rfl, by rw [hv] at h3; exact h3⟩
            simp only [rvSem, hptr]
            have := run_load1 (P := P) hT1 hcell
            simp only [Instr.loadAt, Instr.sureAddr, Sem.run_bind, Sem.run_pure, Result.andThen] at this
            simp only [asAddr, Sem.run_bind, Sem.run_pure, Result.andThen]
            exact this
          · exact absurd h (by simp)
      · exact absurd h (by simp)
    · exact absurd h (by simp)
theorem ret_all {P : Program} {C : Ctx} {M : Maps} {E : Env} {a : Act} {w : World} (R : RelM C M E a w) {rvs : List ResultVar} {pss : List (Bool × List PC)} (h : All2 (fun rv x => retPC P E rv = some x) rvs pss) :
    ∃ vs bcs, (rvs.mapM (rvSem a.tmps)).run P w = .ok vs w ∧ All2 Packs vs bcs ∧ shape bcs = shape pss ∧ All2 (COk M E w) (bcs.flatMap (·.2)) (pss.flatMap (·.2)) := by
  induction h with
  | nil => exact ⟨[], [], rfl, .nil, rfl, .nil⟩
  | @cons rv x rvs pss h1 _ ih =>
    obtain ⟨vs, bcs, k1, k2, k3, k4⟩ := ih
    obtain ⟨v, cs, j1, j2, j3⟩ := ret_one R h1
    refine ⟨v :: vs, (x.1, cs) :: bcs, ?_, .cons j2 k2, ?_, ?_⟩
    · rw [List.mapM_cons]
      simp only [Sem.run_bind, j1, Result.andThen, k1, Sem.run_pure]
    · simp only [shape, List.map_cons] at k3 ⊢
      rw [k3, j3.length]
    · simp only [List.flatMap_cons]
      exact j3.append k4
theorem results_eq (fn : Func) (tmps : Array Value) : results fn tmps = (fn.results.mapM (rvSem tmps) >>= fun vs => pure (if h : vs.size = 1 then vs[0] else .tuple vs)) := by
  unfold results
  congr 1
theorem results_run {P : Program} {fn : Func} {tmps : Array Value} {w : World} {vs : List Value} (h : (fn.results.toList.mapM (rvSem tmps)).run P w = .ok vs w) : (results fn tmps).run P w = .ok (packed vs) w := by
  rw [results_eq]
  simp only [Array.mapM_eq_mapM_toList, Sem.run_bind]
  have h' : (Functor.map List.toArray (fn.results.toList.mapM (rvSem tmps))).run P w = .ok vs.toArray w := by
    rw [← bind_pure_comp]
    simp only [Sem.run_bind, h, Result.andThen, Sem.run_pure]
  rw [h']
  simp only [Result.andThen, Sem.run_pure]
  match vs with
  | [] => simp [packed]
  | [v] => simp [packed]
  | v :: u :: vs => simp [packed]
theorem retC_ok {C : Ctx} {M : Maps} {E : Env} {a : Act} {w : World} (R : RelM C M E a w) {ps : List PC} {rcs : List RC} {ss : List Nat} (h : RetC E ps rcs ss) : ∀ (vs : List Value) (j : Nat), All2 (COk M E w) vs ps → ∃ O : Nat → Tag, (∀ k, O k ≠ .none → ∃ s ∈ ss, M.own k = .row s) ∧ (∀ k i, O k = .row i → j ≤ i) ∧ (∀ k, O k ≠ .froz) ∧ RCs w (fun k => M.own k = .froz) O j vs rcs := by
  induction h with
  | nil => intro vs j h; cases h; exact ⟨fun _ => .none, by simp, by simp, by simp, trivial⟩
  | @rd x ps rcs ss _ ih =>
    intro vs j h
    cases h with
    | cons h1 h2 =>
      obtain ⟨O, k1, k2, k3, k4⟩ := ih _ (j + 1) h2
      exact ⟨O, k1, fun k i h => by have := k2 k i h; omega, k3, Rd.keep (h1 : Rd w _ _ [x]) (fun _ _ => rfl) fun k hk => .inl hk, k4⟩
  | @nilrd x ps rcs ss e1 e2 e3 _ ih =>
    intro vs j h
    cases h with
    | cons h1 h2 =>
      obtain ⟨O, k1, k2, k3, k4⟩ := ih _ (j + 1) h2
      have e : _ = Value.slice none 0 0 := h1
      subst e
      exact ⟨O, k1, fun k i h => by have := k2 k i h; omega, k3, (Own.empty (w := w) e1 e2 e3 .nil).rd (by simp), k4⟩
  | @nilown x T ps rcs ss e1 e2 e3 _ ih =>
    intro vs j h
    cases h with
    | cons h1 h2 =>
      obtain ⟨O, k1, k2, k3, k4⟩ := ih _ (j + 1) h2
      have e : _ = Value.slice none 0 0 := h1
      subst e
      exact ⟨O, k1, fun k i h => by have := k2 k i h; omega, k3, ⟨[], ⟨e1, .empty e1 e2 e3 .nil, fun ad n c h => by injection h with h; cases h⟩, by simp, by simp⟩, k4⟩
  | @own r T d ps rcs ss hr hn _ ih =>
    intro vs j h
    cases h with
    | @cons v _ vs _ h1 h2 =>
      obtain ⟨O, k1, k2, k3, k4⟩ := ih _ (j + 1) h2
      obtain ⟨p1, p2, p3⟩ := R.rows r T d hr
      have e := h1 T d hr
      simp only [PathTo] at e
      subst e
      classical
      have hdis : ∀ k ∈ M.fp r, O k = .none := fun k hk => by
        cases hO : O k with
        | none => rfl
        | _ =>
          obtain ⟨s, hs, ho⟩ := k1 k (by rw [hO]; simp)
          rw [p3 k hk] at ho
          injection ho with ho
          subst ho
          exact absurd hs hn
      have hmono : ∀ (rcs : List RC) (vs : List Value) (i : Nat), RCs w (fun k => M.own k = .froz) O i vs rcs → RCs w (fun k => M.own k = .froz) (fun k => if k ∈ M.fp r then .row j else O k) i vs rcs := by
        intro rcs
        induction rcs with
        | nil => intro vs i h; cases vs; exact h; exact h.elim
        | cons rc rcs ihr =>
          intro vs i h
          cases vs with
          | nil => exact h.elim
          | cons v vs =>
            refine ⟨?_, ihr vs (i + 1) h.2⟩
            cases rc with
            | rd d => exact Rd.keep (h.1 : Rd w _ [v] [d]) (fun _ _ => rfl) fun k hk => hk.imp id fun h => absurd h (k3 k)
            | own T d =>
              obtain ⟨fp, q1, q2, q3⟩ := h.1
              exact ⟨fp, q1, q2, fun k hk => by
                simp only
                rw [if_neg (fun hm => by have := hdis k hm; rw [q3 k hk] at this; cases this)]
                exact q3 k hk⟩
      refine ⟨fun k => if k ∈ M.fp r then .row j else O k, fun k hk => ?_, fun k i h => ?_, fun k => ?_, ⟨M.fp r, p1, p2, fun k hk => by simp [hk]⟩, hmono _ _ _ k4⟩
      · simp only at hk
        split at hk
        · rename_i hm; exact ⟨r, by simp, p3 k hm⟩
        · obtain ⟨s, hs, ho⟩ := k1 k hk; exact ⟨s, by simp [hs], ho⟩
      · simp only at h
        split at h
        · injection h with h; omega
        · have := k2 k i h; omega
      · simp only
        split
        · simp
        · exact k3 k
theorem RO.intro {P : Program} {f : FuncId} {fn : Func} {c : Code} {args : List A} {res : Res} (hf : P.funcs[f]? = some fn) (hb : fn.body = some c) (n : Nat) (hn : fn.ntmps = n) (ha : args.length ≤ n)
    (h : ∀ (w : World) (Z : Nat → Prop), T P ⟨w.heap.size, w, Z, fun _ => False, [], n⟩ c (Env.start args) (QRet P fn res)) : RO P f args res := by
  intro w Z vals hz hargs
  have hl : vals.length = args.length := hargs.length
  refine calls_of_wp hf hb ?_
  have hst := start_ok (n := n) hz hargs (by omega)
  have := h w Z _ _ hst
  rw [hn]
  refine wp_mono this fun e a w' ⟨E, hq, M, R⟩ => ?_
  have key : RetOk P fn res E → bodyPost P fn (Returns w Z res) .ret a w' := fun ⟨pss, h1, h2, ss, h3⟩ => by
    obtain ⟨vs, bcs, k1, k2, k3, k4⟩ := ret_all R h1
    obtain ⟨O, o1, _, o3, o4⟩ := retC_ok R h3 _ 0 k4
    have hbel : Below w.heap.size w w' := ⟨R.fr.os, R.fr.tape, R.fr.output, R.fr.size, fun k hk => R.fr.block k hk fun h => h⟩
    classical
    refine ⟨R.df, packed vs, results_run k1, hbel, vs, bcs, fun k => if M.own k = .froz ∧ ¬ Z k then .froz else O k, rfl, fun k hk => ?_, k2, k3.trans h2, ?_⟩
    · simp only at hk
      split at hk
      · rename_i hm
        refine ⟨?_, R.lt k (by rw [hm.1]; simp)⟩
        rcases R.zb k hm.1 with h | h
        · exact absurd h hm.2
        · exact h
      · obtain ⟨s, _, ho⟩ := o1 k hk
        refine ⟨?_, R.lt k (by rw [ho]; simp)⟩
        rcases R.wr k (by rw [ho]; simp) (by rw [ho]; simp) with h | h
        · exact h.elim
        · exact h
    · have hmono : ∀ (rcs : List RC) (vs : List Value) (i : Nat), RCs w' (fun k => M.own k = .froz) O i vs rcs → RCs w' Z (fun k => if M.own k = .froz ∧ ¬ Z k then .froz else O k) i vs rcs := by
        intro rcs
        induction rcs with
        | nil => intro vs i h; cases vs; exact h; exact h.elim
        | cons rc rcs ihr =>
          intro vs i h
          cases vs with
          | nil => exact h.elim
          | cons v vs =>
            refine ⟨?_, ihr vs (i + 1) h.2⟩
            cases rc with
            | rd d =>
              refine Rd.keep (h.1 : Rd w' _ [v] [d]) (fun _ _ => rfl) fun k hk => ?_
              · rcases hk with hk | hk
                · by_cases hzk : Z k
                  · exact .inl hzk
                  · right; simp [hk, hzk]
                · exact absurd hk (o3 k)
            | own T d =>
              obtain ⟨fp, q1, q2, q3⟩ := h.1
              exact ⟨fp, q1, q2, fun k hk => by
                simp only
                rw [if_neg (fun hm => by
                  obtain ⟨s, _, ho⟩ := o1 k (by rw [q3 k hk]; simp)
                  rw [hm.1] at ho; cases ho)]
                exact q3 k hk⟩
      exact hmono _ _ _ o4
  cases e with
  | normal => exact key hq
  | ret => exact key hq
  | _ => exact hq.elim
def OpStep (P : Program) (C : Ctx) (ops : Array Oper) (o : Oper) (E E' : Env) : Prop :=
  ∀ a w, Rel C E a w → ∀ (K : Act → World → Prop) (Q : Exit → Act → World → Prop), (∀ a' w', Rel C E' a' w' → K a' w') → if Region.wanted o (yielded ops a.tmps) = true then o.wp P a w K Q else K (a.put o.dst undef) w
theorem OpStep.plain {P : Program} {C : Ctx} {ops : Array Oper} {o : Oper} {E E' : Env} (hg : o.guard = none) (h : Step P C o E E') : OpStep P C ops o E E' := fun a w R K Q hK => by
  rw [if_pos (by simp [Region.wanted, hg])]
  exact h a w R K Q hK
theorem guard_val {C : Ctx} {E : Env} {a : Act} {w : World} {ops : Array Oper} {j t : Nat} {b : Bool} (R : Rel C E a w) (hj : (ops[j]?).bind (·.dst) = some t) (ht : t < C.n) (hb : E.get t = .one (.d (.bool b))) : yielded ops a.tmps j = some b := by
  obtain ⟨M, R0⟩ := R
  have hv : a.tmps.getD t undef = .bool b := by
    have := R0.tm t
    rw [hb] at this
    exact rd_val this rfl
  unfold yielded
  have hlt : t < a.tmps.size := by rw [R0.tn]; exact ht
  have : a.tmps[t]? = some (.bool b) := by
    rw [Array.getElem?_eq_getElem hlt]
    have h2 := hv
    simp [Array.getD_eq_getD_getElem?, Array.getElem?_eq_getElem hlt] at h2
    rw [h2]
  simp only [hj, Option.bind_some, this]
theorem OpStep.yes {P : Program} {C : Ctx} {ops : Array Oper} {o : Oper} {E E' : Env} {j t : Nat} {want : Bool} (hg : o.guard = some (j, want)) (hj : (ops[j]?).bind (·.dst) = some t) (ht : t < C.n) (hb : E.get t = .one (.d (.bool want))) (h : Step P C o E E') : OpStep P C ops o E E' := fun a w R K Q hK => by
  rw [if_pos (by simp [Region.wanted, hg, guard_val R hj ht hb])]
  exact h a w R K Q hK
structure Eff where
  dst : Nat
  pv : PV
  rows : List (Nat × (TypeId × D)) := []
def Eff.app (f : Eff) (E : Env) : Env := { E with tm := (f.dst, f.pv) :: E.tm, rows := f.rows ++ E.rows }
def plus (E0 : Env) (L : Nat → Bool) : Nat → List Eff → Env
  | _, [] => E0
  | i, f :: fs => if L i then f.app (plus E0 L (i + 1) fs) else plus E0 L (i + 1) fs
def mask (acc : List Nat) (o : Oper) : Nat := (o.after.toList.filter (Region.binds .any)).foldr (fun e s => s ||| 2 ^ e.on ||| acc.getD e.on 0) 0
def masks : List Oper → List Nat → List Nat
  | [], acc => acc
  | o :: os, acc => masks os (acc ++ [mask acc o])
def reach (l : List Oper) (i j : Nat) : Bool := ((masks l []).getD i 0).testBit j
def reads (l : List Oper) (o : Oper) : List Nat := o.op.operands.toList.filterMap (fun x => match x with | .tmp t => some t | _ => none) ++ (match o.guard with | some (j, _) => ((l[j]?).bind (·.dst)).toList | none => [])
def allLt (n : Nat) (p : Nat → Bool) : Bool := (List.range n).all p
def okDraw (E0 : Env) (l : List Oper) (effs : List Eff) : Bool :=
  let m := effs.length
  decide (m ≤ l.length) &&
  allLt l.length (fun i => (l.getD i default).after.toList.all fun e => !Region.binds .any e || decide (e.on < i)) &&
  allLt m (fun i => (l.getD i default).dst == some (effs.getD i ⟨0, .one .und, []⟩).dst) &&
  allLt m (fun i => allLt m fun j => i == j || (effs.getD i ⟨0, .one .und, []⟩).dst != (effs.getD j ⟨0, .one .und, []⟩).dst) &&
  allLt m (fun i => (reads l (l.getD i default)).all fun t => allLt m fun j => (effs.getD j ⟨0, .one .und, []⟩).dst != t || reach l i j) &&
  allLt m (fun i => (effs.getD i ⟨0, .one .und, []⟩).rows.all fun x => E0.noref' x.1 && allLt m fun j => (i == j || ((effs.getD j ⟨0, .one .und, []⟩).rows.all fun y => y.1 != x.1)) && (i == j || !(effs.getD j ⟨0, .one .und, []⟩).pv.cells.any (·.ment x.1) || reach l j i)) &&
  allLt l.length (fun i => decide (i < m) || allLt i fun j => reach l i j)
theorem allLt_spec {n : Nat} {p : Nat → Bool} (h : allLt n p = true) : ∀ i, i < n → p i = true := fun i hi => (List.all_eq_true.1 h) i (List.mem_range.2 hi)
theorem plus_get {E0 : Env} {L : Nat → Bool} : ∀ (fs : List Eff) (i t : Nat), (∀ j, j < fs.length → L (i + j) = true → (fs.getD j ⟨0, .one .und, []⟩).dst ≠ t) → (plus E0 L i fs).get t = E0.get t
  | [], i, t, _ => rfl
  | f :: fs, i, t, h => by
    have ih := plus_get (E0 := E0) fs (i + 1) t (fun j hj hl => by have := h (j + 1) (by simp; omega) (by rw [← hl]; congr 1; omega); simpa using this)
    simp only [plus]
    split
    · rename_i hL
      have h0 := h 0 (by simp) (by simpa using hL)
      simp only [List.getD_cons_zero] at h0
      show (lk ((f.dst, f.pv) :: (plus E0 L (i + 1) fs).tm) t).getD _ = _
      simp only [lk]
      rw [if_neg h0]
      exact ih
    · exact ih
theorem plus_get_at {E0 : Env} {L : Nat → Bool} : ∀ (fs : List Eff) (i j : Nat) (f : Eff), fs[j]? = some f → L (i + j) = true → (∀ q, q < fs.length → q ≠ j → (fs.getD q ⟨0, .one .und, []⟩).dst ≠ f.dst) → (plus E0 L i fs).get f.dst = f.pv
  | [], i, j, f, hf, _, _ => by simp at hf
  | g :: fs, i, j, f, hf, hL, hd => by
    cases j with
    | zero =>
      simp at hf
      subst hf
      simp only [plus]
      rw [if_pos (by simpa using hL)]
      show (lk ((g.dst, g.pv) :: _) g.dst).getD _ = _
      simp [lk]
    | succ j =>
      have ih := plus_get_at (E0 := E0) fs (i + 1) j f (by simpa using hf) (by rw [← hL]; congr 1; omega) (fun q hq hqj => by have := hd (q + 1) (by simp; omega) (by omega); simpa using this)
      have h0 := hd 0 (by simp) (by omega)
      simp only [List.getD_cons_zero] at h0
      simp only [plus]
      split
      · show (lk ((g.dst, g.pv) :: (plus E0 L (i + 1) fs).tm) f.dst).getD _ = _
        simp only [lk]
        rw [if_neg h0]
        exact ih
      · exact ih
theorem plus_boxes {E0 : Env} {L : Nat → Bool} : ∀ (fs : List Eff) (i : Nat), (plus E0 L i fs).boxes = E0.boxes
  | [], i => rfl
  | f :: fs, i => by
    simp only [plus]
    split
    · exact plus_boxes fs (i + 1)
    · exact plus_boxes fs (i + 1)
theorem lk_append {α : Type} (l m : List (Nat × α)) (t : Nat) : lk (l ++ m) t = (lk l t).or (lk m t) := by
  induction l with
  | nil => simp [lk]
  | cons x l ih =>
    obtain ⟨k, v⟩ := x
    simp only [List.cons_append, lk]
    split
    · rfl
    · exact ih
theorem lk_none {α : Type} {l : List (Nat × α)} {t : Nat} (h : ∀ x ∈ l, x.1 ≠ t) : lk l t = none := by
  induction l with
  | nil => rfl
  | cons x l ih =>
    obtain ⟨k, v⟩ := x
    simp only [lk]
    rw [if_neg (h (k, v) (by simp))]
    exact ih fun y hy => h y (by simp [hy])
theorem plus_row {E0 : Env} {L : Nat → Bool} : ∀ (fs : List Eff) (i r : Nat), (∀ j, j < fs.length → L (i + j) = true → ∀ x ∈ (fs.getD j ⟨0, .one .und, []⟩).rows, x.1 ≠ r) → (plus E0 L i fs).row r = E0.row r
  | [], i, r, _ => rfl
  | f :: fs, i, r, h => by
    have ih := plus_row (E0 := E0) fs (i + 1) r (fun j hj hl => by have := h (j + 1) (by simp; omega) (by rw [← hl]; congr 1; omega); simpa using this)
    simp only [plus]
    split
    · rename_i hL
      have h0 := h 0 (by simp) (by simpa using hL)
      simp only [List.getD_cons_zero] at h0
      show lk (f.rows ++ (plus E0 L (i + 1) fs).rows) r = _
      rw [lk_append, lk_none h0]
      exact ih
    · exact ih
theorem plus_row_at {E0 : Env} {L : Nat → Bool} : ∀ (fs : List Eff) (i j : Nat) (f : Eff) (r : Nat), fs[j]? = some f → L (i + j) = true → (∃ x ∈ f.rows, x.1 = r) → (∀ q, q < fs.length → q ≠ j → ∀ x ∈ (fs.getD q ⟨0, .one .und, []⟩).rows, x.1 ≠ r) → (plus E0 L i fs).row r = lk f.rows r
  | [], i, j, f, r, hf, _, _, _ => by simp at hf
  | g :: fs, i, j, f, r, hf, hL, hx, hd => by
    cases j with
    | zero =>
      simp at hf
      subst hf
      simp only [plus]
      rw [if_pos (by simpa using hL)]
      show lk (g.rows ++ _) r = _
      rw [lk_append]
      have : (lk g.rows r).isSome = true := by
        obtain ⟨x, hx, rfl⟩ := hx
        clear hd
        generalize g.rows = l at hx
        induction l with
        | nil => cases hx
        | cons y l ih =>
          obtain ⟨k, v⟩ := y
          simp only [lk]
          split
          · rfl
          · rename_i hne
            rcases List.mem_cons.1 hx with rfl | hx
            · exact absurd rfl hne
            · exact ih hx
      obtain ⟨y, hy⟩ := Option.isSome_iff_exists.1 this
      rw [hy]; rfl
    | succ j =>
      have ih := plus_row_at (E0 := E0) fs (i + 1) j f r (by simpa using hf) (by rw [← hL]; congr 1; omega) hx (fun q hq hqj => by have := hd (q + 1) (by simp; omega) (by omega); simpa using this)
      have h0 := hd 0 (by simp) (by omega)
      simp only [List.getD_cons_zero] at h0
      simp only [plus]
      split
      · show lk (g.rows ++ (plus E0 L (i + 1) fs).rows) r = _
        rw [lk_append, lk_none h0]
        exact ih
      · exact ih
theorem masks_append (l l' : List Oper) (acc : List Nat) : masks (l ++ l') acc = masks l' (masks l acc) := by
  induction l generalizing acc with
  | nil => rfl
  | cons o l ih => exact ih _
theorem masks_length (l : List Oper) : ∀ acc, (masks l acc).length = acc.length + l.length := by
  induction l with
  | nil => intro acc; rfl
  | cons o l ih => intro acc; simp only [masks]; rw [ih]; simp; omega
theorem masks_get (l : List Oper) : ∀ (acc : List Nat) (i : Nat), i < acc.length → (masks l acc).getD i 0 = acc.getD i 0 := by
  induction l with
  | nil => intro acc i _; rfl
  | cons o l ih =>
    intro acc i hi
    simp only [masks]
    rw [ih _ _ (by simp; omega)]
    simp [List.getD_eq_getElem?_getD, List.getElem?_append_left hi]
theorem masks_at (l : List Oper) : ∀ (acc : List Nat) (i : Nat) (o : Oper), l[i]? = some o → (masks l acc).getD (acc.length + i) 0 = mask (masks (l.take i) acc) o := by
  induction l with
  | nil => intro acc i o h; simp at h
  | cons q l ih =>
    intro acc i o h
    cases i with
    | zero =>
      simp at h; subst h
      simp only [masks, List.take_zero, Nat.add_zero]
      rw [masks_get _ _ _ (by simp)]
      simp [List.getD_eq_getElem?_getD]
    | succ i =>
      simp only [masks, List.take_succ_cons]
      have := ih (acc ++ [mask acc q]) i o (by simpa using h)
      rw [← this]
      congr 1
      simp; omega
theorem mask_bit {acc : List Nat} {o : Oper} {j : Nat} (h : (mask acc o).testBit j = true) : ∃ e ∈ o.after, Region.binds .any e = true ∧ (e.on = j ∨ (acc.getD e.on 0).testBit j = true) := by
  unfold mask at h
  have key : ∀ (l : List Edge), (l.foldr (fun e s => s ||| 2 ^ e.on ||| acc.getD e.on 0) 0).testBit j = true → ∃ e ∈ l, e.on = j ∨ (acc.getD e.on 0).testBit j = true := by
    intro l
    induction l with
    | nil => intro h; simp at h
    | cons e l ih =>
      intro h
      simp only [List.foldr_cons, Nat.testBit_or, Bool.or_eq_true] at h
      rcases h with (h | h) | h
      · obtain ⟨e', he', h⟩ := ih h; exact ⟨e', by simp [he'], h⟩
      · refine ⟨e, by simp, .inl ?_⟩
        by_cases hj : e.on = j
        · exact hj
        · rw [Nat.testBit_two_pow_of_ne hj] at h; exact absurd h (by simp)
      · exact ⟨e, by simp, .inr h⟩
  obtain ⟨e, he, h⟩ := key _ h
  simp only [List.mem_filter] at he
  exact ⟨e, by simpa using he.1, he.2, h⟩
theorem reach_closed {l : List Oper} {L : Nat → Bool} (hac : ∀ i o, l[i]? = some o → ∀ e ∈ o.after, Region.binds .any e = true → e.on < i) (hcl : ∀ i o, l[i]? = some o → L i = true → ∀ e ∈ o.after, Region.binds .any e = true → L e.on = true) :
    ∀ i o, l[i]? = some o → (∀ e ∈ o.after, Region.binds .any e = true → L e.on = true) → ∀ j, reach l i j = true → L j = true := by
  intro i
  induction i using Nat.strongRecOn with
  | _ i ih =>
    intro o ho hpre j hj
    unfold reach at hj
    have hat := masks_at l [] i o ho
    rw [List.length_nil, Nat.zero_add] at hat
    rw [hat] at hj
    obtain ⟨e, he, hb, h⟩ := mask_bit hj
    have hlt := hac i o ho e he hb
    have hLe := hpre e he hb
    rcases h with rfl | h
    · exact hLe
    · have hil : i < l.length := (List.getElem?_eq_some_iff.1 ho).1
      have hel : e.on < l.length := by omega
      have heo : l[e.on]? = some l[e.on] := List.getElem?_eq_getElem hel
      refine ih e.on hlt _ heo (fun e' he' hb' => hcl _ _ heo hLe e' he' hb') j ?_
      unfold reach
      have h2 := masks_get (l.drop i) (masks (l.take i) []) e.on (by rw [masks_length]; simp; omega)
      rw [← masks_append, List.take_append_drop] at h2
      rw [h2]
      exact h
theorem RelM.drew {C : Ctx} {M : Maps} {E : Env} {a : Act} {w : World} (R : RelM C M E a w) : RelM C M E a { w with drawn := w.drawn + 1 } :=
  R.grow (w' := { w with drawn := w.drawn + 1 }) ⟨rfl, rfl, rfl, Nat.le_refl _, fun _ _ => rfl⟩
structure At (E0 : Env) (l : List Oper) (effs : List Eff) (i : Nat) (o : Oper) (E : Env) : Prop where
  boxes : E.boxes = E0.boxes
  get : ∀ t ∈ reads l o, E.get t = (plus E0 (fun _ => true) 0 effs).get t
  row : ∀ r, (allLt effs.length fun j => !((effs.getD j ⟨0, .one .und, []⟩).rows.any fun x => x.1 == r) || reach l i j) = true → E.row r = (plus E0 (fun _ => true) 0 effs).row r
  fresh : ∀ x ∈ (effs.getD i ⟨0, .one .und, []⟩).rows, E.noref' x.1 = true
inductive Steps_ (P : Program) (C : Ctx) (E0 : Env) (l : List Oper) (effs : List Eff) : Nat → List Oper → List Eff → Prop
  | nil (i : Nat) (os : List Oper) : Steps_ P C E0 l effs i os []
  | cons {i : Nat} {o : Oper} {os : List Oper} {f : Eff} {fs : List Eff} : (∀ E, At E0 l effs i o E → OpStep P C l.toArray o E (f.app E)) → Steps_ P C E0 l effs (i + 1) os fs → Steps_ P C E0 l effs i (o :: os) (f :: fs)
theorem Steps_.at_ {P : Program} {C : Ctx} {E0 : Env} {l : List Oper} {effs : List Eff} {i : Nat} {os : List Oper} {fs : List Eff} (h : Steps_ P C E0 l effs i os fs) : ∀ (j : Nat) (o : Oper) (f : Eff), os[j]? = some o → fs[j]? = some f → ∀ E, At E0 l effs (i + j) o E → OpStep P C l.toArray o E (f.app E) := by
  induction h with
  | nil i os => intro j o f _ hf; simp at hf
  | @cons i o os f fs h1 _ ih =>
    intro j o' f' ho hf
    cases j with
    | zero => simp at ho hf; subst ho hf; exact h1
    | succ j =>
      intro E hE
      exact ih j o' f' (by simpa using ho) (by simpa using hf) E (by rw [show i + 1 + j = i + (j + 1) from by omega]; exact hE)
theorem any_tail {P : Program} {l : List Oper} {QQ : Exit → Act → World → Prop} : ∀ (fuel k : Nat) (listed : Array Bool) (a : Act) (w : World), listed.size = l.length → (∀ j, j < l.length → listed.getD j false = decide (j < k)) → l.length ≤ k + fuel → k ≤ l.length →
    (∀ i o, l[i]? = some o → ∀ e ∈ o.after, Region.binds .any e = true → e.on < i) → (∀ i, k ≤ i → i < l.length → ∀ j, j < i → reach l i j = true) →
    wpList P l.toArray QQ (l.drop k) a w → wpAny P .any l.toArray QQ fuel listed a w := by
  intro fuel
  induction fuel with
  | zero =>
    intro k listed a w hs hl hf hk hac hre h
    have hkl : k = l.length := by omega
    subst hkl
    rw [List.drop_length] at h
    refine ⟨?_, h⟩
    rw [List.eq_nil_iff_forall_not_mem]
    intro j hj
    obtain ⟨h1, o, ho, _⟩ := mem_ready.1 hj
    have hjl : j < l.length := by simpa using (Array.getElem?_eq_some_iff.1 ho).1
    have := hl j hjl
    have e : listed.getD j true = listed.getD j false := by simp [Array.getD_eq_getD_getElem?, Array.getElem?_eq_getElem (show j < listed.size by omega)]
    rw [e, this] at h1
    simp at h1; omega
  | succ fuel ih =>
    intro k listed a w hs hl hf hk hac hre h
    have hget : ∀ j, j < l.length → listed.getD j true = decide (j < k) := fun j hj => by
      rw [← hl j hj]
      simp [Array.getD_eq_getD_getElem?, Array.getElem?_eq_getElem (show j < listed.size by omega)]
    have honly : ∀ j ∈ Region.ready .any l.toArray listed, j = k := fun j hj => by
      obtain ⟨h1, o, ho, hpre⟩ := mem_ready.1 hj
      have hjl : j < l.length := by simpa using (Array.getElem?_eq_some_iff.1 ho).1
      rw [hget j hjl] at h1
      have hkj : k ≤ j := by simpa using h1
      rcases Nat.lt_or_ge k j with hlt | hge
      · exfalso
        have hr := hre j hkj hjl k hlt
        have hcl : ∀ i o, l[i]? = some o → (fun q => listed.getD q false) i = true → ∀ e ∈ o.after, Region.binds .any e = true → (fun q => listed.getD q false) e.on = true := fun i o ho hi e he hb => by
          have hil : i < l.length := (List.getElem?_eq_some_iff.1 ho).1
          have he' := hac i o ho e he hb
          simp only at hi ⊢
          rw [hl i hil] at hi
          rw [hl e.on (by omega)]
          simp at hi ⊢; omega
        have := reach_closed hac hcl j o (by simpa using ho) hpre k hr
        rw [hl k (by omega)] at this
        simp at this
      · omega
    refine ⟨fun hr => ?_, fun i hi => ?_⟩
    · rcases Nat.lt_or_ge k l.length with hkl | hkl
      · exfalso
        have hko : l[k]? = some l[k] := List.getElem?_eq_getElem hkl
        have : k ∈ Region.ready .any l.toArray listed := mem_ready.2 ⟨by rw [hget k hkl]; simp, l[k], by simpa using hko, fun e he hb => by
          have he' := hac k _ hko e he hb
          rw [hl e.on (by omega)]; simpa using he'⟩
        rw [hr] at this
        cases this
      · have : k = l.length := by omega
        subst this
        rw [List.drop_length] at h
        exact h
    · have := honly i hi
      subst this
      have hil : i < l.length := by
        obtain ⟨_, o, ho, _⟩ := mem_ready.1 hi
        simpa using (Array.getElem?_eq_some_iff.1 ho).1
      have hio : l.toArray[i]? = some l[i] := by simp [List.getElem?_eq_getElem hil]
      rw [List.drop_eq_getElem_cons hil] at h
      unfold wpOp
      rw [hio]
      simp only
      unfold wpList at h
      have hnext : ∀ a w, wpList P l.toArray QQ (l.drop (i + 1)) a w → wpAny P .any l.toArray QQ fuel (listed.setIfInBounds i true) a w := fun a w h => by
        refine ih (i + 1) _ a w (by simp [hs]) (fun j hj => ?_) (by omega) (by omega) hac (fun q hq => hre q (by omega)) h
        by_cases e : i = j
        · subst e
          simp [Array.getD_eq_getD_getElem?, Array.getElem?_setIfInBounds, hs, hj]
        · rw [getD_set_ne false e, hl j hj]
          simp; omega
      split at h
      · rename_i hw; rw [if_pos hw]; exact h.imp (Oper.wp_mono hnext) id
      · rename_i hw; rw [if_neg hw]; exact hnext _ _ h
theorem plus_all {E0 : Env} {L : Nat → Bool} : ∀ (fs : List Eff) (i : Nat), (∀ j, j < fs.length → L (i + j) = true) → plus E0 L i fs = plus E0 (fun _ => true) i fs
  | [], i, _ => rfl
  | f :: fs, i, h => by
    simp only [plus]
    rw [if_pos (show L i = true by simpa using h 0 (by simp))]
    simp only [if_true]
    rw [plus_all fs (i + 1) (fun j hj => by rw [show i + 1 + j = i + (j + 1) from by omega]; exact h (j + 1) (by simp; omega))]
theorem plus_none {E0 : Env} {L : Nat → Bool} : ∀ (fs : List Eff) (i : Nat), (∀ j, j < fs.length → L (i + j) = false) → plus E0 L i fs = E0
  | [], i, _ => rfl
  | f :: fs, i, h => by
    simp only [plus]
    rw [if_neg (by rw [show L i = false from by simpa using h 0 (by simp)]; simp), plus_none fs (i + 1) (fun j hj => by rw [show i + 1 + j = i + (j + 1) from by omega]; exact h (j + 1) (by simp; omega))]
theorem plus_mem {E0 : Env} {L : Nat → Bool} {x : Nat × PV} : ∀ (fs : List Eff) (i : Nat), x ∈ (plus E0 L i fs).tm → x ∈ E0.tm ∨ ∃ j f, fs[j]? = some f ∧ L (i + j) = true ∧ x = (f.dst, f.pv)
  | [], i, h => .inl h
  | f :: fs, i, h => by
    simp only [plus] at h
    have ih := fun h => plus_mem (x := x) (E0 := E0) (L := L) fs (i + 1) h
    split at h
    · rename_i hL
      rcases List.mem_cons.1 h with e | h
      · exact .inr ⟨0, f, rfl, by simpa using hL, e⟩
      · rcases ih h with h | ⟨j, g, h1, h2, h3⟩
        · exact .inl h
        · exact .inr ⟨j + 1, g, by simpa using h1, by rw [← h2]; congr 1; omega, h3⟩
    · rcases ih h with h | ⟨j, g, h1, h2, h3⟩
      · exact .inl h
      · exact .inr ⟨j + 1, g, by simpa using h1, by rw [← h2]; congr 1; omega, h3⟩
theorem any_pre {P : Program} {C : Ctx} {E0 : Env} {l : List Oper} {effs : List Eff} {QQ : Exit → Act → World → Prop} (hok : okDraw E0 l effs = true) (hst : Steps_ P C E0 l effs 0 l effs)
    (htail : ∀ a w, Rel C (plus E0 (fun _ => true) 0 effs) a w → wpList P l.toArray QQ (l.drop effs.length) a w) :
    ∀ (fuel : Nat) (U : List Nat) (listed : Array Bool) (a : Act) (w : World), listed.size = l.length → (∀ j, effs.length ≤ j → listed.getD j false = false) → (∀ j, j < effs.length → listed.getD j false = false → j ∈ U) → U.length + (l.length - effs.length) ≤ fuel →
      (∀ i o, l[i]? = some o → listed.getD i false = true → ∀ e ∈ o.after, Region.binds .any e = true → listed.getD e.on false = true) →
      Rel C (plus E0 (fun j => listed.getD j false) 0 effs) a w → wpAny P .any l.toArray QQ fuel listed a w := by
  simp only [okDraw, Bool.and_eq_true, decide_eq_true_eq] at hok
  obtain ⟨⟨⟨⟨⟨⟨o1, o2⟩, o3⟩, o4⟩, o5⟩, o6⟩, o7⟩ := hok
  have hac : ∀ i o, l[i]? = some o → ∀ e ∈ o.after, Region.binds .any e = true → e.on < i := fun i o ho e he hb => by
    have hil : i < l.length := (List.getElem?_eq_some_iff.1 ho).1
    have := allLt_spec o2 i hil
    rw [List.all_eq_true] at this
    have hd : l.getD i default = o := by rw [List.getD_eq_getElem?_getD, ho]; rfl
    have := this e (by rw [hd]; simpa using he)
    simp only [hb, Bool.not_true, Bool.false_or, decide_eq_true_eq] at this
    exact this
  have hre : ∀ i, effs.length ≤ i → i < l.length → ∀ j, j < i → reach l i j = true := fun i hi hil j hj => by
    have := allLt_spec o7 i hil
    simp only [Bool.or_eq_true, decide_eq_true_eq] at this
    rcases this with h | h
    · omega
    · exact allLt_spec h j hj
  have hne : ∀ i, i < effs.length → ∀ j, j < effs.length → i ≠ j → (effs.getD i ⟨0, .one .und, []⟩).dst ≠ (effs.getD j ⟨0, .one .und, []⟩).dst := fun i hi j hj h => by
    have := allLt_spec (allLt_spec o4 i hi) j hj
    simp only [Bool.or_eq_true, beq_iff_eq, bne_iff_ne] at this
    rcases this with h' | h'
    · exact absurd h' h
    · exact h'
  intro fuel
  induction fuel with
  | zero =>
    intro U listed a w hs hge hU hf hcl R
    have hall : ∀ j, j < effs.length → listed.getD j false = true := fun j hj => by
      cases h : listed.getD j false with
      | true => rfl
      | false => have := hU j hj h; have h0 : U = [] := List.eq_nil_of_length_eq_zero (by omega); rw [h0] at this; cases this
    rw [plus_all effs 0 (fun j hj => by simpa using hall j hj)] at R
    refine any_tail 0 effs.length listed a w hs (fun j hj => ?_) (by omega) o1 hac hre (htail a w R)
    by_cases h : j < effs.length
    · rw [hall j h]; simp [h]
    · rw [hge j (by omega)]; simp [h]
  | succ fuel ih =>
    intro U listed a w hs hge hU hf hcl R
    by_cases hall : ∀ j, j < effs.length → listed.getD j false = true
    · rw [plus_all effs 0 (fun j hj => by simpa using hall j hj)] at R
      refine any_tail (fuel + 1) effs.length listed a w hs (fun j hj => ?_) (by omega) o1 hac hre (htail a w R)
      by_cases h : j < effs.length
      · rw [hall j h]; simp [h]
      · rw [hge j (by omega)]; simp [h]
    · refine ⟨fun hr => ?_, fun i hi => ?_⟩
      · -- the least that has not come up may
        exfalso
        have : ∃ j, j < effs.length ∧ listed.getD j false = false := Classical.byContradiction fun hn => hall fun j hj => by
          cases h : listed.getD j false with
          | true => rfl
          | false => exact absurd ⟨j, hj, h⟩ hn
        obtain ⟨j, hj, hjf⟩ := this
        have least : ∀ n, ∀ j, j ≤ n → j < effs.length → listed.getD j false = false → ∃ q, q < effs.length ∧ listed.getD q false = false ∧ ∀ p, p < q → listed.getD p false = true := by
          intro n
          induction n with
          | zero => intro j hjn hj hjf; exact ⟨j, hj, hjf, fun p hp => by omega⟩
          | succ n ihn =>
            intro j hjn hj hjf
            by_cases hlow : ∃ p, p < j ∧ listed.getD p false = false
            · obtain ⟨p, hp, hpf⟩ := hlow; exact ihn p (by omega) (by omega) hpf
            · exact ⟨j, hj, hjf, fun p hp => by cases h : listed.getD p false with | true => rfl | false => exact absurd ⟨p, hp, h⟩ hlow⟩
        obtain ⟨q, hq, hqf, hlow⟩ := least j j (Nat.le_refl _) hj hjf
        have hql : q < l.length := by omega
        have hqo : l[q]? = some l[q] := List.getElem?_eq_getElem hql
        have : q ∈ Region.ready .any l.toArray listed := mem_ready.2 ⟨by
          rw [← hqf]; simp [Array.getD_eq_getD_getElem?, Array.getElem?_eq_getElem (show q < listed.size by omega)], l[q], by simpa using hqo, fun e he hb => hlow _ (hac q _ hqo e he hb)⟩
        rw [hr] at this
        cases this
      · obtain ⟨h1, o, ho, hpre⟩ := mem_ready.1 hi
        have hil : i < l.length := by simpa using (Array.getElem?_eq_some_iff.1 ho).1
        have hio : l[i]? = some o := by simpa using ho
        have hif : listed.getD i false = false := by
          rw [← h1]; simp [Array.getD_eq_getD_getElem?, Array.getElem?_eq_getElem (show i < listed.size by omega)]
        have hrc := reach_closed (L := fun q => listed.getD q false) hac hcl i o hio hpre
        have him : i < effs.length := by
          rcases Nat.lt_or_ge i effs.length with h | h
          · exact h
          · exfalso; exact hall fun j hj => hrc j (hre i h hil j (by omega))
        have hf' : effs[i]? = some effs[i] := List.getElem?_eq_getElem him
        have hgd : effs.getD i ⟨0, .one .und, []⟩ = effs[i] := by rw [List.getD_eq_getElem?_getD, hf']; rfl
        -- the state where it comes up
        have hat : At E0 l effs i o (plus E0 (fun j => listed.getD j false) 0 effs) := by
          refine ⟨plus_boxes _ _, fun t ht => ?_, fun r hr => ?_, fun x hx => ?_⟩
          · by_cases hex : ∃ j, j < effs.length ∧ (effs.getD j ⟨0, .one .und, []⟩).dst = t
            · obtain ⟨j, hj, hjt⟩ := hex
              have hreach : reach l i j = true := by
                have := allLt_spec o5 i him
                rw [List.all_eq_true] at this
                have hd : l.getD i default = o := by rw [List.getD_eq_getElem?_getD, hio]; rfl
                have := allLt_spec (this t (by rw [hd]; exact ht)) j hj
                simp only [Bool.or_eq_true, bne_iff_ne] at this
                rcases this with h | h
                · exact absurd hjt h
                · exact h
              have hjf : effs[j]? = some effs[j] := List.getElem?_eq_getElem hj
              have hjd : effs.getD j ⟨0, .one .und, []⟩ = effs[j] := by rw [List.getD_eq_getElem?_getD, hjf]; rfl
              have hu : ∀ q, q < effs.length → q ≠ j → (effs.getD q ⟨0, .one .und, []⟩).dst ≠ effs[j].dst := fun q hq hqj => by rw [← hjd]; exact hne q hq j hj hqj
              rw [hjd] at hjt
              rw [← hjt, plus_get_at effs 0 j _ hjf (by simpa using hrc j hreach) hu, plus_get_at effs 0 j _ hjf rfl hu]
            · have hno : ∀ j, j < effs.length → (effs.getD j ⟨0, .one .und, []⟩).dst ≠ t := fun j hj h => hex ⟨j, hj, h⟩
              rw [plus_get effs 0 t (fun j hj _ => hno j hj), plus_get effs 0 t (fun j hj _ => hno j hj)]
          · by_cases hex : ∃ j, j < effs.length ∧ ∃ x ∈ (effs.getD j ⟨0, .one .und, []⟩).rows, x.1 = r
            · obtain ⟨j, hj, x, hx, hxr⟩ := hex
              have hreach : reach l i j = true := by
                have := allLt_spec hr j hj
                simp only [Bool.or_eq_true, Bool.not_eq_true'] at this
                rcases this with h | h
                · rw [List.any_eq_false] at h; have := h x hx; simp [hxr] at this
                · exact h
              have hjf : effs[j]? = some effs[j] := List.getElem?_eq_getElem hj
              have hjd : effs.getD j ⟨0, .one .und, []⟩ = effs[j] := by rw [List.getD_eq_getElem?_getD, hjf]; rfl
              have hu : ∀ q, q < effs.length → q ≠ j → ∀ y ∈ (effs.getD q ⟨0, .one .und, []⟩).rows, y.1 ≠ r := fun q hq hqj y hy => by
                have := allLt_spec o6 j hj
                rw [List.all_eq_true] at this
                have := this x hx
                simp only [Bool.and_eq_true] at this
                have := allLt_spec this.2 q hq
                simp only [Bool.and_eq_true, Bool.or_eq_true, beq_iff_eq, List.all_eq_true, bne_iff_ne] at this
                rcases this.1 with h | h
                · exact absurd h.symm hqj
                · rw [← hxr]; exact h y hy
              rw [hjd] at hx
              rw [plus_row_at effs 0 j _ r hjf (by simpa using hrc j hreach) ⟨x, hx, hxr⟩ hu, plus_row_at effs 0 j _ r hjf rfl ⟨x, hx, hxr⟩ hu]
            · have hno : ∀ j, j < effs.length → ∀ x ∈ (effs.getD j ⟨0, .one .und, []⟩).rows, x.1 ≠ r := fun j hj x hx h => hex ⟨j, hj, x, hx, h⟩
              rw [plus_row effs 0 r (fun j hj _ => hno j hj), plus_row effs 0 r (fun j hj _ => hno j hj)]
          · have := allLt_spec o6 i him
            rw [List.all_eq_true] at this
            have hx6 := this x hx
            simp only [Bool.and_eq_true] at hx6
            obtain ⟨e1, e2⟩ := hx6
            simp only [Env.noref', Bool.and_eq_true, List.all_eq_true, Option.isNone_iff_eq_none] at e1 ⊢
            obtain ⟨⟨f1, f2⟩, f3⟩ := e1
            refine ⟨⟨fun y hy c hc => ?_, fun y hy => f2 y (by rw [plus_boxes] at hy; exact hy)⟩, ?_⟩
            · rcases plus_mem effs 0 hy with h | ⟨j, f, h1, h2, rfl⟩
              · exact f1 y h c hc
              · have hj : j < effs.length := (List.getElem?_eq_some_iff.1 h1).1
                have := allLt_spec e2 j hj
                have hjd : effs.getD j ⟨0, .one .und, []⟩ = f := by rw [List.getD_eq_getElem?_getD, h1]; rfl
                simp only [Bool.and_eq_true, Bool.or_eq_true, beq_iff_eq, Bool.not_eq_true', hjd, List.any_eq_false] at this
                have hLj : listed.getD j false = true := by simpa using h2
                rcases this.2 with (h | h) | h
                · subst h; rw [hif] at hLj; cases hLj
                · have := h c hc; simpa using this
                · have hjl : j < l.length := by omega
                  have hjo : l[j]? = some l[j] := List.getElem?_eq_getElem hjl
                  have := reach_closed (L := fun q => listed.getD q false) hac hcl j _ hjo (fun e he hb => hcl j _ hjo hLj e he hb) i h
                  rw [hif] at this; cases this
            · show (plus E0 (fun j => listed.getD j false) 0 effs).row x.1 = none
              rw [plus_row effs 0 x.1 (fun j hj hLj y hy => ?_)]
              · exact f3
              · have := allLt_spec e2 j hj
                simp only [Bool.and_eq_true, Bool.or_eq_true, beq_iff_eq, List.all_eq_true, bne_iff_ne] at this
                rcases this.1 with h | h
                · subst h
                  have : listed.getD i false = true := by simpa using hLj
                  rw [hif] at this; cases this
                · exact h y hy
        have hstep := hst.at_ i o effs[i] hio hf' _ (by rw [Nat.zero_add]; exact hat)
        unfold wpOp
        rw [ho]
        simp only
        have hgo := hstep a w R (wpAny P .any l.toArray QQ fuel (listed.setIfInBounds i true)) QQ fun a' w' R' => ?_
        · split
          · rename_i hw; rw [if_pos hw] at hgo; exact .inl hgo
          · rename_i hw; rw [if_neg hw] at hgo; exact hgo
        · have hset : ∀ j, (listed.setIfInBounds i true).getD j false = if j = i then true else listed.getD j false := fun j => by
            by_cases h : i = j
            · subst h; simp [Array.getD_eq_getD_getElem?, Array.getElem?_setIfInBounds, hs, hil]
            · rw [getD_set_ne false h, if_neg (fun e => h e.symm)]
          refine ih (U.erase i) _ a' w' (by simp [hs]) (fun j hj => by rw [hset, if_neg (by omega)]; exact hge j hj) (fun j hj hjf => ?_) ?_ (fun q oq hq hql e he hb => ?_) ?_
          · rw [hset] at hjf
            split at hjf
            · cases hjf
            · rename_i hji; exact (List.mem_erase_of_ne hji).2 (hU j hj hjf)
          · have := List.length_erase_of_mem (hU i him hif)
            have hpos : 0 < U.length := List.length_pos_of_mem (hU i him hif)
            omega
          · rw [hset] at hql ⊢
            split at hql
            · rename_i hqi; subst hqi
              rw [hio] at hq; injection hq with hq; subst hq
              split
              · rfl
              · exact hpre e he hb
            · split
              · rfl
              · exact hcl q oq hq hql e he hb
          · -- the state behind it
            refine R'.weaken ⟨fun t => ?_, fun r x hx => ?_, fun b T ps hb => ?_⟩
            · have hgi : (effs[i].app (plus E0 (fun j => listed.getD j false) 0 effs)).get t = if effs[i].dst = t then effs[i].pv else (plus E0 (fun j => listed.getD j false) 0 effs).get t := Env.get_set _ _ _ _
              rw [hgi]
              have heq : (plus E0 (fun j => (listed.setIfInBounds i true).getD j false) 0 effs).get t = if effs[i].dst = t then effs[i].pv else (plus E0 (fun j => listed.getD j false) 0 effs).get t := by
                have hu : ∀ j (hj : j < effs.length), ∀ q, q < effs.length → q ≠ j → (effs.getD q ⟨0, .one .und, []⟩).dst ≠ effs[j].dst := fun j hj q hq hqj => by
                  have hjd : effs.getD j ⟨0, .one .und, []⟩ = effs[j] := by rw [List.getD_eq_getElem?_getD, List.getElem?_eq_getElem hj]; rfl
                  rw [← hjd]; exact hne q hq j hj hqj
                by_cases ht : effs[i].dst = t
                · rw [if_pos ht, ← ht, plus_get_at effs 0 i _ hf' (by simp only [Nat.zero_add]; rw [hset, if_pos rfl]) (hu i him)]
                · rw [if_neg ht]
                  by_cases hex : ∃ j, ∃ hj : j < effs.length, effs[j].dst = t ∧ listed.getD j false = true
                  · obtain ⟨j, hj, hjt, hjl⟩ := hex
                    have hjf : effs[j]? = some effs[j] := List.getElem?_eq_getElem hj
                    rw [← hjt, plus_get_at effs 0 j _ hjf (by simp only [Nat.zero_add]; rw [hset]; split; rfl; exact hjl) (hu j hj), plus_get_at effs 0 j _ hjf (by simpa using hjl) (hu j hj)]
                  · rw [plus_get effs 0 t (fun j hj hL => ?_), plus_get effs 0 t (fun j hj hL => ?_)]
                    · have hjd : effs.getD j ⟨0, .one .und, []⟩ = effs[j] := by rw [List.getD_eq_getElem?_getD, List.getElem?_eq_getElem hj]; rfl
                      rw [hjd]; exact fun h => hex ⟨j, hj, h, by simpa using hL⟩
                    · have hjd : effs.getD j ⟨0, .one .und, []⟩ = effs[j] := by rw [List.getD_eq_getElem?_getD, List.getElem?_eq_getElem hj]; rfl
                      simp only [Nat.zero_add] at hL
                      rw [hset] at hL
                      rw [hjd]
                      split at hL
                      · rename_i e; subst e; exact ht
                      · exact fun h => hex ⟨j, hj, h, hL⟩
              rw [heq]
              exact PV.le_refl _
            · -- the rows
              have hri : (effs[i].app (plus E0 (fun j => listed.getD j false) 0 effs)).row r = (lk effs[i].rows r).or ((plus E0 (fun j => listed.getD j false) 0 effs).row r) := lk_append _ _ _
              rw [hri]
              have hu : ∀ j (hj : j < effs.length), (∃ x ∈ effs[j].rows, x.1 = r) → ∀ q, q < effs.length → q ≠ j → ∀ y ∈ (effs.getD q ⟨0, .one .und, []⟩).rows, y.1 ≠ r := fun j hj ⟨x, hx, hxr⟩ q hq hqj y hy => by
                have hjd : effs.getD j ⟨0, .one .und, []⟩ = effs[j] := by rw [List.getD_eq_getElem?_getD, List.getElem?_eq_getElem hj]; rfl
                have := allLt_spec o6 j hj
                rw [List.all_eq_true] at this
                have := this x (by rw [hjd]; exact hx)
                simp only [Bool.and_eq_true] at this
                have := allLt_spec this.2 q hq
                simp only [Bool.and_eq_true, Bool.or_eq_true, beq_iff_eq, List.all_eq_true, bne_iff_ne] at this
                rcases this.1 with h | h
                · exact absurd h.symm hqj
                · rw [← hxr]; exact h y hy
              by_cases hxi : ∃ x ∈ effs[i].rows, x.1 = r
              · rw [plus_row_at effs 0 i _ r hf' (by simp only [Nat.zero_add]; rw [hset, if_pos rfl]) hxi (hu i him hxi)] at hx
                rw [hx]; rfl
              · rw [lk_none (fun y hy e => hxi ⟨y, hy, e⟩), Option.none_or]
                by_cases hex : ∃ j, ∃ hj : j < effs.length, (∃ x ∈ effs[j].rows, x.1 = r) ∧ listed.getD j false = true
                · obtain ⟨j, hj, hjx, hjl⟩ := hex
                  have hjf : effs[j]? = some effs[j] := List.getElem?_eq_getElem hj
                  rw [plus_row_at effs 0 j _ r hjf (by simp only [Nat.zero_add]; rw [hset]; split; rfl; exact hjl) hjx (hu j hj hjx)] at hx
                  rw [plus_row_at effs 0 j _ r hjf (by simpa using hjl) hjx (hu j hj hjx)]
                  exact hx
                · have hno : ∀ j, j < effs.length → (listed.getD j false = true ∨ j = i) → ∀ y ∈ (effs.getD j ⟨0, .one .und, []⟩).rows, y.1 ≠ r := fun j hj hL y hy e => by
                    have hjd : effs.getD j ⟨0, .one .und, []⟩ = effs[j] := by rw [List.getD_eq_getElem?_getD, List.getElem?_eq_getElem hj]; rfl
                    rw [hjd] at hy
                    rcases hL with hL | rfl
                    · exact hex ⟨j, hj, ⟨y, hy, e⟩, hL⟩
                    · exact hxi ⟨y, hy, e⟩
                  rw [plus_row effs 0 r (fun j hj hL => hno j hj (by
                    simp only [Nat.zero_add] at hL
                    rw [hset] at hL
                    split at hL
                    · right; assumption
                    · left; exact hL))] at hx
                  rw [plus_row effs 0 r (fun j hj hL => hno j hj (.inl (by simpa using hL)))]
                  exact hx
            · have h1 : (effs[i].app (plus E0 (fun j => listed.getD j false) 0 effs)).box b = E0.box b := by show lk (plus E0 (fun j => listed.getD j false) 0 effs).boxes b = _; rw [plus_boxes]; rfl
              have h2 : (plus E0 (fun j => (listed.setIfInBounds i true).getD j false) 0 effs).box b = E0.box b := by show lk (plus E0 (fun j => (listed.setIfInBounds i true).getD j false) 0 effs).boxes b = _; rw [plus_boxes]; rfl
              rw [h2] at hb
              exact ⟨ps, by rw [h1]; exact hb, All2.refl PC.le_refl ps⟩
theorem T.draw {P : Program} {C : Ctx} {id : Nat} {l : List Oper} {E0 : Env} {Q : Exit → Env → Prop} (effs : List Eff) (hm : P.follows .mixedOrders = true) (hok : okDraw E0 l effs = true) (hst : Steps_ P C E0 l effs 0 l effs)
    (htail : TL P C l.toArray (l.drop effs.length) (plus E0 (fun _ => true) 0 effs) (Q .normal)) : T P C (.region id l.toArray true) E0 Q := by
  intro a w ⟨M, R⟩
  refine wp_region_any hm ?_
  have R' := R.drew
  refine any_pre hok hst (fun a w R => htail a w R _ fun a' w' E' hq R' => ⟨E', hq, R'⟩) _ (List.range effs.length) _ a _ (by simp) (fun j _ => by simp [Array.getD_eq_getD_getElem?, Array.getElem?_replicate]; split <;> rfl) (fun j hj _ => by simpa using hj) ?_ (fun i o ho h => ?_) ?_
  · simp only [okDraw, Bool.and_eq_true, decide_eq_true_eq] at hok
    have := hok.1.1.1.1.1.1
    simp; omega
  · have : (Array.replicate l.toArray.size false).getD i false = false := by simp [Array.getD_eq_getD_getElem?, Array.getElem?_replicate]; split <;> rfl
    rw [this] at h; cases h
  · rw [plus_none effs 0 (fun j hj => by simp [Array.getD_eq_getD_getElem?, Array.getElem?_replicate]; split <;> rfl)]
    exact ⟨M, R'⟩
theorem le_ok {a b : Nat} (h : Nat.ble a b = true) : a ≤ b := Nat.le_of_ble_eq_true h
theorem lt_ok {a b : Nat} (h : Nat.ble (a + 1) b = true) : a < b := Nat.le_of_ble_eq_true h
def LeTm (E : Env) : List (Nat × PV) → Prop
  | [] => True
  | (t, p) :: l => E.get t = p ∧ LeTm E l
def LeRows (E : Env) : List (Nat × (TypeId × D)) → Prop
  | [] => True
  | (r, x) :: l => E.row r = some x ∧ LeRows E l
def LeBoxes (E : Env) : List (Nat × (TypeId × List PC)) → Prop
  | [] => True
  | (b, x) :: l => E.box b = some x ∧ LeBoxes E l
theorem LeTm.at_ {E : Env} : ∀ {l : List (Nat × PV)}, LeTm E l → ∀ t p, lk l t = some p → E.get t = p
  | [], _, t, p, h => by simp [lk] at h
  | (k, v) :: l, hl, t, p, h => by
    simp only [lk] at h
    split at h
    · rename_i e; subst e; injection h with h; subst h; exact hl.1
    · exact LeTm.at_ hl.2 t p h
theorem LeRows.at_ {E : Env} : ∀ {l : List (Nat × (TypeId × D))}, LeRows E l → ∀ t p, lk l t = some p → E.row t = some p
  | [], _, t, p, h => by simp [lk] at h
  | (k, v) :: l, hl, t, p, h => by
    simp only [lk] at h
    split at h
    · rename_i e; subst e; injection h with h; subst h; exact hl.1
    · exact LeRows.at_ hl.2 t p h
theorem LeBoxes.at_ {E : Env} : ∀ {l : List (Nat × (TypeId × List PC))}, LeBoxes E l → ∀ t p, lk l t = some p → E.box t = some p
  | [], _, t, p, h => by simp [lk] at h
  | (k, v) :: l, hl, t, p, h => by
    simp only [lk] at h
    split at h
    · rename_i e; subst e; injection h with h; subst h; exact hl.1
    · exact LeBoxes.at_ hl.2 t p h
theorem Env.le_mk {E : Env} {tm : List (Nat × PV)} {rows : List (Nat × (TypeId × D))} {boxes : List (Nat × (TypeId × List PC))} (h1 : LeTm E tm) (h2 : LeRows E rows) (h3 : LeBoxes E boxes) : ({ tm := tm, rows := rows, boxes := boxes } : Env).le E := by
  refine ⟨fun t => ?_, fun r x h => h2.at_ r x h, fun b T ps h => ⟨ps, h3.at_ b _ h, All2.refl PC.le_refl ps⟩⟩
  unfold Env.get
  cases hl : lk tm t with
  | none => exact PV.und_le _
  | some p =>
    have := h1.at_ t p hl
    unfold Env.get at this
    rw [Option.getD_some, ← this]
    exact PV.le_refl _
theorem Env.known_le {E : Env} {t : Nat} {b c : Bool} (h : b = c) (hx : E.get t = .one (.d (.bool b))) : (E.set t (.one (.d (.bool c)))).le E := by
  subst h
  refine ⟨fun u => ?_, fun r x h => h, fun b T ps h => ⟨ps, h, All2.refl PC.le_refl ps⟩⟩
  rw [Env.get_set]
  split
  · rename_i e; subst e; rw [hx]; exact PV.le_refl _
  · exact PV.le_refl _
theorem TL.known {P : Program} {C : Ctx} {ops : Array Oper} {l : List Oper} {E : Env} {Q : Env → Prop} (t : Nat) {b c : Bool} (h : b = c) (hx : E.get t = .one (.d (.bool b))) (hl : TL P C ops l (E.set t (.one (.d (.bool c)))) Q) : TL P C ops l E Q := TL.weaken (Env.known_le h hx) hl
theorem TL.gyes {P : Program} {C : Ctx} {ops : Array Oper} {o : Oper} {l : List Oper} {E E1 : Env} {Q : Env → Prop} {j : Nat} {want : Bool} (t : Nat) (hg : o.guard = some (j, want)) (hj : (ops[j]?).bind (·.dst) = some t) (ht : t < C.n) (hb : E.get t = .one (.d (.bool want))) (hs : Step P C o E E1) (h : TL P C ops l E1 Q) : TL P C ops (o :: l) E Q := by
  intro a w R QQ hQ
  refine wpList_step fun K hK => ?_
  rw [if_pos (by simp [Region.wanted, hg, guard_val R hj ht hb])]
  exact hs a w R K QQ fun a' w' R' => hK a' w' (h a' w' R' QQ hQ)
theorem RetC.rd' {E : Env} {x y : D} {ps : List PC} {rcs : List RC} {ss : List Nat} (h : x = y) (hr : RetC E ps rcs ss) : RetC E (.d x :: ps) (.rd y :: rcs) ss := by subst h; exact .rd hr
theorem RetC.own' {E : Env} {r : Nat} {T : TypeId} {d e : D} {ps : List PC} {rcs : List RC} {ss : List Nat} (hr : E.row r = some (T, d)) (h : d = e) (hn : ss.contains r = false) (hc : RetC E ps rcs ss) : RetC E (.row r [] :: ps) (.own T e :: rcs) (r :: ss) := by
  subst h
  refine .own hr ?_ hc
  intro hm
  rw [List.contains_iff_mem.2 hm] at hn
  exact absurd hn (by simp)
theorem RetC.nilown' {E : Env} {T : TypeId} {x : D} {ps : List PC} {rcs : List RC} {ss : List Nat} (h : x.isSl = true) (h0 : x.size = 0) (hw : x.wf) (hc : RetC E ps rcs ss) : RetC E (.nil :: ps) (.own T x :: rcs) ss := .nilown h h0 hw hc
theorem wrap_ok {x : Int} (h : -9223372036854775808 ≤ x) (h' : x ≤ 9223372036854775807) : IntKind.i64.wrap x = x := by rw [IntKind.wrap_i64]; omega
theorem wrap_u8 {x : Int} (h : 0 ≤ x) (h' : x ≤ 255) : IntKind.u8.wrap x = x := by
  have := IntKind.wrap_u8 x
  rw [this]; omega
theorem At.box {E0 : Env} {l : List Oper} {effs : List Eff} {i : Nat} {o : Oper} {E : Env} (h : At E0 l effs i o E) {b : Nat} {x : TypeId × List PC} (hb : E0.box b = some x) : E.box b = some x := by
  show lk E.boxes b = _
  rw [h.boxes]; exact hb
def rowIds (t : Nat) : Nat → List RC → List Nat
  | _, [] => []
  | j, .rd _ :: rcs => rowIds t (j + 1) rcs
  | j, .own _ _ :: rcs => rid t j :: rowIds t (j + 1) rcs
theorem fresh_of {E : Env} {t : Nat} : ∀ (rcs : List RC) (j : Nat), (∀ r ∈ rowIds t j rcs, E.noref' r = true) → E.freshRows t j rcs = true
  | [], _, _ => rfl
  | .rd _ :: rcs, j, h => fresh_of rcs (j + 1) h
  | .own _ _ :: rcs, j, h => by
    simp only [Env.freshRows, Bool.and_eq_true]
    exact ⟨h _ (by simp [rowIds]), fresh_of rcs (j + 1) fun r hr => h r (by simp [rowIds, hr])⟩
theorem At.freshRows {E0 : Env} {l : List Oper} {effs : List Eff} {i : Nat} {o : Oper} {E : Env} (h : At E0 l effs i o E) {t : Nat} {rcs : List RC} (hr : ((effs.getD i ⟨0, .one .und, []⟩).rows.map (·.1)).reverse = rowIds t 0 rcs) : E.freshRows t 0 rcs = true := by
  refine fresh_of rcs 0 fun r hm => ?_
  rw [← hr, List.mem_reverse] at hm
  obtain ⟨x, hx, rfl⟩ := List.mem_map.1 hm
  exact h.fresh x hx
theorem evs_cons {E : Env} {x : Operand} {xs : List Operand} {p : PV} {ps : List PV} (h : E.ev x = p) (h' : xs.map E.ev = ps) : (x :: xs).map E.ev = p :: ps := by rw [List.map_cons, h, h']
theorem T.bnd {P : Program} {C : Ctx} {c : Code} {E : Env} {Q : Exit → Env → Prop} (t j : Nat) {d : D} (hx : (E.get t).cells[j]? = some (.d d)) (hs : d.isSl = true) (h : d.size ≤ 9223372036854775807 → T P C c E Q) : T P C c E Q := by
  intro a w R
  have ⟨M, R0⟩ := R
  have ht := R0.tm t
  have key : ∃ v, Rd w (fun k => M.own k = .froz) [v] [d] := by
    cases he : E.get t with
    | one c =>
      rw [he] at hx ht
      cases j with
      | zero => simp only [PV.cells, List.getElem?_cons_zero, Option.some.injEq] at hx; subst hx; exact ⟨_, ht⟩
      | succ j => simp [PV.cells] at hx
    | agg cs =>
      rw [he] at hx ht
      obtain ⟨arr, _, h2⟩ := ht
      obtain ⟨v, _, hv⟩ := h2.get j _ hx
      exact ⟨v, hv⟩
    | tup vs =>
      rw [he] at hx ht
      obtain ⟨arr, _, h2⟩ := ht
      simp only [PV.cells] at hx
      have hm : PC.d d ∈ vs.flatMap (·.2) := List.mem_of_getElem? hx
      obtain ⟨x, hx1, hx2⟩ := List.mem_flatMap.1 hm
      obtain ⟨k, hk⟩ := List.getElem?_of_mem hx1
      obtain ⟨v, _, hv⟩ := h2.get k _ hk
      obtain ⟨b, cs⟩ := x
      cases b with
      | true =>
        obtain ⟨arr', _, h4⟩ := hv
        obtain ⟨k', hk'⟩ := List.getElem?_of_mem hx2
        obtain ⟨v', _, hv'⟩ := h4.get k' _ hk'
        exact ⟨v', hv'⟩
      | false =>
        match cs, hv, hx2 with
        | [c], hv, hx2 => simp only [List.mem_singleton] at hx2; subst hx2; exact ⟨v, hv⟩
  obtain ⟨v, hv⟩ := key
  obtain ⟨_, _, _, h2, _⟩ := rd_form hv hs
  exact h h2 a w R
theorem Step.len' {P : Program} {C : Ctx} {o : Oper} {E : Env} {t : Nat} {T e : TypeId} {z : Nat} {x : Operand} {c : PC} {d : D} (n : Nat) (ho : o.op = .call { callee := .builtin .len, args := #[x], argTypes := #[T] }) (hd : o.dst = some t) (ht : t < C.n)
    (hT : isSlice P T e z = true) (hx : E.ev x = .one c) (hc : E.cont c = some d) (hn : d.size = n) : Step P C o E (E.set t (.one (.d (.int .i64 n)))) := hn ▸ Step.len ho hd ht hT hx hc
theorem Step.to {P : Program} {C : Ctx} {o : Oper} {E E1 E2 : Env} (h : E1 = E2) (s : Step P C o E E1) : Step P C o E E2 := h ▸ s
theorem D.wf_nil (z : Nat) : (D.sl z []).wf := fun e h => by cases h
def zero1 (v : Value) (d : D) : Bool := match v, d with
  | .int k n, .int k' m => decide (k = k') && decide (n = m)
  | .bool b, .bool c => b == c
  | .slice none 0 0, d => d.isSl && d.size == 0
  | _, _ => false
def zeroB : List Value → List D → Bool
  | [], [] => true
  | v :: vs, d :: ds => zero1 v d && zeroB vs ds
  | _, _ => false
theorem wf_of_empty {d : D} (h : d.size = 0) : d.wf := by
  cases d with
  | sl z es => simp only [D.size] at h; have := List.length_eq_zero_iff.1 h; subst this; exact D.wf_nil z
  | _ => trivial
theorem zeroB_ok : ∀ (vs : List Value) (ds : List D), zeroB vs ds = true → ZeroOk vs ds
  | [], [], _ => .nil
  | [], _ :: _, h => by simp [zeroB] at h
  | _ :: _, [], h => by simp [zeroB] at h
  | v :: vs, d :: ds, h => by
    simp only [zeroB, Bool.and_eq_true] at h
    obtain ⟨h1, h2⟩ := h
    have ih := zeroB_ok vs ds h2
    unfold zero1 at h1
    split at h1
    · simp only [Bool.and_eq_true, decide_eq_true_eq] at h1
      obtain ⟨rfl, rfl⟩ := h1
      exact .val rfl ih
    · simp only [beq_iff_eq] at h1
      subst h1
      exact .val rfl ih
    · simp only [Bool.and_eq_true, beq_iff_eq] at h1
      exact .empty h1.1 h1.2 (wf_of_empty h1.2) ih
    · exact absurd h1 (by simp)
theorem guard_bool {P : Program} {w : World} {op : BinOp} {t : TypeId} {x y : Operand} {b c : Bool} : (eqGuard op t x y (.bool b) (.bool c)).run P w = .ok () w := by
  unfold eqGuard
  split <;> rfl
theorem Step.bneq {P : Program} {C : Ctx} {o : Oper} {E : Env} {t : Nat} {tx ty : TypeId} {x y : Operand} {b c : Bool} (ho : o.op = .binOp .neq tx x y ty) (hd : o.dst = some t) (ht : t < C.n) (hT : P.underlying tx = some .bool)
    (hx : E.ev x = .one (.d (.bool b))) (hy : E.ev y = .one (.d (.bool c))) : Step P C o E (E.set t (.one (.d (.bool (b != c))))) :=
  .value hd ht fun M a w R => ⟨.bool (b != c), by
    unfold execOp
    rw [ho]
    simp only [Sem.run_bind, Sem.run_pure]
    rw [ev_val R hx rfl, ev_val R hy rfl, guard_bool, Result.andThen, run_neq_bool w tx b c hT]
    rfl, ok_val M E w rfl⟩
def szThen (a : Int) (f : Int → Int) : Int := if a < 0 then -1 else f a
def szB (xs : List Int) (l : Int) : Int := if l - (xs.length : Int) < 0 then -1 else l - (xs.length : Int)
def szL {α : Type} (f : α → Int → Int) : List α → Int → Int
  | [], l => l
  | x :: xs, l => if f x l < 0 then -1 else szL f xs (f x l)
def szLs {α : Type} (f : α → Int → Int) (xs : List α) (l : Int) : Int := if l - (xs.length : Int) < 0 then -1 else szL f xs (l - (xs.length : Int))
theorem szThen_le' {a l : Int} {f : Int → Int} (h1 : a ≤ l) (h2 : 0 ≤ l) (h : ∀ b, 0 ≤ b → f b ≤ b) : szThen a f ≤ l := by unfold szThen; split; omega; exact Int.le_trans (h a (by omega)) h1
theorem szThen_nn {a : Int} {f : Int → Int} (h : 0 ≤ szThen a f) : 0 ≤ a ∧ 0 ≤ f a := by unfold szThen at h; split at h; omega; exact ⟨by omega, h⟩
theorem szB_le (xs : List Int) {l : Int} (h : 0 ≤ l) : szB xs l ≤ l := by unfold szB; split <;> omega
theorem szL_le {α : Type} {f : α → Int → Int} (hf : ∀ x l, 0 ≤ l → f x l ≤ l) : ∀ (xs : List α) {l : Int}, 0 ≤ l → szL f xs l ≤ l
  | [], l, _ => Int.le_refl _
  | x :: xs, l, h => by
    unfold szL
    split
    · omega
    · have := hf x l h
      have := szL_le hf xs (l := f x l) (by omega)
      omega
theorem szLs_le {α : Type} {f : α → Int → Int} (hf : ∀ x l, 0 ≤ l → f x l ≤ l) (xs : List α) {l : Int} (h : 0 ≤ l) : szLs f xs l ≤ l := by
  unfold szLs
  split
  · omega
  · have := szL_le hf xs (l := l - (xs.length : Int)) (by omega)
    omega
theorem szB_sm {xs : List Int} {l : Int} (h : 0 ≤ szB xs l) (hl : l ≤ 1048576) : xs.length ≤ 1048576 := by unfold szB at h; split at h <;> omega
theorem szL_sm {α : Type} {f : α → Int → Int} {p : α → Prop} (hf : ∀ x l, 0 ≤ l → f x l ≤ l) (hp : ∀ x l, 0 ≤ f x l → 0 ≤ l → l ≤ 1048576 → p x) : ∀ (xs : List α) {l : Int}, 0 ≤ l → l ≤ 1048576 → 0 ≤ szL f xs l → ∀ x ∈ xs, p x
  | [], l, _, _, _, x, hx => by cases hx
  | y :: ys, l, h0, hl, h, x, hx => by
    unfold szL at h
    split at h
    · omega
    · have := hf y l h0
      rcases List.mem_cons.1 hx with rfl | hx
      · exact hp _ l (by omega) h0 hl
      · exact szL_sm hf hp ys (by omega) (by omega) h x hx
theorem szLs_sm {α : Type} {f : α → Int → Int} {p : α → Prop} (hf : ∀ x l, 0 ≤ l → f x l ≤ l) (hp : ∀ x l, 0 ≤ f x l → 0 ≤ l → l ≤ 1048576 → p x) {xs : List α} {l : Int} (h : 0 ≤ szLs f xs l) (hl : l ≤ 1048576) : xs.length ≤ 1048576 ∧ ∀ x ∈ xs, p x := by
  unfold szLs at h
  split at h
  · omega
  · exact ⟨by omega, szL_sm hf hp xs (by omega) (by omega) h⟩
theorem szL_drop {α : Type} {f : α → Int → Int} {dflt : α} : ∀ (xs : List α) (i : Nat) (l : Int), i < xs.length → szL f (xs.drop i) l = if f (xs.getD i dflt) l < 0 then -1 else szL f (xs.drop (i + 1)) (f (xs.getD i dflt) l)
  | x :: xs, 0, l, _ => by simp [szL]
  | x :: xs, i + 1, l, h => by simpa using szL_drop xs i l (by simpa using h)
theorem fill_set {α : Type} (xs : List α) (z d : α) (i : Nat) (h : i < xs.length) : (xs.take i ++ List.replicate (xs.length - i) z).set i (xs.getD i d) = xs.take (i + 1) ++ List.replicate (xs.length - (i + 1)) z := by
  have e : xs.length - i = (xs.length - (i + 1)) + 1 := by omega
  rw [List.set_append_right _ _ (by rw [List.length_take]; omega), List.length_take, Nat.min_eq_left (by omega), Nat.sub_self, e, List.replicate_succ, List.set_cons_zero, List.take_succ_eq_append_getElem h, List.getD_eq_getElem?_getD, List.getElem?_eq_getElem h, List.append_assoc]
  rfl
theorem fill_all' {α : Type} (xs : List α) (z : α) (i : Nat) (h : xs.length ≤ i) : xs.take i ++ List.replicate (xs.length - i) z = xs := by
  rw [List.take_of_length_le h, show xs.length - i = 0 from by omega]; simp
theorem mem_getD {α : Type} {xs : List α} {p : α → Prop} {d : α} (h : ∀ x ∈ xs, p x) {i : Nat} (hi : i < xs.length) : p (xs.getD i d) := by
  rw [List.getD_eq_getElem?_getD, List.getElem?_eq_getElem hi]; exact h _ (List.getElem_mem hi)
theorem take_step {α : Type} {xs ys : List α} {d : α} {i : Nat} (hl : xs.length = ys.length) (hi : i < xs.length) (h : xs.take i = ys.take i) (he : xs.getD i d = ys.getD i d) : xs.take (i + 1) = ys.take (i + 1) := by
  rw [List.take_succ_eq_append_getElem hi, List.take_succ_eq_append_getElem (by omega), h]
  rw [List.getD_eq_getElem?_getD, List.getD_eq_getElem?_getD, List.getElem?_eq_getElem hi, List.getElem?_eq_getElem (by omega)] at he
  simp only [Option.getD_some] at he
  rw [he]
theorem take_all {α : Type} {xs ys : List α} {i : Nat} (hl : xs.length = ys.length) (hi : xs.length ≤ i) (h : xs.take i = ys.take i) : xs = ys := by
  rwa [List.take_of_length_le hi, List.take_of_length_le (by omega)] at h
def U8s (xs : List Int) : Prop := ∀ x ∈ xs, 0 ≤ x ∧ x ≤ 255
theorem str_eq {xs ys : List Int} (hx : U8s xs) (hy : U8s ys) : ((strOfNums xs).toList == (strOfNums ys).toList) = decide (xs = ys) := by
  have inj : ∀ xs ys : List Int, U8s xs → U8s ys → xs.map (fun n => UInt8.ofNat n.toNat) = ys.map (fun n => UInt8.ofNat n.toNat) → xs = ys := by
    intro xs
    induction xs with
    | nil => intro ys _ _ h; cases ys with | nil => rfl | cons y ys => simp at h
    | cons x xs ih =>
      intro ys hx hy h
      cases ys with
      | nil => simp at h
      | cons y ys =>
        simp only [List.map_cons, List.cons.injEq] at h
        obtain ⟨h1, h2⟩ := h
        have hx0 := hx x (by simp)
        have hy0 := hy y (by simp)
        have h3 := congrArg UInt8.toNat h1
        simp only [UInt8.toNat_ofNat'] at h3
        rw [Nat.mod_eq_of_lt (by omega), Nat.mod_eq_of_lt (by omega)] at h3
        rw [ih ys (fun z hz => hx z (by simp [hz])) (fun z hz => hy z (by simp [hz])) h2]
        congr 1
        omega
  by_cases h : xs = ys
  · subst h; simp
  · rw [decide_eq_false h]
    have hne : (strOfNums xs).toList ≠ (strOfNums ys).toList := fun e => by
      apply h
      apply inj xs ys hx hy
      rw [ByteArray.toList_eq, ByteArray.toList_eq] at e
      simpa [strOfNums] using e
    simpa using hne
def I64 (a : Int) : Prop := -9223372036854775808 ≤ a ∧ a ≤ 9223372036854775807
def OpensR {α : Type} (P : Program) (t : TypeId) (enc : α → List D) (W : α → Prop) : Prop :=
  ∀ {H : Type} (e : TypeId × Value → H) (w : World) (base : Nat) (spare : Nat → Bool) (held : Bool) (fuel : Nat) (cs : List Value) (x : DataW H × List MemPlace),
    DataW.trod e P w base spare held fuel t cs = some x → ∃ y, Rd w (fun k => k < w.heap.size) cs (enc y) ∧ W y
theorem opensR_int {P : Program} {t : TypeId} (ht : P.underlying t = some (.int .i64)) : OpensR P t (fun n : Int => [D.int .i64 n]) I64 := by
  intro H e w base spare held fuel cs x h
  obtain ⟨n, rfl, _, hw⟩ := DataW.trod_int ht h
  exact ⟨n, .val rfl .nil, bounds_i64 hw⟩
theorem opensR_u8 {P : Program} {t : TypeId} (ht : P.underlying t = some (.int .u8)) : OpensR P t (fun n : Int => [D.int .u8 n]) (fun n => 0 ≤ n ∧ n ≤ 255) := by
  intro H e w base spare held fuel cs x h
  obtain ⟨n, rfl, _, hw⟩ := DataW.trod_int ht h
  exact ⟨n, .val rfl .nil, bounds_u8 hw⟩
theorem choose_list {α : Type} {p : Nat → α → Prop} : ∀ n : Nat, (∀ i, i < n → ∃ y, p i y) → ∃ l : List α, l.length = n ∧ ∀ i y, l[i]? = some y → p i y
  | 0, _ => ⟨[], rfl, fun i y h => by simp at h⟩
  | n + 1, h => by
    obtain ⟨l, hl, hp⟩ := choose_list n (fun i hi => h i (by omega))
    obtain ⟨y, hy⟩ := h n (by omega)
    refine ⟨l ++ [y], by simp [hl], fun i z hz => ?_⟩
    by_cases hi : i < l.length
    · rw [List.getElem?_append_left hi] at hz; exact hp i z hz
    · rw [List.getElem?_append_right (by omega)] at hz
      have hi0 : i - l.length = 0 := by
        by_cases h0 : i - l.length = 0
        · exact h0
        · rw [List.getElem?_eq_none (by simp; omega)] at hz; exact absurd hz (by simp)
      have : i = n := by omega
      subst this
      rw [hi0] at hz
      simp at hz
      subst hz
      exact hy
theorem rd_flatten {α : Type} {w : World} {Z : Nat → Prop} {enc : α → List D} : ∀ l : List (α × List Value), (∀ x ∈ l, Rd w Z x.2 (enc x.1)) → Rd w Z (l.map (·.2)).flatten ((l.map (·.1)).map enc).flatten
  | [], _ => .nil
  | x :: l, h => by
    simp only [List.map_cons, List.flatten_cons]
    exact (h x (by simp)).append (rd_flatten l fun y hy => h y (by simp [hy]))
theorem cell_lt {w : World} {a : Addr} {u : Value} (h : w.cell? a = some u) : a.block < w.heap.size := by
  by_cases hb : a.block < w.heap.size
  · exact hb
  · unfold World.cell? at h
    rw [Array.getElem?_eq_none (by omega)] at h
    exact absurd h (by simp)
theorem opensR_slice {α : Type} {P : Program} {t e z : Nat} {enc : α → List D} {W : α → Prop} (mk : List α → D) (ht : P.underlying t = some (.slice e)) (hc : P.cellsOf e = z) (hz : 0 < z)
    (hm : ∀ xs, (mk xs).isSl = true ∧ (mk xs).size = xs.length ∧ (mk xs).wf ∧ (mk xs).flat = (xs.map enc).flatten) (hd : OpensR P e enc W) : OpensR P t (fun xs : List α => [mk xs]) (fun xs => ∀ x ∈ xs, W x) := by
  intro H en w base spare held fuel cs x h
  rcases DataW.trod_slice ht h with ⟨rfl, _⟩ | ⟨a, len, cap, elems, rest, n, _, rfl, _, _, hl, hcp, hel, hget, _⟩
  · obtain ⟨h1, h2, h3, h4⟩ := hm []
    refine ⟨[], ?_, by simp⟩
    have := Rd.sl (w := w) (Z := fun k => k < w.heap.size) (A := none) (cap := 0) (d := mk []) (cs := []) (vs := []) (ds := []) h1 (by rw [h2]; simp) (by rw [h2]; simp) h3 (fun hn => absurd h2 hn) (fun j c hj => by simp at hj) (by rw [h4]; exact .nil) .nil
    rw [h2] at this
    exact this
  · have hp : ∀ i, i < len → ∃ y : α × List Value, y.2.length = z ∧ Rd w (fun k => k < w.heap.size) y.2 (enc y.1) ∧ W y.1 ∧ ∀ j u, y.2[j]? = some u → w.cell? (a.add (i * z + j)) = some u := by
      intro i hi
      have hg := hget i hi
      obtain ⟨q, hq⟩ : ∃ q, elems[i]? = some q := ⟨elems.get ⟨i, by omega⟩, List.getElem?_eq_getElem (by omega)⟩
      rw [hq] at hg
      obtain ⟨cs', hcs, htr⟩ := Option.bind_eq_some_iff.1 hg
      obtain ⟨y, hK, hW⟩ := hd en w base spare held n cs' q htr
      obtain ⟨_, hcl, hat⟩ := World.cells?_some hcs
      refine ⟨(y, cs'), by rw [hcl, hc], hK, hW, fun j u hj => ?_⟩
      have hjl : j < P.cellsOf e := by rw [← hcl]; exact (List.getElem?_eq_some_iff.1 hj).1
      have := hat j hjl
      rw [hj] at this
      rw [← this, hc, ← Go.Deep.add_add]
    obtain ⟨l, hll, hlp⟩ := choose_list len hp
    subst hll
    obtain ⟨h1, h2, h3, h4⟩ := hm (l.map (·.1))
    have hlen : ∀ e ∈ l.map (·.2), e.length = z := fun e he => by
      obtain ⟨y, hy, rfl⟩ := List.mem_map.1 he
      obtain ⟨i, hi⟩ := List.getElem?_of_mem hy
      exact (hlp i y hi).1
    have hat : ∀ j c, (l.map (·.2)).flatten[j]? = some c → ∃ a', some a = some a' ∧ w.cell? (a'.add j) = some c := fun j c hj => by
      refine ⟨a, rfl, ?_⟩
      have e := flatten_get z (l.map (·.2)) hlen (j / z) (j % z) (Nat.mod_lt _ hz)
      rw [Nat.mul_comm, Nat.div_add_mod] at e
      rw [hj] at e
      obtain ⟨c', hc', hcc⟩ := Option.bind_eq_some_iff.1 e.symm
      rw [List.getElem?_map] at hc'
      obtain ⟨y, hy, rfl⟩ := Option.map_eq_some_iff.1 hc'
      have := (hlp _ y hy).2.2.2 _ _ hcc
      rw [Nat.mul_comm, Nat.div_add_mod] at this
      exact this
    have hcap : cap ≤ 9223372036854775807 := hcp
    have hsz : (mk (l.map (·.1))).size = l.length := by rw [h2, List.length_map]
    refine ⟨l.map (·.1), ?_, fun y hy => ?_⟩
    · have := Rd.sl (w := w) (Z := fun k => k < w.heap.size) (A := some a) (cap := cap) (d := mk (l.map (·.1))) (cs := (l.map (·.2)).flatten) (vs := []) (ds := []) h1 (by rw [hsz]; omega) (by rw [hsz]; exact hl) h3
        (fun hn => ⟨a, rfl, by
          rw [hsz] at hn
          have h0 : 0 < l.length := by omega
          have hy := List.getElem?_eq_getElem h0
          obtain ⟨q1, _, _, q4⟩ := hlp 0 _ hy
          have q5 := q4 0 _ (List.getElem?_eq_getElem (by rw [q1]; exact hz))
          have := cell_lt q5
          rwa [add_block] at this⟩)
        hat (by rw [h4]; exact rd_flatten l fun y hy => by obtain ⟨i, hi⟩ := List.getElem?_of_mem hy; exact (hlp i y hi).2.1) .nil
      rw [hsz] at this
      exact this
    · obtain ⟨q, hq, rfl⟩ := List.mem_map.1 hy
      obtain ⟨i, hi⟩ := List.getElem?_of_mem hq
      exact (hlp i q hi).2.2.1
theorem opensR_bytes {P : Program} {t e : Nat} (ht : P.underlying t = some (.slice e)) (hc : P.cellsOf e = 1) (he : P.underlying e = some (.int .u8)) : OpensR P t (fun xs : List Int => [D.ints .u8 xs]) U8s :=
  opensR_slice (D.ints .u8) ht hc (by omega) (fun xs => ⟨rfl, rfl, trivial, by simp only [D.flat]; induction xs with | nil => rfl | cons x xs ih => simp [ih]⟩) (opensR_u8 he)
theorem opensR_bss {P : Program} {t e : Nat} (ht : P.underlying t = some (.slice e)) (hc : P.cellsOf e = 1) (he : OpensR P e (fun xs : List Int => [D.ints .u8 xs]) U8s) : OpensR P t (fun xs : List (List Int) => [D.bss xs]) (fun xs => ∀ x ∈ xs, U8s x) :=
  opensR_slice D.bss ht hc (by omega) (fun xs => ⟨rfl, rfl, trivial, by simp only [D.flat]; induction xs with | nil => rfl | cons x xs ih => simp [ih]⟩) he
theorem open_field {α : Type} {P : Program} {H : Type} {e : TypeId × Value → H} {w : World} {base : Nat} {spare : Nat → Bool} {held : Bool} {n : Nat} {cs : List Value} {xs : List (DataW H × List MemPlace)} {t off m i : Nat} {enc : α → List D} {W : α → Prop} (ho : OpensR P t enc W)
    (hx : i < xs.length) (hc : P.cellsOf t = m) (h : DataW.trod e P w base spare held n t ((cs.drop off).take (P.cellsOf t)) = xs[i]?) : ∃ y, Rd w (fun k => k < w.heap.size) ((cs.drop off).take m) (enc y) ∧ W y := by
  rw [hc, List.getElem?_eq_getElem hx] at h
  exact ho e w base spare held n _ _ h
theorem rd_fields_nil {w : World} {Z : Nat → Prop} {cs : List Value} {off : Nat} (h : cs.length ≤ off) : Rd w Z (cs.drop off) [] := by rw [List.drop_eq_nil_of_le h]; exact .nil
theorem rd_fields {w : World} {Z : Nat → Prop} {cs : List Value} {off m : Nat} {as bs : List D} (h1 : Rd w Z ((cs.drop off).take m) as) (h2 : Rd w Z (cs.drop (off + m)) bs) : Rd w Z (cs.drop off) (as ++ bs) := by
  have : cs.drop off = (cs.drop off).take m ++ cs.drop (off + m) := by rw [← List.drop_drop, List.take_append_drop]
  rw [this]
  exact h1.append h2
theorem ret_true {w w' : World} {Z : Nat → Prop} {e : Ending} (h : Returns w Z [(false, [.rd (.bool true)])] e w') : e = .returned (.bool true) ∧ Below w.heap.size w w' := by
  obtain ⟨h1, vs, bcs, O, rfl, _, h4, h5, h6⟩ := h
  match bcs, h5, h4, h6 with
  | [(false, [u])], _, h4, h6 =>
    cases h4 with
    | cons hp hr =>
      cases hr
      simp only [Packs] at hp
      simp only [Bool.false_eq_true, if_false, List.cons.injEq, and_true] at hp
      subst hp
      obtain ⟨h7, _⟩ := h6
      exact ⟨by rw [rd_val h7 rfl]; rfl, h1⟩
  | [(false, [])], h5, _, _ => simp [shape] at h5
  | [(false, _ :: _ :: _)], h5, _, _ => simp [shape] at h5
  | [(true, _)], h5, _, _ => simp [shape] at h5
  | _ :: _ :: _, h5, _, _ => simp [shape] at h5
  | [], h5, _, _ => simp [shape] at h5
def Env.marked (E : Env) (f : PC → PC) (J : Nat → Option D) : Env := { E.mapc f with rows := E.rows.map fun x => (x.1, (x.2.1, (J x.1).getD x.2.2)) }
open Classical in
theorem RelM.mark {C : Ctx} {M : Maps} {E : Env} {a : Act} {w w' : World} (R : RelM C M E a w) {f : PC → PC} (J : Nat → Option D) (fp' : Nat → List Nat) (O' : Nat → Tag) (hfr : Frame_ C w') (hsz : w.heap.size ≤ w'.heap.size)
    (hk : ∀ k, M.own k ≠ .none → (∀ s, M.own k = .row s → J s = none) → w'.heap[k]? = w.heap[k]?)
    (hrow : ∀ r d', J r = some d' → ∃ T d, E.row r = some (T, d) ∧ d'.size = d.size ∧ d'.z = d.z ∧ RowOk w' T (M.hdl r) d' (fp' r) ∧ (fp' r).Nodup ∧ ∀ k ∈ fp' r, O' k = .row r)
    (hO : ∀ k, O' k ≠ .none → O' k ≠ .froz ∧ k < w'.heap.size ∧ ((M.own k = .none ∧ C.base ≤ k) ∨ ∃ s, M.own k = .row s ∧ (J s).isSome = true))
    (hf : ∀ c, f c = .und ∨ (f c = c ∧ ((∀ r, (J r).isSome = true → c.ment r = false) ∨ ∃ r, (J r).isSome = true ∧ (c = .row r [] ∨ ∃ i j, c = .rptr r [] i j)))) :
    RelM C { M with fp := fun x => if (J x).isSome = true then fp' x else M.fp x, own := fun k => if O' k = .none then M.own k else O' k } (E.marked f J) a w' := by
  generalize hM : ({ M with fp := fun x => if (J x).isSome = true then fp' x else M.fp x, own := fun k => if O' k = .none then M.own k else O' k } : Maps) = M'
  have hcase : ∀ k, (O' k = .none ∧ M'.own k = M.own k) ∨ (O' k ≠ .none ∧ M'.own k = O' k) := fun k => by
    by_cases e : O' k = .none
    · left; exact ⟨e, by subst hM; simp [e]⟩
    · right; exact ⟨e, by subst hM; simp [e]⟩
  have hkeep : ∀ k, M.own k ≠ .none → (∀ s, M.own k = .row s → J s = none) → M'.own k = M.own k := fun k h0 h1 => by
    rcases hcase k with ⟨_, e⟩ | ⟨e, _⟩
    · exact e
    · rcases (hO k e).2.2 with ⟨h, _⟩ | ⟨s, h, h'⟩
      · exact absurd h h0
      · rw [h1 s h] at h'; cases h'
  have hrw : ∀ r, (E.marked f J).row r = (E.row r).map fun x => (x.1, (J r).getD x.2) := fun r => by
    show lk (E.rows.map fun x => (x.1, (x.2.1, (J x.1).getD x.2.2))) r = _
    unfold Env.row
    induction E.rows with
    | nil => rfl
    | cons x l ih =>
      simp only [List.map_cons, lk]
      by_cases e : x.1 = r
      · subst e; simp
      · rw [if_neg e, if_neg e, ih]
  have hu : f .und = .und := by rcases hf .und with h | ⟨h, _⟩ <;> exact h
  have hget : ∀ t, (E.marked f J).get t = (E.get t).mapc f := fun t => Env.get_mapc E f hu t
  have hbox : ∀ t, (E.marked f J).box t = (E.box t).map fun x => (x.1, x.2.map f) := fun t => Env.box_mapc E f t
  have hhdl : M'.hdl = M.hdl := by subst hM; rfl
  have hfp : ∀ x, J x = none → M'.fp x = M.fp x := fun x hx => by subst hM; simp [hx]
  have hfpr : ∀ x, (J x).isSome = true → M'.fp x = fp' x := fun x hx => by subst hM; simp [hx]
  have hblk : M'.blk = M.blk := by subst hM; rfl
  have hfroz : ∀ k, M.own k = .froz → M'.own k = .froz ∧ w'.heap[k]? = w.heap[k]? := fun k h =>
    ⟨by rw [hkeep k (by rw [h]; simp) (fun s hs => by rw [h] at hs; cases hs)]; exact h, hk k (by rw [h]; simp) (fun s hs => by rw [h] at hs; cases hs)⟩
  have hlive : ∀ s, J s = none → ∀ T d, E.row s = some (T, d) → ∀ k ∈ M.fp s, M'.own k = .row s ∧ w'.heap[k]? = w.heap[k]? := fun s hs T d hT k hkf => by
    have ho := (R.rows s T d hT).2.2 k hkf
    have hc : ∀ s', M.own k = .row s' → J s' = none := fun s' e => by rw [ho] at e; injection e with e; subst e; exact hs
    exact ⟨by rw [hkeep k (by rw [ho]; simp) hc]; exact ho, hk k (by rw [ho]; simp) hc⟩
  have hbx : ∀ b T ps, E.box b = some (T, ps) → M'.own (M.blk b) = .box b ∧ w'.heap[M.blk b]? = w.heap[M.blk b]? := fun b T ps hb => by
    have ho := (R.boxes b T ps hb).1
    have hc : ∀ s', M.own (M.blk b) = .row s' → J s' = none := fun s' e => by rw [ho] at e; cases e
    exact ⟨by rw [hkeep _ (by rw [ho]; simp) hc]; exact ho, hk _ (by rw [ho]; simp) hc⟩
  have hrow' : ∀ r T d, (E.marked f J).row r = some (T, d) → ∃ d0, E.row r = some (T, d0) ∧ d = (J r).getD d0 := fun r T d h => by
    rw [hrw] at h
    obtain ⟨⟨T0, d0⟩, h1, h2⟩ := Option.map_eq_some_iff.1 h
    injection h2 with e1 e2
    subst e1
    exact ⟨d0, h1, e2.symm⟩
  have hc : ∀ c : PC, ∀ v, COk M E w v c → COk M' (E.marked f J) w' v (f c) := fun c v h => by
    rcases hf c with e | ⟨e, e2⟩
    · rw [e]; trivial
    · rw [e]
      rcases e2 with e2 | ⟨r, e3, e6⟩
      · exact h.mono R hfroz (fun _ _ _ => by rw [hblk]) (fun x hx T d hT => by
          have hne : J x = none := by
            cases hJ : J x with
            | none => rfl
            | some y => have := e2 x (by rw [hJ]; rfl); rw [this] at hx; cases hx
          obtain ⟨d0, h1, h2⟩ := hrow' x T d hT
          rw [hne] at h2
          subst h2
          exact ⟨h1, by rw [hhdl], fun k hk => (hlive x hne T _ h1 k hk).2⟩)
      · obtain ⟨d', hd'⟩ := Option.isSome_iff_exists.1 e3
        obtain ⟨T, d, k1, k2, k3, k4, _⟩ := hrow r d' hd'
        rcases e6 with rfl | ⟨i, j, rfl⟩
        · intro T2 d2 _
          have := h T d k1
          simp only [PathTo] at this ⊢
          rw [hhdl]; exact this
        · intro T2 d2 h2
          obtain ⟨d0, q1, q2⟩ := hrow' r T2 d2 h2
          rw [k1] at q1
          injection q1 with q1
          injection q1 with q3 q4
          subst q3 q4
          rw [hd'] at q2
          simp only [Option.getD_some] at q2
          subst q2
          obtain ⟨g, cap, p1, p2, p3, p4⟩ := h T d k1
          refine ⟨g, cap, ?_, by simp only [D.at_] at p2 ⊢; rw [k2]; exact p2, by simp only [D.at_] at p3 ⊢; rw [k3]; exact p3, by simp only [D.at_] at p4 ⊢; rw [k3]; exact p4⟩
          simp only [PathTo, D.at_] at p1 ⊢
          rw [hhdl, k2]; exact p1
  have hall : ∀ (vs : List Value) (ps : List PC), All2 (COk M E w) vs ps → All2 (COk M' (E.marked f J) w') vs (ps.map f) := fun vs ps h => by
    induction h with
    | nil => exact .nil
    | cons h1 _ ih => exact .cons (hc _ _ h1) ih
  refine { tn := R.tn, df := R.df, fr := hfr, ba := Nat.le_trans R.ba hsz, lt := ?_, z0 := fun k hk => (hfroz k (R.z0 k hk)).1, zb := ?_, wr := ?_, tm := ?_, rows := ?_, boxes := ?_, pin := ?_, bpin := fun b v hp hn T ps hb => (by rw [hbox] at hb; obtain ⟨⟨T2, ps2⟩, h1, h2⟩ := Option.map_eq_some_iff.1 hb; rw [hblk]; exact R.bpin b v hp hn T2 ps2 h1) }
  · intro k hk
    rcases hcase k with ⟨_, e⟩ | ⟨e, _⟩
    · exact Nat.lt_of_lt_of_le (R.lt k (by rw [← e]; exact hk)) hsz
    · exact (hO k e).2.1
  · intro k hk
    rcases hcase k with ⟨_, e⟩ | ⟨e0, e⟩
    · exact R.zb k (by rw [← e]; exact hk)
    · rw [e] at hk; exact absurd hk (hO k e0).1
  · intro k hk hk'
    rcases hcase k with ⟨_, e⟩ | ⟨e, _⟩
    · exact R.wr k (by rw [← e]; exact hk) (by rw [← e]; exact hk')
    · rcases (hO k e).2.2 with ⟨_, h⟩ | ⟨s, h, _⟩
      · exact .inr h
      · exact R.wr k (by rw [h]; simp) (by rw [h]; simp)
  · intro t
    rw [hget]
    have h := R.tm t
    generalize E.get t = p at h
    cases p with
    | one c => exact hc c _ h
    | agg cs => obtain ⟨arr, e, h⟩ := h; exact ⟨arr, e, hall _ _ h⟩
    | tup vs =>
      obtain ⟨arr, e, h⟩ := h
      refine ⟨arr, e, ?_⟩
      clear e
      generalize arr.toList = l at h
      show All2 _ l (vs.map _)
      induction h with
      | nil => exact .nil
      | @cons v y l vs h1 _ ih =>
        refine .cons ?_ ih
        obtain ⟨b, cs⟩ := y
        match b, cs, h1 with
        | true, cs, ⟨arr', e', h'⟩ => exact ⟨arr', e', hall _ _ h'⟩
        | false, [c], h' => exact hc c _ h'
  · intro x Tx dx hx
    obtain ⟨d0, q1, q2⟩ := hrow' x Tx dx hx
    cases hJ : J x with
    | some d' =>
      obtain ⟨T, d, k1, _, _, k4, k5, k6⟩ := hrow x d' hJ
      rw [k1] at q1
      injection q1 with q1
      injection q1 with q3 q4
      subst q3 q4
      rw [hJ] at q2
      simp only [Option.getD_some] at q2
      subst q2
      rw [hhdl, hfpr x (by rw [hJ]; rfl)]
      refine ⟨k4, k5, fun k hk => ?_⟩
      rcases hcase k with ⟨e, _⟩ | ⟨_, e⟩
      · rw [k6 k hk] at e; cases e
      · rw [e]; exact k6 k hk
    | none =>
      rw [hJ] at q2
      simp only [Option.getD_none] at q2
      subst q2
      obtain ⟨⟨h1, h2, h3⟩, h4, h5⟩ := R.rows x Tx dx q1
      have hl := hlive x hJ Tx dx q1
      rw [hhdl, hfp x hJ]
      refine ⟨⟨h1, h2.keep fun k hk => (hl k hk).2, fun ad n c hv => ?_⟩, h4, fun k hk => (hl k hk).1⟩
      obtain ⟨cs, fr, h6⟩ := h3 ad n c hv
      have hmem : ad.block ∈ M.fp x := by
        rw [hv] at h2
        generalize M.fp x = q at h2
        cases h2 with
        | val hv' _ => cases dx <;> simp [D.val] at hv'
        | sl _ _ _ _ _ _ _ _ => simp
      exact ⟨cs, fr, ((hl _ hmem).2).trans h6⟩
  · intro b Tb ps' hb
    rw [hbox] at hb
    obtain ⟨⟨T2, ps⟩, h1, h2⟩ := Option.map_eq_some_iff.1 hb
    injection h2 with e1 e2
    subst e1 e2
    obtain ⟨k1, cs, k2, k3⟩ := R.boxes b _ ps h1
    obtain ⟨k4, k5⟩ := hbx b _ ps h1
    rw [hblk]
    exact ⟨k4, cs, k5.trans k2, hall _ _ k3⟩
  · intro x v hxv Tx dx hx
    obtain ⟨d0, q1, _⟩ := hrow' x Tx dx hx
    rw [hhdl]
    exact R.pin x v hxv Tx d0 q1
inductive MC where
  | rd (d : D)
  | mk (d d' : D)
inductive MA where
  | one (c : MC)
  | agg (cs : List MC)
def MA.cells : MA → List MC
  | .one c => [c]
  | .agg cs => cs
end Go.Proofs.Ytlcmflenbddliaa.Rf
