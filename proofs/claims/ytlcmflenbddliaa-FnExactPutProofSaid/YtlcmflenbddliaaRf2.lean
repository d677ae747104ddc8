/- A logic of our own over the kit's 'wp': second part: what a frame's slots hold, and the memory that is owned. Plain definitions and theorems. -/
import Derived.Test.YtlcmflenbddliaaRf1
namespace Go.Proofs.Ytlcmflenbddliaa.Rf
open Go.RowKit
set_option linter.unusedVariables false
set_option linter.unnecessarySimpa false
set_option linter.unusedSimpArgs false

/-- What one cell holds: data that nobody writes; nil; a slice within an owned row; a pointer into a variable; a pointer to a cell of a slice; unknown. -/
inductive PC where
  | d (x : D)
  | nil
  | row (r : Nat) (p : List (Nat × Nat))
  | und
  | ptr (b off : Nat)
  | eptr (x : D) (i j : Nat)
  | rptr (r : Nat) (p : List (Nat × Nat)) (i j : Nat)
/-- What a slot holds. -/
inductive PV where
  | one (c : PC)
  | agg (cs : List PC)
  | tup (vs : List (Bool × List PC))

inductive All2 {α β : Type} (R : α → β → Prop) : List α → List β → Prop
  | nil : All2 R [] []
  | cons {a : α} {b : β} {as : List α} {bs : List β} : R a b → All2 R as bs → All2 R (a :: as) (b :: bs)

theorem All2.length {α β : Type} {R : α → β → Prop} {as : List α} {bs : List β} (h : All2 R as bs) : as.length = bs.length := by
  induction h with
  | nil => rfl
  | cons _ _ ih => simp [ih]
theorem All2.imp {α β : Type} {R R' : α → β → Prop} {as : List α} {bs : List β} (h : All2 R as bs) (H : ∀ a b, b ∈ bs → R a b → R' a b) : All2 R' as bs := by
  induction h with
  | nil => exact .nil
  | cons h1 _ ih => exact .cons (H _ _ (by simp) h1) (ih fun a b hb => H a b (by simp [hb]))
theorem All2.get {α β : Type} {R : α → β → Prop} {as : List α} {bs : List β} (h : All2 R as bs) : ∀ (j : Nat) (b : β), bs[j]? = some b → ∃ a, as[j]? = some a ∧ R a b := by
  induction h with
  | nil => intro j b hb; simp at hb
  | @cons a b as bs h1 _ ih =>
    intro j b' hb
    cases j with
    | zero => simp at hb; subst hb; exact ⟨a, rfl, h1⟩
    | succ j => exact ih j b' (by simpa using hb)
theorem All2.set {α β : Type} {R : α → β → Prop} {as : List α} {bs : List β} (h : All2 R as bs) {a : α} {b : β} (hab : R a b) : ∀ j : Nat, All2 R (as.set j a) (bs.set j b) := by
  induction h with
  | nil => intro j; exact .nil
  | cons h1 h2 ih =>
    intro j
    cases j with
    | zero => exact .cons hab h2
    | succ j => exact .cons h1 (ih j)
theorem All2.of_get {α β : Type} {R : α → β → Prop} : ∀ (as : List α) (bs : List β), as.length = bs.length → (∀ (j : Nat) a b, as[j]? = some a → bs[j]? = some b → R a b) → All2 R as bs
  | [], [], _, _ => .nil
  | [], _ :: _, h, _ => by simp at h
  | _ :: _, [], h, _ => by simp at h
  | a :: as, b :: bs, h, H => .cons (H 0 a b rfl rfl) (All2.of_get as bs (by simpa using h) fun j x y hx hy => H (j + 1) x y (by simpa using hx) (by simpa using hy))

def lk {α : Type} : List (Nat × α) → Nat → Option α
  | [], _ => none
  | (k, v) :: l, t => if k = t then some v else lk l t

/-- The slots; the rows that are owned; the variables in memory. -/
structure Env where
  tm : List (Nat × PV) := []
  rows : List (Nat × (TypeId × D)) := []
  boxes : List (Nat × (TypeId × List PC)) := []
def Env.get (E : Env) (t : Nat) : PV := (lk E.tm t).getD (.one .und)
def Env.row (E : Env) (r : Nat) : Option (TypeId × D) := lk E.rows r
def Env.box (E : Env) (b : Nat) : Option (TypeId × List PC) := lk E.boxes b
def Env.set (E : Env) (t : Nat) (v : PV) : Env := { E with tm := (t, v) :: E.tm }

/-- Whose a block is. -/
inductive Tag where
  | none
  | froz
  | row (r : Nat)
  | box (b : Nat)

structure Maps where
  hdl : Nat → Value
  fp : Nat → List Nat
  blk : Nat → Nat
  own : Nat → Tag

/-- From a slice with the data d: the value at a path. -/
def PathTo (w : World) : Value → D → List (Nat × Nat) → Value → Prop
  | v, _, [], u => u = v
  | v, d, (i, j) :: p, u => ∃ g cap cs t c, v = .slice (some ⟨g, 0, none⟩) d.size cap ∧ w.heap[g]? = some (.cells cs t (0, 0)) ∧ i < d.size ∧ j < d.z ∧ cs[i * d.z + j]? = some c ∧ PathTo w c (d.cell i j) p u
/-- The data at a path. -/
def D.at_ : D → List (Nat × Nat) → D
  | d, [] => d
  | d, (i, j) :: p => (d.cell i j).at_ p

/-- A cell's value is as the slot says. -/
def COk (M : Maps) (E : Env) (w : World) (v : Value) : PC → Prop
  | .d x => Rd w (fun k => M.own k = .froz) [v] [x]
  | .nil => v = .slice none 0 0
  | .row r p => ∀ T d, E.row r = some (T, d) → PathTo w (M.hdl r) d p v
  | .und => True
  | .ptr b off => v = .pointer (some ⟨M.blk b, off, none⟩)
  | .eptr x i j => ∃ a cap, Rd w (fun k => M.own k = .froz) [.slice (some a) x.size cap] [x] ∧ i < x.size ∧ j < x.z ∧ v = .pointer (some (a.add (i * x.z + j)))
  | .rptr r p i j => ∀ T d, E.row r = some (T, d) → ∃ g cap, PathTo w (M.hdl r) d p (.slice (some ⟨g, 0, none⟩) (d.at_ p).size cap) ∧ i < (d.at_ p).size ∧ j < (d.at_ p).z ∧ v = .pointer (some ⟨g, i * (d.at_ p).z + j, none⟩)

def AOk (M : Maps) (E : Env) (w : World) (v : Value) (cs : List PC) : Prop := ∃ arr : Array Value, v = .agg arr ∧ All2 (COk M E w) arr.toList cs
def TOk (M : Maps) (E : Env) (w : World) (v : Value) : Bool × List PC → Prop
  | (true, cs) => AOk M E w v cs
  | (false, [c]) => COk M E w v c
  | _ => False
def POk (M : Maps) (E : Env) (w : World) (v : Value) : PV → Prop
  | .one c => COk M E w v c
  | .agg cs => AOk M E w v cs
  | .tup vs => ∃ arr : Array Value, v = .tuple arr ∧ All2 (TOk M E w) arr.toList vs

/-- An owned row. -/
def RowOk (w : World) (T : TypeId) (v : Value) (d : D) (fp : List Nat) : Prop :=
  d.isSl = true ∧ Own w [v] [d] fp ∧ ∀ a n c, v = .slice (some a) n c → ∃ cs fr, w.heap[a.block]? = some (.cells cs T fr)

/-- What is fixed for a call: the heap's size as it began, the world then, the blocks that may be read, those that may be written, the rows whose head may not move, the number of slots. -/
structure Ctx where
  base : Nat
  w0 : World
  Z0 : Nat → Prop
  IX : Nat → Prop
  pin : List (Nat × Value)
  n : Nat

structure Frame_ (C : Ctx) (w : World) : Prop where
  os : w.os = C.w0.os
  tape : w.tape = C.w0.tape
  output : w.output = C.w0.output
  size : C.w0.heap.size ≤ w.heap.size
  block : ∀ k, k < C.base → ¬ C.IX k → w.heap[k]? = C.w0.heap[k]?

structure RelM (C : Ctx) (M : Maps) (E : Env) (a : Act) (w : World) : Prop where
  tn : a.tmps.size = C.n
  df : a.defers = []
  fr : Frame_ C w
  ba : C.base ≤ w.heap.size
  lt : ∀ k, M.own k ≠ .none → k < w.heap.size
  z0 : ∀ k, C.Z0 k → M.own k = .froz
  zb : ∀ k, M.own k = .froz → C.Z0 k ∨ C.base ≤ k
  wr : ∀ k, M.own k ≠ .none → M.own k ≠ .froz → C.IX k ∨ C.base ≤ k
  tm : ∀ t, POk M E w (a.tmps.getD t undef) (E.get t)
  rows : ∀ r T d, E.row r = some (T, d) → RowOk w T (M.hdl r) d (M.fp r) ∧ (M.fp r).Nodup ∧ ∀ k ∈ M.fp r, M.own k = .row r
  boxes : ∀ b T ps, E.box b = some (T, ps) → M.own (M.blk b) = .box b ∧ ∃ cs : Array Value, w.heap[M.blk b]? = some (.cells cs T (0, 0)) ∧ All2 (COk M E w) cs.toList ps
  pin : ∀ r v, (r, v) ∈ C.pin → ∀ T d, E.row r = some (T, d) → M.hdl r = v
  bpin : ∀ b v, (b, v) ∈ C.pin → C.n ≤ b → ∀ T ps, E.box b = some (T, ps) → v = .pointer (some ⟨M.blk b, 0, none⟩)
def Rel (C : Ctx) (E : Env) (a : Act) (w : World) : Prop := ∃ M, RelM C M E a w

/-! ### What does not mention a row -/
def PC.ment (r : Nat) : PC → Bool
  | .row r' _ => r == r'
  | .rptr r' _ _ _ => r == r'
  | _ => false
def PV.ment (r : Nat) : PV → Bool
  | .one c => c.ment r
  | .agg cs => cs.any (·.ment r)
  | .tup vs => vs.any fun x => x.2.any (·.ment r)
/-- A slot whose cell goes into a row of r is unknown from now on. -/
def PC.kill (r : Nat) (c : PC) : PC := if c.ment r then .und else c
def PV.kill (r : Nat) : PV → PV
  | .one c => .one (c.kill r)
  | .agg cs => .agg (cs.map (·.kill r))
  | .tup vs => .tup (vs.map fun x => (x.1, x.2.map (·.kill r)))
/-- The same, but those that name the whole row. -/
def PC.killDeep (r : Nat) : PC → PC
  | .row r' p => if r == r' && !p.isEmpty then .und else .row r' p
  | .rptr r' p i j => if r == r' && !p.isEmpty then .und else .rptr r' p i j
  | c => c
def PV.killDeep (r : Nat) : PV → PV
  | .one c => .one (c.killDeep r)
  | .agg cs => .agg (cs.map (·.killDeep r))
  | .tup vs => .tup (vs.map fun x => (x.1, x.2.map (·.killDeep r)))
def Env.map (E : Env) (f : PC → PC) : Env :=
  { tm := E.tm.map fun x => (x.1, match x.2 with | .one c => .one (f c) | .agg cs => .agg (cs.map f) | .tup vs => .tup (vs.map fun y => (y.1, y.2.map f))), rows := E.rows, boxes := E.boxes.map fun x => (x.1, x.2.1, x.2.2.map f) }
def Env.noref (E : Env) (r : Nat) : Bool := (E.tm.all fun x => !x.2.ment r) && (E.boxes.all fun x => x.2.2.all fun c => !c.ment r) && (lk E.rows r).isNone

theorem lk_map {α β : Type} (f : α → β) (l : List (Nat × α)) (t : Nat) : lk (l.map fun x => (x.1, f x.2)) t = (lk l t).map f := by
  induction l with
  | nil => rfl
  | cons x l ih =>
    obtain ⟨k, v⟩ := x
    simp only [List.map_cons, lk]
    split <;> simp_all
theorem lk_mem {α : Type} {l : List (Nat × α)} {t : Nat} {v : α} (h : lk l t = some v) : (t, v) ∈ l := by
  induction l with
  | nil => simp [lk] at h
  | cons x l ih =>
    obtain ⟨k, u⟩ := x
    simp only [lk] at h
    split at h
    · rename_i e; subst e; injection h with h; subst h; simp
    · simp [ih h]
theorem Env.get_set (E : Env) (t u : Nat) (v : PV) : (E.set t v).get u = if t = u then v else E.get u := by
  simp only [Env.get, Env.set, lk]
  split <;> rfl

/-! ### Cells go on holding where their blocks stay -/
/-- The datum at the end of a path, put anew. -/
def D.putAt : D → List (Nat × Nat) → D → Option D
  | _, [], x => some x
  | d, (i, j) :: p, x => ((d.cell i j).putAt p x).bind fun y => d.put i j y

theorem own_sl {w : World} {g n cap : Nat} {d : D} {bs : List Nat} (h : Own w [.slice (some ⟨g, 0, none⟩) n cap] [d] bs) : d.isSl = true ∧ d.wf ∧ n = d.size ∧ d.size ≤ cap ∧ cap ≤ 9223372036854775807 ∧ ∃ cs t b, w.heap[g]? = some (.cells cs t (0, 0)) ∧ cs.size = cap * d.z ∧ Own w (cs.toList.take d.flat.length) d.flat b ∧ bs = g :: b := by
  cases h with
  | val hv _ => cases d <;> simp [D.val] at hv
  | sl h1 h2 h3 h4 h5 h6 h7 h8 =>
    cases h8
    exact ⟨h1, h6, rfl, h3, h4, _, _, _, h2, h5, h7, by simp⟩

/-- Lending what lies at a path. -/
theorem Own.lend {w : World} : ∀ (p : List (Nat × Nat)) (v : Value) (d : D) (u : Value) (bs : List Nat), Own w [v] [d] bs → PathTo w v d p u → ∃ b1 b b2, bs = b1 ++ b ++ b2 ∧ Own w [u] [d.at_ p] b ∧
    ∀ (w' : World) (e d' : D) (b' : List Nat), d.putAt p e = some d' → Own w' [u] [e] b' → (∀ k ∈ b1, w'.heap[k]? = w.heap[k]?) → (∀ k ∈ b2, w'.heap[k]? = w.heap[k]?) → Own w' [v] [d'] (b1 ++ b' ++ b2)
  | [], v, d, u, bs, h, hp => by
    simp only [PathTo] at hp
    subst hp
    exact ⟨[], bs, [], by simp, h, fun w' e d' b' he ho _ _ => by simp only [D.putAt, Option.some.injEq] at he; subst he; simpa using ho⟩
  | (i, j) :: p, v, d, u, bs, h, ⟨g, cap, cs, t, c, h1, h2, h3, h4, h5, h6⟩ => by
    subst h1
    obtain ⟨k1, k2, _, k3, k4, cs', t', b, k5, k6, k7, rfl⟩ := own_sl h
    rw [h2] at k5
    injection k5 with k5
    injection k5 with e1 e2
    subst e1 e2
    have hlt : i * d.z + j < d.flat.length := by
      rw [D.flat_length k2 k1]
      calc i * d.z + j < i * d.z + d.z := by omega
        _ = (i + 1) * d.z := by rw [Nat.succ_mul]
        _ ≤ d.size * d.z := Nat.mul_le_mul_right _ (by omega)
    obtain ⟨c', c1, b0, c2, hc', rfl, ho, hback⟩ := k7.lend1 (i * d.z + j) (d.cell i j) (D.flat_get k2 k1 h3 h4)
    obtain rfl : c' = c := by
      rw [List.getElem?_take, if_pos hlt] at hc'
      have : cs[i * d.z + j]? = some c' := by simpa using hc'
      rw [h5] at this
      injection this with this
      exact this.symm
    obtain ⟨a1, a, a2, rfl, hoa, hbk⟩ := Own.lend p c' (d.cell i j) u b0 ho h6
    refine ⟨g :: (c1 ++ a1), a, a2 ++ c2, by simp, hoa, fun w' e d' b' he ho' hk1 hk2 => ?_⟩
    simp only [D.putAt] at he
    obtain ⟨y, hy, hput⟩ := Option.bind_eq_some_iff.1 he
    obtain ⟨f1, f2, f3, f4, f5⟩ := D.put_flat hput k2 h3 h4
    have hb := hbk w' e y b' hy ho' (fun k hk => hk1 k (by simp [hk])) (fun k hk => hk2 k (by simp [hk]))
    have hc := hback w' c' y _ hb (fun k hk => hk1 k (by simp [hk])) (fun k hk => hk2 k (by simp [hk]))
    have hset : (cs.toList.take d.flat.length).set (i * d.z + j) c' = cs.toList.take d.flat.length := by
      apply List.ext_getElem? 
      intro q
      rw [List.getElem?_set]
      split
      · rename_i e; subst e; split
        · rw [hc']
        · rename_i hh; rw [List.getElem?_eq_none (by omega)]
      · rfl
    rw [hset, ← f1] at hc
    have hlen : d'.flat.length = d.flat.length := by rw [f1, List.length_set]
    have hg : w'.heap[g]? = some (.cells cs t (0, 0)) := (hk1 g (by simp)).trans h2
    have := Own.sl (w := w') (vs := []) (ds := []) (b2 := []) f5 hg (by rw [f2]; exact k3) k4 (by rw [f3]; exact k6) f4 (by rw [hlen]; exact hc) .nil
    rw [f2] at this
    simpa using this

/-- A path in a row whose blocks stay. -/
theorem PathTo.keep {w w' : World} : ∀ (p : List (Nat × Nat)) (v : Value) (d : D) (u : Value) (bs : List Nat), Own w [v] [d] bs → PathTo w v d p u → (∀ k ∈ bs, w'.heap[k]? = w.heap[k]?) → PathTo w' v d p u
  | [], _, _, _, _, _, h, _ => h
  | (i, j) :: p, v, d, u, bs, ho, ⟨g, cap, cs, t, c, h1, h2, h3, h4, h5, h6⟩, hw => by
    subst h1
    obtain ⟨k1, k2, _, k3, k4, cs', t', b, k5, k6, k7, rfl⟩ := own_sl ho
    rw [h2] at k5
    injection k5 with k5
    injection k5 with e1 e2
    subst e1 e2
    obtain ⟨c', c1, b0, c2, hc', rfl, ho', hback⟩ := k7.lend1 (i * d.z + j) (d.cell i j) (D.flat_get k2 k1 h3 h4)
    have hlt : i * d.z + j < d.flat.length := by
      rw [D.flat_length k2 k1]
      calc i * d.z + j < i * d.z + d.z := by omega
        _ = (i + 1) * d.z := by rw [Nat.succ_mul]
        _ ≤ d.size * d.z := Nat.mul_le_mul_right _ (by omega)
    obtain rfl : c' = c := by
      rw [List.getElem?_take, if_pos hlt] at hc'
      have : cs[i * d.z + j]? = some c' := by simpa using hc'
      rw [h5] at this
      injection this with this
      exact this.symm
    exact ⟨g, cap, cs, t, c', rfl, (hw g (by simp)).trans h2, h3, h4, h5, PathTo.keep p c' _ u b0 ho' h6 fun k hk => hw k (by simp [hk])⟩

theorem PathTo.det {w : World} : ∀ (p : List (Nat × Nat)) (v : Value) (d : D) (u u' : Value), PathTo w v d p u → PathTo w v d p u' → u = u'
  | [], _, _, _, _, h, h' => h.trans h'.symm
  | (i, j) :: p, v, d, u, u', ⟨g, cap, cs, t, c, h1, h2, h3, h4, h5, h6⟩, ⟨g', cap', cs', t', c', h1', h2', h3', h4', h5', h6'⟩ => by
    subst h1
    injection h1' with e1 e2 e3
    injection e1 with e1
    injection e1 with e1 _ _
    subst e1
    rw [h2] at h2'
    injection h2' with h2'
    injection h2' with e1 e2
    subst e1
    rw [h5] at h5'
    injection h5' with h5'
    subst h5'
    exact PathTo.det p c _ u u' h6 h6'

end Go.Proofs.Ytlcmflenbddliaa.Rf
