/- Arguments laid open by their types: what they read as. Plain definitions and theorems. -/
import Derived.Test.YtlcmflenbddliaaRf15
import Derived.WalkKit
import Derived.ProofKit
import Derived.OpenShut
import Derived.ShutString
import Derived.ChangeOld
import Derived.Below
import Derived.SizedLaws
import Derived.Deep.Slices
namespace Go.Proofs.Ytlcmflenbddliaa.Rf
open Go.RowKit Go.ChangeShapes Go.WideShapes Go.ChangeAt
set_option linter.unusedVariables false
set_option linter.unnecessarySimpa false
set_option linter.unusedSimpArgs false
def I64 (a : Int) : Prop := -9223372036854775808 ≤ a ∧ a ≤ 9223372036854775807
/-- A row of cells of type t reads as data for which W holds. -/
def OpensR {α : Type} (P : Program) (t : TypeId) (enc : α → List D) (W : α → Prop) : Prop :=
  ∀ {H : Type} (e : TypeId × Value → H) (w : World) (base : Nat) (spare : Nat → Bool) (held : Bool) (fuel : Nat) (cs : List Value) (x : DataW H × List MemPlace),
    DataW.trod e P w base spare held fuel t cs = some x → ∃ y, Rd w (fun k => k < w.heap.size) cs (enc y) ∧ W y
theorem opensR_int {P : Program} {t : TypeId} (ht : P.underlying t = some (.int .i64)) : OpensR P t (fun n : Int => [D.int .i64 n]) I64 := by
  intro H e w base spare held fuel cs x h
  obtain ⟨n, rfl, _, hw⟩ := DataW.trod_int ht h
  exact ⟨n, .val rfl .nil, bounds_i64 hw⟩
theorem opensR_u8 {P : Program} {t : TypeId} (ht : P.underlying t = some (.int .u8)) : OpensR P t (fun n : Int => [D.int .u8 n]) (fun n => 0 ≤ n ∧ n ≤ 255) := by
  intro H e w base spare held fuel cs x h
  obtain ⟨n, rfl, _, hw⟩ := DataW.trod_int ht h
  exact ⟨n, .val rfl .nil, bounds_u8 hw⟩
theorem opensR_bool {P : Program} {t : TypeId} (ht : P.underlying t = some .bool) : OpensR P t (fun b : Bool => [D.bool b]) (fun _ => True) := by
  intro H e w base spare held fuel cs x h
  obtain ⟨b, rfl, _⟩ := DataW.trod_bool ht h
  exact ⟨b, .val rfl .nil, trivial⟩
theorem opensR_str {P : Program} {t : TypeId} (ht : P.underlying t = some .string) : OpensR P t (fun s : ByteArray => [D.str s]) (fun s => s.size ≤ 9223372036854775807) := by
  intro H e w base spare held fuel cs x h
  obtain ⟨s, rfl, _, hs⟩ := DataW.trod_string ht h
  exact ⟨s, .val rfl .nil, hs⟩
theorem choose_list {α : Type} {p : Nat → α → Prop} : ∀ n : Nat, (∀ i, i < n → ∃ y, p i y) → ∃ l : List α, l.length = n ∧ ∀ i y, l[i]? = some y → p i y
  | 0, _ => ⟨[], rfl, fun i y h => by simp at h⟩
  | n + 1, h => by
    obtain ⟨l, hl, hp⟩ := choose_list n (fun i hi => h i (by omega))
    obtain ⟨y, hy⟩ := h n (by omega)
    refine ⟨l ++ [y], by simp [hl], fun i z hz => ?_⟩
    by_cases hi : i < l.length
    · rw [List.getElem?_append_left hi] at hz; exact hp i z hz
    · rw [List.getElem?_append_right (by omega)] at hz
      have hi0 : i - l.length = 0 := by
        by_cases h0 : i - l.length = 0
        · exact h0
        · rw [List.getElem?_eq_none (by simp; omega)] at hz; exact absurd hz (by simp)
      have : i = n := by omega
      subst this
      rw [hi0] at hz
      simp at hz
      subst hz
      exact hy
theorem rd_flatten {α : Type} {w : World} {Z : Nat → Prop} {enc : α → List D} : ∀ l : List (α × List Value), (∀ x ∈ l, Rd w Z x.2 (enc x.1)) → Rd w Z (l.map (·.2)).flatten ((l.map (·.1)).map enc).flatten
  | [], _ => .nil
  | x :: l, h => by
    simp only [List.map_cons, List.flatten_cons]
    exact (h x (by simp)).append (rd_flatten l fun y hy => h y (by simp [hy]))
theorem cell_lt {w : World} {a : Addr} {u : Value} (h : w.cell? a = some u) : a.block < w.heap.size := by
  by_cases hb : a.block < w.heap.size
  · exact hb
  · unfold World.cell? at h
    rw [Array.getElem?_eq_none (by omega)] at h
    exact absurd h (by simp)
theorem opensR_slice {α : Type} {P : Program} {t e z : Nat} {enc : α → List D} {W : α → Prop} (mk : List α → D) (ht : P.underlying t = some (.slice e)) (hc : P.cellsOf e = z) (hz : 0 < z)
    (hm : ∀ xs, (mk xs).isSl = true ∧ (mk xs).size = xs.length ∧ (mk xs).wf ∧ (mk xs).flat = (xs.map enc).flatten) (hd : OpensR P e enc W) : OpensR P t (fun xs : List α => [mk xs]) (fun xs => ∀ x ∈ xs, W x) := by
  intro H en w base spare held fuel cs x h
  rcases DataW.trod_slice ht h with ⟨rfl, _⟩ | ⟨a, len, cap, elems, rest, n, _, rfl, _, _, hl, hcp, hel, hget, _⟩
  · obtain ⟨h1, h2, h3, h4⟩ := hm []
    refine ⟨[], ?_, by simp⟩
    have := Rd.sl (w := w) (Z := fun k => k < w.heap.size) (A := none) (cap := 0) (d := mk []) (cs := []) (vs := []) (ds := []) h1 (by rw [h2]; simp) (by rw [h2]; simp) h3 (fun hn => absurd h2 hn) (fun j c hj => by simp at hj) (by rw [h4]; exact .nil) .nil
    rw [h2] at this
    exact this
  · have hp : ∀ i, i < len → ∃ y : α × List Value, y.2.length = z ∧ Rd w (fun k => k < w.heap.size) y.2 (enc y.1) ∧ W y.1 ∧ ∀ j u, y.2[j]? = some u → w.cell? (a.add (i * z + j)) = some u := by
      intro i hi
      have hg := hget i hi
      obtain ⟨q, hq⟩ : ∃ q, elems[i]? = some q := ⟨elems.get ⟨i, by omega⟩, List.getElem?_eq_getElem (by omega)⟩
      rw [hq] at hg
      obtain ⟨cs', hcs, htr⟩ := Option.bind_eq_some_iff.1 hg
      obtain ⟨y, hK, hW⟩ := hd en w base spare held n cs' q htr
      obtain ⟨_, hcl, hat⟩ := World.cells?_some hcs
      refine ⟨(y, cs'), by rw [hcl, hc], hK, hW, fun j u hj => ?_⟩
      have hjl : j < P.cellsOf e := by rw [← hcl]; exact (List.getElem?_eq_some_iff.1 hj).1
      have := hat j hjl
      rw [hj] at this
      rw [← this, hc, ← Go.Deep.add_add]
    obtain ⟨l, hll, hlp⟩ := choose_list len hp
    subst hll
    obtain ⟨h1, h2, h3, h4⟩ := hm (l.map (·.1))
    have hlen : ∀ e ∈ l.map (·.2), e.length = z := fun e he => by
      obtain ⟨y, hy, rfl⟩ := List.mem_map.1 he
      obtain ⟨i, hi⟩ := List.getElem?_of_mem hy
      exact (hlp i y hi).1
    have hat : ∀ j c, (l.map (·.2)).flatten[j]? = some c → ∃ a', some a = some a' ∧ w.cell? (a'.add j) = some c := fun j c hj => by
      refine ⟨a, rfl, ?_⟩
      have e := flatten_get z (l.map (·.2)) hlen (j / z) (j % z) (Nat.mod_lt _ hz)
      rw [Nat.mul_comm, Nat.div_add_mod] at e
      rw [hj] at e
      obtain ⟨c', hc', hcc⟩ := Option.bind_eq_some_iff.1 e.symm
      rw [List.getElem?_map] at hc'
      obtain ⟨y, hy, rfl⟩ := Option.map_eq_some_iff.1 hc'
      have := (hlp _ y hy).2.2.2 _ _ hcc
      rw [Nat.mul_comm, Nat.div_add_mod] at this
      exact this
    have hcap : cap ≤ 9223372036854775807 := hcp
    have hsz : (mk (l.map (·.1))).size = l.length := by rw [h2, List.length_map]
    refine ⟨l.map (·.1), ?_, fun y hy => ?_⟩
    · have := Rd.sl (w := w) (Z := fun k => k < w.heap.size) (A := some a) (cap := cap) (d := mk (l.map (·.1))) (cs := (l.map (·.2)).flatten) (vs := []) (ds := []) h1 (by rw [hsz]; omega) (by rw [hsz]; exact hl) h3
        (fun hn => ⟨a, rfl, by
          rw [hsz] at hn
          have h0 : 0 < l.length := by omega
          have hy := List.getElem?_eq_getElem h0
          obtain ⟨q1, _, _, q4⟩ := hlp 0 _ hy
          have q5 := q4 0 _ (List.getElem?_eq_getElem (by rw [q1]; exact hz))
          have := cell_lt q5
          rwa [add_block] at this⟩)
        hat (by rw [h4]; exact rd_flatten l fun y hy => by obtain ⟨i, hi⟩ := List.getElem?_of_mem hy; exact (hlp i y hi).2.1) .nil
      rw [hsz] at this
      exact this
    · obtain ⟨q, hq, rfl⟩ := List.mem_map.1 hy
      obtain ⟨i, hi⟩ := List.getElem?_of_mem hq
      exact (hlp i q hi).2.2.1
theorem opensR_ints {P : Program} {t e : Nat} (ht : P.underlying t = some (.slice e)) (hc : P.cellsOf e = 1) (he : P.underlying e = some (.int .i64)) : OpensR P t (fun xs : List Int => [D.ints .i64 xs]) (fun xs => ∀ x ∈ xs, I64 x) :=
  opensR_slice (D.ints .i64) ht hc (by omega) (fun xs => ⟨rfl, rfl, trivial, by simp only [D.flat]; induction xs with | nil => rfl | cons x xs ih => simp [ih]⟩) (opensR_int he)
theorem opensR_bytes {P : Program} {t e : Nat} (ht : P.underlying t = some (.slice e)) (hc : P.cellsOf e = 1) (he : P.underlying e = some (.int .u8)) : OpensR P t (fun xs : List Int => [D.ints .u8 xs]) U8s :=
  opensR_slice (D.ints .u8) ht hc (by omega) (fun xs => ⟨rfl, rfl, trivial, by simp only [D.flat]; induction xs with | nil => rfl | cons x xs ih => simp [ih]⟩) (opensR_u8 he)
theorem opensR_bss {P : Program} {t e : Nat} (ht : P.underlying t = some (.slice e)) (hc : P.cellsOf e = 1) (he : OpensR P e (fun xs : List Int => [D.ints .u8 xs]) U8s) : OpensR P t (fun xs : List (List Int) => [D.bss xs]) (fun xs => ∀ x ∈ xs, U8s x) :=
  opensR_slice D.bss ht hc (by omega) (fun xs => ⟨rfl, rfl, trivial, by simp only [D.flat]; induction xs with | nil => rfl | cons x xs ih => simp [ih]⟩) he
theorem opensR_sl {α : Type} {P : Program} {t e z : Nat} {enc : α → List D} {W : α → Prop} (ht : P.underlying t = some (.slice e)) (hc : P.cellsOf e = z) (hz : 0 < z) (hl : ∀ x, (enc x).length = z) (he : OpensR P e enc W) : OpensR P t (fun xs : List α => [D.sl z (xs.map enc)]) (fun xs => ∀ x ∈ xs, W x) :=
  opensR_slice (fun xs => D.sl z (xs.map enc)) ht hc hz (fun xs => ⟨rfl, by simp [D.size], wf_map hl xs, rfl⟩) he
/-- A field of a struct. -/
theorem open_field {α : Type} {P : Program} {H : Type} {e : TypeId × Value → H} {w : World} {base : Nat} {spare : Nat → Bool} {held : Bool} {n : Nat} {cs : List Value} {xs : List (DataW H × List MemPlace)} {t off m i : Nat} {enc : α → List D} {W : α → Prop} (ho : OpensR P t enc W)
    (hx : i < xs.length) (hc : P.cellsOf t = m) (h : DataW.trod e P w base spare held n t ((cs.drop off).take (P.cellsOf t)) = xs[i]?) : ∃ y, Rd w (fun k => k < w.heap.size) ((cs.drop off).take m) (enc y) ∧ W y := by
  rw [hc, List.getElem?_eq_getElem hx] at h
  exact ho e w base spare held n _ _ h
theorem rd_fields_nil {w : World} {Z : Nat → Prop} {cs : List Value} {off : Nat} (h : cs.length ≤ off) : Rd w Z (cs.drop off) [] := by rw [List.drop_eq_nil_of_le h]; exact .nil
theorem rd_fields {w : World} {Z : Nat → Prop} {cs : List Value} {off m : Nat} {as bs : List D} (h1 : Rd w Z ((cs.drop off).take m) as) (h2 : Rd w Z (cs.drop (off + m)) bs) : Rd w Z (cs.drop off) (as ++ bs) := by
  have : cs.drop off = (cs.drop off).take m ++ cs.drop (off + m) := by rw [← List.drop_drop, List.take_append_drop]
  rw [this]
  exact h1.append h2
theorem ret_true {w w' : World} {Z : Nat → Prop} {e : Ending} (h : Returns w Z [(false, [.rd (.bool true)])] e w') : e = .returned (.bool true) ∧ Below w.heap.size w w' := by
  obtain ⟨h1, vs, bcs, O, rfl, _, h4, h5, h6⟩ := h
  match bcs, h5, h4, h6 with
  | [(false, [u])], _, h4, h6 =>
    cases h4 with
    | cons hp hr =>
      cases hr
      simp only [Packs] at hp
      simp only [Bool.false_eq_true, if_false, List.cons.injEq, and_true] at hp
      subst hp
      obtain ⟨h7, _⟩ := h6
      exact ⟨by rw [rd_val h7 rfl]; rfl, h1⟩
  | [(false, [])], h5, _, _ => simp [shape] at h5
  | [(false, _ :: _ :: _)], h5, _, _ => simp [shape] at h5
  | [(true, _)], h5, _, _ => simp [shape] at h5
  | _ :: _ :: _, h5, _, _ => simp [shape] at h5
  | [], h5, _, _ => simp [shape] at h5
end Go.Proofs.Ytlcmflenbddliaa.Rf
