/- Words of this session: what an argument reads as, laid open by its type (numbers, bools, strings, slices, structs), and bounds. Plain theorems, no condition beside what they state. -/
import Derived.Test.YtniapflmmigbjaaTFnExactProofOkW
import Derived.ProofKit
import Derived.OpenShut
import Derived.Lib.SmallJoins
import Derived.Deep.Slices
namespace Go.Proofs.Ytniapflmmigbjaa.Own
open Go.RowKit Go.Proofs.YtniapflmmigbjaaW.PrintWords Go.Proofs.YtniapflmmigbjaaW.PrintLast
open Go.ChangeShapes Go.WideShapes
set_option linter.unusedVariables false

/-- An int. -/
def I64 (a : Int) : Prop := -9223372036854775808 ≤ a ∧ a ≤ 9223372036854775807
/-- A byte. -/
def U8 (a : Int) : Prop := 0 ≤ a ∧ a ≤ 255
/-- A list of such elements, of a length that an int holds. -/
def WL {α : Type} (W : α → Prop) (l : List α) : Prop := l.length ≤ 9223372036854775807 ∧ ∀ x ∈ l, W x
/-- Bytes. -/
abbrev Bs : List Int → Prop := WL U8

/-- A cell row of type t reads as something of kind d for which W holds. -/
def Opens {α : Type} (P : Program) (t : TypeId) (d : Kd α) (W : α → Prop) : Prop :=
  ∀ {H : Type} (enc : TypeId × Value → H) (w : World) (base : Nat) (spare : Nat → Bool) (held : Bool) (fuel : Nat) (cs : List Value) (x : DataW H × List MemPlace),
    DataW.trod enc P w base spare held fuel t cs = some x → ∃ y, d.K w y cs ∧ W y

theorem opens_int {P : Program} {t : TypeId} (ht : P.underlying t = some (.int .i64)) : Opens P t (Kd.int .i64) I64 := by
  intro H enc w base spare held fuel cs x h
  obtain ⟨n, hcs, _, hw⟩ := DataW.trod_int ht h
  exact ⟨n, hcs, bounds_i64 hw⟩
theorem opens_u8 {P : Program} {t : TypeId} (ht : P.underlying t = some (.int .u8)) : Opens P t (Kd.int .u8) U8 := by
  intro H enc w base spare held fuel cs x h
  obtain ⟨n, hcs, _, hw⟩ := DataW.trod_int ht h
  exact ⟨n, hcs, bounds_u8 hw⟩

theorem choose_list {α : Type} {p : Nat → α → Prop} : ∀ n : Nat, (∀ i, i < n → ∃ y, p i y) → ∃ l : List α, l.length = n ∧ ∀ i y, l[i]? = some y → p i y
  | 0, _ => ⟨[], rfl, fun i y h => by simp at h⟩
  | n + 1, h => by
    obtain ⟨l, hl, hp⟩ := choose_list n (fun i hi => h i (by omega))
    obtain ⟨y, hy⟩ := h n (by omega)
    refine ⟨l ++ [y], by simp [hl], fun i z hz => ?_⟩
    by_cases hi : i < l.length
    · rw [List.getElem?_append_left hi] at hz; exact hp i z hz
    · rw [List.getElem?_append_right (by omega)] at hz
      have hi0 : i - l.length = 0 := by
        by_cases h0 : i - l.length = 0
        · exact h0
        · rw [List.getElem?_eq_none (by simp; omega)] at hz; exact absurd hz (by simp)
      have : i = n := by omega
      subst this
      rw [hi0] at hz
      simp at hz
      subst hz
      exact hy

theorem opens_slice {α : Type} {P : Program} {t e e' : TypeId} {d : Kd α} {W : α → Prop} (ht : P.underlying t = some (.slice e)) (hsz : P.cellsOf e = d.sz) (hd : Opens P e d W) : Opens P t (Kd.slice e' d) (WL W) := by
  intro H enc w base spare held fuel cs x h
  rcases DataW.trod_slice ht h with ⟨rfl, _⟩ | ⟨a, len, cap, elems, rest, n, _, rfl, _, _, hl, hc, hel, hget, _⟩
  · exact ⟨[], ⟨none, 0, rfl, by simp, Kd.C_nil d w⟩, by simp [WL]⟩
  · have hp : ∀ i, i < len → ∃ y, (∃ c, c.length = d.sz ∧ d.K w y c ∧ ∀ j u, c[j]? = some u → w.cell? (a.add (i * d.sz + j)) = some u) ∧ W y := by
      intro i hi
      have hg := hget i hi
      have hs : ∃ z, elems[i]? = some z := ⟨elems[i]'(by omega), List.getElem?_eq_getElem (by omega)⟩
      obtain ⟨z, hz⟩ := hs
      rw [hz] at hg
      obtain ⟨cs', hcs, htr⟩ := Option.bind_eq_some_iff.1 hg
      obtain ⟨y, hK, hW⟩ := hd enc w base spare held n cs' z htr
      obtain ⟨_, hcl, hat⟩ := World.cells?_some hcs
      refine ⟨y, ⟨cs', by rw [hcl, hsz], hK, fun j u hj => ?_⟩, hW⟩
      have hjl : j < P.cellsOf e := by rw [← hcl]; exact (List.getElem?_eq_some_iff.1 hj).1
      have := hat j hjl
      rw [hj] at this
      rw [← this, hsz, ← Go.Deep.add_add]
    obtain ⟨l, hll, hlp⟩ := choose_list len hp
    subst hll
    refine ⟨l, ⟨some a, cap, rfl, hl, rfl, ?_, fun _ => ⟨a, rfl, fun j p hj => ?_⟩⟩, ?_, fun y hy => ?_⟩
    · have : cap ≤ 9223372036854775807 := hc
      omega
    · obtain ⟨⟨c, h1, h2, h3⟩, _⟩ := hlp j p hj
      exact ⟨c, h1, h2, h3⟩
    · have : cap ≤ 9223372036854775807 := hc
      omega
    · obtain ⟨i, hi, rfl⟩ := List.mem_iff_getElem.1 hy
      exact (hlp i _ (List.getElem?_eq_getElem hi)).2

theorem opens_bytes {P : Program} {t e : TypeId} (ht : P.underlying t = some (.slice e)) (he : P.underlying e = some (.int .u8)) (hsz : P.cellsOf e = 1) {e' : TypeId} : Opens P t (Kd.slice e' (Kd.int .u8)) Bs :=
  opens_slice ht hsz (opens_u8 he)

/-- A struct's cells, field by field: what is read at an offset, and what follows. -/
theorem fields_nil (cs : List Value) (off : Nat) (h : cs.length ≤ off) : cs.drop off = [] := List.drop_eq_nil_of_le h
theorem fields_cons (cs : List Value) (off n : Nat) (piece rest : List Value) (h1 : (cs.drop off).take n = piece) (h2 : cs.drop (off + n) = rest) : cs.drop off = piece ++ rest := by
  rw [← h1, ← h2, ← List.drop_drop, List.take_append_drop]

/-- The laws' own names for Ev. -/
theorem wrap_of {a : Int} (h : I64 a) : wrap64 a = a := by unfold I64 at h; unfold wrap64; omega

end Go.Proofs.Ytniapflmmigbjaa.Own
