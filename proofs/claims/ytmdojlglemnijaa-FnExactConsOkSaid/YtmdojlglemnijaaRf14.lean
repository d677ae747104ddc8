/- A logic of our own over the kit's 'wp': fourteenth part: small words for the walks. Plain definitions and theorems. -/
import Derived.Test.YtmdojlglemnijaaRf13
import Derived.IntWalk
namespace Go.Proofs.Ytmdojlglemnijaa.Rf
open Go.RowKit
set_option linter.unusedVariables false
set_option linter.unnecessarySimpa false
set_option linter.unusedSimpArgs false

def LeTm (E : Env) : List (Nat × PV) → Prop
  | [] => True
  | (t, p) :: l => E.get t = p ∧ LeTm E l
def LeRows (E : Env) : List (Nat × (TypeId × D)) → Prop
  | [] => True
  | (r, x) :: l => E.row r = some x ∧ LeRows E l
def LeBoxes (E : Env) : List (Nat × (TypeId × List PC)) → Prop
  | [] => True
  | (b, x) :: l => E.box b = some x ∧ LeBoxes E l
theorem LeTm.at_ {E : Env} : ∀ {l : List (Nat × PV)}, LeTm E l → ∀ t p, lk l t = some p → E.get t = p
  | [], _, t, p, h => by simp [lk] at h
  | (k, v) :: l, hl, t, p, h => by
    simp only [lk] at h
    split at h
    · rename_i e; subst e; injection h with h; subst h; exact hl.1
    · exact LeTm.at_ hl.2 t p h
theorem LeRows.at_ {E : Env} : ∀ {l : List (Nat × (TypeId × D))}, LeRows E l → ∀ t p, lk l t = some p → E.row t = some p
  | [], _, t, p, h => by simp [lk] at h
  | (k, v) :: l, hl, t, p, h => by
    simp only [lk] at h
    split at h
    · rename_i e; subst e; injection h with h; subst h; exact hl.1
    · exact LeRows.at_ hl.2 t p h
theorem LeBoxes.at_ {E : Env} : ∀ {l : List (Nat × (TypeId × List PC))}, LeBoxes E l → ∀ t p, lk l t = some p → E.box t = some p
  | [], _, t, p, h => by simp [lk] at h
  | (k, v) :: l, hl, t, p, h => by
    simp only [lk] at h
    split at h
    · rename_i e; subst e; injection h with h; subst h; exact hl.1
    · exact LeBoxes.at_ hl.2 t p h
theorem Env.le_mk {E : Env} {tm : List (Nat × PV)} {rows : List (Nat × (TypeId × D))} {boxes : List (Nat × (TypeId × List PC))} (h1 : LeTm E tm) (h2 : LeRows E rows) (h3 : LeBoxes E boxes) : ({ tm := tm, rows := rows, boxes := boxes } : Env).le E := by
  refine ⟨fun t => ?_, fun r x h => h2.at_ r x h, fun b T ps h => ⟨ps, h3.at_ b _ h, All2.refl PC.le_refl ps⟩⟩
  unfold Env.get
  cases hl : lk tm t with
  | none => exact PV.und_le _
  | some p =>
    have := h1.at_ t p hl
    unfold Env.get at this
    rw [Option.getD_some, ← this]
    exact PV.le_refl _
/-- A bool that is known by now. -/
theorem Env.known_le {E : Env} {t : Nat} {b c : Bool} (h : b = c) (hx : E.get t = .one (.d (.bool b))) : (E.set t (.one (.d (.bool c)))).le E := by
  subst h
  refine ⟨fun u => ?_, fun r x h => h, fun b T ps h => ⟨ps, h, All2.refl PC.le_refl ps⟩⟩
  rw [Env.get_set]
  split
  · rename_i e; subst e; rw [hx]; exact PV.le_refl _
  · exact PV.le_refl _
theorem TL.known {P : Program} {C : Ctx} {ops : Array Oper} {l : List Oper} {E : Env} {Q : Env → Prop} (t : Nat) {b c : Bool} (h : b = c) (hx : E.get t = .one (.d (.bool b))) (hl : TL P C ops l (E.set t (.one (.d (.bool c)))) Q) : TL P C ops l E Q := TL.weaken (Env.known_le h hx) hl
theorem TL.gyes {P : Program} {C : Ctx} {ops : Array Oper} {o : Oper} {l : List Oper} {E E1 : Env} {Q : Env → Prop} {j : Nat} {want : Bool} (t : Nat) (hg : o.guard = some (j, want)) (hj : (ops[j]?).bind (·.dst) = some t) (ht : t < C.n) (hb : E.get t = .one (.d (.bool want))) (hs : Step P C o E E1) (h : TL P C ops l E1 Q) : TL P C ops (o :: l) E Q := by
  intro a w R QQ hQ
  refine wpList_step fun K hK => ?_
  rw [if_pos (by simp [Region.wanted, hg, guard_val R hj ht hb])]
  exact hs a w R K QQ fun a' w' R' => hK a' w' (h a' w' R' QQ hQ)
theorem TL.gno {P : Program} {C : Ctx} {ops : Array Oper} {o : Oper} {l : List Oper} {E : Env} {Q : Env → Prop} {j u : Nat} {want b : Bool} (t : Nat) (hg : o.guard = some (j, want)) (hj : (ops[j]?).bind (·.dst) = some t) (ht : t < C.n) (hb : E.get t = .one (.d (.bool b))) (hne : (b == want) = false) (hd : o.dst = some u) (hu : u < C.n) (h : TL P C ops l (E.set u (.one .und)) Q) : TL P C ops (o :: l) E Q := by
  intro a w R QQ hQ
  refine wpList_step fun K hK => ?_
  have hv := guard_val R hj ht hb
  have hne' : ¬ b = want := by simpa using hne
  rw [if_neg (by simp [Region.wanted, hg, hv, hne'])]
  obtain ⟨M, R0⟩ := R
  refine hK _ _ (h _ _ ⟨M, ?_⟩ QQ hQ)
  rw [hd]
  exact R0.put hu trivial
theorem RetC.rd' {E : Env} {x y : D} {ps : List PC} {rcs : List RC} {ss : List Nat} (h : x = y) (hr : RetC E ps rcs ss) : RetC E (.d x :: ps) (.rd y :: rcs) ss := by subst h; exact .rd hr
theorem RetC.own' {E : Env} {r : Nat} {T : TypeId} {d e : D} {ps : List PC} {rcs : List RC} {ss : List Nat} (hr : E.row r = some (T, d)) (h : d = e) (hn : ss.contains r = false) (hc : RetC E ps rcs ss) : RetC E (.row r [] :: ps) (.own T e :: rcs) (r :: ss) := by
  subst h
  refine .own hr ?_ hc
  intro hm
  rw [List.contains_iff_mem.2 hm] at hn
  exact absurd hn (by simp)
theorem RetC.nilown' {E : Env} {T : TypeId} {x : D} {ps : List PC} {rcs : List RC} {ss : List Nat} (h : x.isSl = true) (h0 : x.size = 0) (hw : x.wf) (hc : RetC E ps rcs ss) : RetC E (.nil :: ps) (.own T x :: rcs) ss := .nilown h h0 hw hc
theorem wrap_ok {x : Int} (h : -9223372036854775808 ≤ x) (h' : x ≤ 9223372036854775807) : IntKind.i64.wrap x = x := by rw [IntKind.wrap_i64]; omega
theorem wrap_u8 {x : Int} (h : 0 ≤ x) (h' : x ≤ 255) : IntKind.u8.wrap x = x := by
  have := IntKind.wrap_u8 x
  rw [this]; omega
/-- Cell j of element i of a slice of structs. -/
theorem cell_map {α : Type} {z : Nat} {enc : α → List D} {vs : List α} {i j : Nat} (dflt : α) (h : i < vs.length) : (D.sl z (vs.map enc)).cell i j = (enc (vs.getD i dflt)).getD j (.bool false) := by
  simp only [D.cell, List.getD_eq_getElem?_getD, List.getElem?_map, List.getElem?_eq_getElem h, Option.map_some, Option.getD_some]
theorem At.box {E0 : Env} {l : List Oper} {effs : List Eff} {i : Nat} {o : Oper} {E : Env} (h : At E0 l effs i o E) {b : Nat} {x : TypeId × List PC} (hb : E0.box b = some x) : E.box b = some x := by
  show lk E.boxes b = _
  rw [h.boxes]; exact hb
def rowIds (t : Nat) : Nat → List RC → List Nat
  | _, [] => []
  | j, .rd _ :: rcs => rowIds t (j + 1) rcs
  | j, .own _ _ :: rcs => rid t j :: rowIds t (j + 1) rcs
theorem fresh_of {E : Env} {t : Nat} : ∀ (rcs : List RC) (j : Nat), (∀ r ∈ rowIds t j rcs, E.noref' r = true) → E.freshRows t j rcs = true
  | [], _, _ => rfl
  | .rd _ :: rcs, j, h => fresh_of rcs (j + 1) h
  | .own _ _ :: rcs, j, h => by
    simp only [Env.freshRows, Bool.and_eq_true]
    exact ⟨h _ (by simp [rowIds]), fresh_of rcs (j + 1) fun r hr => h r (by simp [rowIds, hr])⟩
theorem At.freshRows {E0 : Env} {l : List Oper} {effs : List Eff} {i : Nat} {o : Oper} {E : Env} (h : At E0 l effs i o E) {t : Nat} {rcs : List RC} (hr : ((effs.getD i ⟨0, .one .und, []⟩).rows.map (·.1)).reverse = rowIds t 0 rcs) : E.freshRows t 0 rcs = true := by
  refine fresh_of rcs 0 fun r hm => ?_
  rw [← hr, List.mem_reverse] at hm
  obtain ⟨x, hx, rfl⟩ := List.mem_map.1 hm
  exact h.fresh x hx
theorem evs_cons {E : Env} {x : Operand} {xs : List Operand} {p : PV} {ps : List PV} (h : E.ev x = p) (h' : xs.map E.ev = ps) : (x :: xs).map E.ev = p :: ps := by rw [List.map_cons, h, h']
end Go.Proofs.Ytmdojlglemnijaa.Rf
