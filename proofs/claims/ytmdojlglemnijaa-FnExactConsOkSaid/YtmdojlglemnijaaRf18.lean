/- A logic of our own over the kit's 'wp': what a function that writes to what it is handed is held to; its body. Plain definitions and theorems. -/
import Derived.Test.YtmdojlglemnijaaRf17
namespace Go.Proofs.Ytmdojlglemnijaa.Rf
open Go.RowKit
set_option linter.unusedVariables false
set_option linter.unnecessarySimpa false
set_option linter.unusedSimpArgs false
/-- A cell of an argument: read, or handed over (as it was, as it is given back). -/
inductive MC where
  | rd (d : D)
  | mk (d d' : D)
inductive MA where
  | one (c : MC)
  | agg (cs : List MC)
def MA.cells : MA → List MC
  | .one c => [c]
  | .agg cs => cs
/-- The cells of the arguments. -/
def unp : List Value → List MA → List Value → Prop
  | [], [], us => us = []
  | v :: vs, .one _ :: as, us => ∃ us', us = v :: us' ∧ unp vs as us'
  | v :: vs, .agg cs :: as, us => ∃ (arr : Array Value) (us' : List Value), v = .agg arr ∧ arr.toList.length = cs.length ∧ us = arr.toList ++ us' ∧ unp vs as us'
  | _, _, _ => False
def MPre (w : World) (Z : Nat → Prop) (O : Nat → Option Nat) (Ts : Nat → TypeId) : Nat → List Value → List MC → Prop
  | _, [], [] => True
  | j, v :: vs, .rd d :: cs => Rd w Z [v] [d] ∧ MPre w Z O Ts (j + 1) vs cs
  | j, v :: vs, .mk d _ :: cs => (∃ fp, RowOk w (Ts j) v d fp ∧ fp.Nodup ∧ ∀ k ∈ fp, O k = some j) ∧ MPre w Z O Ts (j + 1) vs cs
  | _, _, _ => False
def MPost (w : World) (O : Nat → Option Nat) (Ts : Nat → TypeId) : Nat → List Value → List MC → Prop
  | _, [], [] => True
  | j, v :: vs, .rd d :: cs => MPost w O Ts (j + 1) vs cs
  | j, v :: vs, .mk _ d :: cs => (∃ fp, RowOk w (Ts j) v d fp ∧ fp.Nodup ∧ ∀ k ∈ fp, O k = some j) ∧ MPost w O Ts (j + 1) vs cs
  | _, _, _ => False
structure Gives (w : World) (O : Nat → Option Nat) (w' : World) : Prop where
  os : w'.os = w.os
  tape : w'.tape = w.tape
  output : w'.output = w.output
  size : w.heap.size ≤ w'.heap.size
  block : ∀ k, k < w.heap.size → O k = none → w'.heap[k]? = w.heap[k]?
def ReturnsM (w : World) (O : Nat → Option Nat) (Ts : Nat → TypeId) (us : List Value) (cs : List MC) (res : Res) (e : Ending) (w' : World) : Prop :=
  Gives w O w' ∧ ∃ (vs : List Value) (bcs : List (Bool × List Value)) (O' : Nat → Option Nat), e = .returned (packed vs) ∧ All2 Packs vs bcs ∧ shape bcs = shape res ∧ RCs w' (fun _ => False) (fun _ => .none) 0 (bcs.flatMap (·.2)) (res.flatMap (·.2)) ∧
    (∀ k, O' k ≠ none → k < w'.heap.size ∧ (O k ≠ none ∨ w.heap.size ≤ k)) ∧ MPost w' O' Ts 0 us cs
def MK (P : Program) (f : FuncId) (args : List MA) (res : Res) : Prop :=
  ∀ (w : World) (Z : Nat → Prop) (O : Nat → Option Nat) (Ts : Nat → TypeId) (vals us : List Value), (∀ k, Z k → k < w.heap.size) → (∀ k, O k ≠ none → k < w.heap.size) → (∀ k, Z k → O k = none) → unp vals args us → MPre w Z O Ts 0 us (args.flatMap MA.cells) →
    Calls P f vals.toArray w (ReturnsM w O Ts us (args.flatMap MA.cells) res)

def MC.pc (j : Nat) : MC → PC
  | .rd d => .d d
  | .mk _ _ => .row (900 + j) []
def mpcs : Nat → List MC → List PC
  | _, [] => []
  | j, c :: cs => c.pc j :: mpcs (j + 1) cs
def MA.pv (j : Nat) : MA → PV
  | .one c => .one (c.pc j)
  | .agg cs => .agg (mpcs j cs)
def startTm : Nat → Nat → List MA → List (Nat × PV)
  | _, _, [] => []
  | t, j, a :: as => (t, a.pv j) :: startTm (t + 1) (j + a.cells.length) as
def startRows (Ts : Nat → TypeId) : Nat → List MC → List (Nat × (TypeId × D))
  | _, [] => []
  | j, .rd _ :: cs => startRows Ts (j + 1) cs
  | j, .mk d _ :: cs => (900 + j, (Ts j, d)) :: startRows Ts (j + 1) cs
def Env.startM (args : List MA) (Ts : Nat → TypeId) : Env := { tm := startTm 0 0 args, rows := startRows Ts 0 (args.flatMap MA.cells) }
def RowsAre (E : Env) (Ts : Nat → TypeId) : Nat → List MC → Prop
  | _, [] => True
  | j, .rd _ :: cs => RowsAre E Ts (j + 1) cs
  | j, .mk _ d :: cs => E.row (900 + j) = some (Ts j, d) ∧ RowsAre E Ts (j + 1) cs
def QRetM (P : Program) (fn : Func) (res : Res) (Ts : Nat → TypeId) (cs : List MC) : Exit → Env → Prop
  | .normal, E => (RetOk P fn res E ∧ resScal res = true) ∧ RowsAre E Ts 0 cs
  | .ret, E => (RetOk P fn res E ∧ resScal res = true) ∧ RowsAre E Ts 0 cs
  | _, _ => False

theorem MPre.get {w : World} {Z : Nat → Prop} {O : Nat → Option Nat} {Ts : Nat → TypeId} : ∀ (us : List Value) (cs : List MC) (j : Nat), MPre w Z O Ts j us cs → us.length = cs.length ∧
    (∀ (i : Nat) (d : D), cs[i]? = some (MC.rd d) → ∃ v, us[i]? = some v ∧ Rd w Z [v] [d]) ∧ (∀ (i : Nat) (d d' : D), cs[i]? = some (MC.mk d d') → ∃ v, us[i]? = some v ∧ ∃ fp, RowOk w (Ts (j + i)) v d fp ∧ fp.Nodup ∧ ∀ k ∈ fp, O k = some (j + i))
  | [], [], j, _ => ⟨rfl, by simp, by simp⟩
  | [], _ :: _, _, h => by simp [MPre] at h
  | _ :: _, [], _, h => by simp [MPre] at h
  | v :: us, .rd d :: cs, j, h => by
    obtain ⟨h1, h2⟩ := h
    obtain ⟨i1, i2, i3⟩ := MPre.get us cs (j + 1) h2
    refine ⟨by simp [i1], fun i d' hi => ?_, fun i d0 d' hi => ?_⟩
    · cases i with
      | zero => simp only [List.getElem?_cons_zero, Option.some.injEq, MC.rd.injEq] at hi; subst hi; exact ⟨v, rfl, h1⟩
      | succ i => simpa using i2 i d' (by simpa using hi)
    · cases i with
      | zero => simp at hi
      | succ i => rw [show j + (i + 1) = j + 1 + i from by omega]; simpa using i3 i d0 d' (by simpa using hi)
  | v :: us, .mk d e :: cs, j, h => by
    obtain ⟨h1, h2⟩ := h
    obtain ⟨i1, i2, i3⟩ := MPre.get us cs (j + 1) h2
    refine ⟨by simp [i1], fun i d' hi => ?_, fun i d0 d' hi => ?_⟩
    · cases i with
      | zero => simp at hi
      | succ i => simpa using i2 i d' (by simpa using hi)
    · cases i with
      | zero => simp only [List.getElem?_cons_zero, Option.some.injEq, MC.mk.injEq] at hi; obtain ⟨rfl, rfl⟩ := hi; exact ⟨v, rfl, h1⟩
      | succ i => rw [show j + (i + 1) = j + 1 + i from by omega]; simpa using i3 i d0 d' (by simpa using hi)
theorem MPost.mk {w : World} {O : Nat → Option Nat} {Ts : Nat → TypeId} : ∀ (us : List Value) (cs : List MC) (j : Nat), us.length = cs.length → (∀ (i : Nat) (v : Value) (d d' : D), us[i]? = some v → cs[i]? = some (MC.mk d d') → ∃ fp, RowOk w (Ts (j + i)) v d' fp ∧ fp.Nodup ∧ ∀ k ∈ fp, O k = some (j + i)) → MPost w O Ts j us cs
  | [], [], _, _, _ => trivial
  | [], _ :: _, _, h, _ => by simp at h
  | _ :: _, [], _, h, _ => by simp at h
  | v :: us, .rd d :: cs, j, hl, h => MPost.mk us cs (j + 1) (by simpa using hl) fun i v' d0 d' h1 h2 => by
    have := h (i + 1) v' d0 d' (by simpa using h1) (by simpa using h2)
    rwa [show j + (i + 1) = j + 1 + i from by omega] at this
  | v :: us, .mk d e :: cs, j, hl, h => ⟨h 0 v d e rfl rfl, MPost.mk us cs (j + 1) (by simpa using hl) fun i v' d0 d' h1 h2 => by
    have := h (i + 1) v' d0 d' (by simpa using h1) (by simpa using h2)
    rwa [show j + (i + 1) = j + 1 + i from by omega] at this⟩
theorem MPost.get {w : World} {O : Nat → Option Nat} {Ts : Nat → TypeId} : ∀ (us : List Value) (cs : List MC) (j : Nat), MPost w O Ts j us cs → ∀ (i : Nat) (v : Value) (d d' : D), us[i]? = some v → cs[i]? = some (MC.mk d d') → ∃ fp, RowOk w (Ts (j + i)) v d' fp ∧ fp.Nodup ∧ ∀ k ∈ fp, O k = some (j + i)
  | [], _, _, _, i, v, d, d', h1, _ => by simp at h1
  | _ :: _, [], _, h, _, _, _, _, _, h2 => by simp at h2
  | v :: us, .rd d :: cs, j, h, i, v', d0, d', h1, h2 => by
    cases i with
    | zero => simp at h2
    | succ i => have := MPost.get us cs (j + 1) h i v' d0 d' (by simpa using h1) (by simpa using h2); rwa [show j + 1 + i = j + (i + 1) from by omega] at this
  | v :: us, .mk d e :: cs, j, h, i, v', d0, d', h1, h2 => by
    cases i with
    | zero => simp only [List.getElem?_cons_zero, Option.some.injEq, MC.mk.injEq] at h1 h2; obtain ⟨rfl, rfl⟩ := h2; subst h1; exact h.1
    | succ i => have := MPost.get us cs (j + 1) h.2 i v' d0 d' (by simpa using h1) (by simpa using h2); rwa [show j + 1 + i = j + (i + 1) from by omega] at this
theorem startRows_get {Ts : Nat → TypeId} : ∀ (cs : List MC) (j r : Nat) (x : TypeId × D), lk (startRows Ts j cs) r = some x → ∃ (i : Nat) (d d' : D), r = 900 + (j + i) ∧ cs[i]? = some (MC.mk d d') ∧ x = (Ts (j + i), d)
  | [], _, _, _, h => by simp [startRows, lk] at h
  | .rd d :: cs, j, r, x, h => by
    obtain ⟨i, d, d', h1, h2, h3⟩ := startRows_get cs (j + 1) r x h
    exact ⟨i + 1, d, d', by rw [h1]; omega, by simpa using h2, by rw [h3]; congr 2; omega⟩
  | .mk d e :: cs, j, r, x, h => by
    simp only [startRows, lk] at h
    split at h
    · rename_i he
      injection h with h
      exact ⟨0, d, e, by rw [← he]; omega, rfl, by rw [← h]; simp⟩
    · obtain ⟨i, d, d', h1, h2, h3⟩ := startRows_get cs (j + 1) r x h
      exact ⟨i + 1, d, d', by rw [h1]; omega, by simpa using h2, by rw [h3]; congr 2; omega⟩
theorem mpcs_ok {M : Maps} {E : Env} {w : World} : ∀ (cs : List MC) (us : List Value) (j : Nat), us.length = cs.length → (∀ (i : Nat) (c : MC) (v : Value), cs[i]? = some c → us[i]? = some v → COk M E w v (c.pc (j + i))) → All2 (COk M E w) us (mpcs j cs)
  | [], [], _, _, _ => .nil
  | [], _ :: _, _, h, _ => by simp at h
  | _ :: _, [], _, h, _ => by simp at h
  | c :: cs, u :: us, j, hl, h => .cons (h 0 c u rfl rfl) (mpcs_ok cs us (j + 1) (by simpa using hl) fun i c' v h1 h2 => by
    have := h (i + 1) c' v (by simpa using h1) (by simpa using h2)
    rwa [show j + (i + 1) = j + 1 + i from by omega] at this)
theorem startTm_ok {M : Maps} {E : Env} {w : World} : ∀ (args : List MA) (vals us : List Value) (t0 j : Nat), unp vals args us → (∀ (i : Nat) (c : MC) (v : Value), (args.flatMap MA.cells)[i]? = some c → us[i]? = some v → COk M E w v (c.pc (j + i))) →
    ∀ t p, lk (startTm t0 j args) t = some p → ∃ v, t0 ≤ t ∧ vals[t - t0]? = some v ∧ POk M E w v p
  | [], [], us, t0, j, _, _, t, p, h => by simp [startTm, lk] at h
  | [], _ :: _, _, _, _, h, _, _, _, _ => by simp [unp] at h
  | a :: args, [], _, _, _, h, _, _, _, _ => by cases a <;> simp [unp] at h
  | .one c :: args, v :: vals, us, t0, j, h, hc, t, p, ht => by
    obtain ⟨us', rfl, h2⟩ := h
    simp only [startTm, lk] at ht
    split at ht
    · rename_i he
      subst he
      injection ht with ht
      subst ht
      exact ⟨v, Nat.le_refl _, by simp, hc 0 c v rfl rfl⟩
    · obtain ⟨v', k1, k2, k3⟩ := startTm_ok args vals us' (t0 + 1) (j + 1) h2 (fun i c' v' h1 h3 => by
        have := hc (i + 1) c' v' (by simpa [MA.cells] using h1) (by simpa using h3)
        rwa [show j + (i + 1) = j + 1 + i from by omega] at this) t p ht
      exact ⟨v', by omega, by rw [show t - t0 = (t - (t0 + 1)) + 1 from by omega]; simpa using k2, k3⟩
  | .agg cs :: args, v :: vals, us, t0, j, h, hc, t, p, ht => by
    obtain ⟨arr, us', rfl, hl, rfl, h2⟩ := h
    simp only [startTm, lk] at ht
    split at ht
    · rename_i he
      subst he
      injection ht with ht
      subst ht
      refine ⟨_, Nat.le_refl _, by simp, arr, rfl, mpcs_ok cs _ j hl fun i c v h1 h3 => ?_⟩
      have hi : i < cs.length := (List.getElem?_eq_some_iff.1 h1).1
      exact hc i c v (by rw [List.flatMap_cons, List.getElem?_append_left (by simpa [MA.cells] using hi)]; exact h1) (by rw [List.getElem?_append_left (by omega)]; exact h3)
    · obtain ⟨v', k1, k2, k3⟩ := startTm_ok args vals us' (t0 + 1) (j + cs.length) h2 (fun i c' v' h1 h3 => by
        have := hc (cs.length + i) c' v' (by rw [List.flatMap_cons, List.getElem?_append_right (by simp [MA.cells])]; simpa [MA.cells] using h1) (by rw [List.getElem?_append_right (by omega), hl]; simpa using h3)
        rwa [show j + (cs.length + i) = j + cs.length + i from by omega] at this) t p ht
      exact ⟨v', by omega, by rw [show t - t0 = (t - (t0 + 1)) + 1 from by omega]; simpa using k2, k3⟩
theorem unp_len : ∀ (vals : List Value) (args : List MA) (us : List Value), unp vals args us → vals.length = args.length
  | [], [], _, _ => rfl
  | [], _ :: _, _, h => by simp [unp] at h
  | _ :: _, [], _, h => by simp [unp] at h
  | v :: vs, .one c :: as, us, h => by obtain ⟨us', _, h⟩ := h; simp [unp_len vs as us' h]
  | v :: vs, .agg cs :: as, us, h => by obtain ⟨_, us', _, _, _, h⟩ := h; simp [unp_len vs as us' h]
theorem RowsAre.get {E : Env} {Ts : Nat → TypeId} : ∀ (cs : List MC) (j : Nat), RowsAre E Ts j cs → ∀ (i : Nat) (d d' : D), cs[i]? = some (MC.mk d d') → E.row (900 + (j + i)) = some (Ts (j + i), d')
  | [], _, _, i, _, _, h => by simp at h
  | .rd x :: cs, j, hr, i, d, d', h => by
    cases i with
    | zero => simp at h
    | succ i => have := RowsAre.get cs (j + 1) hr i d d' (by simpa using h); rwa [show j + 1 + i = j + (i + 1) from by omega] at this
  | .mk x y :: cs, j, hr, i, d, d', h => by
    cases i with
    | zero => simp only [List.getElem?_cons_zero, Option.some.injEq, MC.mk.injEq] at h; obtain ⟨rfl, rfl⟩ := h; exact hr.1
    | succ i => have := RowsAre.get cs (j + 1) hr.2 i d d' (by simpa using h); rwa [show j + 1 + i = j + (i + 1) from by omega] at this
end Go.Proofs.Ytmdojlglemnijaa.Rf
