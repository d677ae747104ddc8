/- A logic of our own over the kit's 'wp', as much of it as this claim uses. Plain definitions and theorems. -/
import Derived.Test.YtlcmflenbddliaaTrFnExactPutBlocka
namespace Go.Proofs.Ytlcmflenbddliaa.Rf
open Go.RowKit
set_option linter.unusedVariables false
set_option linter.unnecessarySimpa false
set_option linter.unusedSimpArgs false
open Go.RowKit Go.ChangeShapes Go.WideShapes Go.ChangeAt
def unp : List Value → List MA → List Value → Prop
  | [], [], us => us = []
  | v :: vs, .one _ :: as, us => ∃ us', us = v :: us' ∧ unp vs as us'
  | v :: vs, .agg cs :: as, us => ∃ (arr : Array Value) (us' : List Value), v = .agg arr ∧ arr.toList.length = cs.length ∧ us = arr.toList ++ us' ∧ unp vs as us'
  | _, _, _ => False
def MPre (w : World) (Z : Nat → Prop) (O : Nat → Option Nat) (Ts : Nat → TypeId) : Nat → List Value → List MC → Prop
  | _, [], [] => True
  | j, v :: vs, .rd d :: cs => Rd w Z [v] [d] ∧ MPre w Z O Ts (j + 1) vs cs
  | j, v :: vs, .mk d _ :: cs => (∃ fp, RowOk w (Ts j) v d fp ∧ fp.Nodup ∧ ∀ k ∈ fp, O k = some j) ∧ MPre w Z O Ts (j + 1) vs cs
  | _, _, _ => False
def MPost (w : World) (O : Nat → Option Nat) (Ts : Nat → TypeId) : Nat → List Value → List MC → Prop
  | _, [], [] => True
  | j, v :: vs, .rd d :: cs => MPost w O Ts (j + 1) vs cs
  | j, v :: vs, .mk _ d :: cs => (∃ fp, RowOk w (Ts j) v d fp ∧ fp.Nodup ∧ ∀ k ∈ fp, O k = some j) ∧ MPost w O Ts (j + 1) vs cs
  | _, _, _ => False
structure Gives (w : World) (O : Nat → Option Nat) (w' : World) : Prop where
  os : w'.os = w.os
  tape : w'.tape = w.tape
  output : w'.output = w.output
  size : w.heap.size ≤ w'.heap.size
  block : ∀ k, k < w.heap.size → O k = none → w'.heap[k]? = w.heap[k]?
def ReturnsM (w : World) (O : Nat → Option Nat) (Ts : Nat → TypeId) (us : List Value) (cs : List MC) (res : Res) (e : Ending) (w' : World) : Prop :=
  Gives w O w' ∧ ∃ (vs : List Value) (bcs : List (Bool × List Value)) (O' : Nat → Option Nat), e = .returned (packed vs) ∧ All2 Packs vs bcs ∧ shape bcs = shape res ∧ RCs w' (fun _ => False) (fun _ => .none) 0 (bcs.flatMap (·.2)) (res.flatMap (·.2)) ∧
    (∀ k, O' k ≠ none → k < w'.heap.size ∧ (O k ≠ none ∨ w.heap.size ≤ k)) ∧ MPost w' O' Ts 0 us cs
def MK (P : Program) (f : FuncId) (args : List MA) (res : Res) : Prop :=
  ∀ (w : World) (Z : Nat → Prop) (O : Nat → Option Nat) (Ts : Nat → TypeId) (vals us : List Value), (∀ k, Z k → k < w.heap.size) → (∀ k, O k ≠ none → k < w.heap.size) → (∀ k, Z k → O k = none) → unp vals args us → MPre w Z O Ts 0 us (args.flatMap MA.cells) →
    Calls P f vals.toArray w (ReturnsM w O Ts us (args.flatMap MA.cells) res)
def MC.pc (j : Nat) : MC → PC
  | .rd d => .d d
  | .mk _ _ => .row (900 + j) []
def mpcs : Nat → List MC → List PC
  | _, [] => []
  | j, c :: cs => c.pc j :: mpcs (j + 1) cs
def MA.pv (j : Nat) : MA → PV
  | .one c => .one (c.pc j)
  | .agg cs => .agg (mpcs j cs)
def startTm : Nat → Nat → List MA → List (Nat × PV)
  | _, _, [] => []
  | t, j, a :: as => (t, a.pv j) :: startTm (t + 1) (j + a.cells.length) as
def startRows (Ts : Nat → TypeId) : Nat → List MC → List (Nat × (TypeId × D))
  | _, [] => []
  | j, .rd _ :: cs => startRows Ts (j + 1) cs
  | j, .mk d _ :: cs => (900 + j, (Ts j, d)) :: startRows Ts (j + 1) cs
def Env.startM (args : List MA) (Ts : Nat → TypeId) : Env := { tm := startTm 0 0 args, rows := startRows Ts 0 (args.flatMap MA.cells) }
def RowsAre (E : Env) (Ts : Nat → TypeId) : Nat → List MC → Prop
  | _, [] => True
  | j, .rd _ :: cs => RowsAre E Ts (j + 1) cs
  | j, .mk _ d :: cs => E.row (900 + j) = some (Ts j, d) ∧ RowsAre E Ts (j + 1) cs
def QRetM (P : Program) (fn : Func) (res : Res) (Ts : Nat → TypeId) (cs : List MC) : Exit → Env → Prop
  | .normal, E => (RetOk P fn res E ∧ resScal res = true) ∧ RowsAre E Ts 0 cs
  | .ret, E => (RetOk P fn res E ∧ resScal res = true) ∧ RowsAre E Ts 0 cs
  | _, _ => False
theorem MPre.get {w : World} {Z : Nat → Prop} {O : Nat → Option Nat} {Ts : Nat → TypeId} : ∀ (us : List Value) (cs : List MC) (j : Nat), MPre w Z O Ts j us cs → us.length = cs.length ∧
    (∀ (i : Nat) (d : D), cs[i]? = some (MC.rd d) → ∃ v, us[i]? = some v ∧ Rd w Z [v] [d]) ∧ (∀ (i : Nat) (d d' : D), cs[i]? = some (MC.mk d d') → ∃ v, us[i]? = some v ∧ ∃ fp, RowOk w (Ts (j + i)) v d fp ∧ fp.Nodup ∧ ∀ k ∈ fp, O k = some (j + i))
  | [], [], j, _ => ⟨rfl, by simp, by simp⟩
  | [], _ :: _, _, h => by simp [MPre] at h
  | _ :: _, [], _, h => by simp [MPre] at h
  | v :: us, .rd d :: cs, j, h => by
    obtain ⟨h1, h2⟩ := h
    obtain ⟨i1, i2, i3⟩ := MPre.get us cs (j + 1) h2
    refine ⟨by simp [i1], fun i d' hi => ?_, fun i d0 d' hi => ?_⟩
    · cases i with
      | zero => simp only [List.getElem?_cons_zero, Option.some.injEq, MC.rd.injEq] at hi; subst hi; exact ⟨v, rfl, h1⟩
      | succ i => simpa using i2 i d' (by simpa using hi)
    · cases i with
      | zero => simp at hi
      | succ i => rw [show j + (i + 1) = j + 1 + i from by omega]; simpa using i3 i d0 d' (by simpa using hi)
  | v :: us, .mk d e :: cs, j, h => by
    obtain ⟨h1, h2⟩ := h
    obtain ⟨i1, i2, i3⟩ := MPre.get us cs (j + 1) h2
    refine ⟨by simp [i1], fun i d' hi => ?_, fun i d0 d' hi => ?_⟩
    · cases i with
      | zero => simp at hi
      | succ i => simpa using i2 i d' (by simpa using hi)
    · cases i with
      | zero => simp only [List.getElem?_cons_zero, Option.some.injEq, MC.mk.injEq] at hi; obtain ⟨rfl, rfl⟩ := hi; exact ⟨v, rfl, h1⟩
      | succ i => rw [show j + (i + 1) = j + 1 + i from by omega]; simpa using i3 i d0 d' (by simpa using hi)
theorem MPost.mk {w : World} {O : Nat → Option Nat} {Ts : Nat → TypeId} : ∀ (us : List Value) (cs : List MC) (j : Nat), us.length = cs.length → (∀ (i : Nat) (v : Value) (d d' : D), us[i]? = some v → cs[i]? = some (MC.mk d d') → ∃ fp, RowOk w (Ts (j + i)) v d' fp ∧ fp.Nodup ∧ ∀ k ∈ fp, O k = some (j + i)) → MPost w O Ts j us cs
  | [], [], _, _, _ => trivial
  | [], _ :: _, _, h, _ => by simp at h
  | _ :: _, [], _, h, _ => by simp at h
  | v :: us, .rd d :: cs, j, hl, h => MPost.mk us cs (j + 1) (by simpa using hl) fun i v' d0 d' h1 h2 => by
    have := h (i + 1) v' d0 d' (by simpa using h1) (by simpa using h2)
    rwa [show j + (i + 1) = j + 1 + i from by omega] at this
  | v :: us, .mk d e :: cs, j, hl, h => ⟨h 0 v d e rfl rfl, MPost.mk us cs (j + 1) (by simpa using hl) fun i v' d0 d' h1 h2 => by
    have := h (i + 1) v' d0 d' (by simpa using h1) (by simpa using h2)
    rwa [show j + (i + 1) = j + 1 + i from by omega] at this⟩
theorem startRows_get {Ts : Nat → TypeId} : ∀ (cs : List MC) (j r : Nat) (x : TypeId × D), lk (startRows Ts j cs) r = some x → ∃ (i : Nat) (d d' : D), r = 900 + (j + i) ∧ cs[i]? = some (MC.mk d d') ∧ x = (Ts (j + i), d)
  | [], _, _, _, h => by simp [startRows, lk] at h
  | .rd d :: cs, j, r, x, h => by
    obtain ⟨i, d, d', h1, h2, h3⟩ := startRows_get cs (j + 1) r x h
    exact ⟨i + 1, d, d', by rw [h1]; omega, by simpa using h2, by rw [h3]; congr 2; omega⟩
  | .mk d e :: cs, j, r, x, h => by
    simp only [startRows, lk] at h
    split at h
    · rename_i he
      injection h with h
      exact ⟨0, d, e, by rw [← he]; omega, rfl, by rw [← h]; simp⟩
    · obtain ⟨i, d, d', h1, h2, h3⟩ := startRows_get cs (j + 1) r x h
      exact ⟨i + 1, d, d', by rw [h1]; omega, by simpa using h2, by rw [h3]; congr 2; omega⟩
theorem mpcs_ok {M : Maps} {E : Env} {w : World} : ∀ (cs : List MC) (us : List Value) (j : Nat), us.length = cs.length → (∀ (i : Nat) (c : MC) (v : Value), cs[i]? = some c → us[i]? = some v → COk M E w v (c.pc (j + i))) → All2 (COk M E w) us (mpcs j cs)
  | [], [], _, _, _ => .nil
  | [], _ :: _, _, h, _ => by simp at h
  | _ :: _, [], _, h, _ => by simp at h
  | c :: cs, u :: us, j, hl, h => .cons (h 0 c u rfl rfl) (mpcs_ok cs us (j + 1) (by simpa using hl) fun i c' v h1 h2 => by
    have := h (i + 1) c' v (by simpa using h1) (by simpa using h2)
    rwa [show j + (i + 1) = j + 1 + i from by omega] at this)
theorem startTm_ok {M : Maps} {E : Env} {w : World} : ∀ (args : List MA) (vals us : List Value) (t0 j : Nat), unp vals args us → (∀ (i : Nat) (c : MC) (v : Value), (args.flatMap MA.cells)[i]? = some c → us[i]? = some v → COk M E w v (c.pc (j + i))) →
    ∀ t p, lk (startTm t0 j args) t = some p → ∃ v, t0 ≤ t ∧ vals[t - t0]? = some v ∧ POk M E w v p
  | [], [], us, t0, j, _, _, t, p, h => by simp [startTm, lk] at h
  | [], _ :: _, _, _, _, h, _, _, _, _ => by simp [unp] at h
  | a :: args, [], _, _, _, h, _, _, _, _ => by cases a <;> simp [unp] at h
  | .one c :: args, v :: vals, us, t0, j, h, hc, t, p, ht => by
    obtain ⟨us', rfl, h2⟩ := h
    simp only [startTm, lk] at ht
    split at ht
    · rename_i he
      subst he
      injection ht with ht
      subst ht
      exact ⟨v, Nat.le_refl _, by simp, hc 0 c v rfl rfl⟩
    · obtain ⟨v', k1, k2, k3⟩ := startTm_ok args vals us' (t0 + 1) (j + 1) h2 (fun i c' v' h1 h3 => by
        have := hc (i + 1) c' v' (by simpa [MA.cells] using h1) (by simpa using h3)
        rwa [show j + (i + 1) = j + 1 + i from by omega] at this) t p ht
      exact ⟨v', by omega, by rw [show t - t0 = (t - (t0 + 1)) + 1 from by omega]; simpa using k2, k3⟩
  | .agg cs :: args, v :: vals, us, t0, j, h, hc, t, p, ht => by
    obtain ⟨arr, us', rfl, hl, rfl, h2⟩ := h
    simp only [startTm, lk] at ht
    split at ht
    · rename_i he
      subst he
      injection ht with ht
      subst ht
      refine ⟨_, Nat.le_refl _, by simp, arr, rfl, mpcs_ok cs _ j hl fun i c v h1 h3 => ?_⟩
      have hi : i < cs.length := (List.getElem?_eq_some_iff.1 h1).1
      exact hc i c v (by rw [List.flatMap_cons, List.getElem?_append_left (by simpa [MA.cells] using hi)]; exact h1) (by rw [List.getElem?_append_left (by omega)]; exact h3)
    · obtain ⟨v', k1, k2, k3⟩ := startTm_ok args vals us' (t0 + 1) (j + cs.length) h2 (fun i c' v' h1 h3 => by
        have := hc (cs.length + i) c' v' (by rw [List.flatMap_cons, List.getElem?_append_right (by simp [MA.cells])]; simpa [MA.cells] using h1) (by rw [List.getElem?_append_right (by omega), hl]; simpa using h3)
        rwa [show j + (cs.length + i) = j + cs.length + i from by omega] at this) t p ht
      exact ⟨v', by omega, by rw [show t - t0 = (t - (t0 + 1)) + 1 from by omega]; simpa using k2, k3⟩
theorem unp_len : ∀ (vals : List Value) (args : List MA) (us : List Value), unp vals args us → vals.length = args.length
  | [], [], _, _ => rfl
  | [], _ :: _, _, h => by simp [unp] at h
  | _ :: _, [], _, h => by simp [unp] at h
  | v :: vs, .one c :: as, us, h => by obtain ⟨us', _, h⟩ := h; simp [unp_len vs as us' h]
  | v :: vs, .agg cs :: as, us, h => by obtain ⟨_, us', _, _, _, h⟩ := h; simp [unp_len vs as us' h]
theorem RowsAre.get {E : Env} {Ts : Nat → TypeId} : ∀ (cs : List MC) (j : Nat), RowsAre E Ts j cs → ∀ (i : Nat) (d d' : D), cs[i]? = some (MC.mk d d') → E.row (900 + (j + i)) = some (Ts (j + i), d')
  | [], _, _, i, _, _, h => by simp at h
  | .rd x :: cs, j, hr, i, d, d', h => by
    cases i with
    | zero => simp at h
    | succ i => have := RowsAre.get cs (j + 1) hr i d d' (by simpa using h); rwa [show j + 1 + i = j + (i + 1) from by omega] at this
  | .mk x y :: cs, j, hr, i, d, d', h => by
    cases i with
    | zero => simp only [List.getElem?_cons_zero, Option.some.injEq, MC.mk.injEq] at h; obtain ⟨rfl, rfl⟩ := h; exact hr.1
    | succ i => have := RowsAre.get cs (j + 1) hr.2 i d d' (by simpa using h); rwa [show j + 1 + i = j + (i + 1) from by omega] at this
def resNum (res : Res) : Bool := (res.flatMap (·.2)).all fun rc => match rc with | .rd d => d.val.isSome | .own .. => false
theorem rcs_num {w w' : World} {Z Z' : Nat → Prop} {O O' : Nat → Tag} : ∀ (rcs : List RC) (vs : List Value) (j : Nat), rcs.all (fun rc => match rc with | .rd d => d.val.isSome | .own .. => false) = true → RCs w Z O j vs rcs → RCs w' Z' O' j vs rcs
  | [], [], j, _, h => trivial
  | [], _ :: _, _, _, h => h.elim
  | _ :: _, [], _, _, h => h.elim
  | .rd d :: rcs, v :: vs, j, hs, h => by
    simp only [List.all_cons, Bool.and_eq_true] at hs
    obtain ⟨u, hu⟩ := Option.isSome_iff_exists.1 hs.1
    refine ⟨?_, rcs_num rcs vs (j + 1) hs.2 h.2⟩
    have := rd_val (h.1 : Rd w _ [v] [d]) hu
    subst this
    exact Rd.val hu .nil
  | .own T d :: rcs, v :: vs, j, hs, h => by simp at hs
open Classical in
theorem MK.intro {P : Program} {f : FuncId} {fn : Func} {c : Code} {args : List MA} {res : Res} (hf : P.funcs[f]? = some fn) (hb : fn.body = some c) (n : Nat) (hn : fn.ntmps = n) (ha : args.length ≤ n) (hcs : (args.flatMap MA.cells).length ≤ 100) (hnum : resNum res = true)
    (h : ∀ (w : World) (Z IX : Nat → Prop) (pin : List (Nat × Value)) (Ts : Nat → TypeId), (∀ x ∈ pin, 900 ≤ x.1 ∧ x.1 < 1000) → T P ⟨w.heap.size, w, Z, IX, pin, n⟩ c (Env.startM args Ts) (QRetM P fn res Ts (args.flatMap MA.cells))) : MK P f args res := by
  intro w Z O Ts vals us hz hO hZO hunp hpre
  have hl : vals.length = args.length := unp_len _ _ _ hunp
  obtain ⟨hul, hrd, hmk⟩ := MPre.get us _ 0 hpre
  refine calls_of_wp hf hb ?_
  obtain ⟨fpf, hfp⟩ : ∃ fpf : Nat → List Nat, ∀ (i : Nat) (d d' : D), (args.flatMap MA.cells)[i]? = some (MC.mk d d') → ∃ v, us[i]? = some v ∧ RowOk w (Ts i) v d (fpf i) ∧ (fpf i).Nodup ∧ ∀ k ∈ fpf i, O k = some i := by
    refine ⟨fun i => if h : ∃ fp : List Nat, ∀ d d' : D, (args.flatMap MA.cells)[i]? = some (MC.mk d d') → ∃ v, us[i]? = some v ∧ RowOk w (Ts i) v d fp ∧ fp.Nodup ∧ ∀ k ∈ fp, O k = some i then Classical.choose h else [], fun i d d' hc => ?_⟩
    have hex : ∃ fp : List Nat, ∀ d d' : D, (args.flatMap MA.cells)[i]? = some (MC.mk d d') → ∃ v, us[i]? = some v ∧ RowOk w (Ts i) v d fp ∧ fp.Nodup ∧ ∀ k ∈ fp, O k = some i := by
      obtain ⟨v, h1, fp, h2, h3, h4⟩ := hmk i d d' hc
      refine ⟨fp, fun e e' he => ?_⟩
      rw [hc] at he
      injection he with he
      injection he with he1 he2
      subst he1
      exact ⟨v, h1, by simpa using h2, h3, by simpa using h4⟩
    simp only [dif_pos hex]
    exact Classical.choose_spec hex d d' hc
  have hst : Rel ⟨w.heap.size, w, Z, fun k => O k ≠ none, (List.range us.length).map fun i => (900 + i, us.getD i undef), n⟩ (Env.startM args Ts) { tmps := vals.toArray ++ Array.replicate (n - vals.toArray.size) undef, defers := [] } w := by
    refine ⟨⟨fun r => us.getD (r - 900) undef, fun r => fpf (r - 900), fun _ => 0, fun k => if Z k then .froz else match O k with | some j => .row (900 + j) | none => .none⟩, ?_⟩
    have hown : ∀ k j, O k = some j → (if Z k then Tag.froz else match O k with | some j => .row (900 + j) | none => .none) = .row (900 + j) := fun k j hk => by
      rw [if_neg (fun hzk => by rw [hZO k hzk] at hk; cases hk), hk]
    have hcell : ∀ (i : Nat) (c : MC) (v : Value), (args.flatMap MA.cells)[i]? = some c → us[i]? = some v → COk ⟨fun r => us.getD (r - 900) undef, fun r => fpf (r - 900), fun _ => 0, fun k => if Z k then .froz else match O k with | some j => .row (900 + j) | none => .none⟩ (Env.startM args Ts) w v (c.pc (0 + i)) := fun i c v hc hv => by
      cases c with
      | rd d =>
        obtain ⟨v', h1, h2⟩ := hrd i d hc
        rw [hv] at h1
        injection h1 with h1
        subst h1
        exact Rd.keep h2 (fun _ _ => rfl) fun k hk => by simp [hk]
      | mk d d' =>
        intro T e _
        simp only [PathTo]
        rw [List.getD_eq_getElem?_getD, show 900 + (0 + i) - 900 = i from by omega, hv]
        rfl
    refine { tn := by simp; omega, df := rfl, fr := ⟨rfl, rfl, rfl, Nat.le_refl _, fun _ _ _ => rfl⟩, ba := Nat.le_refl _, lt := ?_, z0 := fun k hk => by have hk' : Z k := hk; simp [hk'], zb := ?_, wr := ?_, tm := ?_, rows := ?_, boxes := ?_, pin := ?_, bpin := fun b v hp hn T ps hb => by simp [Env.box, Env.startM, lk] at hb }
    · intro k hk
      simp only at hk
      split at hk
      · rename_i hz'; exact hz k hz'
      · cases hOk : O k with
        | none => rw [hOk] at hk; exact absurd rfl hk
        | some j => exact hO k (by rw [hOk]; simp)
    · intro k hk
      simp only at hk
      split at hk
      · rename_i hz'; exact .inl hz'
      · cases hOk : O k with
        | none => rw [hOk] at hk; cases hk
        | some j => rw [hOk] at hk; cases hk
    · intro k hk hk'
      simp only at hk hk'
      split at hk
      · rename_i hz'; rw [if_pos hz'] at hk'; exact absurd rfl hk'
      · cases hOk : O k with
        | none => rw [hOk] at hk; exact absurd rfl hk
        | some j => left; show O k ≠ none; rw [hOk]; simp
    · intro t
      have hget : (Env.startM args Ts).get t = (lk (startTm 0 0 args) t).getD (.one .und) := rfl
      rw [hget]
      cases hx : lk (startTm 0 0 args) t with
      | none => trivial
      | some p =>
        obtain ⟨v, _, hv, hok⟩ := startTm_ok args vals us 0 0 hunp hcell t p hx
        rw [Nat.sub_zero] at hv
        have hval : ({ tmps := vals.toArray ++ Array.replicate (n - vals.toArray.size) undef, defers := [] } : Act).tmps.getD t undef = v := by
          have hlt : t < vals.length := (List.getElem?_eq_some_iff.1 hv).1
          have : (vals.toArray ++ Array.replicate (n - vals.toArray.size) undef)[t]? = some v := by
            rw [Array.getElem?_append_left (by simpa using hlt)]; simpa using hv
          simp only [Array.getD_eq_getD_getElem?, this, Option.getD_some]
        rw [hval]
        exact hok
    · intro r T d hr
      obtain ⟨i, e, e', h1, h2, h3⟩ := startRows_get _ 0 r _ hr
      injection h3 with h3 h4
      subst h3 h4
      rw [Nat.zero_add] at h1
      subst h1
      obtain ⟨v, k1, k2, k3, k4⟩ := hfp i d e' h2
      refine ⟨?_, ?_, fun k hk => ?_⟩
      · simp only [Nat.add_sub_cancel_left, Nat.zero_add, List.getD_eq_getElem?_getD, k1, Option.getD_some]
        exact k2
      · simpa only [Nat.add_sub_cancel_left] using k3
      · simp only [Nat.add_sub_cancel_left] at hk
        exact hown k i (k4 k hk)
    · intro b T ps hb; simp [Env.box, Env.startM, lk] at hb
    · intro r v hrv T d hr
      obtain ⟨i, _, h2⟩ := List.mem_map.1 hrv
      have h3 : r = 900 + i := (congrArg Prod.fst h2).symm
      have h4 : v = us.getD i undef := (congrArg Prod.snd h2).symm
      rw [h3, h4]
      simp only [Nat.add_sub_cancel_left]
  have hpin : ∀ x ∈ ((List.range us.length).map fun i => (900 + i, us.getD i undef)), 900 ≤ x.1 ∧ x.1 < 1000 := fun x hx => by
    obtain ⟨i, h1, rfl⟩ := List.mem_map.1 hx
    rw [List.mem_range] at h1
    simp only
    omega
  have := h w Z (fun k => O k ≠ none) _ Ts hpin _ _ hst
  rw [hn]
  refine wp_mono this fun e a w' ⟨E, hq, M, R⟩ => ?_
  have key : (RetOk P fn res E ∧ resScal res = true) ∧ RowsAre E Ts 0 (args.flatMap MA.cells) → bodyPost P fn (ReturnsM w O Ts us (args.flatMap MA.cells) res) .ret a w' := fun ⟨⟨⟨pss, h1, h2, ss, h3⟩, _⟩, hrows⟩ => by
    obtain ⟨vs, bcs, k1, k2, k3, k4⟩ := ret_all R h1
    obtain ⟨O1, o1, _, o3, o4⟩ := retC_ok R h3 _ 0 k4
    refine ⟨R.df, packed vs, results_run k1, ⟨R.fr.os, R.fr.tape, R.fr.output, R.fr.size, fun k hk hno => R.fr.block k hk fun h => h hno⟩, vs, bcs,
      fun k => match M.own k with | .row r => if 900 ≤ r then some (r - 900) else none | _ => none, rfl, k2, k3.trans h2, rcs_num _ _ _ hnum o4, fun k hk => ?_, ?_⟩
    · simp only at hk
      split at hk
      · rename_i r hr
        refine ⟨R.lt k (by rw [hr]; simp), ?_⟩
        exact R.wr k (by rw [hr]; simp) (by rw [hr]; simp)
      · exact absurd rfl hk
    · refine MPost.mk us _ 0 hul fun i v d d' hv hc => ?_
      have hr := RowsAre.get _ 0 hrows i d d' hc
      obtain ⟨p1, p2, p3⟩ := R.rows _ _ _ hr
      have hi : i < us.length := (List.getElem?_eq_some_iff.1 hv).1
      have hh := R.pin (900 + i) v (by
        refine List.mem_map.2 ⟨i, List.mem_range.2 hi, ?_⟩
        rw [List.getD_eq_getElem?_getD, hv]; rfl) _ _ (by rw [Nat.zero_add] at hr; exact hr)
      rw [Nat.zero_add] at p1 p2 p3 ⊢
      rw [hh] at p1
      exact ⟨_, p1, p2, fun k hk => by simp [p3 k hk]⟩
  cases e with
  | normal => exact key hq
  | ret => exact key hq
  | _ => exact hq.elim
theorem Own.lend' {w : World} {v u : Value} {d : D} {bs : List Nat} (p : List (Nat × Nat)) (ho : Own w [v] [d] bs) (hp : PathTo w v d p u) (hnd : bs.Nodup) : ∃ b1 b b2, bs = b1 ++ b ++ b2 ∧ Own w [u] [d.at_ p] b ∧ (p = [] ∨ ∀ a n c, v = .slice (some a) n c → a.block ∈ b1) ∧
    ∀ (w' : World) (e d' : D) (b' : List Nat), d.putAt p e = some d' → Own w' [u] [e] b' → (∀ k ∈ b1, w'.heap[k]? = w.heap[k]?) → (∀ k ∈ b2, w'.heap[k]? = w.heap[k]?) → Own w' [v] [d'] (b1 ++ b' ++ b2) := by
  cases p with
  | nil =>
    obtain ⟨b1, b, b2, h1, h2, h3⟩ := Own.lend [] v d u bs ho hp
    exact ⟨b1, b, b2, h1, h2, .inl rfl, h3⟩
  | cons ij p =>
    obtain ⟨i, j⟩ := ij
    obtain ⟨g, cap, cs, t, c, h1, h2, h3, h4, h5, h6⟩ := hp
    subst h1
    obtain ⟨k1, k2, _, k3, k4, cs', t', b, k5, k6, k7, rfl⟩ := own_sl ho
    rw [h2] at k5
    injection k5 with k5
    injection k5 with e1 e2
    subst e1 e2
    have hlt : i * d.z + j < d.flat.length := by
      rw [D.flat_length k2 k1]
      calc i * d.z + j < i * d.z + d.z := by omega
        _ = (i + 1) * d.z := by rw [Nat.succ_mul]
        _ ≤ d.size * d.z := Nat.mul_le_mul_right _ (by omega)
    obtain ⟨c', c1, b0, c2, hc', rfl, ho', hback⟩ := k7.lend1 (i * d.z + j) (d.cell i j) (D.flat_get k2 k1 h3 h4)
    obtain rfl : c' = c := by
      rw [List.getElem?_take, if_pos hlt] at hc'
      have : cs[i * d.z + j]? = some c' := by simpa using hc'
      rw [h5] at this
      injection this with this
      exact this.symm
    obtain ⟨a1, a, a2, rfl, hoa, hbk⟩ := Own.lend p c' (d.cell i j) u b0 ho' h6
    refine ⟨g :: (c1 ++ a1), a, a2 ++ c2, by simp, hoa, .inr (fun a n c h => by injection h with h; injection h with h; subst h; simp), fun w' e d' b' he ho2 hk1 hk2 => ?_⟩
    simp only [D.putAt] at he
    obtain ⟨y, hy, hput⟩ := Option.bind_eq_some_iff.1 he
    obtain ⟨f1, f2, f3, f4, f5⟩ := D.put_flat hput k2 h3 h4
    have hb := hbk w' e y b' hy ho2 (fun k hk => hk1 k (by simp [hk])) (fun k hk => hk2 k (by simp [hk]))
    have hc := hback w' c' y _ hb (fun k hk => hk1 k (by simp [hk])) (fun k hk => hk2 k (by simp [hk]))
    have hset : (cs.toList.take d.flat.length).set (i * d.z + j) c' = cs.toList.take d.flat.length := by
      apply List.ext_getElem? 
      intro q
      rw [List.getElem?_set]
      split
      · rename_i e; subst e; split
        · rw [hc']
        · rename_i hh; rw [List.getElem?_eq_none (by omega)]
      · rfl
    rw [hset, ← f1] at hc
    have hlen : d'.flat.length = d.flat.length := by rw [f1, List.length_set]
    have hg : w'.heap[g]? = some (.cells cs t (0, 0)) := (hk1 g (by simp)).trans h2
    have := Own.sl (w := w') (vs := []) (ds := []) (b2 := []) f5 hg (by rw [f2]; exact k3) k4 (by rw [f3]; exact k6) f4 (by rw [hlen]; exact hc) .nil
    rw [f2] at this
    simpa using this
theorem own_head {w : World} {v : Value} {d : D} {bs : List Nat} (h : Own w [v] [d] bs) (hs : d.isSl = true) : ∃ T, ∀ a n c, v = .slice (some a) n c → ∃ cs fr, w.heap[a.block]? = some (.cells cs T fr) := by
  cases h with
  | val hv _ => cases d <;> simp [D.val] at hv <;> simp [D.isSl] at hs
  | empty => exact ⟨0, fun a n c h => by injection h with h; cases h⟩
  | sl h1 h2 h3 h4 h5 h6 h7 h8 => exact ⟨_, fun a n c h => by injection h with h; injection h with h; subst h; exact ⟨_, _, h2⟩⟩
inductive MCells (E : Env) : List PC → List MC → List (Nat × D) → Prop
  | nil : MCells E [] [] []
  | d {x : D} {ps : List PC} {cs : List MC} {js : List (Nat × D)} : MCells E ps cs js → MCells E (.d x :: ps) (.rd x :: cs) js
  | nilmk {x : D} {ps : List PC} {cs : List MC} {js : List (Nat × D)} : x.isSl = true → x.size = 0 → x.wf → MCells E ps cs js → MCells E (.nil :: ps) (.mk x x :: cs) js
  | row {r : Nat} {p : List (Nat × Nat)} {T : TypeId} {d e e' d' : D} {ps : List PC} {cs : List MC} {js : List (Nat × D)} : E.row r = some (T, d) → d.at_ p = e → e.isSl = true → d.putAt p e' = some d' → d'.isSl = true → d'.size = d.size → d'.z = d.z → lk js r = none →
      MCells E ps cs js → MCells E (.row r p :: ps) (.mk e e' :: cs) ((r, d') :: js)
def blkT (w : World) : Value → TypeId
  | .slice (some a) _ _ => match w.heap[a.block]? with | some (.cells _ T _) => T | _ => 0
  | _ => 0
theorem MPre.imp {w : World} {Z : Nat → Prop} {O O' : Nat → Option Nat} {Ts : Nat → TypeId} (h : ∀ k i, O k = some i → O' k = some i) : ∀ (us : List Value) (cs : List MC) (j : Nat), MPre w Z O Ts j us cs → MPre w Z O' Ts j us cs
  | [], [], _, _ => trivial
  | [], _ :: _, _, hp => by simp [MPre] at hp
  | _ :: _, [], _, hp => by simp [MPre] at hp
  | v :: us, .rd d :: cs, j, hp => ⟨hp.1, MPre.imp h us cs (j + 1) hp.2⟩
  | v :: us, .mk d e :: cs, j, ⟨⟨fp, h1, h2, h3⟩, hp⟩ => ⟨⟨fp, h1, h2, fun k hk => h k j (h3 k hk)⟩, MPre.imp h us cs (j + 1) hp⟩
open Classical in
theorem MCells.hand {C : Ctx} {M : Maps} {E : Env} {a : Act} {w : World} (R : RelM C M E a w) (Ts : Nat → TypeId) {ps : List PC} {cs : List MC} {js : List (Nat × D)} (h : MCells E ps cs js) : ∀ (us : List Value) (j : Nat), All2 (COk M E w) us ps → (∀ (i : Nat) (v : Value), us[i]? = some v → Ts (j + i) = blkT w v) →
    ∃ (O : Nat → Option Nat) (ix : Nat → Nat), (∀ k i, O k = some i → ∃ r, (lk js r).isSome = true ∧ M.own k = .row r) ∧ (∀ r, (lk js r).isSome = true → j ≤ ix r) ∧ (∀ r s, (lk js r).isSome = true → (lk js s).isSome = true → ix r = ix s → r = s) ∧ MPre w (fun k => M.own k = .froz) O Ts j us cs ∧
      ∀ (w' : World) (Om O' : Nat → Option Nat), (∀ k r, (lk js r).isSome = true → M.own k = .row r → Om k = O k) → (∀ k, k < w.heap.size → Om k = none → w'.heap[k]? = w.heap[k]?) → (∀ k, O' k ≠ none → Om k ≠ none ∨ w.heap.size ≤ k) → MPost w' O' Ts j us cs →
        ∃ fp' : Nat → List Nat, ∀ r d', lk js r = some d' → ∃ T d, E.row r = some (T, d) ∧ d'.size = d.size ∧ d'.z = d.z ∧ RowOk w' T (M.hdl r) d' (fp' r) ∧ (fp' r).Nodup ∧ ∀ k ∈ fp' r, (k < w.heap.size ∧ M.own k = .row r ∧ O' k = none) ∨ O' k = some (ix r) := by
  induction h with
  | nil =>
    intro us j hus hTs
    cases hus
    exact ⟨fun _ => none, fun _ => 0, by simp, by simp [lk], by simp [lk], trivial, fun _ _ _ _ _ _ _ => ⟨fun _ => [], by simp [lk]⟩⟩
  | @d x ps cs js _ ih =>
    intro us j hus hTs
    cases hus with
    | @cons v _ us _ h1 h2 =>
      obtain ⟨O, ix, k1, k2, k3, k4, k5⟩ := ih us (j + 1) h2 fun i v' hv => by rw [show j + 1 + i = j + (i + 1) from by omega]; exact hTs (i + 1) v' (by simpa using hv)
      exact ⟨O, ix, k1, fun r hr => by have := k2 r hr; omega, k3, ⟨h1, k4⟩, k5⟩
  | @nilmk x ps cs js e1 e2 e3 _ ih =>
    intro us j hus hTs
    cases hus with
    | @cons v _ us _ h1 h2 =>
      obtain ⟨O, ix, k1, k2, k3, k4, k5⟩ := ih us (j + 1) h2 fun i v' hv => by rw [show j + 1 + i = j + (i + 1) from by omega]; exact hTs (i + 1) v' (by simpa using hv)
      have e : v = .slice none 0 0 := h1
      subst e
      exact ⟨O, ix, k1, fun r hr => by have := k2 r hr; omega, k3, ⟨⟨[], ⟨e1, .empty e1 e2 e3 .nil, fun ad n c h => by injection h with h; cases h⟩, by simp, by simp⟩, k4⟩, fun w' Om O' q1 q2 q3 q4 => k5 w' Om O' q1 q2 q3 q4.2⟩
  | @row r p T d e e' d' ps cs js hr hat hsl hput hsl' hsize hz hlk _ ih =>
    intro us j hus hTs
    cases hus with
    | @cons v _ us _ h1 h2 =>
      obtain ⟨O, ix, k1, k2, k3, k4, k5⟩ := ih us (j + 1) h2 fun i v' hv => by rw [show j + 1 + i = j + (i + 1) from by omega]; exact hTs (i + 1) v' (by simpa using hv)
      obtain ⟨⟨s1, ho, hh⟩, hnd, hrow⟩ := R.rows r T d hr
      have hp : PathTo w (M.hdl r) d p v := h1 T d hr
      obtain ⟨b1, b, b2, hbs, hob, hhd, hback⟩ := Own.lend' p ho hp hnd
      rw [hat] at hob
      have hT0 : Ts j = blkT w v := hTs 0 v rfl
      have hlkr : ∀ s, lk ((r, d') :: js) s = if r = s then some d' else lk js s := fun s => rfl
      have hne : ∀ s, (lk js s).isSome = true → s ≠ r := fun s hs e => by subst e; rw [hlk] at hs; cases hs
      have hOt : ∀ k, M.own k = .row r → O k = none := fun k hk => by
        cases hOk : O k with
        | none => rfl
        | some i =>
          obtain ⟨s, h3, h4⟩ := k1 k i hOk
          rw [hk] at h4
          injection h4 with h4
          exact absurd h4.symm (hne s h3)
      have hb : ∀ k ∈ b, M.own k = .row r := fun k hk => hrow k (by rw [hbs]; simp [hk])
      have hb12 : ∀ k, k ∈ b1 ∨ k ∈ b2 → M.own k = .row r ∧ k ∉ b ∧ k < w.heap.size := fun k hk => by
        have hm : k ∈ M.fp r := by rw [hbs]; rcases hk with hk | hk <;> simp [hk]
        refine ⟨hrow k hm, fun hkb => ?_, ho.lt k hm⟩
        rw [hbs, List.append_assoc, List.nodup_append] at hnd
        obtain ⟨n1, n2, n3⟩ := hnd
        rw [List.nodup_append] at n2
        rcases hk with hk | hk
        · exact n3 k hk k (by simp [hkb]) rfl
        · exact n2.2.2 k hkb k hk rfl
      have hndb : b.Nodup ∧ (b1 ++ b2).Nodup := by
        rw [hbs, List.append_assoc, List.nodup_append] at hnd
        obtain ⟨n1, n2, n3⟩ := hnd
        rw [List.nodup_append] at n2
        exact ⟨n2.1, List.nodup_append.2 ⟨n1, n2.2.1, fun x hx y hy => n3 x hx y (by simp [hy])⟩⟩
      refine ⟨fun k => if k ∈ b then some j else O k, fun s => if s = r then j else ix s, fun k i hk => ?_, fun s hs => ?_, fun s s' hs hs' he => ?_, ⟨⟨b, ⟨hsl, hob, fun ad n c hv => ?_⟩, hndb.1, fun k hk => by simp [hk]⟩, MPre.imp (fun k i hk => ?_) _ _ _ k4⟩, fun w' Om O' q1 q2 q3 q4 => ?_⟩
      · simp only at hk
        split at hk
        · rename_i hkb; exact ⟨r, by rw [hlkr, if_pos rfl]; rfl, hb k hkb⟩
        · obtain ⟨s, h3, h4⟩ := k1 k i hk
          exact ⟨s, by rw [hlkr, if_neg (fun e => hne s h3 e.symm)]; exact h3, h4⟩
      · simp only
        split
        · exact Nat.le_refl _
        · rename_i hsr
          rw [hlkr, if_neg (fun e => hsr e.symm)] at hs
          have := k2 s hs; omega
      · rw [hlkr] at hs hs'
        simp only at he
        by_cases e1 : s = r <;> by_cases e2 : s' = r
        · rw [e1, e2]
        · rw [if_neg (fun e => e2 e.symm)] at hs'
          rw [if_pos e1, if_neg e2] at he
          have := k2 s' hs'; omega
        · rw [if_neg (fun e => e1 e.symm)] at hs
          rw [if_neg e1, if_pos e2] at he
          have := k2 s hs; omega
        · rw [if_neg (fun e => e1 e.symm)] at hs
          rw [if_neg (fun e => e2 e.symm)] at hs'
          rw [if_neg e1, if_neg e2] at he
          exact k3 s s' hs hs' he
      · obtain ⟨T1, hT1⟩ := own_head hob hsl
        obtain ⟨cs1, fr, h3⟩ := hT1 ad n c hv
        refine ⟨cs1, fr, ?_⟩
        rw [h3, hT0, hv]
        simp only [blkT, h3]
      · show (if k ∈ b then some j else O k) = some i
        rw [if_neg]
        · exact hk
        · intro hkb
          obtain ⟨s, h3, h4⟩ := k1 k i hk
          rw [hb k hkb] at h4
          injection h4 with h4
          exact hne s h3 h4.symm
      · obtain ⟨⟨fpb, ⟨r1, r2, r3⟩, r4, r5⟩, q4⟩ := q4
        obtain ⟨fpt, hfpt⟩ := k5 w' Om O' (fun k s hs hk => by
          rw [q1 k s (by rw [hlkr, if_neg (fun e => hne s hs e.symm)]; exact hs) hk]
          show (if k ∈ b then some j else O k) = O k
          rw [if_neg]
          intro hkb
          rw [hb k hkb] at hk
          injection hk with hk
          exact hne s hs hk.symm) q2 q3 q4
        have hom : ∀ k, k ∈ b1 ∨ k ∈ b2 → Om k = none := fun k hk => by
          obtain ⟨m1, m2, m3⟩ := hb12 k hk
          rw [q1 k r (by rw [hlkr, if_pos rfl]; rfl) m1]
          show (if k ∈ b then some j else O k) = none
          rw [if_neg m2]
          exact hOt k m1
        have hon : ∀ k, k ∈ b1 ∨ k ∈ b2 → O' k = none := fun k hk => by
          cases hOk : O' k with
          | none => rfl
          | some i =>
            rcases q3 k (by rw [hOk]; simp) with h3 | h3
            · exact absurd (hom k hk) h3
            · have := (hb12 k hk).2.2; omega
        have hsame : ∀ k, k ∈ b1 ∨ k ∈ b2 → w'.heap[k]? = w.heap[k]? := fun k hk => q2 k (hb12 k hk).2.2 (hom k hk)
        refine ⟨fun s => if s = r then b1 ++ fpb ++ b2 else fpt s, fun s ds hs => ?_⟩
        rw [hlkr] at hs
        by_cases e : r = s
        · subst e
          rw [if_pos rfl] at hs
          injection hs with hs
          subst hs
          simp only [if_pos]
          refine ⟨T, d, hr, hsize, hz, ⟨hsl', hback w' e' d' fpb hput r2 (fun k hk => hsame k (.inl hk)) (fun k hk => hsame k (.inr hk)), fun ad n c hv => ?_⟩, ?_, fun k hk => ?_⟩
          · obtain ⟨cs1, fr1, h3⟩ := hh ad n c hv
            rcases hhd with hp0 | hp1
            · subst hp0
              have e : v = M.hdl r := hp
              rw [e, hv] at hT0
              simp only [blkT, h3] at hT0
              rw [← hT0]
              exact r3 ad n c (by rw [e]; exact hv)
            · exact ⟨cs1, fr1, (hsame _ (.inl (hp1 ad n c hv))).trans h3⟩
          · have hd1 : ∀ k ∈ fpb, ¬ (k ∈ b1 ∨ k ∈ b2) := fun k hk hm => by have := hon k hm; rw [r5 k hk] at this; cases this
            have := List.nodup_append.1 hndb.2
            rw [List.append_assoc]
            refine List.nodup_append.2 ⟨this.1, List.nodup_append.2 ⟨r4, this.2.1, fun x hx y hy e => hd1 x hx (.inr (e ▸ hy))⟩, fun x hx y hy e => ?_⟩
            subst e
            rcases List.mem_append.1 hy with hy | hy
            · exact hd1 x hy (.inl hx)
            · exact this.2.2 x hx x hy rfl
          · simp only [List.mem_append] at hk
            rcases hk with (hk | hk) | hk
            · exact .inl ⟨(hb12 k (.inl hk)).2.2, (hb12 k (.inl hk)).1, hon k (.inl hk)⟩
            · exact .inr (r5 k hk)
            · exact .inl ⟨(hb12 k (.inr hk)).2.2, (hb12 k (.inr hk)).1, hon k (.inr hk)⟩
        · rw [if_neg e] at hs
          have e' : ¬ s = r := fun h => e h.symm
          simp only [if_neg e']
          exact hfpt s ds hs
def PV.mcells : PV → List PC
  | .one c => [c]
  | .agg cs => cs
  | .tup _ => []
def shOk : List PV → List MA → Bool
  | [], [] => true
  | .one _ :: ps, .one _ :: as => shOk ps as
  | .agg cs :: ps, .agg ds :: as => cs.length == ds.length && shOk ps as
  | _, _ => false
theorem unp_of {M : Maps} {E : Env} {w : World} : ∀ (ps : List PV) (args : List MA) (vals : List Value), shOk ps args = true → All2 (POk M E w) vals ps → ∃ us, unp vals args us ∧ All2 (COk M E w) us (ps.flatMap PV.mcells)
  | [], [], _, _, h => by cases h; exact ⟨[], rfl, .nil⟩
  | [], _ :: _, _, h, _ => by simp [shOk] at h
  | p :: _, [], _, h, _ => by cases p <;> simp [shOk] at h
  | .one c :: ps, .one m :: as, _, h, hv => by
    cases hv with
    | @cons v _ vs _ h1 h2 =>
      obtain ⟨us, k1, k2⟩ := unp_of ps as vs h h2
      exact ⟨v :: us, ⟨us, rfl, k1⟩, .cons h1 k2⟩
  | .agg cs :: ps, .agg ds :: as, _, h, hv => by
    simp only [shOk, Bool.and_eq_true, beq_iff_eq] at h
    cases hv with
    | @cons v _ vs _ h1 h2 =>
      obtain ⟨us, k1, k2⟩ := unp_of ps as vs h.2 h2
      obtain ⟨arr, rfl, h3⟩ := h1
      exact ⟨arr.toList ++ us, ⟨arr, us, rfl, by rw [h3.length]; exact h.1, rfl, k1⟩, h3.append k2⟩
  | .one _ :: _, .agg _ :: _, _, h, _ => by simp [shOk] at h
  | .agg _ :: _, .one _ :: _, _, h, _ => by simp [shOk] at h
  | .tup _ :: _, _ :: _, _, h, _ => by simp [shOk] at h
def killJ (js : List (Nat × D)) : PC → PC
  | .row r p => if (lk js r).isSome && !p.isEmpty then .und else .row r p
  | .rptr r p i j => if (lk js r).isSome && !p.isEmpty then .und else .rptr r p i j
  | c => c
theorem killJ_ok (js : List (Nat × D)) (c : PC) : killJ js c = .und ∨ (killJ js c = c ∧ ((∀ r, (lk js r).isSome = true → c.ment r = false) ∨ ∃ r, (lk js r).isSome = true ∧ (c = .row r [] ∨ ∃ i j, c = .rptr r [] i j))) := by
  cases c with
  | row r p =>
    simp only [killJ]
    split
    · exact .inl rfl
    · rename_i h
      refine .inr ⟨rfl, ?_⟩
      by_cases h1 : (lk js r).isSome = true
      · right
        refine ⟨r, h1, .inl ?_⟩
        cases p with
        | nil => rfl
        | cons => simp [h1] at h
      · left
        intro s hs
        simp only [PC.ment, beq_eq_false_iff_ne]
        rintro rfl
        exact h1 hs
  | rptr r p i j =>
    simp only [killJ]
    split
    · exact .inl rfl
    · rename_i h
      refine .inr ⟨rfl, ?_⟩
      by_cases h1 : (lk js r).isSome = true
      · right
        refine ⟨r, h1, .inr ⟨i, j, ?_⟩⟩
        cases p with
        | nil => rfl
        | cons => simp [h1] at h
      · left
        intro s hs
        simp only [PC.ment, beq_eq_false_iff_ne]
        rintro rfl
        exact h1 hs
  | _ => exact .inr ⟨rfl, .inl fun r _ => rfl⟩
open Classical in
theorem Step.callM {P : Program} {C : Ctx} {o : Oper} {E : Env} {t f : Nat} {ats : Array TypeId} {g : Operand} {xs : List Operand} {ps : List PV} {args : List MA} {js : List (Nat × D)} {x : D} {u : Value} (ho : o.op = .call { callee := .value g, args := xs.toArray, argTypes := ats }) (hd : o.dst = some t) (ht : t < C.n)
    (hg : E.ev g = .one (.d (.fn f))) (hfn : isFn P f = true) (hev : xs.map E.ev = ps) (hsh : shOk ps args = true) (hcs : MCells E (ps.flatMap PV.mcells) (args.flatMap MA.cells) js) (hmk : MK P f args [(false, [.rd x])]) (hx : x.val = some u) :
    Step P C o E ((E.marked (killJ js) (lk js)).set t (.one (.d x))) := by
  intro a w ⟨M, R⟩ K Q hK
  have hrun : (execOp a.eval o).run P w = .ok (.enter f (xs.map a.eval).toArray) w := by
    unfold execOp
    rw [ho]
    have hgv : a.eval g = .func (.func f) #[] #[] := ev_val R hg rfl
    simp only [resolve, hgv, Deferred.ofValue, Sem.run_bind, Sem.run_pure, Result.andThen, invoke, List.map_toArray]
    simp [run_callFn hfn]
  unfold Oper.wp
  rw [hrun, Oper.upon_enter]
  have hall : All2 (POk M E w) (xs.map a.eval) ps := by
    subst hev
    clear hrun ho hsh hcs
    induction xs with
    | nil => exact .nil
    | cons y xs ih => exact .cons (ev_ok R y) ih
  obtain ⟨us, hunp, hus⟩ := unp_of ps args _ hsh hall
  obtain ⟨O, ix, k1, k2, k3, k4, k5⟩ := hcs.hand R (fun i => blkT w (us.getD i undef)) us 0 hus fun i v hv => by rw [Nat.zero_add, List.getD_eq_getElem?_getD, hv]; rfl
  refine (hmk w _ O _ (xs.map a.eval) us (fun k hk => R.lt k (by rw [hk]; simp)) (fun k hk => ?_) (fun k hk => ?_) hunp k4).mono fun e w' hret => ?_
  · cases hOk : O k with
    | none => exact absurd hOk hk
    | some i => obtain ⟨r, _, h⟩ := k1 k i hOk; exact R.lt k (by rw [h]; simp)
  · cases hOk : O k with
    | none => rfl
    | some i => obtain ⟨r, _, h⟩ := k1 k i hOk; rw [hk] at h; cases h
  · obtain ⟨hgiv, vs, bcs, O', rfl, hpk, hshape, hrcs, hO', hpost⟩ := hret
    obtain ⟨fp', hfp'⟩ := k5 w' O O' (fun _ _ _ _ => rfl) (fun k hk hn => hgiv.block k hk hn) (fun k hk => (hO' k hk).2) hpost
    have hJ : ∀ r, (lk js r).isSome = true → ∃ d', lk js r = some d' := fun r h => Option.isSome_iff_exists.1 h
    have huniq : ∀ k r s, (lk js r).isSome = true → (lk js s).isSome = true → k ∈ fp' r → k ∈ fp' s → r = s := fun k r s hr hs h1 h2 => by
      obtain ⟨d1, e1⟩ := hJ r hr
      obtain ⟨d2, e2⟩ := hJ s hs
      obtain ⟨_, _, _, _, _, _, _, m1⟩ := hfp' r d1 e1
      obtain ⟨_, _, _, _, _, _, _, m2⟩ := hfp' s d2 e2
      rcases m1 k h1 with ⟨_, p1, p2⟩ | p1 <;> rcases m2 k h2 with ⟨_, q1, q2⟩ | q1
      · rw [p1] at q1; injection q1
      · rw [p2] at q1; cases q1
      · rw [p1] at q2; cases q2
      · rw [p1] at q1; injection q1 with q1; exact k3 r s hr hs q1
    have hfr : Frame_ C w' := ⟨hgiv.os.trans R.fr.os, hgiv.tape.trans R.fr.tape, hgiv.output.trans R.fr.output, Nat.le_trans R.fr.size hgiv.size, fun k hk hn => by
      have hO : O k = none := by
        cases hOk : O k with
        | none => rfl
        | some i =>
          obtain ⟨r, _, h⟩ := k1 k i hOk
          rcases R.wr k (by rw [h]; simp) (by rw [h]; simp) with h2 | h2
          · exact absurd h2 hn
          · omega
      rw [hgiv.block k (Nat.lt_of_lt_of_le hk R.ba) hO]
      exact R.fr.block k hk hn⟩
    have R1 := R.mark (f := killJ js) (lk js) fp' (fun k => if h : ∃ r, (lk js r).isSome = true ∧ k ∈ fp' r then .row (Classical.choose h) else .none) hfr hgiv.size (fun k h0 h1 => by
        refine hgiv.block k (R.lt k h0) ?_
        cases hOk : O k with
        | none => rfl
        | some i => obtain ⟨r, h2, h3⟩ := k1 k i hOk; rw [h1 r h3] at h2; cases h2) (fun r d' hr => by
        obtain ⟨T, d, p1, p2, p3, p4, p5, p6⟩ := hfp' r d' hr
        refine ⟨T, d, p1, p2, p3, p4, p5, fun k hk => ?_⟩
        have hex : ∃ r, (lk js r).isSome = true ∧ k ∈ fp' r := ⟨r, by rw [hr]; rfl, hk⟩
        rw [dif_pos hex]
        have hc := Classical.choose_spec hex
        rw [huniq k _ r hc.1 (by rw [hr]; rfl) hc.2 hk]) (fun k hk => by
        by_cases hex : ∃ r, (lk js r).isSome = true ∧ k ∈ fp' r
        · simp only [dif_pos hex]
          obtain ⟨hc1, hc2⟩ := Classical.choose_spec hex
          obtain ⟨d1, e1⟩ := hJ _ hc1
          obtain ⟨_, _, _, _, _, _, _, m1⟩ := hfp' _ d1 e1
          refine ⟨by simp, ?_⟩
          rcases m1 k hc2 with ⟨p1, p2, p3⟩ | p1
          · exact ⟨Nat.lt_of_lt_of_le p1 hgiv.size, .inr ⟨_, p2, hc1⟩⟩
          · obtain ⟨q1, q2⟩ := hO' k (by rw [p1]; simp)
            refine ⟨q1, ?_⟩
            rcases q2 with q2 | q2
            · cases hOk : O k with
              | none => exact absurd hOk q2
              | some i => obtain ⟨r, h2, h3⟩ := k1 k i hOk; exact .inr ⟨r, h3, h2⟩
            · exact .inl ⟨own_new R q2, Nat.le_trans R.ba q2⟩
        · exact absurd (by rw [dif_neg hex]) hk) (killJ_ok js)
    obtain ⟨M2, R2⟩ : ∃ M2, RelM C M2 (E.marked (killJ js) (lk js)) a w' := ⟨_, R1⟩
    refine hK _ _ ⟨M2, ?_⟩
    rw [hd]
    refine R2.put ht ?_
    -- the value
    match bcs, hshape, hpk, hrcs with
    | [(b, ws)], hshape, hpk, hrcs =>
      simp only [shape, List.map_cons, List.map_nil, List.cons.injEq, Prod.mk.injEq, and_true, List.length_cons, List.length_nil] at hshape
      obtain ⟨rfl, hl⟩ := hshape
      match ws, hl with
      | [v], _ =>
        cases hpk with
        | @cons v' _ vs _ p1 p2 =>
          cases p2
          have e : [v] = [v'] := by simpa [Packs] using p1
          injection e with e _
          subst e
          have hv := rd_val (w := w') (Z := fun k => False ∨ Tag.none = Tag.froz) hrcs.1 hx
          show Rd w' _ [v] [x]
          rw [hv]
          exact Rd.val hx .nil
    | [], hshape, _, _ => simp [shape] at hshape
    | _ :: _ :: _, hshape, _, _ => simp [shape] at hshape
theorem putAt_bss {xs : List (List Int)} {i : Nat} {ys : List Int} : (D.bss xs).putAt [(i, 0)] (.ints .u8 ys) = some (.bss (xs.set i ys)) := rfl
def mkL {α : Type} (cnt : α → Int) (mk : α → Int → α) : List α → Int → List α
  | [], _ => []
  | x :: xs, k => mk x k :: mkL cnt mk xs (k + cnt x)
def cntL {α : Type} (cnt : α → Int) : List α → Int
  | [] => 0
  | x :: xs => cnt x + cntL cnt xs
def upTo {α : Type} (cnt : α → Int) (mk : α → Int → α) (xs : List α) (k : Int) (i : Nat) : List α := mkL cnt mk (xs.take i) k ++ xs.drop i
section
variable {α : Type} {cnt : α → Int} {mk : α → Int → α}
theorem mkL_length : ∀ (xs : List α) (k : Int), (mkL cnt mk xs k).length = xs.length
  | [], _ => rfl
  | x :: xs, k => by simp [mkL, mkL_length xs]
theorem upTo_zero (xs : List α) (k : Int) : upTo cnt mk xs k 0 = xs := by simp [upTo, mkL]
theorem upTo_all {xs : List α} {k : Int} {i : Nat} (h : xs.length ≤ i) : upTo cnt mk xs k i = mkL cnt mk xs k := by simp [upTo, List.take_of_length_le h, List.drop_of_length_le h]
theorem upTo_length (xs : List α) (k : Int) (i : Nat) : (upTo cnt mk xs k i).length = xs.length := by simp [upTo, mkL_length]; omega
theorem mkL_append : ∀ (xs ys : List α) (k : Int), mkL cnt mk (xs ++ ys) k = mkL cnt mk xs k ++ mkL cnt mk ys (k + cntL cnt xs)
  | [], ys, k => by simp [mkL, cntL]
  | x :: xs, ys, k => by simp [mkL, cntL, mkL_append xs ys, Int.add_assoc]
theorem cntL_append : ∀ (xs ys : List α), cntL cnt (xs ++ ys) = cntL cnt xs + cntL cnt ys
  | [], ys => by simp [cntL]
  | x :: xs, ys => by simp [cntL, cntL_append xs ys, Int.add_assoc]
theorem upTo_get {xs : List α} {k : Int} {i : Nat} {df : α} (hi : i < xs.length) : (upTo cnt mk xs k i).getD i df = xs.getD i df := by
  have hl : (mkL cnt mk (xs.take i) k).length = i := by rw [mkL_length]; simp; omega
  simp only [upTo, List.getD_eq_getElem?_getD]
  rw [List.getElem?_append_right (by omega), hl, Nat.sub_self, List.getElem?_drop, Nat.add_zero]
theorem take_succ' {xs : List α} {i : Nat} {df : α} (hi : i < xs.length) : xs.take (i + 1) = xs.take i ++ [xs.getD i df] := by
  rw [List.take_add_one, List.getD_eq_getElem?_getD, List.getElem?_eq_getElem hi]; rfl
theorem drop_cons' {xs : List α} {i : Nat} {df : α} (hi : i < xs.length) : xs.drop i = xs.getD i df :: xs.drop (i + 1) := by
  rw [List.getD_eq_getElem?_getD, List.getElem?_eq_getElem hi]; exact List.drop_eq_getElem_cons hi
theorem upTo_set {xs : List α} {k : Int} {i : Nat} {df : α} (hi : i < xs.length) {y : α} (hy : y = mk (xs.getD i df) (k + cntL cnt (xs.take i))) : (upTo cnt mk xs k i).set i y = upTo cnt mk xs k (i + 1) := by
  have hl : (mkL cnt mk (xs.take i) k).length = i := by rw [mkL_length]; simp; omega
  unfold upTo
  rw [take_succ' (df := df) hi, mkL_append, drop_cons' (df := df) hi, List.set_append_right _ _ (by omega), hl, Nat.sub_self, hy]
  simp [mkL]
theorem cntL_take_succ {xs : List α} {i : Nat} (df : α) (hi : i < xs.length) : cntL cnt (xs.take (i + 1)) = cntL cnt (xs.take i) + cnt (xs.getD i df) := by
  rw [take_succ' (df := df) hi, cntL_append]; simp [cntL]
theorem cntL_nonneg (h0 : ∀ x, 0 ≤ cnt x) : ∀ xs : List α, 0 ≤ cntL cnt xs
  | [] => Int.le_refl _
  | x :: xs => by have := cntL_nonneg h0 xs; have := h0 x; simp only [cntL]; omega
theorem cntL_take_le (h0 : ∀ x, 0 ≤ cnt x) (xs : List α) (i : Nat) : cntL cnt (xs.take i) ≤ cntL cnt xs := by
  have h := cntL_append (cnt := cnt) (xs.take i) (xs.drop i)
  rw [List.take_append_drop] at h
  have := cntL_nonneg h0 (xs.drop i)
  omega
theorem cntL_all {xs : List α} {i : Nat} (h : xs.length ≤ i) : cntL cnt (xs.take i) = cntL cnt xs := by rw [List.take_of_length_le h]
theorem mkL_getD : ∀ (xs : List α) (k : Int) (i : Nat) (df : α), i < xs.length → (mkL cnt mk xs k).getD i df = mk (xs.getD i df) (k + cntL cnt (xs.take i))
  | [], _, i, _, h => by simp at h
  | x :: xs, k, 0, df, h => by simp [mkL, cntL]
  | x :: xs, k, i + 1, df, h => by
    have := mkL_getD xs (k + cnt x) i df (by simpa using h)
    simp only [mkL, List.getD_cons_succ, List.take_succ_cons, cntL, this]
    congr 1; omega
theorem cntL_le {n : Int} : ∀ xs : List α, (∀ x ∈ xs, cnt x ≤ n) → cntL cnt xs ≤ xs.length * n
  | [], _ => by simp [cntL]
  | x :: xs, h => by
    have := cntL_le xs fun y hy => h y (by simp [hy])
    have := h x (by simp)
    simp only [cntL, List.length_cons, Int.natCast_succ, Int.add_mul]
    omega
end
abbrev mkB (xs : List Int) (k : Int) : List Int := mkL (fun _ => 1) (fun _ k => k % 256) xs k
theorem cntL_one : ∀ xs : List Int, cntL (fun _ => 1) xs = xs.length
  | [] => rfl
  | x :: xs => by simp only [cntL, cntL_one xs, List.length_cons, Int.natCast_succ]; omega
theorem cntL_one_take (xs : List Int) (i : Nat) (h : i ≤ xs.length) : cntL (fun _ => 1) (xs.take i) = (i : Int) := by rw [cntL_one]; simp; omega
abbrev mkBs (xs : List (List Int)) (k : Int) : List (List Int) := mkL (fun x => (x.length : Int)) mkB xs k
theorem cntBs_nonneg (xs : List (List Int)) : 0 ≤ cntL (fun x : List Int => (x.length : Int)) xs := cntL_nonneg (fun x => by omega) xs
theorem cntBs_le {xs : List (List Int)} (h : xs.length ≤ 1048576 ∧ ∀ y ∈ xs, y.length ≤ 1048576) : cntL (fun x : List Int => (x.length : Int)) xs ≤ 1099511627776 := by
  have h1 := cntL_le (cnt := fun x : List Int => (x.length : Int)) (n := 1048576) xs fun x hx => by have := h.2 x hx; omega
  have h2 := h.1
  have : (xs.length : Int) * 1048576 ≤ 1099511627776 := by omega
  exact Int.le_trans h1 this
theorem wrap_byte (n : Int) : IntKind.u8.wrap n = n % 256 := rfl
theorem T.bndRow {P : Program} {C : Ctx} {c : Code} {E : Env} {Q : Exit → Env → Prop} (r : Nat) {Ty : TypeId} {d : D} (hr : E.row r = some (Ty, d)) (h : d.size ≤ 9223372036854775807 → T P C c E Q) : T P C c E Q := by
  intro a w R
  have ⟨M, R0⟩ := R
  have ho := (R0.rows r Ty d hr).1.2.1
  refine h ?_ a w R
  generalize M.fp r = bs at ho
  generalize M.hdl r = vv at ho
  cases ho with
  | val hv _ => cases d <;> simp [D.val] at hv <;> simp [D.size]
  | empty _ h2 _ _ => omega
  | sl _ _ h3 h4 _ _ _ _ => omega
theorem RowsAre.rd {E : Env} {Ts : Nat → TypeId} {j : Nat} {d : D} {cs : List MC} (h : RowsAre E Ts (j + 1) cs) : RowsAre E Ts j (.rd d :: cs) := h
theorem RowsAre.mk' {E : Env} {Ts : Nat → TypeId} {j : Nat} {d d' : D} {cs : List MC} (h1 : E.row (900 + j) = some (Ts j, d')) (h : RowsAre E Ts (j + 1) cs) : RowsAre E Ts j (.mk d d' :: cs) := ⟨h1, h⟩
theorem RowsAre.nil' {E : Env} {Ts : Nat → TypeId} {j : Nat} : RowsAre E Ts j [] := trivial
section
variable {α : Type} {cnt : α → Int} {mk : α → Int → α}
theorem upTo_self {xs : List α} {k : Int} (i : Nat) (df : α) : (upTo cnt mk xs k i).set i (xs.getD i df) = upTo cnt mk xs k i := by
  by_cases h : i < xs.length
  · rw [← upTo_get (cnt := cnt) (mk := mk) (k := k) (df := df) h]
    have hl := upTo_length (cnt := cnt) (mk := mk) xs k i
    rw [List.getD_eq_getElem?_getD, List.getElem?_eq_getElem (by omega)]
    exact List.set_getElem_self _
  · exact List.set_eq_of_length_le (by rw [upTo_length]; omega)
theorem upTo_first (xs : List α) (k : Int) (df : α) : xs = (upTo cnt mk xs k 0).set 0 (xs.getD 0 df) := by rw [upTo_self, upTo_zero]
theorem upTo_next {xs : List α} {k : Int} {i : Nat} {df : α} (hi : i < xs.length) {y : α} (hy : y = mk (xs.getD i df) (k + cntL cnt (xs.take i))) : (upTo cnt mk xs k i).set i y = (upTo cnt mk xs k (i + 1)).set (i + 1) (xs.getD (i + 1) df) := by
  rw [upTo_self]; exact upTo_set hi hy
theorem upTo_end {xs : List α} {k : Int} {i : Nat} {df : α} (hi : xs.length ≤ i) : (upTo cnt mk xs k i).set i (xs.getD i df) = mkL cnt mk xs k := by
  rw [upTo_self]; exact upTo_all hi
end
theorem cell_set_bss {U : List (List Int)} {i : Nat} {y : List Int} (hi : i < U.length) : (D.bss (U.set i y)).at_ [(i, 0)] = .ints .u8 y := by
  show (D.bss (U.set i y)).cell i 0 = _
  simp only [D.cell, List.getD_eq_getElem?_getD]
  rw [List.getElem?_set_self (by simpa using hi)]
  rfl
theorem putAt_bss2 {U : List (List Int)} {i : Nat} {y y' : List Int} : (D.bss (U.set i y)).putAt [(i, 0)] (.ints .u8 y') = some (.bss (U.set i y')) := by
  rw [putAt_bss, List.set_set]
theorem ofRow_sl {r : Nat} {p : List (Nat × Nat)} {i j : Nat} {e e' : D} (h : e = e') (hs : e'.isSl = true) : PC.ofRow r p i j e = .row r (p ++ [(i, j)]) := by subst h; simp [PC.ofRow, hs]
def placesOf (P : Program) (T : TypeId) : Option (List Value × List (Nat × Nat)) :=
  match P.info? T, P.underlying T with
  | some it, some (.struct fields) =>
    match it.zero, fields.toList.mapM (fun f => (P.info? f.type).map fun i => (f.offset, i.size)) with
    | some z, some places => some (z.cells.toList, places)
    | _, _ => none
  | _, _ => none
theorem built_of {P : Program} {T : TypeId} {zs : List Value} {places : List (Nat × Nat)} (h : placesOf P T = some (zs, places)) (parts : List (Nat × Value)) : P.built T parts = Instr.fill (places.toArray[·]?) zs.toArray parts := by
  unfold placesOf at h
  unfold Program.built
  cases hit : P.info? T with
  | none => simp [hit] at h
  | some it =>
    cases hu : P.underlying T with
    | none => simp [hit, hu] at h
    | some d =>
      cases d <;> try (simp [hit, hu] at h; done)
      case struct fields =>
        cases hz : it.zero with
        | none => simp [hit, hu, hz] at h
        | some z =>
          cases hp : fields.toList.mapM (fun f => (P.info? f.type).map fun i => (f.offset, i.size)) with
          | none => simp [hit, hu, hz, hp] at h
          | some pl =>
            simp only [hit, hu, hz, hp, Option.some.injEq, Prod.mk.injEq] at h
            obtain ⟨rfl, rfl⟩ := h
            simp [hz, hp]
def fillP (place : Nat → Option (Nat × Nat)) (ps : List PC) : List (Nat × List PC) → Option (List PC)
  | [] => some ps
  | (i, q) :: rest => match place i with
    | none => none
    | some (off, size) => if q.length = size ∧ off + size ≤ ps.length then fillP place (ps.take off ++ q ++ ps.drop (off + size)) rest else none
theorem fill_ok {R : Value → PC → Prop} {place : Nat → Option (Nat × Nat)} : ∀ (parts : List (Nat × Value)) (pp : List (Nat × List PC)) (cells : Array Value) (ps ps' : List PC), All2 R cells.toList ps → All2 (fun x y => x.1 = y.1 ∧ All2 R x.2.cells.toList y.2) parts pp → fillP place ps pp = some ps' →
    ∃ cells', Instr.fill place cells parts = some cells' ∧ All2 R cells'.toList ps'
  | [], _, cells, ps, ps', hc, hp, h => by
    cases hp
    simp only [fillP, Option.some.injEq] at h
    subst h
    exact ⟨cells, rfl, hc⟩
  | (i, v) :: parts, _, cells, ps, ps', hc, hp, h => by
    cases hp with
    | @cons _ y _ pp h1 h2 =>
      obtain ⟨j, q⟩ := y
      obtain ⟨e, hq⟩ := h1
      dsimp only at e hq
      subst e
      simp only [fillP] at h
      cases hpl : place i with
      | none => rw [hpl] at h; cases h
      | some os =>
        obtain ⟨off, size⟩ := os
        rw [hpl] at h
        dsimp only at h
        split at h
        · rename_i hcond
          obtain ⟨c1, c2⟩ := hcond
          have hvl : v.cells.size = q.length := by have := hq.length; simpa using this
          have hcl : cells.size = ps.length := by have := hc.length; simpa using this
          have hf := fold_set' v.cells off cells (by omega)
          have hR : All2 R (v.cells.zipIdx.foldl (fun cs x => cs.setIfInBounds (off + x.2) x.1) cells).toList (ps.take off ++ q ++ ps.drop (off + size)) := by
            rw [hf]
            refine (((hc.take off).append hq).append ?_)
            rw [show off + v.cells.size = off + size from by omega]
            exact hc.drop _
          obtain ⟨cells', k1, k2⟩ := fill_ok parts pp _ _ ps' hR h2 h
          refine ⟨cells', ?_, k2⟩
          simp only [Instr.fill, hpl]
          rw [if_neg (by simp only [ne_eq, decide_not, Bool.or_eq_true, Bool.not_eq_true', decide_eq_false_iff_not, decide_eq_true_eq]; omega)]
          exact k1
        · cases h
theorem zeros_ok (M : Maps) (E : Env) (w : World) : ∀ zs : List Value, (zs.all fun v => match PC.ofValue v with | .und => false | _ => true) = true → All2 (COk M E w) zs (zs.map PC.ofValue)
  | [], _ => .nil
  | v :: zs, h => by
    simp only [List.all_cons, Bool.and_eq_true] at h
    refine .cons (zero_ok M E w v ?_) (zeros_ok M E w zs h.2)
    intro e
    rw [e] at h
    exact absurd h.1 (by simp)
theorem Step.build {P : Program} {C : Ctx} {o : Oper} {E : Env} {t : Nat} {T : TypeId} {parts : Array (Nat × Operand)} {zs : List Value} {places : List (Nat × Nat)} {pss : List (Nat × List PC)} {ps' : List PC} (ho : o.op = .build T parts) (hd : o.dst = some t) (ht : t < C.n)
    (hT : placesOf P T = some (zs, places)) (hfl : All2 (fun x y => x.1 = y.1 ∧ (E.ev x.2).flat = some y.2) parts.toList pss) (hf : (pss.all fun y => y.2.all E.fine) = true) (hz : (zs.all fun v => match PC.ofValue v with | .und => false | _ => true) = true) (hfill : fillP (places.toArray[·]?) (zs.map PC.ofValue) pss = some ps') :
    Step P C o E (E.set t (.agg ps')) :=
  .value hd ht fun M a w R => by
    have hparts : All2 (fun (x : Nat × Value) (y : Nat × List PC) => x.1 = y.1 ∧ All2 (COk M E w) x.2.cells.toList y.2) (parts.map fun (i, x) => (i, a.eval x)).toList pss := by
      rw [Array.toList_map]
      generalize parts.toList = l at hfl
      clear hfill ho
      induction hfl with
      | nil => exact .nil
      | @cons x y l pss h1 _ ih =>
        rw [List.all_cons, Bool.and_eq_true] at hf
        refine .cons ⟨h1.1, ?_⟩ (ih hf.2)
        exact (cells_ok R (ev_ok R x.2) h1.2 hf.1).1
    obtain ⟨cells', k1, k2⟩ := fill_ok (R := COk M E w) _ _ zs.toArray _ ps' (by simpa using zeros_ok M E w zs hz) hparts hfill
    refine ⟨.agg cells', ?_, ⟨cells', rfl, k2⟩⟩
    unfold execOp
    rw [ho]
    have hrun := run_build w T (parts.map fun (i, x) => (i, a.eval x)) cells' (by rw [built_of hT]; exact k1)
    simp only [Sem.run_bind, hrun, Result.andThen, Sem.run_pure]
inductive XA where
  | rd (a : A)
  | bx
def XOk (w : World) (Z : Nat → Prop) (g : Nat) (v : Value) : XA → Prop
  | .rd a => AOk' w Z v a
  | .bx => v = .pointer (some ⟨g, 0, none⟩)
structure GivesX (w : World) (O : Nat → Tag) (w' : World) : Prop where
  os : w'.os = w.os
  tape : w'.tape = w.tape
  output : w'.output = w.output
  size : w.heap.size ≤ w'.heap.size
  block : ∀ k, k < w.heap.size → O k = .none → w'.heap[k]? = w.heap[k]?
def ReturnsX (w : World) (Z : Nat → Prop) (O : Nat → Tag) (g : Nat) (T : TypeId) (cs' : List RC) (res : Res) (e : Ending) (w' : World) : Prop :=
  GivesX w O w' ∧ ∃ (vs : List Value) (bcs : List (Bool × List Value)) (O' : Nat → Tag) (arr' : Array Value), e = .returned (packed vs) ∧ (∀ k, O' k ≠ .none → k < w'.heap.size ∧ (O k ≠ .none ∨ w.heap.size ≤ k)) ∧ (∀ k, O' k = .froz → w.heap.size ≤ k) ∧ O' g = .box 0 ∧ w'.heap[g]? = some (.cells arr' T (0, 0)) ∧
    All2 Packs vs bcs ∧ shape bcs = shape res ∧ RCs w' Z O' 0 (arr'.toList ++ bcs.flatMap (·.2)) (cs' ++ res.flatMap (·.2))
def BX (P : Program) (f : FuncId) (args : List XA) (T : TypeId) (cs cs' : List RC) (res : Res) : Prop :=
  ∀ (w : World) (Z : Nat → Prop) (O : Nat → Tag) (vals : List Value) (g : Nat) (arr : Array Value), (∀ k, Z k → k < w.heap.size) → (∀ k, O k ≠ .none → k < w.heap.size) → (∀ k, Z k → O k = .none) → (∀ k, O k ≠ .froz) → O g = .box 0 → w.heap[g]? = some (.cells arr T (0, 0)) → RCs w Z O 0 arr.toList cs → All2 (XOk w Z g) vals args →
    Calls P f vals.toArray w (ReturnsX w Z O g T cs' res)
open Classical in
theorem RelM.forget {C : Ctx} {M : Maps} {E : Env} {a : Act} {w : World} (R : RelM C M E a w) : RelM C { M with own := fun k => if ∃ s, M.own k = .row s ∧ E.row s = none then .none else M.own k } E a w := by
  generalize hM : ({ M with own := fun k => if ∃ s, M.own k = .row s ∧ E.row s = none then .none else M.own k } : Maps) = M'
  have hhdl : M'.hdl = M.hdl := by subst hM; rfl
  have hfp : M'.fp = M.fp := by subst hM; rfl
  have hblk : M'.blk = M.blk := by subst hM; rfl
  have hcase : ∀ k, M'.own k = M.own k ∨ (M'.own k = .none ∧ ∃ s, M.own k = .row s ∧ E.row s = none) := fun k => by
    by_cases e : ∃ s, M.own k = .row s ∧ E.row s = none
    · right; exact ⟨by subst hM; simp only; rw [if_pos e], e⟩
    · left; subst hM; simp only; rw [if_neg e]
  have hkeep : ∀ k, (∀ s, M.own k = .row s → (E.row s).isSome = true) → M'.own k = M.own k := fun k h => by
    rcases hcase k with e | ⟨_, s, h1, h2⟩
    · exact e
    · have := h s h1; rw [h2] at this; cases this
  have hfroz : ∀ k, M.own k = .froz → M'.own k = .froz := fun k h => by rw [hkeep k fun s hs => by rw [h] at hs; cases hs]; exact h
  have hc : ∀ c : PC, ∀ v, COk M E w v c → COk M' E w v c := fun c v h => h.mono R (fun k hk => ⟨hfroz k hk, rfl⟩) (fun _ _ _ => by rw [hblk]) (fun x _ T d hT => ⟨hT, by rw [hhdl], fun _ _ => rfl⟩)
  refine { tn := R.tn, df := R.df, fr := R.fr, ba := R.ba, lt := ?_, z0 := fun k hk => hfroz k (R.z0 k hk), zb := ?_, wr := ?_, tm := fun t => (R.tm t).mono fun c _ v h => hc c v h, rows := ?_, boxes := ?_, pin := fun r v hp T d hr => by rw [hhdl]; exact R.pin r v hp T d hr, bpin := by subst hM; exact R.bpin }
  · intro k hk
    rcases hcase k with e | ⟨e, _⟩
    · exact R.lt k (by rw [← e]; exact hk)
    · exact absurd e hk
  · intro k hk
    rcases hcase k with e | ⟨e, _⟩
    · exact R.zb k (by rw [← e]; exact hk)
    · rw [e] at hk; cases hk
  · intro k hk hk'
    rcases hcase k with e | ⟨e, _⟩
    · exact R.wr k (by rw [← e]; exact hk) (by rw [← e]; exact hk')
    · exact absurd e hk
  · intro r T d hr
    obtain ⟨h1, h2, h3⟩ := R.rows r T d hr
    rw [hhdl, hfp]
    exact ⟨h1, h2, fun k hk => by rw [hkeep k fun s hs => by rw [h3 k hk] at hs; injection hs with hs; subst hs; rw [hr]; rfl]; exact h3 k hk⟩
  · intro b T ps hb
    obtain ⟨h1, cs, h2, h3⟩ := R.boxes b T ps hb
    rw [hblk]
    exact ⟨by rw [hkeep _ fun s hs => by rw [h1] at hs; cases hs]; exact h1, cs, h2, h3.imp fun v c _ h => hc c v h⟩
theorem RelM.chgX {C : Ctx} {M : Maps} {E : Env} {a : Act} {w w' : World} (R : RelM C M E a w) {b : Nat} {T : TypeId} {n : Nat} {arr' : Array Value} (hb : E.box b = some (T, List.replicate n .und)) (hfr : Frame_ C w') (hsz : w.heap.size ≤ w'.heap.size) (hk : ∀ k, M.own k ≠ .none → M.own k ≠ .box b → w'.heap[k]? = w.heap[k]?)
    (hg : w'.heap[M.blk b]? = some (.cells arr' T (0, 0))) (hn : arr'.size = n) : RelM C M E a w' := by
  have hc : ∀ c : PC, ∀ v, COk M E w v c → COk M E w' v c := fun c v h => h.mono R (fun k h => ⟨h, hk k (by rw [h]; simp) (by rw [h]; simp)⟩) (fun _ _ _ => rfl)
    (fun r _ T d hT => ⟨hT, rfl, fun k hk' => hk k (by rw [(R.rows r T d hT).2.2 k hk']; simp) (by rw [(R.rows r T d hT).2.2 k hk']; simp)⟩)
  refine { R with fr := hfr, ba := Nat.le_trans R.ba hsz, lt := fun k h => Nat.lt_of_lt_of_le (R.lt k h) hsz, tm := fun t => (R.tm t).mono fun c _ v h => hc c v h, rows := ?_, boxes := ?_ }
  · intro r T d hr
    obtain ⟨⟨h1, h2, h3⟩, h4, h5⟩ := R.rows r T d hr
    have hkk : ∀ k ∈ M.fp r, w'.heap[k]? = w.heap[k]? := fun k hk' => hk k (by rw [h5 k hk']; simp) (by rw [h5 k hk']; simp)
    refine ⟨⟨h1, h2.keep hkk, fun ad n c hv => ?_⟩, h4, h5⟩
    obtain ⟨cs, fr, h6⟩ := h3 ad n c hv
    have hmem : ad.block ∈ M.fp r := by
      rw [hv] at h2
      generalize M.fp r = q at h2
      cases h2 with
      | val hv' _ => cases d <;> simp [D.val] at hv'
      | sl _ _ _ _ _ _ _ _ => simp
    exact ⟨cs, fr, (hkk _ hmem).trans h6⟩
  · intro b' T' ps hb'
    obtain ⟨h1, cs, h2, h3⟩ := R.boxes b' T' ps hb'
    by_cases e : b' = b
    · subst e
      rw [hb] at hb'
      injection hb' with hb'
      injection hb' with e1 e2
      subst e1 e2
      refine ⟨h1, arr', hg, ?_⟩
      refine All2.of_get _ _ (by simp [hn]) fun j v c hv hc' => ?_
      rw [List.getElem?_replicate] at hc'
      split at hc'
      · injection hc' with hc'; subst hc'; trivial
      · cases hc'
    · exact ⟨h1, cs, (hk _ (by rw [h1]; simp) (by rw [h1]; intro h; injection h with h; exact e h)).trans h2, h3.imp fun v c _ h => hc c v h⟩
inductive XArg (E : Env) (b : Nat) : PV → XA → Prop
  | rd {p : PV} {a : A} : ArgP E true p a → XArg E b p (.rd a)
  | bx : XArg E b (.one (.ptr b 0)) .bx
inductive XCells (E : Env) : List PC → List RC → List Nat → Prop
  | nil : XCells E [] [] []
  | rd {x : D} {ps : List PC} {cs : List RC} {ss : List Nat} : XCells E ps cs ss → XCells E (.d x :: ps) (.rd x :: cs) ss
  | nilrd {x : D} {ps : List PC} {cs : List RC} {ss : List Nat} : x.isSl = true → x.size = 0 → x.wf → XCells E ps cs ss → XCells E (.nil :: ps) (.rd x :: cs) ss
  | nilown {x : D} {T : TypeId} {ps : List PC} {cs : List RC} {ss : List Nat} : x.isSl = true → x.size = 0 → x.wf → XCells E ps cs ss → XCells E (.nil :: ps) (.own T x :: cs) ss
  | own {r : Nat} {T : TypeId} {d : D} {ps : List PC} {cs : List RC} {ss : List Nat} : E.row r = some (T, d) → r ∉ ss → XCells E ps cs ss → XCells E (.row r [] :: ps) (.own T d :: cs) (r :: ss)
theorem XCells.ret {E : Env} {ps : List PC} {cs : List RC} {ss : List Nat} (h : XCells E ps cs ss) : RetC E ps cs ss := by
  induction h with
  | nil => exact .nil
  | rd _ ih => exact .rd ih
  | nilrd h1 h2 h3 _ ih => exact .nilrd h1 h2 h3 ih
  | nilown h1 h2 h3 _ ih => exact .nilown h1 h2 h3 ih
  | own h1 h2 _ ih => exact .own h1 h2 ih
def Env.handX (E : Env) (b : Nat) (T : TypeId) (n : Nat) (ss : List Nat) : Env := { E.drops ss with boxes := (b, (T, List.replicate n .und)) :: (E.drops ss).boxes }
theorem Env.handX_le {E : Env} {b : Nat} {T : TypeId} {ps : List PC} {ss : List Nat} (hb : E.box b = some (T, ps)) : (E.handX b T ps.length ss).le E := by
  have h := Env.drops_le ss E
  refine ⟨h.tm, h.rows, fun b' T' ps' hb' => ?_⟩
  simp only [Env.handX, Env.box, lk] at hb'
  split at hb'
  · rename_i e
    subst e
    injection hb' with hb'
    injection hb' with e1 e2
    subst e1 e2
    refine ⟨ps, hb, All2.of_get _ _ (by simp) fun j c c' hc hc' => ?_⟩
    rw [List.getElem?_replicate] at hc
    split at hc
    · injection hc with hc; exact .inl hc.symm
    · cases hc
  · exact h.boxes b' T' ps' hb'
theorem rcs_length {w : World} {Z : Nat → Prop} {O : Nat → Tag} : ∀ (vs : List Value) (cs : List RC) (j : Nat), RCs w Z O j vs cs → vs.length = cs.length
  | [], [], _, _ => rfl
  | [], _ :: _, _, h => h.elim
  | _ :: _, [], _, h => h.elim
  | v :: vs, c :: cs, j, h => by simp [rcs_length vs cs (j + 1) h.2]
theorem rcs_tags {w : World} {Z : Nat → Prop} {O O' : Nat → Tag} (h : ∀ k j, O k = .row j → O' k = .row j) (h' : ∀ k, O k = .froz → O' k = .froz) : ∀ (vs : List Value) (cs : List RC) (j : Nat), RCs w Z O j vs cs → RCs w Z O' j vs cs
  | [], [], _, h => h
  | [], _ :: _, _, h => h.elim
  | _ :: _, [], _, h => h.elim
  | v :: vs, .rd d :: cs, j, hr => ⟨Rd.keep (hr.1 : Rd w _ [v] [d]) (fun _ _ => rfl) fun k hk => hk.imp id (h' k), rcs_tags h h' vs cs (j + 1) hr.2⟩
  | v :: vs, .own T d :: cs, j, ⟨⟨fp, h1, h2, h3⟩, hr⟩ => ⟨⟨fp, h1, h2, fun k hk => h k j (h3 k hk)⟩, rcs_tags h h' vs cs (j + 1) hr⟩
theorem addRows_boxes (t : Nat) : ∀ (rcs : List RC) (j : Nat) (E : Env), (E.addRows t j rcs).boxes = E.boxes
  | [], _, _ => rfl
  | .rd _ :: rcs, j, E => addRows_boxes t rcs (j + 1) E
  | .own T d :: rcs, j, E => addRows_boxes t rcs (j + 1) _
theorem aok_mono {w : World} {Z Z' : Nat → Prop} (h : ∀ k, Z k → Z' k) {v : Value} {a : A} (ha : AOk' w Z v a) : AOk' w Z' v a := by
  cases a with
  | one d => exact Rd.keep (ha : Rd w Z [v] [d]) (fun _ _ => rfl) h
  | agg ds => obtain ⟨arr, e, hr⟩ := ha; exact ⟨arr, e, hr.keep (fun _ _ => rfl) h⟩
theorem ofRes_ok {M : Maps} {E : Env} {w : World} {t j : Nat} {res : Res} {vs : List Value} {bcs : List (Bool × List Value)} (hpk : All2 Packs vs bcs) (hshape : shape bcs = shape res) (h1 : All2 (COk M E w) (bcs.flatMap (·.2)) (pcs t j (res.flatMap (·.2)))) (hsh : res.all (fun x => x.1 || x.2.length == 1) = true) : POk M E w (packed vs) (.ofRes (respvs t j res)) := by
  rw [← respvs_flat] at h1
  have h2 := unflat _ _ (by rw [hshape, respvs_shape]) h1
  have hlen : ∀ x ∈ respvs t j res, x.1 = true ∨ x.2.length = 1 := by
    intro x hx
    have : (x.1, x.2.length) ∈ shape res := by rw [← respvs_shape t res j]; exact List.mem_map.2 ⟨x, hx, rfl⟩
    obtain ⟨y, hy, e⟩ := List.mem_map.1 this
    rw [List.all_eq_true] at hsh
    have := hsh y hy
    injection e with e1 e2
    simp only [Bool.or_eq_true, beq_iff_eq] at this
    rw [← e1, ← e2]; exact this
  have h3 : All2 (TOk M E w) vs (respvs t j res) := by
    clear hshape h1 hsh
    generalize respvs t j res = pss at h2 hlen ⊢
    induction hpk generalizing pss with
    | nil => cases h2; exact .nil
    | @cons v x vs bcs p1 _ ih =>
      cases h2 with
      | @cons _ y _ pss k1 k2 =>
        refine .cons ?_ (ih _ k2 fun z hz => hlen z (by simp [hz]))
        obtain ⟨b, cs⟩ := x
        obtain ⟨b', ps⟩ := y
        obtain ⟨rfl, k1⟩ := k1
        cases b with
        | true => exact ⟨cs.toArray, by simpa [Packs] using p1, by simpa using k1⟩
        | false =>
          have e : cs = [v] := by simpa [Packs] using p1
          subst e
          cases k1 with
          | cons j1 j2 => cases j2; exact j1
  clear h1 h2 hshape hsh hpk
  generalize respvs t j res = pss at h3 hlen ⊢
  cases h3 with
  | nil => exact ⟨#[], rfl, .nil⟩
  | @cons v y vs pss k1 k2 =>
    cases k2 with
    | nil =>
      obtain ⟨b, ps⟩ := y
      cases b with
      | true => exact k1
      | false =>
        match ps, k1 with
        | [c], k1 => exact k1
    | @cons v2 y2 vs pss k2 k3 =>
      have e : PV.ofRes (y :: y2 :: pss) = .tup (y :: y2 :: pss) := by
        obtain ⟨b, ps⟩ := y
        cases b <;> simp [PV.ofRes]
      rw [e]
      exact ⟨(v :: v2 :: vs).toArray, rfl, .cons k1 (.cons k2 k3)⟩
theorem shape_flat {α β : Type} : ∀ (a : List (Bool × List α)) (b : List (Bool × List β)), shape a = shape b → (a.flatMap (·.2)).length = (b.flatMap (·.2)).length
  | [], [], _ => rfl
  | [], _ :: _, h => by simp [shape] at h
  | _ :: _, [], h => by simp [shape] at h
  | x :: a, y :: b, h => by
    simp only [shape, List.map_cons, List.cons.injEq, Prod.mk.injEq] at h
    simp only [List.flatMap_cons, List.length_append, h.1.2, shape_flat a b h.2]
open Classical in
theorem Step.callX {P : Program} {C : Ctx} {o : Oper} {E : Env} {t f b : Nat} {T : TypeId} {ats : Array TypeId} {g : Operand} {xs : List Operand} {ps : List PV} {args : List XA} {bps : List PC} {cs cs' : List RC} {res : Res} {ss : List Nat} (ho : o.op = .call { callee := .value g, args := xs.toArray, argTypes := ats }) (hd : o.dst = some t) (ht : t < C.n)
    (hg : E.ev g = .one (.d (.fn f))) (hfn : isFn P f = true) (hev : xs.map E.ev = ps) (hargs : All2 (XArg E b) ps args) (hb : E.box b = some (T, bps)) (hcs : XCells E bps cs ss) (hbxc : BX P f args T cs cs' res) (hn : cs'.length = bps.length)
    (hfr : (E.handX b T bps.length ss).freshRows t 0 (cs' ++ res.flatMap (·.2)) = true) (hpin : ∀ x ∈ C.pin, x.1 < 1000) (hsh : res.all (fun x => x.1 || x.2.length == 1) = true) :
    Step P C o E (({ (E.handX b T bps.length ss).addRows t 0 (cs' ++ res.flatMap (·.2)) with boxes := (b, (T, pcs t 0 cs')) :: ((E.handX b T bps.length ss).addRows t 0 (cs' ++ res.flatMap (·.2))).boxes } : Env).set t (.ofRes (respvs t cs'.length res))) := by
  intro a w ⟨M, R⟩ K Q hK
  have hrun : (execOp a.eval o).run P w = .ok (.enter f (xs.map a.eval).toArray) w := by
    unfold execOp
    rw [ho]
    have hgv : a.eval g = .func (.func f) #[] #[] := ev_val R hg rfl
    simp only [resolve, hgv, Deferred.ofValue, Sem.run_bind, Sem.run_pure, Result.andThen, invoke, List.map_toArray]
    simp [run_callFn hfn]
  unfold Oper.wp
  rw [hrun, Oper.upon_enter]
  obtain ⟨hob, arr, harr, hcells⟩ := R.boxes b T bps hb
  obtain ⟨O1, o1, _, o3, o4⟩ := retC_ok R hcs.ret arr.toList 0 hcells
  have hO1g : O1 (M.blk b) = .none := by
    cases h : O1 (M.blk b) with
    | none => rfl
    | _ => obtain ⟨s, _, h2⟩ := o1 (M.blk b) (by rw [h]; simp); rw [hob] at h2; cases h2
  generalize hOdef : (fun k => if k = M.blk b then Tag.box 0 else O1 k) = O
  have hO : ∀ k, O k = if k = M.blk b then Tag.box 0 else O1 k := fun k => by subst hOdef; rfl
  have hOcase : ∀ k, O k ≠ .none → k = M.blk b ∨ ∃ s ∈ ss, M.own k = .row s := fun k hk => by
    by_cases e : k = M.blk b
    · exact .inl e
    · rw [hO, if_neg e] at hk; exact .inr (o1 k hk)
  have hall : All2 (XOk w (fun k => M.own k = .froz) (M.blk b)) (xs.map a.eval) args := by
    subst hev
    clear hrun ho hfr hbxc
    induction xs generalizing args with
    | nil => cases hargs; exact .nil
    | cons x xs ih =>
      cases hargs with
      | @cons _ y _ ys h1 h2 =>
        refine .cons ?_ (ih h2)
        have hx := ev_ok R x
        generalize E.ev x = p at h1 hx
        cases h1 with
        | rd h => exact aok_mono (fun k hk => by rcases hk with h | ⟨h, _⟩; exact h; cases h) (argP_ok R h hx)
        | bx => exact hx
  refine (hbxc w (fun k => M.own k = .froz) O (xs.map a.eval) (M.blk b) arr (fun k hk => R.lt k (by rw [hk]; simp)) (fun k hk => ?_) (fun k hk => ?_) (fun k => ?_) (by rw [hO, if_pos rfl]) harr (rcs_tags (fun k j h => ?_) (fun k h => absurd h (o3 k)) _ _ _ o4) hall).mono fun e w' hret => ?_
  · rcases hOcase k hk with rfl | ⟨s, _, h⟩
    · exact R.lt _ (by rw [hob]; simp)
    · exact R.lt k (by rw [h]; simp)
  · cases h : O k with
    | none => rfl
    | _ =>
      rcases hOcase k (by rw [h]; simp) with rfl | ⟨s, _, h2⟩
      · rw [hob] at hk; cases hk
      · rw [hk] at h2; cases h2
  · rw [hO]
    split
    · simp
    · exact o3 k
  · rw [hO, if_neg]
    · exact h
    · rintro rfl; rw [hO1g] at h; cases h
  · obtain ⟨hgiv, vs, bcs, O', arr', rfl, hO', hOf, hO'g, harr', hpk, hshape, hrcs⟩ := hret
    have R2 := (R.weaken (Env.handX_le (ss := ss) hb)).forget
    have hdead : ∀ s ∈ ss, (E.handX b T bps.length ss).row s = none := fun s hs => by
      show (E.drops ss).row s = none
      rw [Env.drops_row, if_pos hs]
    generalize hM2 : ({ M with own := fun k => if ∃ s, M.own k = .row s ∧ (E.handX b T bps.length ss).row s = none then .none else M.own k } : Maps) = M2 at R2
    have hown2 : ∀ k, M2.own k = if ∃ s, M.own k = .row s ∧ (E.handX b T bps.length ss).row s = none then .none else M.own k := fun k => by subst hM2; rfl
    have hblk2 : M2.blk = M.blk := by subst hM2; rfl
    have hsub : ∀ k, M2.own k ≠ .none → M2.own k = M.own k := fun k h => by
      rw [hown2] at h ⊢
      split at h
      · exact absurd rfl h
      · rename_i hh; rw [if_neg hh]
    have hgone : ∀ k, O k ≠ .none → k ≠ M.blk b → M2.own k = .none := fun k h hne => by
      rcases hOcase k h with e | ⟨s, hs, h2⟩
      · exact absurd e hne
      · rw [hown2, if_pos ⟨s, h2, hdead s hs⟩]
    have hnew2 : ∀ k, w.heap.size ≤ k → M2.own k = .none := fun k hk => own_new R2 hk
    have hio : ∀ k, O k ≠ .none → C.IX k ∨ C.base ≤ k := fun k h => by
      rcases hOcase k h with rfl | ⟨s, _, h2⟩
      · exact R.wr _ (by rw [hob]; simp) (by rw [hob]; simp)
      · exact R.wr k (by rw [h2]; simp) (by rw [h2]; simp)
    have hfrm : Frame_ C w' := ⟨hgiv.os.trans R.fr.os, hgiv.tape.trans R.fr.tape, hgiv.output.trans R.fr.output, Nat.le_trans R.fr.size hgiv.size, fun k hk hn => by
      have h0 : O k = .none := by
        cases h : O k with
        | none => rfl
        | _ =>
          rcases hio k (by rw [h]; simp) with h2 | h2
          · exact absurd h2 hn
          · omega
      rw [hgiv.block k (Nat.lt_of_lt_of_le hk R.ba) h0]
      exact R.fr.block k hk hn⟩
    have hflat := shape_flat _ _ hshape
    have hlen : arr'.size = bps.length := by
      have h1 := rcs_length _ _ _ hrcs
      simp only [List.length_append, Array.length_toList] at h1
      omega
    have hbE : (E.handX b T bps.length ss).box b = some (T, List.replicate bps.length .und) := by simp [Env.handX, Env.box, lk]
    have R3 := R2.chgX (b := b) (arr' := arr') hbE hfrm hgiv.size (fun k h0 h1 => by
      have hk0 : O k = .none := by
        cases h : O k with
        | none => rfl
        | _ =>
          by_cases e : k = M.blk b
          · subst e; rw [hsub _ h0, hob] at h1; exact absurd rfl h1
          · exact absurd (hgone k (by rw [h]; simp) e) h0
      exact hgiv.block k (R2.lt k h0) hk0) (by rw [hblk2]; exact harr') hlen
    obtain ⟨M4, R4, q1, q2, q3⟩ : ∃ M4 : Maps, RelM C M4 (E.handX b T bps.length ss) a w' ∧ (∀ k, M.own k = .froz ∨ O' k = .froz → M4.own k = .froz) ∧ (∀ k i, O' k = .row i → M4.own k = .none ∧ (C.IX k ∨ C.base ≤ k)) ∧ M4.blk = M.blk := by
      refine ⟨_, R3.addFroz (fun k => O' k = .froz) (fun k hk => hnew2 k (hOf k hk)) (fun k hk => by have := hOf k hk; have := R.ba; omega) (fun k hk => (hO' k (by rw [hk]; simp)).1), fun k hk => ?_, fun k i hk => ?_, hblk2⟩
      · simp only
        split
        · rfl
        · rename_i hn'
          rcases hk with h | h
          · rw [hown2, if_neg]
            · exact h
            · rintro ⟨s, h2, _⟩; rw [h] at h2; cases h2
          · exact absurd h hn'
      · simp only
        rw [if_neg (by rw [hk]; simp)]
        rcases (hO' k (by rw [hk]; simp)).2 with h | h
        · have hne : k ≠ M.blk b := by rintro rfl; rw [hO'g] at hk; cases hk
          exact ⟨hgone k h hne, hio k h⟩
        · exact ⟨hnew2 k h, .inr (Nat.le_trans R.ba h)⟩
    obtain ⟨M5, R5, h1, _, _, hblk5⟩ := RelM.addCells (t := t) hpin _ _ 0 M4 _ R4 hrcs q1 (fun k i ho _ => q2 k i ho) hfr
    rw [pcs_append, Nat.zero_add] at h1
    obtain ⟨g1, g2⟩ := All2.split (by rw [pcs_length]; simp; omega) h1
    have hb5 : ((E.handX b T bps.length ss).addRows t 0 (cs' ++ res.flatMap (·.2))).box b = some (T, List.replicate bps.length .und) := by
      unfold Env.box
      rw [addRows_boxes]
      exact hbE
    have R6 := R5.updBox (w' := w') (cs' := arr') hb5 (fun _ _ => rfl) (by rw [hblk5, q3]; exact harr') rfl rfl rfl rfl g1
    refine hK _ _ ⟨M5, ?_⟩
    rw [hd]
    refine R6.put ht (ofRes_ok hpk hshape ?_ hsh)
    exact g2.imp fun v c _ h => by cases c <;> exact h
def XA.pv : XA → PV
  | .rd a => a.pv
  | .bx => .one (.ptr 800 0)
def RC.xpc (j : Nat) : RC → PC
  | .rd d => .d d
  | .own _ _ => .row (900 + j) []
def xpcs : Nat → List RC → List PC
  | _, [] => []
  | j, c :: cs => c.xpc j :: xpcs (j + 1) cs
def xrows : Nat → List RC → List (Nat × (TypeId × D))
  | _, [] => []
  | j, .rd _ :: cs => xrows (j + 1) cs
  | j, .own T d :: cs => (900 + j, (T, d)) :: xrows (j + 1) cs
def Env.startX (args : List XA) (T : TypeId) (cs : List RC) : Env := { tm := args.zipIdx.map fun x => (x.2, x.1.pv), rows := xrows 0 cs, boxes := [(800, (T, xpcs 0 cs))] }
def RetX (P : Program) (fn : Func) (T : TypeId) (cs' : List RC) (res : Res) (E : Env) : Prop := ∃ (bps : List PC) (pss : List (Bool × List PC)), E.box 800 = some (T, bps) ∧ bps.length = cs'.length ∧ All2 (fun rv x => retPC P E rv = some x) fn.results.toList pss ∧ shape pss = shape res ∧ ∃ ss, RetC E (bps ++ pss.flatMap (·.2)) (cs' ++ res.flatMap (·.2)) ss
def QRetX (P : Program) (fn : Func) (T : TypeId) (cs' : List RC) (res : Res) : Exit → Env → Prop
  | .normal, E => RetX P fn T cs' res E
  | .ret, E => RetX P fn T cs' res E
  | _, _ => False
theorem xrows_get : ∀ (cs : List RC) (j r : Nat) (x : TypeId × D), lk (xrows j cs) r = some x → ∃ i, r = 900 + (j + i) ∧ cs[i]? = some (.own x.1 x.2)
  | [], _, _, _, h => by simp [xrows, lk] at h
  | .rd d :: cs, j, r, x, h => by
    obtain ⟨i, h1, h2⟩ := xrows_get cs (j + 1) r x h
    exact ⟨i + 1, by rw [h1]; omega, by simpa using h2⟩
  | .own T d :: cs, j, r, x, h => by
    simp only [xrows, lk] at h
    split at h
    · rename_i he
      injection h with h
      subst h
      exact ⟨0, by omega, rfl⟩
    · obtain ⟨i, h1, h2⟩ := xrows_get cs (j + 1) r x h
      exact ⟨i + 1, by rw [h1]; omega, by simpa using h2⟩
theorem rcs_get {w : World} {Z : Nat → Prop} {O : Nat → Tag} : ∀ (vs : List Value) (cs : List RC) (j : Nat), RCs w Z O j vs cs → ∀ (i : Nat) (c : RC), cs[i]? = some c → ∃ v, vs[i]? = some v ∧ RCOk w Z O (j + i) v c
  | [], [], _, _, i, c, h => by simp at h
  | [], _ :: _, _, h, _, _, _ => h.elim
  | _ :: _, [], _, h, _, _, _ => h.elim
  | v :: vs, c :: cs, j, h, i, c', hc => by
    cases i with
    | zero => simp only [List.getElem?_cons_zero, Option.some.injEq] at hc; subst hc; exact ⟨v, rfl, h.1⟩
    | succ i =>
      obtain ⟨v', h1, h2⟩ := rcs_get vs cs (j + 1) h.2 i c' (by simpa using hc)
      exact ⟨v', by simpa using h1, by rw [show j + (i + 1) = j + 1 + i from by omega]; exact h2⟩
theorem xpcs_length : ∀ (cs : List RC) (j : Nat), (xpcs j cs).length = cs.length
  | [], _ => rfl
  | c :: cs, j => by simp [xpcs, xpcs_length cs]
theorem xpcs_get : ∀ (cs : List RC) (j i : Nat) (c : PC), (xpcs j cs)[i]? = some c → ∃ rc, cs[i]? = some rc ∧ c = rc.xpc (j + i)
  | [], _, i, c, h => by simp [xpcs] at h
  | x :: cs, j, i, c, h => by
    cases i with
    | zero => simp only [xpcs, List.getElem?_cons_zero, Option.some.injEq] at h; exact ⟨x, rfl, by rw [← h]; rfl⟩
    | succ i =>
      obtain ⟨rc, h1, h2⟩ := xpcs_get cs (j + 1) i c (by simpa [xpcs] using h)
      exact ⟨rc, by simpa using h1, by rw [h2, show j + (i + 1) = j + 1 + i from by omega]⟩
open Classical in
theorem BX.intro {P : Program} {f : FuncId} {fn : Func} {c : Code} {args : List XA} {T : TypeId} {cs cs' : List RC} {res : Res} (hf : P.funcs[f]? = some fn) (hb : fn.body = some c) (n : Nat) (hn : fn.ntmps = n) (ha : args.length ≤ n) (hn8 : n ≤ 800)
    (h : ∀ (w : World) (Z IX : Nat → Prop) (pin : List (Nat × Value)), (∀ x ∈ pin, x.1 = 800) → Go.Proofs.Ytlcmflenbddliaa.Rf.T P ⟨w.heap.size, w, Z, IX, pin, n⟩ c (Env.startX args T cs) (QRetX P fn T cs' res)) : BX P f args T cs cs' res := by
  intro w Z O vals g arr hz hO hZO hOf hOg harr hrcs hargs
  have hl : vals.length = args.length := hargs.length
  refine calls_of_wp hf hb ?_
  have hrl := rcs_length _ _ _ hrcs
  obtain ⟨fpf, hfp⟩ : ∃ fpf : Nat → List Nat, ∀ (i : Nat) (T : TypeId) (d : D), cs[i]? = some (RC.own T d) → ∃ v, arr.toList[i]? = some v ∧ RowOk w T v d (fpf i) ∧ (fpf i).Nodup ∧ ∀ k ∈ fpf i, O k = .row i := by
    refine ⟨fun i => if h : ∃ fp : List Nat, ∀ (T : TypeId) (d : D), cs[i]? = some (RC.own T d) → ∃ v, arr.toList[i]? = some v ∧ RowOk w T v d fp ∧ fp.Nodup ∧ ∀ k ∈ fp, O k = .row i then Classical.choose h else [], fun i T d hc => ?_⟩
    have hex : ∃ fp : List Nat, ∀ (T : TypeId) (d : D), cs[i]? = some (RC.own T d) → ∃ v, arr.toList[i]? = some v ∧ RowOk w T v d fp ∧ fp.Nodup ∧ ∀ k ∈ fp, O k = .row i := by
      obtain ⟨v, h1, fp, h2, h3, h4⟩ := rcs_get _ _ 0 hrcs i _ hc
      refine ⟨fp, fun T' d' he => ?_⟩
      rw [hc] at he
      injection he with he
      injection he with he1 he2
      subst he1 he2
      exact ⟨v, h1, h2, h3, by simpa using h4⟩
    simp only [dif_pos hex]
    exact Classical.choose_spec hex T d hc
  generalize hMdef : (⟨fun r => arr.toList.getD (r - 900) undef, fun r => fpf (r - 900), fun _ => g, fun k => if Z k then .froz else match O k with | .row j => .row (900 + j) | .box _ => if k = g then .box 800 else .none | _ => .none⟩ : Maps) = M
  have hown : ∀ k, M.own k = if Z k then .froz else match O k with | .row j => .row (900 + j) | .box _ => if k = g then .box 800 else .none | _ => .none := fun k => by subst hMdef; rfl
  have hfroz : ∀ k, Z k → M.own k = .froz := fun k hk => by rw [hown, if_pos hk]
  have hrow : ∀ k j, O k = .row j → M.own k = .row (900 + j) := fun k j hk => by
    rw [hown, if_neg (fun hzk => by rw [hZO k hzk] at hk; cases hk), hk]
  have hgo : M.own g = .box 800 := by
    rw [hown, if_neg (fun hzk => by rw [hZO g hzk] at hOg; cases hOg), hOg]
    simp
  have hst : Rel ⟨w.heap.size, w, Z, fun k => O k ≠ .none, [(800, .pointer (some ⟨g, 0, none⟩))], n⟩ (Env.startX args T cs) { tmps := vals.toArray ++ Array.replicate (n - vals.toArray.size) undef, defers := [] } w := by
    refine ⟨M, ?_⟩
    have hhdl : ∀ i, M.hdl (900 + i) = arr.toList.getD i undef := fun i => by subst hMdef; simp only [Nat.add_sub_cancel_left]
    have hfpM : ∀ i, M.fp (900 + i) = fpf i := fun i => by subst hMdef; simp only [Nat.add_sub_cancel_left]
    have hblk : M.blk 800 = g := by subst hMdef; rfl
    have hcell : ∀ (i : Nat) (rc : RC) (v : Value), cs[i]? = some rc → arr.toList[i]? = some v → COk M (Env.startX args T cs) w v (rc.xpc (0 + i)) := fun i rc v hc hv => by
      obtain ⟨v', h1, h2⟩ := rcs_get _ _ 0 hrcs i rc hc
      rw [hv] at h1
      injection h1 with h1
      subst h1
      cases rc with
      | rd d => exact Rd.keep (h2 : Rd w _ [v] [d]) (fun _ _ => rfl) fun k hk => hk.elim (hfroz k) fun h => absurd h (hOf k)
      | own T' d =>
        intro T2 e _
        simp only [PathTo]
        rw [Nat.zero_add, hhdl, List.getD_eq_getElem?_getD, hv]
        rfl
    refine { tn := by simp; omega, df := rfl, fr := ⟨rfl, rfl, rfl, Nat.le_refl _, fun _ _ _ => rfl⟩, ba := Nat.le_refl _, lt := ?_, z0 := fun k hk => hfroz k hk, zb := ?_, wr := ?_, tm := ?_, rows := ?_, boxes := ?_, pin := ?_, bpin := ?_ }
    · intro k hk
      by_cases hzk : Z k
      · exact hz k hzk
      · refine hO k fun hno => ?_
        rw [hown, if_neg hzk, hno] at hk
        exact hk rfl
    · intro k hk
      by_cases hzk : Z k
      · exact .inl hzk
      · rw [hown, if_neg hzk] at hk
        split at hk
        · cases hk
        · split at hk <;> cases hk
        · cases hk
    · intro k hk hk'
      left
      intro hno
      by_cases hzk : Z k
      · rw [hown, if_pos hzk] at hk'; exact hk' rfl
      · rw [hown, if_neg hzk, hno] at hk; exact hk rfl
    · intro t
      have hget : (Env.startX args T cs).get t = ((args[t]?).map XA.pv).getD (.one .und) := by
        unfold Env.get Env.startX
        have := lk_zip XA.pv args 0 t
        rw [Nat.zero_add] at this
        simp only
        rw [this]
      rw [hget]
      cases hx : args[t]? with
      | none => trivial
      | some x =>
        obtain ⟨v, hv, hok⟩ := hargs.get t x hx
        have hval : ({ tmps := vals.toArray ++ Array.replicate (n - vals.toArray.size) undef, defers := [] } : Act).tmps.getD t undef = v := by
          have hlt : t < vals.length := (List.getElem?_eq_some_iff.1 hv).1
          have : (vals.toArray ++ Array.replicate (n - vals.toArray.size) undef)[t]? = some v := by
            rw [Array.getElem?_append_left (by simpa using hlt)]; simpa using hv
          simp only [Array.getD_eq_getD_getElem?, this, Option.getD_some]
        rw [hval]
        cases x with
        | bx =>
          show v = .pointer (some ⟨M.blk 800, 0, none⟩)
          rw [hblk]; exact hok
        | rd a =>
          cases a with
          | one d => exact Rd.keep (hok : Rd w Z [v] [d]) (fun _ _ => rfl) hfroz
          | agg ds =>
            obtain ⟨arr2, rfl, hr⟩ := hok
            exact ⟨arr2, rfl, rd_one hr hfroz⟩
    · intro r T' d hr
      obtain ⟨i, h1, h2⟩ := xrows_get _ 0 r _ hr
      rw [Nat.zero_add] at h1
      subst h1
      obtain ⟨v, k1, k2, k3, k4⟩ := hfp i T' d h2
      rw [hhdl, hfpM, List.getD_eq_getElem?_getD, k1]
      exact ⟨k2, k3, fun k hk => hrow k i (k4 k hk)⟩
    · intro b' T' ps hb'
      simp only [Env.box, Env.startX, lk] at hb'
      split at hb'
      · rename_i e
        subst e
        injection hb' with hb'
        injection hb' with e1 e2
        subst e1 e2
        rw [hblk]
        refine ⟨hgo, arr, harr, All2.of_get _ _ (by rw [hrl, xpcs_length]) fun j v c hv hc => ?_⟩
        obtain ⟨rc, h1, rfl⟩ := xpcs_get _ 0 j c hc
        exact hcell j rc v h1 hv
      · cases hb'
    · intro r v hrv T' d hr
      obtain ⟨i, h1, _⟩ := xrows_get _ 0 r _ hr
      simp only [List.mem_singleton, Prod.mk.injEq] at hrv
      omega
    · intro b' v hp _ T' ps hb'
      simp only [List.mem_singleton, Prod.mk.injEq] at hp
      obtain ⟨rfl, rfl⟩ := hp
      rw [hblk]
  have := h w Z (fun k => O k ≠ .none) [(800, .pointer (some ⟨g, 0, none⟩))] (by simp) _ _ hst
  rw [hn]
  refine wp_mono this fun e a w' ⟨E, hq, M', R⟩ => ?_
  have key : RetX P fn T cs' res E → bodyPost P fn (ReturnsX w Z O g T cs' res) .ret a w' := fun ⟨bps, pss, hbx, hbl, h1, h2, ss, h3⟩ => by
    obtain ⟨vs, bcs, k1, k2, k3, k4⟩ := ret_all R h1
    obtain ⟨j1, arr', j2, j3⟩ := R.boxes 800 T bps hbx
    have hgM : M'.blk 800 = g := by
      have := R.bpin 800 (.pointer (some ⟨g, 0, none⟩)) (by simp) hn8 T bps hbx
      simp only [Value.pointer.injEq, Option.some.injEq, Addr.mk.injEq, and_true] at this
      exact this.symm
    rw [hgM] at j1 j2
    obtain ⟨O1, o1, _, o3, o4⟩ := retC_ok R h3 (arr'.toList ++ bcs.flatMap (·.2)) 0 (j3.append k4)
    have ho1g : O1 g = .none := by
      cases h : O1 g with
      | none => rfl
      | _ => obtain ⟨s, _, h2⟩ := o1 g (by rw [h]; simp); rw [j1] at h2; cases h2
    refine ⟨R.df, packed vs, results_run k1, ⟨R.fr.os, R.fr.tape, R.fr.output, R.fr.size, fun k hk hno => R.fr.block k hk fun h => h hno⟩, vs, bcs,
      fun k => if k = g then .box 0 else if M'.own k = .froz ∧ ¬ Z k then .froz else O1 k, arr', rfl, fun k hk => ?_, fun k hk => ?_, by simp, j2, k2, k3.trans h2, ?_⟩
    · simp only at hk
      split at hk
      · rename_i e; subst e
        exact ⟨R.lt k (by rw [j1]; simp), .inl (by rw [hOg]; simp)⟩
      · split at hk
        · rename_i hm
          refine ⟨R.lt k (by rw [hm.1]; simp), .inr ?_⟩
          rcases R.zb k hm.1 with h | h
          · exact absurd h hm.2
          · exact h
        · obtain ⟨s, _, ho⟩ := o1 k hk
          exact ⟨R.lt k (by rw [ho]; simp), R.wr k (by rw [ho]; simp) (by rw [ho]; simp)⟩
    · simp only at hk
      split at hk
      · cases hk
      · split at hk
        · rename_i hm
          rcases R.zb k hm.1 with h | h
          · exact absurd h hm.2
          · exact h
        · exact absurd hk (o3 k)
    · have hmono : ∀ (rcs : List RC) (vs : List Value) (i : Nat), RCs w' (fun k => M'.own k = .froz) O1 i vs rcs → RCs w' Z (fun k => if k = g then .box 0 else if M'.own k = .froz ∧ ¬ Z k then .froz else O1 k) i vs rcs := by
        intro rcs
        induction rcs with
        | nil => intro vs i h; cases vs; exact h; exact h.elim
        | cons rc rcs ihr =>
          intro vs i h
          cases vs with
          | nil => exact h.elim
          | cons v vs =>
            refine ⟨?_, ihr vs (i + 1) h.2⟩
            cases rc with
            | rd d =>
              refine Rd.keep (h.1 : Rd w' _ [v] [d]) (fun _ _ => rfl) fun k hk => ?_
              rcases hk with hk | hk
              · by_cases hzk : Z k
                · exact .inl hzk
                · right
                  show (if k = g then Tag.box 0 else if M'.own k = .froz ∧ ¬ Z k then Tag.froz else O1 k) = .froz
                  rw [if_neg (fun e => by subst e; rw [j1] at hk; cases hk), if_pos ⟨hk, hzk⟩]
              · exact absurd hk (o3 k)
            | own T d =>
              obtain ⟨fp, q1, q2, q3⟩ := h.1
              refine ⟨fp, q1, q2, fun k hk => ?_⟩
              simp only
              rw [if_neg (fun e => by subst e; have := q3 k hk; rw [ho1g] at this; cases this), if_neg (fun hm => by
                obtain ⟨s, _, ho⟩ := o1 k (by rw [q3 k hk]; simp)
                rw [hm.1] at ho; cases ho)]
              exact q3 k hk
      exact hmono _ _ _ o4
  cases e with
  | normal => exact key hq
  | ret => exact key hq
  | _ => exact hq.elim
def rd (l : List Int) (i : Int) : Int := l.getD i.toNat 0
theorem rd_at {l : List Int} {i : Nat} {x : Int} (h : l[i]? = some x) : rd l (i : Int) = x := by simp [rd, List.getD_eq_getElem?_getD, h]
theorem lt_of_at {α : Type} {l : List α} {i : Nat} {x : α} (h : l[i]? = some x) : i < l.length := (List.getElem?_eq_some_iff.1 h).1
theorem getD_u8 {l : List Int} (h : U8s l) (i : Nat) : 0 ≤ l.getD i 0 ∧ l.getD i 0 ≤ 255 := by
  rw [List.getD_eq_getElem?_getD]
  cases hx : l[i]? with
  | none => simp
  | some x => simpa using h x (List.mem_of_getElem? hx)
def splitGo : Nat → Int → Int → Int
  | 0, _, x => x
  | d + 1, n, x => if x < n - x then splitGo d n (2 * x) else x
def splitAt (n : Int) : Int := splitGo n.toNat n 1
theorem splitGo_bd : ∀ (d : Nat) (n x : Int), 1 ≤ x → x < n → 1 ≤ splitGo d n x ∧ splitGo d n x < n
  | 0, n, x, h1, h2 => ⟨h1, h2⟩
  | d + 1, n, x, h1, h2 => by
    unfold splitGo
    by_cases c : x < n - x
    · rw [if_pos c]; exact splitGo_bd d n (2 * x) (by omega) (by omega)
    · rw [if_neg c]; exact ⟨h1, h2⟩
theorem splitAt_bd (n : Int) (hn : 2 ≤ n) : 1 ≤ splitAt n ∧ splitAt n < n := splitGo_bd n.toNat n 1 (by omega) (by omega)
def bitHas (l : List Int) (i : Int) : Bool := decide (0 ≤ i) && (decide (i / 8 < l.length) && decide (rd l (i / 8) / 2 ^ (i % 8).toNat % 2 = 1))
def bitsGo (l : List Int) : Nat → Nat → List Int
  | 0, _ => []
  | d + 1, i => if bitHas l i = true then (i : Int) :: bitsGo l d (i + 1) else bitsGo l d (i + 1)
def bitList (l : List Int) : List Int := bitsGo l (8 * l.length) 0
theorem bitsGo_len (l : List Int) : ∀ d i, (bitsGo l d i).length ≤ d
  | 0, _ => Nat.le_refl _
  | d + 1, i => by
    have := bitsGo_len l d (i + 1)
    unfold bitsGo; split
    · rw [List.length_cons]; omega
    · omega
theorem bitsGo_ge (l : List Int) : ∀ d i x, x ∈ bitsGo l d i → (i : Int) ≤ x ∧ x < ((i + d : Nat) : Int)
  | 0, _, x, h => by cases h
  | d + 1, i, x, h => by
    unfold bitsGo at h
    have ih := bitsGo_ge l d (i + 1) x
    split at h
    · rcases List.mem_cons.1 h with rfl | h
      · exact ⟨Int.le_refl _, by omega⟩
      · have := ih h; omega
    · have := ih h; omega
theorem bitsGo_last (l : List Int) (n : Int) : ∀ d i, (bitsGo l d i).all (fun x => decide (x < n)) = match (bitsGo l d i).getLast? with | none => true | some x => decide (x < n)
  | 0, _ => rfl
  | d + 1, i => by
    have ih := bitsGo_last l n d (i + 1)
    have hg := bitsGo_ge l d (i + 1)
    unfold bitsGo
    split
    · rw [List.all_cons, ih, List.getLast?_cons]
      cases h : (bitsGo l d (i + 1)).getLast? with
      | none => simp
      | some y =>
        have hy := hg y (List.mem_of_getLast? h)
        simp only [Option.getD_some]
        by_cases c : y < n
        · rw [decide_eq_true c, decide_eq_true (by omega)]; rfl
        · rw [decide_eq_false c, Bool.and_false]
    · exact ih
theorem bitList_len (l : List Int) : (bitList l).length ≤ 8 * l.length := bitsGo_len l _ _
def ones (x : Int) : Int := (if x / 1 % 2 = 1 then 1 else 0) + (if x / 2 % 2 = 1 then 1 else 0) + (if x / 4 % 2 = 1 then 1 else 0) + (if x / 8 % 2 = 1 then 1 else 0) + (if x / 16 % 2 = 1 then 1 else 0) + (if x / 32 % 2 = 1 then 1 else 0) + (if x / 64 % 2 = 1 then 1 else 0) + (if x / 128 % 2 = 1 then 1 else 0)
theorem ones_bd (x : Int) : 0 ≤ ones x ∧ ones x ≤ 8 := by unfold ones; omega
theorem bitHas_at {l : List Int} {j : Nat} {x : Int} (h : l[j]? = some x) (t : Nat) (ht : t < 8) : bitHas l ((8 * j + t : Nat) : Int) = decide (x / 2 ^ t % 2 = 1) := by
  have hj := lt_of_at h
  have e1 : ((8 * j + t : Nat) : Int) / 8 = (j : Int) := by omega
  have e2 : (((8 * j + t : Nat) : Int) % 8).toNat = t := by omega
  unfold bitHas
  rw [e1, e2, rd_at h, decide_eq_true (show (0 : Int) ≤ ((8 * j + t : Nat) : Int) by omega), decide_eq_true (show (j : Int) < (l.length : Int) by omega), Bool.true_and, Bool.true_and]
theorem bitsGo_step (l : List Int) (d i : Nat) : ((bitsGo l (d + 1) i).length : Int) = (if bitHas l i = true then 1 else 0) + ((bitsGo l d (i + 1)).length : Int) := by
  show ((if bitHas l i = true then (i : Int) :: bitsGo l d (i + 1) else bitsGo l d (i + 1)).length : Int) = _
  split
  · rw [List.length_cons]; omega
  · omega
theorem bitsGo_eight {l : List Int} {j d : Nat} {x : Int} (h : l[j]? = some x) : ((bitsGo l (8 * (d + 1)) (8 * j)).length : Int) = ones x + ((bitsGo l (8 * d) (8 * (j + 1))).length : Int) := by
  rw [show 8 * (d + 1) = 8 * d + 1 + 1 + 1 + 1 + 1 + 1 + 1 + 1 by omega, show 8 * (j + 1) = 8 * j + 1 + 1 + 1 + 1 + 1 + 1 + 1 + 1 by omega]
  iterate 8 rw [bitsGo_step]
  have b := fun t ht => bitHas_at h t ht
  have b0 := b 0 (by decide); have b1 := b 1 (by decide); have b2 := b 2 (by decide); have b3 := b 3 (by decide); have b4 := b 4 (by decide); have b5 := b 5 (by decide); have b6 := b 6 (by decide); have b7 := b 7 (by decide)
  simp only [Nat.add_assoc, Nat.reduceAdd, Nat.add_zero] at b0 b1 b2 b3 b4 b5 b6 b7 ⊢
  rw [b0, b1, b2, b3, b4, b5, b6, b7]
  simp only [decide_eq_true_eq]
  unfold ones
  simp only [Int.reducePow]
  omega
def onesSum : List Int → Int
  | [] => 0
  | x :: xs => ones x + onesSum xs
theorem onesSum_len (l : List Int) : ∀ d j, j + d = l.length → onesSum (l.drop j) = ((bitsGo l (8 * d) (8 * j)).length : Int) := by
  intro d
  induction d with
  | zero => intro j hj; rw [List.drop_of_length_le (by omega)]; rfl
  | succ d ih =>
    intro j hj
    have hlt : j < l.length := by omega
    rw [List.drop_eq_getElem_cons hlt, bitsGo_eight (List.getElem?_eq_getElem hlt), ← ih (j + 1) (by omega)]
    rfl
theorem onesSum_all (l : List Int) : onesSum l = ((bitList l).length : Int) := by simpa [bitList] using onesSum_len l l.length 0 (by omega)
def bitsSize (n : Int) : Int := if n < 1 then 0 else (n - 1) / 8 + 1
theorem div_pow_bd {x : Int} (h0 : 0 ≤ x) (h1 : x ≤ 255) (t : Nat) : 0 ≤ x / 2 ^ t ∧ x / 2 ^ t ≤ 255 := by
  have hp : (0 : Int) < 2 ^ t := Int.pow_pos (by decide)
  refine ⟨Int.ediv_nonneg h0 (by omega), ?_⟩
  have := Int.ediv_le_self (2 ^ t) h0
  omega
theorem bitsGo_next (b : List Int) {n i : Nat} (h : i < n) : bitsGo b (n - i) i = (if bitHas b (i : Int) = true then [(i : Int)] else []) ++ bitsGo b (n - (i + 1)) (i + 1) := by
  obtain ⟨d, hd⟩ : ∃ d, n - i = d + 1 := ⟨n - i - 1, by omega⟩
  rw [hd, show n - (i + 1) = d from by omega, bitsGo]
  split <;> simp [*]
theorem bitsGo_end (b : List Int) {n i : Nat} (h : n ≤ i) : bitsGo b (n - i) i = [] := by rw [show n - i = 0 from by omega]; rfl
theorem onesSum_drop (b : List Int) {i : Nat} (h : i < b.length) : onesSum (b.drop i) = ones (b.getD i 0) + onesSum (b.drop (i + 1)) := by
  rw [drop_cons' (df := 0) h]; rfl
theorem shr_ok {a b : Int} {n : Nat} (h0 : 0 ≤ b) (h : b < n) : a.fdiv (2 ^ (min b.toNat n)) = a / 2 ^ b.toNat := by
  rw [Nat.min_eq_left (by omega)]
  exact Int.fdiv_eq_ediv_of_nonneg _ (Int.le_of_lt (Int.pow_pos (by decide)))
theorem and1_u8 {a : Int} (h0 : 0 ≤ a) (h1 : a ≤ 255) : IntKind.u8.wrap (BitVec.ofInt IntKind.u8.bits a &&& BitVec.ofInt IntKind.u8.bits 1).toNat = a % 2 := by
  have key : ∀ n : Fin 256, IntKind.u8.wrap (BitVec.ofInt IntKind.u8.bits ((n.val : Nat) : Int) &&& BitVec.ofInt IntKind.u8.bits 1).toNat = ((n.val : Nat) : Int) % 2 := by decide +kernel
  have := key ⟨a.toNat, by omega⟩
  rwa [show ((a.toNat : Nat) : Int) = a from by omega] at this
theorem Step.index_str {P : Program} {C : Ctx} {o : Oper} {E : Env} {t : Nat} {T : TypeId} {x y : Operand} {s : ByteArray} {k : IntKind} {i c : Int} (ho : o.op = .index T x y) (hd : o.dst = some t) (ht : t < C.n) (hT : P.underlying T = some .string) (hx : E.ev x = .one (.d (.str s))) (hy : E.ev y = .one (.d (.int k i)))
    (h0 : 0 ≤ i) (hc : (s[i.toNat]?).map (fun b => ((b.toNat : Nat) : Int)) = some c) : Step P C o E (E.set t (.one (.d (.int .u8 c)))) :=
  .value hd ht fun M a w R => by
    refine ⟨.int .u8 c, ?_, ok_val M E w rfl⟩
    unfold execOp
    rw [ho]
    obtain ⟨b, hb, hbc⟩ := Option.map_eq_some_iff.1 hc
    have hrun : (Instr.index T (a.eval x) (a.eval y)).run P w = .ok (.int .u8 c) w := by
      rw [ev_val R hx rfl, ev_val R hy rfl]
      simp only [Instr.index, asIntOf, Sem.run_bind, Sem.run_pure, Result.andThen, run_underlying hT]
      rw [if_pos h0, hb]
      simp only [Sem.run_pure, ← hbc]
    simp only [Sem.run_bind, hrun, Result.andThen, Sem.run_pure]
theorem mem_len {xs : List (List Int)} {q : Nat} (h : ∀ y ∈ xs, y.length ≤ q) (i : Nat) : (xs.getD i []).length ≤ q := by
  rw [List.getD_eq_getElem?_getD]
  cases hx : xs[i]? with
  | none => simp
  | some x => simpa using h x (List.mem_of_getElem? hx)
def PC.ren (r s : Nat) : PC → PC
  | .row x p => .row (if x = r then s else x) p
  | .rptr x p i j => .rptr (if x = r then s else x) p i j
  | c => c
def Env.ren (E : Env) (r s : Nat) : Env := { E.mapc (PC.ren r s) with rows := E.rows.map fun x => (if x.1 = r then s else x.1, x.2) }
theorem ren_row {E : Env} {r s x : Nat} {T : TypeId} {d : D} (hs : lk E.rows s = none) (h : (E.ren r s).row x = some (T, d)) : (x = s ∧ E.row r = some (T, d)) ∨ (x ≠ s ∧ x ≠ r ∧ E.row x = some (T, d)) := by
  have key : ∀ l : List (Nat × (TypeId × D)), lk l s = none → lk (l.map fun x => (if x.1 = r then s else x.1, x.2)) x = some (T, d) → (x = s ∧ lk l r = some (T, d)) ∨ (x ≠ s ∧ x ≠ r ∧ lk l x = some (T, d)) := by
    intro l
    induction l with
    | nil => intro _ h; simp [lk] at h
    | cons y l ih =>
      intro h0 h1
      obtain ⟨k, v⟩ := y
      simp only [lk] at h0
      split at h0
      · cases h0
      · rename_i hk
        simp only [List.map_cons, lk] at h1
        by_cases e : k = r
        · rw [if_pos e] at h1
          by_cases e2 : s = x
          · rw [if_pos e2] at h1
            left
            exact ⟨e2.symm, by simp only [lk]; rw [if_pos e]; exact h1⟩
          · rw [if_neg e2] at h1
            rcases ih h0 h1 with ⟨p, _⟩ | ⟨p, q, t⟩
            · exact absurd p.symm e2
            · right
              exact ⟨p, q, by simp only [lk]; rw [if_neg (fun h => q (h.symm.trans e))]; exact t⟩
        · rw [if_neg e] at h1
          by_cases e2 : k = x
          · rw [if_pos e2] at h1
            right
            refine ⟨fun h => hk (e2.trans h), fun h => e (e2.trans h), ?_⟩
            simp only [lk]; rw [if_pos e2]; exact h1
          · rw [if_neg e2] at h1
            rcases ih h0 h1 with ⟨p, t⟩ | ⟨p, q, t⟩
            · left; exact ⟨p, by simp only [lk]; rw [if_neg e]; exact t⟩
            · right; exact ⟨p, q, by simp only [lk]; rw [if_neg e2]; exact t⟩
  exact key E.rows hs h
open Classical in
theorem RelM.ren {C : Ctx} {M : Maps} {E : Env} {a : Act} {w : World} (R : RelM C M E a w) {r s : Nat} (hf : E.noref' s = true) (hpr : ∀ x ∈ C.pin, x.1 ≠ s) : ∃ M', RelM C M' (E.ren r s) a w := by
  simp only [Env.noref', Bool.and_eq_true, List.all_eq_true, Option.isNone_iff_eq_none] at hf
  obtain ⟨⟨f1, f2⟩, f3⟩ := hf
  refine ⟨{ M with hdl := fun x => if x = s then M.hdl r else M.hdl x, fp := fun x => if x = s then M.fp r else M.fp x, own := fun k => if M.own k = .row r then .row s else M.own k }, ?_⟩
  generalize hM : ({ M with hdl := fun x => if x = s then M.hdl r else M.hdl x, fp := fun x => if x = s then M.fp r else M.fp x, own := fun k => if M.own k = .row r then .row s else M.own k } : Maps) = M'
  have hblk : M'.blk = M.blk := by subst hM; rfl
  have hown : ∀ k, M'.own k = if M.own k = .row r then .row s else M.own k := fun k => by subst hM; rfl
  have hfroz : ∀ k, M.own k = .froz → M'.own k = .froz := fun k h => by rw [hown, if_neg (by rw [h]; simp)]; exact h
  have hbox : ∀ t, (E.ren r s).box t = (E.box t).map fun x => (x.1, x.2.map (PC.ren r s)) := fun t => Env.box_mapc E (PC.ren r s) t
  have hget : ∀ t, (E.ren r s).get t = (E.get t).mapc (PC.ren r s) := fun t => Env.get_mapc E (PC.ren r s) rfl t
  have hh : ∀ x, M'.hdl x = if x = s then M.hdl r else M.hdl x := fun x => by subst hM; rfl
  have hp : ∀ x, M'.fp x = if x = s then M.fp r else M.fp x := fun x => by subst hM; rfl
  have hc : ∀ c : PC, c.ment s = false → ∀ v, COk M E w v c → COk M' (E.ren r s) w v (c.ren r s) := fun c hm v h => by
    cases c with
    | d x => exact Rd.keep h (fun _ _ => rfl) hfroz
    | nil => exact h
    | und => trivial
    | ptr b off => simp only [PC.ren, COk] at h ⊢; rw [hblk]; exact h
    | eptr x i j =>
      obtain ⟨ad, cap, h1, h2⟩ := h
      exact ⟨ad, cap, Rd.keep h1 (fun _ _ => rfl) hfroz, h2⟩
    | row x p =>
      have hxs : x ≠ s := by simp only [PC.ment, beq_eq_false_iff_ne] at hm; exact fun e => hm e.symm
      intro T d hT
      by_cases e : x = r
      · simp only [PC.ren, if_pos e] at hT ⊢
        rcases ren_row f3 hT with ⟨_, h2⟩ | ⟨h2, _⟩
        · rw [hh, if_pos rfl]; subst e; exact h T d h2
        · exact absurd rfl h2
      · simp only [PC.ren, if_neg e] at hT ⊢
        rcases ren_row f3 hT with ⟨h1, _⟩ | ⟨_, _, h2⟩
        · exact absurd h1 hxs
        · rw [hh, if_neg hxs]; exact h T d h2
    | rptr x p i j =>
      have hxs : x ≠ s := by simp only [PC.ment, beq_eq_false_iff_ne] at hm; exact fun e => hm e.symm
      intro T d hT
      by_cases e : x = r
      · simp only [PC.ren, if_pos e] at hT ⊢
        rcases ren_row f3 hT with ⟨_, h2⟩ | ⟨h2, _⟩
        · rw [hh, if_pos rfl]; subst e; exact h T d h2
        · exact absurd rfl h2
      · simp only [PC.ren, if_neg e] at hT ⊢
        rcases ren_row f3 hT with ⟨h1, _⟩ | ⟨_, _, h2⟩
        · exact absurd h1 hxs
        · rw [hh, if_neg hxs]; exact h T d h2
  have hall : ∀ (vs : List Value) (ps : List PC), (∀ c ∈ ps, c.ment s = false) → All2 (COk M E w) vs ps → All2 (COk M' (E.ren r s) w) vs (ps.map (PC.ren r s)) := fun vs ps hm h => by
    induction h with
    | nil => exact .nil
    | @cons v c vs ps h1 _ ih => exact .cons (hc c (hm c (by simp)) v h1) (ih fun c' hc' => hm c' (by simp [hc']))
  refine { tn := R.tn, df := R.df, fr := R.fr, ba := R.ba, lt := ?_, z0 := fun k hk => hfroz k (R.z0 k hk), zb := ?_, wr := ?_, tm := ?_, rows := ?_, boxes := ?_, pin := ?_, bpin := ?_ }
  · intro k hk
    refine R.lt k fun h => hk ?_
    rw [hown, if_neg (by rw [h]; simp)]; exact h
  · intro k hk
    refine R.zb k ?_
    rw [hown] at hk
    split at hk
    · cases hk
    · exact hk
  · intro k hk hk'
    refine R.wr k (fun h => hk ?_) (fun h => hk' (hfroz k h))
    rw [hown, if_neg (by rw [h]; simp)]; exact h
  · intro t
    rw [hget]
    have h := R.tm t
    have hm : ∀ c ∈ (E.get t).cells, c.ment s = false := fun c hcm => by
      rcases Env.get_mem hcm with rfl | ⟨x, hx, hcx⟩
      · rfl
      · simpa using f1 x hx c hcx
    generalize E.get t = p at h hm
    cases p with
    | one c => exact hc c (hm c (by simp [PV.cells])) _ h
    | agg cs => obtain ⟨arr, e, h⟩ := h; exact ⟨arr, e, hall _ _ (fun c hcm => hm c (by simpa [PV.cells] using hcm)) h⟩
    | tup vs =>
      obtain ⟨arr, e, h⟩ := h
      refine ⟨arr, e, ?_⟩
      clear e
      generalize arr.toList = l at h
      show All2 _ l (vs.map _)
      have hm' : ∀ y ∈ vs, ∀ c ∈ y.2, c.ment s = false := fun y hy c hcy => hm c (by simp only [PV.cells, List.mem_flatMap]; exact ⟨y, hy, hcy⟩)
      clear hm
      induction h with
      | nil => exact .nil
      | @cons v y l vs h1 _ ih =>
        refine .cons ?_ (ih fun y' hy' => hm' y' (by simp [hy']))
        have hy := hm' y (by simp)
        obtain ⟨b, cs⟩ := y
        match b, cs, h1, hy with
        | true, cs, ⟨arr', e', h'⟩, hy => exact ⟨arr', e', hall _ _ hy h'⟩
        | false, [c], h', hy => exact hc c (hy c (by simp)) _ h'
  · intro x T d hx
    rcases ren_row f3 hx with ⟨rfl, h2⟩ | ⟨h1, h3, h2⟩
    · obtain ⟨k1, k2, k3⟩ := R.rows r T d h2
      rw [hh, hp, if_pos rfl, if_pos rfl]
      exact ⟨k1, k2, fun k hk => by rw [hown, if_pos (k3 k hk)]⟩
    · obtain ⟨k1, k2, k3⟩ := R.rows x T d h2
      rw [hh, hp, if_neg h1, if_neg h1]
      exact ⟨k1, k2, fun k hk => by rw [hown, if_neg (by rw [k3 k hk]; intro h; injection h with h; exact h3 h)]; exact k3 k hk⟩
  · intro b T ps' hb
    rw [hbox] at hb
    obtain ⟨⟨T2, ps⟩, h1, h2⟩ := Option.map_eq_some_iff.1 hb
    injection h2 with e1 e2
    subst e1 e2
    obtain ⟨k1, cs, k2, k3⟩ := R.boxes b _ ps h1
    rw [hblk]
    exact ⟨by rw [hown, if_neg (by rw [k1]; simp)]; exact k1, cs, k2, hall _ _ (fun c hcm => by simpa using f2 (b, _, ps) (lk_mem h1) c hcm) k3⟩
  · intro x v hxv T d hx
    rcases ren_row f3 hx with ⟨rfl, _⟩ | ⟨h1, _, h2⟩
    · exact absurd rfl (hpr (x, v) hxv)
    · rw [hh, if_neg h1]; exact R.pin x v hxv T d h2
  · intro b v hpb hn T ps hb
    rw [hbox] at hb
    obtain ⟨⟨T2, ps2⟩, h1, _⟩ := Option.map_eq_some_iff.1 hb
    rw [hblk]
    exact R.bpin b v hpb hn T2 ps2 h1
theorem TL.ren {P : Program} {C : Ctx} {ops : Array Oper} {l : List Oper} {E : Env} {Q : Env → Prop} (r s : Nat) (hf : E.noref' s = true) (hpr : ∀ x ∈ C.pin, x.1 ≠ s) (h : TL P C ops l (E.ren r s) Q) : TL P C ops l E Q := fun a w ⟨M, R⟩ => by
  obtain ⟨M', R'⟩ := R.ren (r := r) hf hpr
  exact h a w ⟨M', R'⟩
structure EffX where
  dst : Option Nat := none
  pv : PV := .one .und
  rows : List (Nat × (TypeId × D)) := []
  dead : List Nat := []
  box : Option (Nat × (TypeId × List PC)) := none
def EffX.app (f : EffX) (E : Env) : Env := { tm := (match f.dst with | some t => [(t, f.pv)] | none => []) ++ E.tm, rows := f.rows ++ (match f.dead with | [] => E.rows | ds => E.rows.filter fun x => !ds.contains x.1), boxes := (match f.box with | some x => [x] | none => []) ++ E.boxes }
def tmX (L : Nat → Bool) : Nat → List EffX → List (Nat × PV)
  | _, [] => []
  | i, f :: fs => (if L i then (match f.dst with | some t => [(t, f.pv)] | none => []) else []) ++ tmX L (i + 1) fs
def rowsX (L : Nat → Bool) : Nat → List EffX → List (Nat × (TypeId × D))
  | _, [] => []
  | i, f :: fs => (if L i then f.rows else []) ++ rowsX L (i + 1) fs
def deadX (L : Nat → Bool) : Nat → List EffX → List Nat
  | _, [] => []
  | i, f :: fs => (if L i then f.dead else []) ++ deadX L (i + 1) fs
def boxX (L : Nat → Bool) : Nat → List EffX → List (Nat × (TypeId × List PC))
  | _, [] => []
  | i, f :: fs => boxX L (i + 1) fs ++ (if L i then (match f.box with | some x => [x] | none => []) else [])
def mkF (E0 : Env) (L : Nat → Bool) (fs : List EffX) : Env := { tm := tmX L 0 fs ++ E0.tm, rows := (rowsX L 0 fs ++ E0.rows).filter (fun x => !(deadX L 0 fs).contains x.1), boxes := boxX L 0 fs ++ E0.boxes }
def effAt (fs : List EffX) (j : Nat) : EffX := fs.getD j {}
theorem effAt_succ (f : EffX) (fs : List EffX) (j : Nat) : effAt (f :: fs) (j + 1) = effAt fs j := rfl
theorem effAt_zero (f : EffX) (fs : List EffX) : effAt (f :: fs) 0 = f := rfl
theorem tm_agree {L L' : Nat → Bool} {t : Nat} : ∀ (fs : List EffX) (i : Nat), (∀ j, j < fs.length → (effAt fs j).dst = some t → L (i + j) = L' (i + j)) → lk (tmX L i fs) t = lk (tmX L' i fs) t
  | [], _, _ => rfl
  | f :: fs, i, h => by
    have ih := tm_agree (L := L) (L' := L') fs (i + 1) fun j hj hd => by have := h (j + 1) (by simp; omega) hd; rwa [show i + (j + 1) = i + 1 + j from by omega] at this
    simp only [tmX, lk_append, ih]
    congr 1
    cases hd : f.dst with
    | none => simp
    | some s =>
      by_cases e : s = t
      · subst e
        rw [show L i = L' i from by simpa using h 0 (by simp) hd]
      · have : ∀ b : Bool, lk (if b then [(s, f.pv)] else []) t = none := fun b => by cases b <;> simp [lk, e]
        rw [this, this]
theorem rows_agree {L L' : Nat → Bool} {r : Nat} : ∀ (fs : List EffX) (i : Nat), (∀ j, j < fs.length → ((effAt fs j).rows.any fun x => x.1 == r) = true → L (i + j) = L' (i + j)) → lk (rowsX L i fs) r = lk (rowsX L' i fs) r
  | [], _, _ => rfl
  | f :: fs, i, h => by
    have ih := rows_agree (L := L) (L' := L') fs (i + 1) fun j hj hd => by have := h (j + 1) (by simp; omega) hd; rwa [show i + (j + 1) = i + 1 + j from by omega] at this
    simp only [rowsX, lk_append, ih]
    congr 1
    by_cases e : (f.rows.any fun x => x.1 == r) = true
    · rw [show L i = L' i from by simpa using h 0 (by simp) e]
    · have hn : lk f.rows r = none := lk_none fun x hx hxr => e (List.any_eq_true.2 ⟨x, hx, by simp [hxr]⟩)
      have : ∀ b : Bool, lk (if b then f.rows else []) r = none := fun b => by cases b <;> simp [lk, hn]
      rw [this, this]
theorem dead_agree {L L' : Nat → Bool} {r : Nat} : ∀ (fs : List EffX) (i : Nat), (∀ j, j < fs.length → (effAt fs j).dead.contains r = true → L (i + j) = L' (i + j)) → (deadX L i fs).contains r = (deadX L' i fs).contains r
  | [], _, _ => rfl
  | f :: fs, i, h => by
    have ih := dead_agree (L := L) (L' := L') fs (i + 1) fun j hj hd => by have := h (j + 1) (by simp; omega) hd; rwa [show i + (j + 1) = i + 1 + j from by omega] at this
    simp only [deadX, List.contains_append, ih]
    congr 1
    by_cases e : f.dead.contains r = true
    · rw [show L i = L' i from by simpa using h 0 (by simp) e]
    · have : ∀ b : Bool, (if b then f.dead else []).contains r = false := fun b => by cases b <;> simp_all
      rw [this, this]
theorem box_agree {L L' : Nat → Bool} {b : Nat} : ∀ (fs : List EffX) (i : Nat), (∀ j x, j < fs.length → (effAt fs j).box = some (b, x) → L (i + j) = L' (i + j)) → lk (boxX L i fs) b = lk (boxX L' i fs) b
  | [], _, _ => rfl
  | f :: fs, i, h => by
    have ih := box_agree (L := L) (L' := L') fs (i + 1) fun j x hj hd => by have := h (j + 1) x (by simp; omega) hd; rwa [show i + (j + 1) = i + 1 + j from by omega] at this
    simp only [boxX, lk_append, ih]
    congr 1
    cases hd : f.box with
    | none => simp
    | some y =>
      obtain ⟨c, x⟩ := y
      by_cases e : c = b
      · subst e
        rw [show L i = L' i from by simpa using h 0 x (by simp) hd]
      · have : ∀ q : Bool, lk (if q then [(c, x)] else []) b = none := fun q => by cases q <;> simp [lk, e]
        rw [this, this]
theorem lk_filterD {α : Type} (D : List Nat) (l : List (Nat × α)) (r : Nat) : lk (l.filter fun x => !D.contains x.1) r = if D.contains r then none else lk l r := by
  induction l with
  | nil => simp [lk]
  | cons x l ih =>
    obtain ⟨k, v⟩ := x
    by_cases hk : D.contains k = true
    · rw [List.filter_cons_of_neg (by show ¬ (!D.contains k) = true; rw [hk]; simp), ih]
      simp only [lk]
      by_cases e : k = r
      · subst e; rw [if_pos hk, if_pos hk]
      · rw [if_neg e]
    · rw [List.filter_cons_of_pos (by show (!D.contains k) = true; simp only [Bool.not_eq_true', Bool.not_eq_true] at hk ⊢; exact hk)]
      simp only [lk]
      by_cases e : k = r
      · subst e; rw [if_pos rfl, if_neg hk, if_pos rfl]
      · rw [if_neg e, if_neg e, ih]
theorem mkF_row (E0 : Env) (L : Nat → Bool) (fs : List EffX) (r : Nat) : (mkF E0 L fs).row r = if (deadX L 0 fs).contains r then none else (lk (rowsX L 0 fs) r).or (E0.row r) := by
  show lk (List.filter _ _) r = _
  rw [lk_filterD, lk_append]; rfl
theorem mkF_get (E0 : Env) (L : Nat → Bool) (fs : List EffX) (t : Nat) : (mkF E0 L fs).get t = ((lk (tmX L 0 fs) t).or (lk E0.tm t)).getD (.one .und) := by
  show (lk (_ ++ _) t).getD _ = _
  rw [lk_append]
theorem mkF_box (E0 : Env) (L : Nat → Bool) (fs : List EffX) (b : Nat) : (mkF E0 L fs).box b = (lk (boxX L 0 fs) b).or (E0.box b) := by
  show lk (_ ++ _) b = _
  rw [lk_append]; rfl
theorem app_row (f : EffX) (E : Env) (r : Nat) : (f.app E).row r = (lk f.rows r).or (if f.dead.contains r then none else E.row r) := by
  show lk (_ ++ _) r = _
  rw [lk_append]
  congr 1
  split
  · rename_i h; rw [h]; simp; rfl
  · rw [lk_filterD]; rfl
theorem app_get (f : EffX) (E : Env) (t : Nat) : (f.app E).get t = if f.dst = some t then f.pv else E.get t := by
  show (lk (_ ++ _) t).getD _ = _
  rw [lk_append]
  cases hd : f.dst with
  | none => simp [lk]; rfl
  | some s =>
    by_cases e : s = t
    · subst e; simp [lk]
    · simp [lk, e]; rfl
theorem app_box (f : EffX) (E : Env) (b : Nat) : (f.app E).box b = (match f.box with | some x => if x.1 = b then some x.2 else none | none => none).or (E.box b) := by
  show lk (_ ++ _) b = _
  rw [lk_append]
  cases hd : f.box with
  | none => simp [lk]; rfl
  | some y =>
    obtain ⟨c, x⟩ := y
    by_cases e : c = b
    · subst e; simp [lk]
    · simp [lk, e]; rfl
theorem tmX_mem {L : Nat → Bool} {x : Nat × PV} : ∀ (fs : List EffX) (i : Nat), x ∈ tmX L i fs → ∃ j, j < fs.length ∧ L (i + j) = true ∧ (effAt fs j).dst = some x.1 ∧ (effAt fs j).pv = x.2
  | [], _, h => by cases h
  | f :: fs, i, h => by
    simp only [tmX] at h
    rcases List.mem_append.1 h with h | h
    · split at h
      · rename_i hL
        cases hd : f.dst with
        | none => rw [hd] at h; cases h
        | some t =>
          rw [hd] at h
          have e := List.mem_singleton.1 h
          subst e
          exact ⟨0, by simp, by simpa using hL, hd, rfl⟩
      · cases h
    · obtain ⟨j, h1, h2, h3, h4⟩ := tmX_mem fs (i + 1) h
      exact ⟨j + 1, by simp; omega, by rw [show i + (j + 1) = i + 1 + j from by omega]; exact h2, h3, h4⟩
theorem boxX_mem {L : Nat → Bool} {x : Nat × (TypeId × List PC)} : ∀ (fs : List EffX) (i : Nat), x ∈ boxX L i fs → ∃ j, j < fs.length ∧ L (i + j) = true ∧ (effAt fs j).box = some x
  | [], _, h => by cases h
  | f :: fs, i, h => by
    simp only [boxX] at h
    rcases List.mem_append.1 h with h | h
    · obtain ⟨j, h1, h2, h3⟩ := boxX_mem fs (i + 1) h
      exact ⟨j + 1, by simp; omega, by rw [show i + (j + 1) = i + 1 + j from by omega]; exact h2, h3⟩
    · split at h
      · rename_i hL
        cases hd : f.box with
        | none => rw [hd] at h; cases h
        | some t =>
          rw [hd] at h
          have e := List.mem_singleton.1 h
          subst e
          exact ⟨0, by simp, by simpa using hL, hd⟩
      · cases h
theorem tm_only {L : Nat → Bool} {t i0 : Nat} : ∀ (fs : List EffX) (i : Nat), i0 < fs.length → L (i + i0) = true → (effAt fs i0).dst = some t → (∀ j, j < fs.length → j ≠ i0 → (effAt fs j).dst ≠ some t) → lk (tmX L i fs) t = some (effAt fs i0).pv := fun fs i h1 h2 h3 h4 => by
  induction fs generalizing i i0 with
  | nil => simp at h1
  | cons f fs ih =>
    simp only [tmX, lk_append]
    cases i0 with
    | zero =>
      rw [effAt_zero] at h3 ⊢
      rw [if_pos (by simpa using h2), h3]
      simp [lk]
    | succ i0 =>
      have hne := h4 0 (by simp) (by omega)
      rw [effAt_zero] at hne
      have : lk (if L i then (match f.dst with | some t => [(t, f.pv)] | none => []) else []) t = none := by
        split
        · cases hd : f.dst with
          | none => rfl
          | some s => simp [lk]; rintro rfl; exact hne hd
        · rfl
      rw [this, Option.none_or, effAt_succ]
      exact ih (i + 1) (by simpa using h1) (by rw [← h2]; congr 1; omega) h3 (fun j hj hji => by have := h4 (j + 1) (by simp; omega) (by omega); exact this)
theorem rows_only {L : Nat → Bool} {r i0 : Nat} : ∀ (fs : List EffX) (i : Nat), i0 < fs.length → L (i + i0) = true → (∀ j, j < fs.length → j ≠ i0 → ((effAt fs j).rows.any fun x => x.1 == r) = false) → lk (rowsX L i fs) r = lk (effAt fs i0).rows r := fun fs i h1 h2 h4 => by
  induction fs generalizing i i0 with
  | nil => simp at h1
  | cons f fs ih =>
    have hno : ∀ q : EffX, (q.rows.any fun x => x.1 == r) = false → lk q.rows r = none := fun q hq => lk_none fun x hx hxr => by rw [List.any_eq_false] at hq; exact hq x hx (by simp [hxr])
    simp only [rowsX, lk_append]
    cases i0 with
    | zero =>
      rw [effAt_zero, if_pos (by simpa using h2)]
      have : lk (rowsX L (i + 1) fs) r = none := by
        have := rows_agree (L := L) (L' := fun _ => false) (r := r) fs (i + 1) fun j hj hd => by
          have := h4 (j + 1) (by simp; omega) (by omega)
          rw [effAt_succ] at this
          rw [this] at hd; cases hd
        rw [this]
        clear this ih h4 h1 h2
        generalize i + 1 = k
        induction fs generalizing k with
        | nil => rfl
        | cons g fs ih => simp only [rowsX]; simpa using ih _
      rw [this]; simp
    | succ i0 =>
      have hne := h4 0 (by simp) (by omega)
      rw [effAt_zero] at hne
      have : lk (if L i then f.rows else []) r = none := by
        split
        · exact hno f hne
        · rfl
      rw [this, Option.none_or, effAt_succ]
      exact ih (i + 1) (by simpa using h1) (by rw [← h2]; congr 1; omega) (fun j hj hji => by have := h4 (j + 1) (by simp; omega) (by omega); exact this)
theorem box_top {L : Nat → Bool} {b i0 : Nat} {x : TypeId × List PC} : ∀ (fs : List EffX) (i : Nat), i0 < fs.length → L (i + i0) = true → (effAt fs i0).box = some (b, x) → (∀ j y, i0 < j → j < fs.length → (effAt fs j).box = some (b, y) → L (i + j) = false) → lk (boxX L i fs) b = some x := fun fs i h1 h2 h3 h4 => by
  induction fs generalizing i i0 with
  | nil => simp at h1
  | cons f fs ih =>
    simp only [boxX, lk_append]
    cases i0 with
    | zero =>
      rw [effAt_zero] at h3
      have : lk (boxX L (i + 1) fs) b = none := by
        have := box_agree (L := L) (L' := fun _ => false) (b := b) fs (i + 1) fun j y hj hd => by
          have := h4 (j + 1) y (by omega) (by simp; omega) hd
          rwa [show i + (j + 1) = i + 1 + j from by omega] at this
        rw [this]
        clear this ih h4 h1 h2
        generalize i + 1 = k
        induction fs generalizing k with
        | nil => rfl
        | cons g fs ih => simp only [boxX]; simpa using ih _
      rw [this, if_pos (by simpa using h2), h3]
      simp [lk]
    | succ i0 =>
      rw [ih (i + 1) (by simpa using h1) (by rw [← h2]; congr 1; omega) h3 (fun j y hij hj hd => by have := h4 (j + 1) y (by omega) (by simp; omega) hd; rwa [show i + (j + 1) = i + 1 + j from by omega] at this)]
      rfl
def okX (E0 : Env) (l : List Oper) (fs : List EffX) : Bool :=
  let m := l.length
  fs.length == m &&
  allLt m (fun i => (l.getD i default).after.toList.all fun e => !Region.binds .any e || decide (e.on < i)) &&
  allLt m (fun i => (l.getD i default).dst == (effAt fs i).dst) &&
  allLt m (fun i => allLt m fun j => i == j || (effAt fs i).dst == none || (effAt fs i).dst != (effAt fs j).dst) &&
  allLt m (fun i => (effAt fs i).rows.all fun x => E0.noref' x.1 && !(effAt fs i).dead.contains x.1 && allLt m fun j => i == j || (!((effAt fs j).rows.any fun y => y.1 == x.1) && (reach l j i || (!(effAt fs j).pv.cells.any (·.ment x.1) && (match (effAt fs j).box with | some y => y.2.2.all (fun c => !c.ment x.1) | none => true) && !(effAt fs j).dead.contains x.1)))) &&
  allLt m (fun i => match (effAt fs i).box with
    | some x => allLt m fun j => i == j || (match (effAt fs j).box with | some y => y.1 != x.1 || reach l i j || reach l j i | none => true)
    | none => true) &&
  allLt m (fun i => match (effAt fs i).box with
    | some x => (effAt fs i).dst != some x.1 || (E0.nobox x.1 && allLt m fun j => i == j || reach l j i || (!((effAt fs j).pv.cells.any (·.isBox x.1)) && (match (effAt fs j).box with | some y => y.1 != x.1 && y.2.2.all (fun c => !c.isBox x.1) | none => true)))
    | none => true)
def seen (l : List Oper) (i j : Nat) : Bool := reach l i j || reach l j i || i == j
structure AtX (E0 : Env) (l : List Oper) (fs : List EffX) (i : Nat) (E : Env) : Prop where
  get : ∀ t, (allLt fs.length fun j => (effAt fs j).dst != some t || seen l i j) = true → E.get t = (mkF E0 (reach l i) fs).get t
  row : ∀ r, (allLt fs.length fun j => (!((effAt fs j).rows.any fun x => x.1 == r) && !(effAt fs j).dead.contains r) || seen l i j) = true → E.row r = (mkF E0 (reach l i) fs).row r
  box : ∀ b, (allLt fs.length fun j => (match (effAt fs j).box with | some y => y.1 != b | none => true) || seen l i j) = true → E.box b = (mkF E0 (reach l i) fs).box b
  fresh : ∀ x ∈ (effAt fs i).rows, E.noref' x.1 = true
  freshB : ∀ x, (effAt fs i).box = some x → (effAt fs i).dst = some x.1 → E.nobox x.1 = true
inductive StepsX (P : Program) (C : Ctx) (E0 : Env) (l : List Oper) (fs : List EffX) : Nat → List Oper → List EffX → Prop
  | nil (i : Nat) (os : List Oper) : StepsX P C E0 l fs i os []
  | cons {i : Nat} {o : Oper} {os : List Oper} {f : EffX} {gs : List EffX} : (∀ E, AtX E0 l fs i E → OpStep P C l.toArray o E (f.app E)) → StepsX P C E0 l fs (i + 1) os gs → StepsX P C E0 l fs i (o :: os) (f :: gs)
theorem StepsX.at_ {P : Program} {C : Ctx} {E0 : Env} {l : List Oper} {fs : List EffX} {i : Nat} {os : List Oper} {gs : List EffX} (h : StepsX P C E0 l fs i os gs) : ∀ (j : Nat) (o : Oper) (f : EffX), os[j]? = some o → gs[j]? = some f → ∀ E, AtX E0 l fs (i + j) E → OpStep P C l.toArray o E (f.app E) := by
  induction h with
  | nil i os => intro j o f _ hf; simp at hf
  | @cons i o os f gs h1 _ ih =>
    intro j o' f' ho hf
    cases j with
    | zero => simp at ho hf; subst ho hf; exact h1
    | succ j =>
      intro E hE
      exact ih j o' f' (by simpa using ho) (by simpa using hf) E (by rw [show i + 1 + j = i + (j + 1) from by omega]; exact hE)
theorem any_X {P : Program} {C : Ctx} {E0 : Env} {l : List Oper} {fs : List EffX} {QQ : Exit → Act → World → Prop} (hok : okX E0 l fs = true) (hst : StepsX P C E0 l fs 0 l fs)
    (hend : ∀ a w, Rel C (mkF E0 (fun _ => true) fs) a w → QQ .normal a w) :
    ∀ (fuel : Nat) (U : List Nat) (listed : Array Bool) (a : Act) (w : World), listed.size = l.length → (∀ j, j < l.length → listed.getD j false = false → j ∈ U) → U.length ≤ fuel →
      (∀ i o, l[i]? = some o → listed.getD i false = true → ∀ e ∈ o.after, Region.binds .any e = true → listed.getD e.on false = true) →
      Rel C (mkF E0 (fun j => listed.getD j false) fs) a w → wpAny P .any l.toArray QQ fuel listed a w := by
  simp only [okX, Bool.and_eq_true, beq_iff_eq] at hok
  obtain ⟨⟨⟨⟨⟨⟨o1, o2⟩, o3⟩, o4⟩, o5⟩, o6⟩, o7⟩ := hok
  have hac : ∀ i o, l[i]? = some o → ∀ e ∈ o.after, Region.binds .any e = true → e.on < i := fun i o ho e he hb => by
    have hil : i < l.length := (List.getElem?_eq_some_iff.1 ho).1
    have := allLt_spec o2 i hil
    rw [List.all_eq_true] at this
    have hd : l.getD i default = o := by rw [List.getD_eq_getElem?_getD, ho]; rfl
    have := this e (by rw [hd]; simpa using he)
    simp only [hb, Bool.not_true, Bool.false_or, decide_eq_true_eq] at this
    exact this
  have hdst : ∀ i, i < l.length → ∀ j, j < l.length → i ≠ j → ∀ t, (effAt fs i).dst = some t → (effAt fs j).dst ≠ some t := fun i hi j hj hne t h1 h2 => by
    have := allLt_spec (allLt_spec o4 i hi) j hj
    simp only [Bool.or_eq_true, beq_iff_eq, bne_iff_ne, h1, h2] at this
    rcases this with (h | h) | h
    · exact hne h
    · cases h
    · exact h rfl
  have hrow5 : ∀ i, i < l.length → ∀ x ∈ (effAt fs i).rows, E0.noref' x.1 = true ∧ (effAt fs i).dead.contains x.1 = false ∧ ∀ j, j < l.length → i ≠ j → ((effAt fs j).rows.any fun y => y.1 == x.1) = false ∧ (reach l j i = true ∨ ((effAt fs j).pv.cells.any (·.ment x.1) = false ∧ (match (effAt fs j).box with | some y => y.2.2.all (fun c => !c.ment x.1) | none => true) = true ∧ (effAt fs j).dead.contains x.1 = false)) := fun i hi x hx => by
    have := allLt_spec o5 i hi
    rw [List.all_eq_true] at this
    have := this x hx
    simp only [Bool.and_eq_true, Bool.not_eq_true'] at this
    obtain ⟨⟨h1, h2⟩, h3⟩ := this
    refine ⟨h1, h2, fun j hj hne => ?_⟩
    have := allLt_spec h3 j hj
    simp only [Bool.or_eq_true, beq_iff_eq, Bool.and_eq_true, Bool.not_eq_true'] at this
    rcases this with h | ⟨h, h'⟩
    · exact absurd h hne
    · refine ⟨h, ?_⟩
      rcases h' with h' | ⟨⟨p, q⟩, s⟩
      · exact .inl h'
      · exact .inr ⟨p, q, s⟩
  have hbox7 : ∀ i, i < l.length → ∀ x, (effAt fs i).box = some x → (effAt fs i).dst = some x.1 → E0.nobox x.1 = true ∧ ∀ j, j < l.length → i ≠ j → (reach l j i = true ∨ ((effAt fs j).pv.cells.any (·.isBox x.1) = false ∧ ∀ y, (effAt fs j).box = some y → y.1 ≠ x.1 ∧ y.2.2.all (fun c => !c.isBox x.1) = true)) := fun i hi x hx hd => by
    have := allLt_spec o7 i hi
    simp only [hx, hd, bne_self_eq_false, Bool.false_or, Bool.and_eq_true] at this
    obtain ⟨h1, h2⟩ := this
    refine ⟨h1, fun j hj hne => ?_⟩
    have := allLt_spec h2 j hj
    simp only [Bool.or_eq_true, beq_iff_eq, Bool.and_eq_true, Bool.not_eq_true'] at this
    rcases this with (h | h) | ⟨h3, h4⟩
    · exact absurd h hne
    · exact .inl h
    · refine .inr ⟨h3, fun y hy => ?_⟩
      simp only [hy, Bool.and_eq_true, bne_iff_ne] at h4
      exact h4
  have hall : ∀ (L : Nat → Bool), (∀ j, j < fs.length → L j = true) → mkF E0 L fs = mkF E0 (fun _ => true) fs := fun L hL => by
    have t1 : ∀ (gs : List EffX) (k : Nat), (∀ j, j < gs.length → L (k + j) = true) → tmX L k gs = tmX (fun _ => true) k gs ∧ rowsX L k gs = rowsX (fun _ => true) k gs ∧ deadX L k gs = deadX (fun _ => true) k gs ∧ boxX L k gs = boxX (fun _ => true) k gs := by
      intro gs
      induction gs with
      | nil => intro k _; exact ⟨rfl, rfl, rfl, rfl⟩
      | cons g gs ih =>
        intro k h
        obtain ⟨h1, h2, h3, h4⟩ := ih (k + 1) fun j hj => by have := h (j + 1) (by simp; omega); rwa [show k + (j + 1) = k + 1 + j from by omega] at this
        have h0 : L k = true := by simpa using h 0 (by simp)
        simp only [tmX, rowsX, deadX, boxX, h1, h2, h3, h4, h0]
        exact ⟨trivial, trivial, trivial, trivial⟩
    obtain ⟨h1, h2, h3, h4⟩ := t1 fs 0 fun j hj => by rw [Nat.zero_add]; exact hL j hj
    simp only [mkF, h1, h2, h3, h4]
  intro fuel
  induction fuel with
  | zero =>
    intro U listed a w hs hU hf hcl R
    have hl : ∀ j, j < l.length → listed.getD j false = true := fun j hj => by
      cases h : listed.getD j false with
      | true => rfl
      | false => have := hU j hj h; have h0 : U = [] := List.eq_nil_of_length_eq_zero (by omega); rw [h0] at this; cases this
    rw [hall _ fun j hj => hl j (by omega)] at R
    refine ⟨?_, hend a w R⟩
    rw [List.eq_nil_iff_forall_not_mem]
    intro j hj
    obtain ⟨h1, o, ho, _⟩ := mem_ready.1 hj
    have hjl : j < l.length := by simpa using (Array.getElem?_eq_some_iff.1 ho).1
    have e : listed.getD j true = listed.getD j false := by simp [Array.getD_eq_getD_getElem?, Array.getElem?_eq_getElem (show j < listed.size by omega)]
    rw [e, hl j hjl] at h1
    cases h1
  | succ fuel ih =>
    intro U listed a w hs hU hf hcl R
    refine ⟨fun hr => ?_, fun i hi => ?_⟩
    · refine hend a w ?_
      rw [← hall (fun j => listed.getD j false) fun j hj => ?_]
      · exact R
      · cases h : listed.getD j false with
        | true => rfl
        | false =>
          exfalso
          have least : ∀ n, ∀ j, j ≤ n → j < l.length → listed.getD j false = false → ∃ q, q < l.length ∧ listed.getD q false = false ∧ ∀ p, p < q → listed.getD p false = true := by
            intro n
            induction n with
            | zero => intro j hjn hj hjf; exact ⟨j, hj, hjf, fun p hp => by omega⟩
            | succ n ihn =>
              intro j hjn hj hjf
              by_cases hlow : ∃ p, p < j ∧ listed.getD p false = false
              · obtain ⟨p, hp, hpf⟩ := hlow; exact ihn p (by omega) (by omega) hpf
              · exact ⟨j, hj, hjf, fun p hp => by cases h : listed.getD p false with | true => rfl | false => exact absurd ⟨p, hp, h⟩ hlow⟩
          obtain ⟨q, hq, hqf, hlow⟩ := least j j (Nat.le_refl _) (by omega) h
          have hqo : l[q]? = some l[q] := List.getElem?_eq_getElem hq
          have : q ∈ Region.ready .any l.toArray listed := mem_ready.2 ⟨by
            rw [← hqf]; simp [Array.getD_eq_getD_getElem?, Array.getElem?_eq_getElem (show q < listed.size by omega)], l[q], by simpa using hqo, fun e he hb => hlow _ (hac q _ hqo e he hb)⟩
          rw [hr] at this
          cases this
    · obtain ⟨h1, o, ho, hpre⟩ := mem_ready.1 hi
      have hil : i < l.length := by simpa using (Array.getElem?_eq_some_iff.1 ho).1
      have hio : l[i]? = some o := by simpa using ho
      have hif : listed.getD i false = false := by
        rw [← h1]; simp [Array.getD_eq_getD_getElem?, Array.getElem?_eq_getElem (show i < listed.size by omega)]
      have hrc := reach_closed (L := fun q => listed.getD q false) hac hcl i o hio hpre
      have hnot : ∀ j, j < l.length → reach l j i = true → listed.getD j false = false := fun j hj h => by
        cases hLj : listed.getD j false with
        | false => rfl
        | true =>
          have hjo : l[j]? = some l[j] := List.getElem?_eq_getElem hj
          have := reach_closed (L := fun q => listed.getD q false) hac hcl j _ hjo (fun e he hb => hcl j _ hjo hLj e he hb) i h
          rw [hif] at this; cases this
      have hsame : ∀ j, j < l.length → seen l i j = true → listed.getD j false = reach l i j := fun j hj h => by
        by_cases hr : reach l i j = true
        · rw [hr]; exact hrc j hr
        · simp only [seen, Bool.or_eq_true, beq_iff_eq] at h
          have hr' : reach l i j = false := by simpa using hr
          rw [hr']
          rcases h with (h | h) | h
          · exact absurd h hr
          · exact hnot j hj h
          · subst h; exact hif
      have hlen : fs.length = l.length := o1
      have hf' : fs[i]? = some (effAt fs i) := by rw [effAt, List.getD_eq_getElem?_getD, List.getElem?_eq_getElem (by omega)]; rfl
      have hat : AtX E0 l fs i (mkF E0 (fun j => listed.getD j false) fs) := by
        refine ⟨fun t ht => ?_, fun r hr => ?_, fun b hb => ?_, fun x hx => ?_, fun x hx hd => ?_⟩
        · rw [mkF_get, mkF_get, tm_agree (L' := reach l i) fs 0 fun j hj hd => by
            rw [Nat.zero_add]
            have := allLt_spec ht j hj
            simp only [Bool.or_eq_true, bne_iff_ne] at this
            rcases this with h | h
            · exact absurd hd h
            · exact hsame j (by omega) h]
        · rw [mkF_row, mkF_row]
          have hk : ∀ j, j < fs.length → (((effAt fs j).rows.any fun x => x.1 == r) = true ∨ (effAt fs j).dead.contains r = true) → listed.getD (0 + j) false = reach l i (0 + j) := fun j hj hd => by
            rw [Nat.zero_add]
            have := allLt_spec hr j hj
            simp only [Bool.or_eq_true, Bool.and_eq_true, Bool.not_eq_true'] at this
            rcases this with ⟨p, q⟩ | h
            · rcases hd with hd | hd
              · rw [p] at hd; cases hd
              · rw [q] at hd; cases hd
            · exact hsame j (by omega) h
          rw [dead_agree (L' := reach l i) fs 0 fun j hj hd => hk j hj (.inr hd), rows_agree (L' := reach l i) fs 0 fun j hj hd => hk j hj (.inl hd)]
        · rw [mkF_box, mkF_box, box_agree (L' := reach l i) fs 0 fun j x hj hd => by
            rw [Nat.zero_add]
            have := allLt_spec hb j hj
            simp only [hd, Bool.or_eq_true, bne_iff_ne, ne_eq, not_true_eq_false, false_or] at this
            exact hsame j (by omega) this]
        · obtain ⟨e1, e0, e2⟩ := hrow5 i hil x hx
          simp only [Env.noref', Bool.and_eq_true, List.all_eq_true, Option.isNone_iff_eq_none] at e1 ⊢
          obtain ⟨⟨f1, f2⟩, f3⟩ := e1
          refine ⟨⟨fun y hy c hc => ?_, fun y hy => ?_⟩, ?_⟩
          · rcases List.mem_append.1 hy with h | h
            · obtain ⟨j, hj, hLj, hd, hp⟩ := tmX_mem fs 0 h
              rw [Nat.zero_add] at hLj
              have hji : i ≠ j := by rintro rfl; rw [hif] at hLj; cases hLj
              rcases (e2 j (by omega) hji).2 with h | ⟨h, _⟩
              · rw [hnot j (by omega) h] at hLj; cases hLj
              · rw [← hp] at hc
                rw [List.any_eq_false] at h
                simpa using h c hc
            · exact f1 y h c hc
          · rcases List.mem_append.1 hy with h | h
            · obtain ⟨j, hj, hLj, hd⟩ := boxX_mem fs 0 h
              rw [Nat.zero_add] at hLj
              have hji : i ≠ j := by rintro rfl; rw [hif] at hLj; cases hLj
              rcases (e2 j (by omega) hji).2 with h | ⟨_, h, _⟩
              · rw [hnot j (by omega) h] at hLj; cases hLj
              · rw [hd] at h
                intro c hc
                rw [List.all_eq_true] at h
                exact h c hc
            · exact f2 y h
          · show (mkF E0 (fun j => listed.getD j false) fs).row x.1 = none
            rw [mkF_row]
            split
            · rfl
            · have : lk (rowsX (fun j => listed.getD j false) 0 fs) x.1 = lk (rowsX (fun _ => false) 0 fs) x.1 := rows_agree fs 0 fun j hj hd => by
                rw [Nat.zero_add]
                by_cases hji : i = j
                · subst hji; exact hif
                · rw [(e2 j (by omega) hji).1] at hd; cases hd
              rw [this]
              have hz : ∀ (gs : List EffX) (k : Nat), rowsX (fun _ => false) k gs = [] := by
                intro gs
                induction gs with
                | nil => intro k; rfl
                | cons g gs ih => intro k; simp only [rowsX]; simpa using ih _
              rw [hz]
              exact f3
        · obtain ⟨e1, e2⟩ := hbox7 i hil x hx hd
          simp only [Env.nobox, Bool.and_eq_true, List.all_eq_true, Option.isNone_iff_eq_none] at e1 ⊢
          obtain ⟨⟨f1, f2⟩, f3⟩ := e1
          refine ⟨⟨fun y hy c hc => ?_, fun y hy => ?_⟩, ?_⟩
          · rcases List.mem_append.1 hy with h | h
            · obtain ⟨j, hj, hLj, hd', hp⟩ := tmX_mem fs 0 h
              rw [Nat.zero_add] at hLj
              have hji : i ≠ j := by rintro rfl; rw [hif] at hLj; cases hLj
              rcases e2 j (by omega) hji with h | ⟨h, _⟩
              · rw [hnot j (by omega) h] at hLj; cases hLj
              · rw [← hp] at hc
                rw [List.any_eq_false] at h
                simpa using h c hc
            · exact f1 y h c hc
          · rcases List.mem_append.1 hy with h | h
            · obtain ⟨j, hj, hLj, hb'⟩ := boxX_mem fs 0 h
              rw [Nat.zero_add] at hLj
              have hji : i ≠ j := by rintro rfl; rw [hif] at hLj; cases hLj
              rcases e2 j (by omega) hji with h | ⟨_, h⟩
              · rw [hnot j (by omega) h] at hLj; cases hLj
              · intro c hc
                have h5 := (h y hb').2
                rw [List.all_eq_true] at h5
                exact h5 c hc
            · exact f2 y h
          · show lk (boxX (fun j => listed.getD j false) 0 fs ++ E0.boxes) x.1 = none
            rw [lk_append, f3]
            have : lk (boxX (fun j => listed.getD j false) 0 fs) x.1 = none := lk_none fun y hy => by
              obtain ⟨j, hj, hLj, hb'⟩ := boxX_mem fs 0 hy
              rw [Nat.zero_add] at hLj
              have hji : i ≠ j := by rintro rfl; rw [hif] at hLj; cases hLj
              rcases e2 j (by omega) hji with h | ⟨_, h⟩
              · rw [hnot j (by omega) h] at hLj; cases hLj
              · exact (h y hb').1
            rw [this]; rfl
      have hstep := hst.at_ i o (effAt fs i) hio hf' _ (by rw [Nat.zero_add]; exact hat)
      unfold wpOp
      rw [ho]
      simp only
      have hgo := hstep a w R (wpAny P .any l.toArray QQ fuel (listed.setIfInBounds i true)) QQ fun a' w' R' => ?_
      · split
        · rename_i hw; rw [if_pos hw] at hgo; exact .inl hgo
        · rename_i hw; rw [if_neg hw] at hgo; exact hgo
      · have hset : ∀ j, (listed.setIfInBounds i true).getD j false = if j = i then true else listed.getD j false := fun j => by
          by_cases h : i = j
          · subst h; simp [Array.getD_eq_getD_getElem?, Array.getElem?_setIfInBounds, hs, hil]
          · rw [getD_set_ne false h, if_neg (fun e => h e.symm)]
        refine ih (U.erase i) _ a' w' (by simp [hs]) (fun j hj hjf => ?_) ?_ (fun q oq hq hql e he hb => ?_) ?_
        · rw [hset] at hjf
          split at hjf
          · cases hjf
          · rename_i hji; exact (List.mem_erase_of_ne hji).2 (hU j hj hjf)
        · have := List.length_erase_of_mem (hU i hil hif)
          have hpos : 0 < U.length := List.length_pos_of_mem (hU i hil hif)
          omega
        · rw [hset] at hql ⊢
          split at hql
          · rename_i hqi; subst hqi
            rw [hio] at hq; injection hq with hq; subst hq
            split
            · rfl
            · exact hpre e he hb
          · split
            · rfl
            · exact hcl q oq hq hql e he hb
        · -- the state behind it
          have hoff : ∀ j, j ≠ i → (listed.setIfInBounds i true).getD j false = listed.getD j false := fun j hj => by rw [hset, if_neg hj]
          refine R'.weaken ⟨fun t => ?_, fun r x hx => ?_, fun b T ps hb => ?_⟩
          · rw [app_get]
            have : (mkF E0 (fun j => (listed.setIfInBounds i true).getD j false) fs).get t = if (effAt fs i).dst = some t then (effAt fs i).pv else (mkF E0 (fun j => listed.getD j false) fs).get t := by
              by_cases ht : (effAt fs i).dst = some t
              · rw [if_pos ht, mkF_get, tm_only fs 0 (by omega) (by rw [Nat.zero_add, hset, if_pos rfl]) ht (fun j hj hji => hdst i hil j (by omega) (fun e => hji e.symm) t ht)]
                rfl
              · rw [if_neg ht, mkF_get, mkF_get, tm_agree (L' := fun j => listed.getD j false) fs 0 fun j hj hd => by
                  rw [Nat.zero_add]
                  refine hoff j ?_
                  rintro rfl; exact ht hd]
            rw [this]
            exact PV.le_refl _
          · rw [app_row]
            rw [mkF_row] at hx
            by_cases hd : (effAt fs i).dead.contains r = true
            · exfalso
              have : (deadX (fun j => (listed.setIfInBounds i true).getD j false) 0 fs).contains r = true := by
                have key : ∀ (gs : List EffX) (k i0 : Nat) (L : Nat → Bool), i0 < gs.length → L (k + i0) = true → (effAt gs i0).dead.contains r = true → (deadX L k gs).contains r = true := by
                  intro gs
                  induction gs with
                  | nil => intro k i0 L h; simp at h
                  | cons g gs ih =>
                    intro k i0 L h1 h2 h3
                    simp only [deadX, List.contains_append, Bool.or_eq_true]
                    cases i0 with
                    | zero => left; rw [if_pos (by simpa using h2)]; exact h3
                    | succ i0 => right; exact ih (k + 1) i0 L (by simpa using h1) (by rw [← h2]; congr 1; omega) h3
                exact key fs 0 i _ (by omega) (by rw [Nat.zero_add, hset, if_pos rfl]) hd
              rw [if_pos this] at hx
              cases hx
            · rw [if_neg hd, mkF_row]
              rw [dead_agree (L' := fun j => listed.getD j false) fs 0 fun j hj hdj => by
                rw [Nat.zero_add]
                refine hoff j ?_
                rintro rfl; exact hd hdj] at hx
              by_cases hin : ((effAt fs i).rows.any fun x => x.1 == r) = true
              · obtain ⟨y, hy, hyr⟩ := List.any_eq_true.1 hin
                have hyr' : y.1 = r := by simpa using hyr
                rw [rows_only (i0 := i) fs 0 (by omega) (by rw [Nat.zero_add, hset, if_pos rfl]) (fun j hj hji => by
                  have := ((hrow5 i hil y hy).2.2 j (by omega) (fun e => hji e.symm)).1
                  rwa [hyr'] at this)] at hx
                split at hx
                · cases hx
                · cases hl : lk (effAt fs i).rows r with
                  | some z => rw [hl] at hx; rw [← hx]; rfl
                  | none =>
                    exfalso
                    have hsome : (lk (effAt fs i).rows r).isSome = true := by
                      clear hx hl hin
                      generalize (effAt fs i).rows = q at hy
                      induction q with
                      | nil => cases hy
                      | cons z q ih =>
                        obtain ⟨k, v⟩ := z
                        simp only [lk]
                        split
                        · rfl
                        · rename_i hne
                          rcases List.mem_cons.1 hy with rfl | hy
                          · exact absurd hyr' hne
                          · exact ih hy
                    rw [hl] at hsome; cases hsome
              · have hln : lk (effAt fs i).rows r = none := lk_none fun y hy hyr => hin (List.any_eq_true.2 ⟨y, hy, by simp [hyr]⟩)
                rw [hln, Option.none_or]
                rw [rows_agree (L' := fun j => listed.getD j false) fs 0 fun j hj hdj => by
                  rw [Nat.zero_add]
                  refine hoff j ?_
                  rintro rfl; exact hin hdj] at hx
                exact hx
          · rw [app_box]
            rw [mkF_box] at hb
            refine ⟨ps, ?_, All2.refl PC.le_refl ps⟩
            cases hbi : (effAt fs i).box with
            | none =>
              simp only [Option.none_or]
              rw [mkF_box]
              rw [box_agree (L' := fun j => listed.getD j false) fs 0 fun j x hj hdj => by
                rw [Nat.zero_add]
                refine hoff j ?_
                rintro rfl; rw [hbi] at hdj; cases hdj] at hb
              exact hb
            | some y =>
              obtain ⟨c, x⟩ := y
              by_cases e : c = b
              · subst e
                rw [box_top (b := c) (x := x) fs 0 (show i < fs.length by omega) (by rw [Nat.zero_add, hset, if_pos rfl]) hbi (fun j y hij hj hdj => by
                  rw [Nat.zero_add, hoff j (by omega)]
                  have := allLt_spec o6 i hil
                  rw [hbi] at this
                  have := allLt_spec this j (by omega)
                  simp only [hdj, Bool.or_eq_true, beq_iff_eq, bne_iff_ne, ne_eq, not_true_eq_false, false_or] at this
                  rcases this with h | h | h
                  · omega
                  · exfalso
                    have := hac
                    have hlt : j < i := by
                      have hh := reach_closed (l := l) (L := fun q => decide (q < i)) hac (fun a oa ha hLa e he hb => by
                        have := hac a oa ha e he hb
                        simp only [decide_eq_true_eq] at hLa ⊢; omega) i o hio (fun e he hb => by simpa using hac i o hio e he hb) j h
                      simpa using hh
                    omega
                  · exact hnot j (by omega) h)] at hb
                simp only [if_pos]
                exact hb
              · simp only [if_neg e, Option.none_or]
                rw [mkF_box]
                rw [box_agree (L' := fun j => listed.getD j false) fs 0 fun j z hj hdj => by
                  rw [Nat.zero_add]
                  refine hoff j ?_
                  rintro rfl; rw [hbi] at hdj; injection hdj with hdj; injection hdj with h _; exact e h] at hb
                exact hb
theorem T.drawX {P : Program} {C : Ctx} {id : Nat} {l : List Oper} {E0 : Env} {Q : Exit → Env → Prop} (fs : List EffX) (hm : P.follows .mixedOrders = true) (hok : okX E0 l fs = true) (hst : StepsX P C E0 l fs 0 l fs)
    (htail : TL P C l.toArray [] (mkF E0 (fun _ => true) fs) (Q .normal)) : T P C (.region id l.toArray true) E0 Q := by
  intro a w ⟨M, R⟩
  refine wp_region_any hm ?_
  have R' := R.drew
  have hrep : ∀ j, (Array.replicate l.toArray.size false).getD j false = false := fun j => by simp [Array.getD_eq_getD_getElem?, Array.getElem?_replicate]; split <;> rfl
  refine any_X hok hst (fun a w R => htail a w R _ fun a' w' E' hq R' => ⟨E', hq, R'⟩) _ (List.range l.length) _ a _ (by simp) (fun j hj _ => by simpa using hj) (by simp) (fun i o ho h => ?_) ?_
  · rw [hrep i] at h; cases h
  · have e : mkF E0 (fun j => (Array.replicate l.toArray.size false).getD j false) fs = E0 := by
      have t1 : ∀ (gs : List EffX) (k : Nat), tmX (fun j => (Array.replicate l.toArray.size false).getD j false) k gs = [] ∧ rowsX (fun j => (Array.replicate l.toArray.size false).getD j false) k gs = [] ∧ deadX (fun j => (Array.replicate l.toArray.size false).getD j false) k gs = [] ∧ boxX (fun j => (Array.replicate l.toArray.size false).getD j false) k gs = [] := by
        intro gs
        induction gs with
        | nil => intro k; exact ⟨rfl, rfl, rfl, rfl⟩
        | cons g gs ih =>
          intro k
          obtain ⟨h1, h2, h3, h4⟩ := ih (k + 1)
          have h0 := hrep k
          simp only [tmX, rowsX, deadX, boxX, h1, h2, h3, h4, h0]
          simp
      obtain ⟨h1, h2, h3, h4⟩ := t1 fs 0
      simp only [mkF, h1, h2, h3, h4, List.nil_append]
      have : (E0.rows.filter fun x => !([] : List Nat).contains x.1) = E0.rows := by simp
      rw [this]
    rw [e]
    exact ⟨M, R'⟩
def CRel (E2 : Env) (c2 c1 : PC) : Prop := c2 = .und ∨ c2 = c1 ∨ ∃ r, c2.ment r = true ∧ E2.row r = none
def PRel (E2 : Env) : PV → PV → Prop
  | .one c2, .one c1 => CRel E2 c2 c1
  | .agg cs2, .agg cs1 => All2 (CRel E2) cs2 cs1
  | .tup vs2, .tup vs1 => All2 (fun x y => x.1 = y.1 ∧ All2 (CRel E2) x.2 y.2) vs2 vs1
  | _, _ => False
theorem CRel.ok {M : Maps} {E1 E2 : Env} {w : World} (hrow : ∀ r x, E2.row r = some x → E1.row r = some x) {v : Value} {c2 c1 : PC} (hr : CRel E2 c2 c1) (h : COk M E1 w v c1) : COk M E2 w v c2 := by
  rcases hr with rfl | rfl | ⟨r, h1, h2⟩
  · trivial
  · cases c2 with
    | row r p => exact fun T d hT => h T d (hrow r _ hT)
    | rptr r p i j => exact fun T d hT => h T d (hrow r _ hT)
    | _ => exact h
  · cases c2 with
    | row x p => simp only [PC.ment, beq_iff_eq] at h1; subst h1; intro T d hT; rw [h2] at hT; cases hT
    | rptr x p i j => simp only [PC.ment, beq_iff_eq] at h1; subst h1; intro T d hT; rw [h2] at hT; cases hT
    | _ => simp [PC.ment] at h1
theorem all_crel {M : Maps} {E1 E2 : Env} {w : World} (hrow : ∀ r x, E2.row r = some x → E1.row r = some x) {ps2 ps1 : List PC} (hr : All2 (CRel E2) ps2 ps1) : ∀ {vs : List Value}, All2 (COk M E1 w) vs ps1 → All2 (COk M E2 w) vs ps2 := by
  induction hr with
  | nil => intro vs h; cases h; exact .nil
  | cons h1 _ ih => intro vs h; cases h with | cons k1 k2 => exact .cons (h1.ok hrow k1) (ih k2)
theorem RelM.undead {C : Ctx} {M : Maps} {E1 E2 : Env} {a : Act} {w : World} (R : RelM C M E1 a w) (hget : ∀ t, PRel E2 (E2.get t) (E1.get t)) (hrow : ∀ r x, E2.row r = some x → E1.row r = some x)
    (hbox : ∀ b T ps2, E2.box b = some (T, ps2) → ∃ ps1, E1.box b = some (T, ps1) ∧ All2 (CRel E2) ps2 ps1) : RelM C M E2 a w := by
  refine { R with tm := fun t => ?_, rows := fun r T d hr => R.rows r T d (hrow r _ hr), boxes := ?_, pin := fun r v hp T d hr => R.pin r v hp T d (hrow r _ hr), bpin := fun b v hp hn T ps hb => by obtain ⟨ps1, h1, _⟩ := hbox b T ps hb; exact R.bpin b v hp hn T ps1 h1 }
  · have h := R.tm t
    have hr := hget t
    generalize E2.get t = p2 at hr ⊢
    generalize E1.get t = p1 at h hr
    cases p2 with
    | one c2 =>
      cases p1 with
      | one c1 => exact CRel.ok hrow hr h
      | agg _ => exact hr.elim
      | tup _ => exact hr.elim
    | agg cs2 =>
      cases p1 with
      | one _ => exact hr.elim
      | agg cs1 => obtain ⟨arr, e, h⟩ := h; exact ⟨arr, e, all_crel hrow hr h⟩
      | tup _ => exact hr.elim
    | tup vs2 =>
      cases p1 with
      | one _ => exact hr.elim
      | agg _ => exact hr.elim
      | tup vs1 =>
        obtain ⟨arr, e, h⟩ := h
        refine ⟨arr, e, ?_⟩
        clear e
        generalize arr.toList = l at h
        have hr' : All2 (fun x y => x.1 = y.1 ∧ All2 (CRel E2) x.2 y.2) vs2 vs1 := hr
        clear hr
        induction hr' generalizing l with
        | nil => cases h; exact .nil
        | @cons x y vs2 vs1 h1 _ ih =>
          cases h with
          | @cons v _ l _ k1 k2 =>
            refine .cons ?_ (ih _ k2)
            obtain ⟨b2, cs2⟩ := x
            obtain ⟨b1, cs1⟩ := y
            obtain ⟨e1, h1⟩ := h1
            dsimp only at e1 h1
            subst e1
            cases b2 with
            | true => obtain ⟨arr', e', h'⟩ := k1; exact ⟨arr', e', all_crel hrow h1 h'⟩
            | false =>
              cases h1 with
              | nil => exact k1
              | @cons c2 c1 l2 l1 q1 q2 =>
                cases q2 with
                | nil => exact CRel.ok hrow q1 k1
                | cons _ _ => exact k1.elim
  · intro b T ps2 hb
    obtain ⟨ps1, h1, h2⟩ := hbox b T ps2 hb
    obtain ⟨k1, cs, k2, k3⟩ := R.boxes b T ps1 h1
    exact ⟨k1, cs, k2, all_crel hrow h2 k3⟩
theorem prel_mapc {E2 : Env} {h : PC → PC} (hh : ∀ c, CRel E2 c (h c)) (p : PV) : PRel E2 p (p.mapc h) := by
  have hl : ∀ cs : List PC, All2 (CRel E2) cs (cs.map h) := fun cs => by
    induction cs with
    | nil => exact .nil
    | cons c cs ih => exact .cons (hh c) ih
  cases p with
  | one c => exact hh c
  | agg cs => exact hl cs
  | tup vs =>
    show All2 _ vs (vs.map _)
    induction vs with
    | nil => exact .nil
    | cons y vs ih => exact .cons ⟨rfl, hl y.2⟩ ih
theorem PV.mapc_mapc (f g : PC → PC) (p : PV) : (p.mapc f).mapc g = p.mapc (fun c => g (f c)) := by
  cases p <;> simp [PV.mapc, List.map_map, Function.comp_def]
theorem drops_g (ss : List Nat) : ∀ E : Env, ∃ g : PC → PC, g .und = .und ∧ (∀ c, g c = c ∨ ∃ s ∈ ss, c.ment s = true) ∧ (∀ u, (E.drops ss).get u = (E.get u).mapc g) ∧ (∀ b, (E.drops ss).box b = (E.box b).map fun x => (x.1, x.2.map g)) := by
  induction ss with
  | nil =>
    intro E
    refine ⟨id, rfl, fun c => .inl rfl, fun u => ?_, fun b => ?_⟩
    · show E.get u = _
      cases E.get u <;> simp [PV.mapc]
    · show E.box b = _
      cases E.box b <;> simp
  | cons s ss ih =>
    intro E
    obtain ⟨g, g0, g1, g2, g3⟩ := ih (E.drop s)
    have hu : PC.kill s .und = .und := by rcases PC.kill_ok s .und with h | ⟨h, _⟩ <;> exact h
    refine ⟨fun c => g (c.kill s), by show g (PC.kill s .und) = .und; rw [hu]; exact g0, fun c => ?_, fun u => ?_, fun b => ?_⟩
    · by_cases hm : c.ment s = true
      · exact .inr ⟨s, by simp, hm⟩
      · have : c.kill s = c := by simp [PC.kill, hm]
        show g (c.kill s) = c ∨ _
        rw [this]
        rcases g1 c with h | ⟨x, hx, h⟩
        · exact .inl h
        · exact .inr ⟨x, by simp [hx], h⟩
    · show ((E.drop s).drops ss).get u = _
      rw [g2]
      have : (E.drop s).get u = (E.get u).mapc (PC.kill s) := Env.get_mapc E (PC.kill s) hu u
      rw [this, PV.mapc_mapc]
    · show ((E.drop s).drops ss).box b = _
      rw [g3]
      have : (E.drop s).box b = (E.box b).map fun x => (x.1, x.2.map (PC.kill s)) := Env.box_mapc E (PC.kill s) b
      rw [this]
      cases E.box b <;> simp [List.map_map, Function.comp_def]
theorem Step.post {P : Program} {C : Ctx} {o : Oper} {E E1 E2 : Env} (h : Step P C o E E1) (hr : ∀ a w, Rel C E1 a w → Rel C E2 a w) : Step P C o E E2 := fun a w R K Q hK => h a w R K Q fun a' w' R' => hK a' w' (hr a' w' R')
theorem ren_id {c : PC} {r s : Nat} (h : c.ment r = false) : c.ren r s = c := by
  cases c with
  | row x p => simp only [PC.ment, beq_eq_false_iff_ne] at h; simp only [PC.ren]; rw [if_neg (fun e => h e.symm)]
  | rptr x p i j => simp only [PC.ment, beq_eq_false_iff_ne] at h; simp only [PC.ren]; rw [if_neg (fun e => h e.symm)]
  | _ => rfl
theorem Env.get_ren (E : Env) (r s t : Nat) : (E.ren r s).get t = (E.get t).mapc (PC.ren r s) := Env.get_mapc E (PC.ren r s) rfl t
theorem Env.box_mapc' {f : PC → PC} {E : Env} {r s : Nat} {b : Nat} (hf : f = PC.ren r s := by rfl) : (E.ren r s).box b = (E.box b).map fun x => (x.1, x.2.map f) := by subst hf; exact Env.box_mapc E (PC.ren r s) b
theorem Env.row_ren {E : Env} {r s x : Nat} (hs : lk E.rows s = none) : (E.ren r s).row x = if x = s then E.row r else if x = r then none else E.row x := by
  have key : ∀ l : List (Nat × (TypeId × D)), lk l s = none → lk (l.map fun x => (if x.1 = r then s else x.1, x.2)) x = if x = s then lk l r else if x = r then none else lk l x := by
    intro l
    induction l with
    | nil => intro _; simp [lk]
    | cons y l ih =>
      intro h0
      obtain ⟨k, v⟩ := y
      simp only [lk] at h0
      split at h0
      · cases h0
      · rename_i hk
        have ih := ih h0
        simp only [List.map_cons, lk]
        by_cases e : k = r
        · subst e
          rw [if_pos rfl]
          by_cases e2 : s = x
          · subst e2; simp
          · have e2' : ¬ x = s := fun h => e2 h.symm
            rw [if_neg e2, ih, if_neg e2', if_neg e2']
            by_cases e3 : x = k
            · rw [if_pos e3, if_pos e3]
            · rw [if_neg e3, if_neg e3, if_neg (fun h : k = x => e3 h.symm)]
        · rw [if_neg e]
          by_cases e2 : k = x
          · subst e2
            rw [if_pos rfl, if_neg hk, if_neg e, if_pos rfl]
          · rw [if_neg e2, ih]
            by_cases e3 : x = s
            · rw [if_pos e3, if_pos e3, if_neg e]
            · rw [if_neg e3, if_neg e3]
              split
              · rfl
              · rfl
  exact key E.rows hs
theorem drops_noref {E : Env} {s : Nat} : ∀ (ss : List Nat) (E : Env), E.noref' s = true → (E.drops ss).noref' s = true := by
  intro ss
  induction ss with
  | nil => intro E h; exact h
  | cons x ss ih =>
    intro E h
    refine ih (E.drop x) ?_
    simp only [Env.noref', Bool.and_eq_true, List.all_eq_true, Option.isNone_iff_eq_none] at h ⊢
    obtain ⟨⟨h1, h2⟩, h3⟩ := h
    have hk : ∀ c : PC, c.ment s = false → (c.kill x).ment s = false := fun c hc => by unfold PC.kill; split; rfl; exact hc
    refine ⟨⟨fun y hy c hc => ?_, fun y hy c hc => ?_⟩, ?_⟩
    · obtain ⟨z, hz, rfl⟩ := List.mem_map.1 hy
      have : ∀ c' ∈ z.2.cells, c'.ment s = false := fun c' hc' => by simpa using h1 z hz c' hc'
      obtain ⟨t, p⟩ := z
      simp only at hc this
      cases p with
      | one c0 =>
        simp only [PV.mapc, PV.cells, List.mem_singleton] at hc
        subst hc
        simpa using hk c0 (this c0 (by simp [PV.cells]))
      | agg cs =>
        simp only [PV.mapc, PV.cells, List.mem_map] at hc
        obtain ⟨c0, hc0, rfl⟩ := hc
        simpa using hk c0 (this c0 (by simpa [PV.cells] using hc0))
      | tup vs =>
        simp only [PV.mapc, PV.cells, List.mem_flatMap, List.mem_map] at hc
        obtain ⟨_, ⟨q, hq, rfl⟩, hc⟩ := hc
        obtain ⟨c0, hc0, rfl⟩ := List.mem_map.1 hc
        simpa using hk c0 (this c0 (by simp only [PV.cells, List.mem_flatMap]; exact ⟨q, hq, hc0⟩))
    · obtain ⟨z, hz, rfl⟩ := List.mem_map.1 hy
      obtain ⟨c0, hc0, rfl⟩ := List.mem_map.1 hc
      have := h2 z hz c0 hc0
      simp only [Bool.not_eq_true'] at this ⊢
      exact hk c0 this
    · show lk (E.rows.filter _) s = none
      rw [lk_filter]
      split
      · rfl
      · exact h3
theorem contains_iff {r : Nat} {D : List Nat} : D.contains r = true ↔ r ∈ D := by simp
theorem Step.appendX {P : Program} {C : Ctx} {o : Oper} {E : Env} {t : Nat} {T e z by_ : Nat} {x y : Operand} {r : Nat} {d dy d' : D} {c : PC} {ss : List Nat} (r2 : Nat) (ho : o.op = .call { callee := .builtin .append, args := #[x, y], argTypes := #[T, T] }) (hd : o.dst = some t) (ht : t < C.n)
    (hT : isElem P T e z by_ = true) (hx : E.ev x = .one (.row r [])) (hr : E.row r = some (e, d)) (hz : d.z = z) (hz0 : 0 < z) (hy : E.ev y = .one c) (hs : AppSrc E c dy ss) (hrs : r ∉ ss)
    (hap : d.app dy = some d') (h63 : (d.size + dy.size) * by_ ≤ 140737488355328) (h64 : d.size + dy.size ≤ 9223372036854775807) (hpin : ∀ x ∈ C.pin, x.1 ≠ r) (hf : E.noref' r2 = true) (hne : r ≠ r2) (hpin2 : ∀ x ∈ C.pin, x.1 ≠ r2) :
    Step P C o E (({ dst := some t, pv := .one (.row r2 []), rows := [(r2, (e, d'))], dead := r :: ss } : EffX).app E) :=
  (Step.append ho hd ht hT hx hr hz hz0 hy hs hrs hap h63 h64 hpin).post fun a w ⟨M, R⟩ => by
    have hss : ∀ q ∈ ss, (E.row q).isSome = true := fun q hq => by
      cases hs with
      | froz h1 h2 => cases hq
      | nil h1 h2 h3 => cases hq
      | move h => simp only [List.mem_singleton] at hq; subst hq; rw [h]; rfl
      | copy _ _ _ _ => cases hq
    generalize hA : ({ (E.drops ss).mapc (PC.kill r) with rows := (r, (e, d')) :: (E.drops ss).rows } : Env) = A at R
    obtain ⟨g, g0, g1, g2, g3⟩ := drops_g ss E
    have hku : PC.kill r .und = .und := by rcases PC.kill_ok r .und with h | ⟨h, _⟩ <;> exact h
    have hAget : ∀ u, A.get u = (E.get u).mapc (fun c => (g c).kill r) := fun u => by
      have : A.get u = ((E.drops ss).get u).mapc (PC.kill r) := by subst hA; exact Env.get_mapc (E.drops ss) (PC.kill r) hku u
      rw [this, g2, PV.mapc_mapc]
    have hAbox : ∀ b, A.box b = (E.box b).map fun x => (x.1, x.2.map (fun c => (g c).kill r)) := fun b => by
      have : A.box b = ((E.drops ss).box b).map fun x => (x.1, x.2.map (PC.kill r)) := by subst hA; exact Env.box_mapc (E.drops ss) (PC.kill r) b
      rw [this, g3]
      cases E.box b <;> simp [List.map_map, Function.comp_def]
    have hArow : ∀ x, A.row x = if r = x then some (e, d') else if x ∈ ss then none else E.row x := fun x => by
      subst hA
      show lk ((r, (e, d')) :: (E.drops ss).rows) x = _
      simp only [lk]
      split
      · rfl
      · exact Env.drops_row ss E x
    have hnoA : (A.set t (.one (.row r []))).noref' r2 = true := by
      have h0 := drops_noref (E := E) ss E hf
      have h1 : ({ (E.drops ss).mapc (PC.kill r) with rows := (E.drops ss).rows } : Env).noref' r2 = true := by
        simp only [Env.noref', Bool.and_eq_true, List.all_eq_true, Option.isNone_iff_eq_none] at h0 ⊢
        obtain ⟨⟨h1, h2⟩, h3⟩ := h0
        have hk : ∀ c : PC, c.ment r2 = false → (c.kill r).ment r2 = false := fun c hc => by unfold PC.kill; split; rfl; exact hc
        refine ⟨⟨fun y hy c hc => ?_, fun y hy c hc => ?_⟩, h3⟩
        · obtain ⟨z, hz, rfl⟩ := List.mem_map.1 hy
          have : ∀ c' ∈ z.2.cells, c'.ment r2 = false := fun c' hc' => by simpa using h1 z hz c' hc'
          obtain ⟨t, p⟩ := z
          simp only at hc this
          cases p with
          | one c0 =>
            simp only [PV.mapc, PV.cells, List.mem_singleton] at hc
            subst hc
            simpa using hk c0 (this c0 (by simp [PV.cells]))
          | agg cs =>
            simp only [PV.mapc, PV.cells, List.mem_map] at hc
            obtain ⟨c0, hc0, rfl⟩ := hc
            simpa using hk c0 (this c0 (by simpa [PV.cells] using hc0))
          | tup vs =>
            simp only [PV.mapc, PV.cells, List.mem_flatMap, List.mem_map] at hc
            obtain ⟨_, ⟨q, hq, rfl⟩, hc⟩ := hc
            obtain ⟨c0, hc0, rfl⟩ := List.mem_map.1 hc
            simpa using hk c0 (this c0 (by simp only [PV.cells, List.mem_flatMap]; exact ⟨q, hq, hc0⟩))
        · obtain ⟨z, hz, rfl⟩ := List.mem_map.1 hy
          obtain ⟨c0, hc0, rfl⟩ := List.mem_map.1 hc
          have := h2 z hz c0 hc0
          simp only [Bool.not_eq_true'] at this ⊢
          exact hk c0 this
      simp only [Env.noref', Bool.and_eq_true, List.all_eq_true, Option.isNone_iff_eq_none] at h1 ⊢
      obtain ⟨⟨h1, h2⟩, h3⟩ := h1
      subst hA
      refine ⟨⟨fun y hy c hc => ?_, h2⟩, ?_⟩
      · rcases List.mem_cons.1 hy with rfl | hy
        · simp only [PV.cells, List.mem_singleton] at hc
          subst hc
          simp only [PC.ment, Bool.not_eq_true', beq_eq_false_iff_ne]
          exact fun e => hne e.symm
        · exact h1 y hy c hc
      · show lk ((r, (e, d')) :: (E.drops ss).rows) r2 = none
        simp only [lk]
        rw [if_neg hne]; exact h3
    obtain ⟨M2, R2⟩ := R.ren (r := r) (s := r2) hnoA hpin2
    have hE2row : ∀ x, (({ dst := some t, pv := .one (.row r2 []), rows := [(r2, (e, d'))], dead := r :: ss } : EffX).app E).row x = if r2 = x then some (e, d') else if x ∈ r :: ss then none else E.row x := fun x => by
      rw [app_row]
      simp only [lk]
      split
      · rfl
      · simp only [Option.none_or]
        by_cases hx : x ∈ r :: ss
        · rw [if_pos hx, if_pos (contains_iff.2 hx)]
        · rw [if_neg hx, if_neg (fun h => hx (contains_iff.1 h))]
    have hcrel : ∀ c, CRel (({ dst := some t, pv := .one (.row r2 []), rows := [(r2, (e, d'))], dead := r :: ss } : EffX).app E) c (((g c).kill r).ren r r2) := fun c => by
      have hdead : ∀ s, s ∈ r :: ss → c.ment s = true → c.ment r2 = false → CRel (({ dst := some t, pv := .one (.row r2 []), rows := [(r2, (e, d'))], dead := r :: ss } : EffX).app E) c (((g c).kill r).ren r r2) := fun s hs hm hm2 => by
        refine .inr (.inr ⟨s, hm, ?_⟩)
        rw [hE2row, if_neg (fun e => by subst e; rw [hm] at hm2; cases hm2), if_pos hs]
      by_cases hm2 : c.ment r2 = true
      · -- a cell that goes into the new row: there is none, the same is told
        by_cases hm : c.ment r = true
        · cases c <;> simp_all [PC.ment]
        · have h1 : g c = c ∨ ∃ s ∈ ss, c.ment s = true := g1 c
          rcases h1 with h1 | ⟨s, hs, h1⟩
          · right; left
            rw [h1, show c.kill r = c from by simp [PC.kill, hm], ren_id (by simpa using hm)]
          · -- then s = r2, which no row of E has
            have : s = r2 := by cases c <;> simp_all [PC.ment]
            subst this
            right; right
            refine ⟨s, h1, ?_⟩
            exfalso
            have hnone : E.row s = none := by
              simp only [Env.noref', Bool.and_eq_true, Option.isNone_iff_eq_none] at hf
              exact hf.2
            have := hss s hs
            rw [hnone] at this
            cases this
      · have hm2' : c.ment r2 = false := by simpa using hm2
        by_cases hm : c.ment r = true
        · exact hdead r (by simp) hm hm2'
        · rcases g1 c with h1 | ⟨s, hs, h1⟩
          · right; left
            rw [h1, show c.kill r = c from by simp [PC.kill, hm], ren_id (by simpa using hm)]
          · exact hdead s (by simp [hs]) h1 hm2'
    refine ⟨M2, R2.undead (fun u => ?_) (fun x y hxy => ?_) (fun b T' ps2 hb => ?_)⟩
    · rw [app_get, Env.get_ren, Env.get_set]
      by_cases hu : t = u
      · subst hu
        rw [if_pos rfl, if_pos rfl]
        simp only [PV.mapc, PC.ren, if_pos]
        exact .inr (.inl rfl)
      · rw [if_neg (by simpa using hu), if_neg hu, hAget, PV.mapc_mapc]
        exact prel_mapc hcrel _
    · rw [hE2row] at hxy
      have hlkn : lk (A.set t (.one (.row r []))).rows r2 = none := by
        simp only [Env.noref', Bool.and_eq_true, Option.isNone_iff_eq_none] at hnoA
        exact hnoA.2
      rw [Env.row_ren hlkn]
      have hAr : ∀ x, (A.set t (.one (.row r []))).row x = A.row x := fun x => rfl
      by_cases e2 : r2 = x
      · rw [if_pos e2] at hxy
        rw [if_pos e2.symm, hAr, hArow, if_pos rfl]; exact hxy
      · rw [if_neg e2] at hxy
        split at hxy
        · cases hxy
        · rename_i hn
          simp only [List.mem_cons, not_or] at hn
          rw [if_neg (fun e => e2 e.symm), if_neg hn.1, hAr, hArow, if_neg (fun e => hn.1 e.symm), if_neg hn.2]
          exact hxy
    · rw [app_box] at hb
      simp only [Option.none_or] at hb
      refine ⟨_, by rw [Env.box_mapc' (f := PC.ren r r2)]; show ((A.box b).map _) = _; rw [hAbox, hb]; rfl, ?_⟩
      rw [List.map_map]
      clear hb
      induction ps2 with
      | nil => exact .nil
      | cons c cs ih => exact .cons (hcrel c) ih
def rowsOf (t : Nat) : Nat → List RC → List (Nat × (TypeId × D))
  | _, [] => []
  | j, .rd _ :: rcs => rowsOf t (j + 1) rcs
  | j, .own T d :: rcs => rowsOf t (j + 1) rcs ++ [(rid t j, (T, d))]
theorem freshRows_of {E : Env} {t : Nat} : ∀ (rcs : List RC) (j : Nat), (∀ x ∈ rowsOf t j rcs, E.noref' x.1 = true) → E.freshRows t j rcs = true
  | [], _, _ => rfl
  | .rd _ :: rcs, j, h => freshRows_of rcs (j + 1) h
  | .own T d :: rcs, j, h => by
    simp only [Env.freshRows, Bool.and_eq_true]
    exact ⟨h (rid t j, (T, d)) (by simp [rowsOf]), freshRows_of rcs (j + 1) fun x hx => h x (by simp [rowsOf, hx])⟩
theorem undef_tup {M : Maps} {E : Env} {w : World} : POk M E w undef (.tup []) := ⟨#[], rfl, .nil⟩
theorem OpStep.off {P : Program} {C : Ctx} {ops : Array Oper} {o : Oper} {E : Env} {j t u : Nat} {want b : Bool} (hg : o.guard = some (j, want)) (hj : (ops[j]?).bind (·.dst) = some t) (ht : t < C.n) (hb : E.get t = .one (.d (.bool b))) (hne : b ≠ want) (hd : o.dst = some u) (hu : u < C.n) : OpStep P C ops o E (E.set u (.tup [])) := fun a w R K Q hK => by
  rw [if_neg (by simp [Region.wanted, hg, guard_val R hj ht hb, hne])]
  obtain ⟨M, R0⟩ := R
  refine hK _ _ ⟨M, ?_⟩
  rw [hd]
  exact R0.put hu undef_tup
theorem TL.goff {P : Program} {C : Ctx} {ops : Array Oper} {o : Oper} {l : List Oper} {E : Env} {Q : Env → Prop} {j u : Nat} {want b : Bool} (t : Nat) (hg : o.guard = some (j, want)) (hj : (ops[j]?).bind (·.dst) = some t) (ht : t < C.n) (hb : E.get t = .one (.d (.bool b))) (hne : (b == want) = false) (hd : o.dst = some u) (hu : u < C.n) (h : TL P C ops l (E.set u (.tup [])) Q) : TL P C ops (o :: l) E Q := by
  intro a w R QQ hQ
  refine wpList_step fun K hK => ?_
  have hv := guard_val R hj ht hb
  have hne' : ¬ b = want := by simpa using hne
  rw [if_neg (by simp [Region.wanted, hg, hv, hne'])]
  obtain ⟨M, R0⟩ := R
  refine hK _ _ (h _ _ ⟨M, ?_⟩ QQ hQ)
  rw [hd]
  exact R0.put hu undef_tup
theorem Step.callX2 {P : Program} {C : Ctx} {o : Oper} {E : Env} {t f b : Nat} {T : TypeId} {ats : Array TypeId} {g : Operand} {xs : List Operand} {ps : List PV} {args : List XA} {bps : List PC} {cs cs' : List RC} {res : Res} {ss : List Nat} (hbxc : BX P f args T cs cs' res) (ho : o.op = .call { callee := .value g, args := xs.toArray, argTypes := ats }) (hd : o.dst = some t) (ht : t < C.n)
    (hg : E.ev g = .one (.d (.fn f))) (hfn : isFn P f = true) (hev : xs.map E.ev = ps) (hargs : All2 (XArg E b) ps args) (hb : E.box b = some (T, bps)) (hcs : XCells E bps cs ss) (hn : cs'.length = bps.length)
    (hfr : (E.handX b T bps.length ss).freshRows t 0 (cs' ++ res.flatMap (·.2)) = true) (hpin : ∀ x ∈ C.pin, x.1 < 1000) (hsh : res.all (fun x => x.1 || x.2.length == 1) = true) :
    Step P C o E (({ (E.handX b T bps.length ss).addRows t 0 (cs' ++ res.flatMap (·.2)) with boxes := (b, (T, pcs t 0 cs')) :: ((E.handX b T bps.length ss).addRows t 0 (cs' ++ res.flatMap (·.2))).boxes } : Env).set t (.ofRes (respvs t cs'.length res))) :=
  Step.callX ho hd ht hg hfn hev hargs hb hcs hbxc hn hfr hpin hsh
theorem Step.callM2 {P : Program} {C : Ctx} {o : Oper} {E : Env} {t f : Nat} {ats : Array TypeId} {g : Operand} {xs : List Operand} {ps : List PV} {args : List MA} {js : List (Nat × D)} {x : D} {u : Value} (hmk : MK P f args [(false, [.rd x])]) (ho : o.op = .call { callee := .value g, args := xs.toArray, argTypes := ats }) (hd : o.dst = some t) (ht : t < C.n)
    (hg : E.ev g = .one (.d (.fn f))) (hfn : isFn P f = true) (hev : xs.map E.ev = ps) (hsh : shOk ps args = true) (hcs : MCells E (ps.flatMap PV.mcells) (args.flatMap MA.cells) js) (hx : x.val = some u) :
    Step P C o E ((E.marked (killJ js) (lk js)).set t (.one (.d x))) :=
  Step.callM ho hd ht hg hfn hev hsh hcs hmk hx
def isArr (P : Program) (T e n z : Nat) : Bool := (match P.underlying T with
  | some (.array n' e') => n' == n && e' == e
  | _ => false) && (P.info? e).map (·.size) == some z
theorem isArr_spec {P : Program} {T e n z : Nat} (h : isArr P T e n z = true) : P.underlying T = some (.array n e) ∧ (P.info? e).map (·.size) = some z := by
  unfold isArr at h
  simp only [Bool.and_eq_true, beq_iff_eq] at h
  obtain ⟨h1, h2⟩ := h
  refine ⟨?_, h2⟩
  split at h1
  · rename_i n' e' he; simp at h1; obtain ⟨rfl, rfl⟩ := h1; exact he
  · exact absurd h1 (by simp)
theorem Step.allocArr {P : Program} {C : Ctx} {o : Oper} {E : Env} {t : Nat} {T : TypeId} {zs : List Value} {zd : List D} {d : D} (ho : o.op = .alloc T) (hd : o.dst = some t) (ht : t < C.n)
    (hz : zeroCells P T = some zs) (hzd : ZeroOk zs zd) (hfl : d.flat = zd) (hs : d.isSl = true) (hw : d.wf) (h0 : 0 < d.size) (h63 : d.size ≤ 9223372036854775807) (hdz : 0 < d.z) (hf : E.noref' t = true) (hpin : ∀ x ∈ C.pin, x.1 ≠ t) :
    Step P C o E ({ E with rows := (t, (T, d)) :: E.rows }.set t (.one (.rptr t [] 0 0))) :=
  .change hd ht fun M a w R => by
    obtain ⟨z, hz1, hz2⟩ := Option.map_eq_some_iff.1 hz
    obtain ⟨i, hi, hiz⟩ := Option.bind_eq_some_iff.1 hz1
    obtain ⟨M', R', hM⟩ := R.newRow (r := t) (e := T) (d := d) (cs := z.cells) (b := []) hf hpin hs hw h63 (by rw [hz2, hfl]; exact hzd.own w) (by simp) (by simp)
    refine ⟨.pointer (some ⟨w.heap.size, 0, none⟩), _, M', ?_, R', fun T2 d2 h2 => ?_⟩
    · unfold execOp
      rw [ho]
      simp [Instr.alloc, zeroValue, typeInfo, hi, hiz, newVar, newRow]
    · have h2 : lk ((t, (T, d)) :: E.rows) t = some (T2, d2) := h2
      simp only [lk, if_true, Option.some.injEq, Prod.mk.injEq] at h2
      obtain ⟨rfl, rfl⟩ := h2
      exact ⟨w.heap.size, d.size, by simp only [PathTo]; exact hM.symm, h0, hdz, by simp⟩
theorem run_indexArr {P : Program} {T e n z : Nat} (hT : isArr P T e n z = true) (w : World) (g : Nat) (k : IntKind) (i : Int) (h0 : 0 ≤ i) (h1 : i < n) : (Instr.indexAt T (.pointer (some ⟨g, 0, none⟩)) (.int k i)).run P w = .ok (.pointer (some ⟨g, i.toNat * z, none⟩)) w := by
  obtain ⟨hu, hz⟩ := isArr_spec hT
  have hsz := run_size hz w
  unfold Instr.indexAt
  simp [asIntOf, run_underlying hu, Instr.sureAddr, hsz, h0, h1, Sem.run_bind, Result.andThen, Addr.add]
  intro h; exact h.symm
theorem Step.index_arr {P : Program} {C : Ctx} {o : Oper} {E : Env} {t : Nat} {T e T' n : TypeId} {z : Nat} {x y : Operand} {r : Nat} {d : D} {k : IntKind} {i : Int} (ho : o.op = .indexAddr T x y) (hd : o.dst = some t) (ht : t < C.n)
    (hT : isArr P T e n z = true) (hx : E.ev x = .one (.rptr r [] 0 0)) (hr : E.row r = some (T', d)) (hn : d.size = n) (hz : d.z = z) (hz0 : 0 < z) (hy : E.ev y = .one (.d (.int k i))) (h0 : 0 ≤ i) (h1 : i < n) :
    Step P C o E (E.set t (.one (.rptr r [] i.toNat 0))) :=
  .value hd ht fun M a w R => by
    have h := ev_ok R x
    rw [hx] at h
    obtain ⟨g, cap, hp, _, _, he⟩ := h T' d hr
    have he : a.eval x = .pointer (some ⟨g, 0, none⟩) := by rw [he]; simp
    refine ⟨.pointer (some ⟨g, i.toNat * z, none⟩), ?_, fun T2 d2 h2 => ?_⟩
    · unfold execOp
      rw [ho]
      simp only [he, ev_val R hy rfl, Sem.run_bind, run_indexArr hT w g k i h0 h1, Result.andThen, Sem.run_pure]
    · rw [hr] at h2
      injection h2 with h2
      injection h2 with _ h2
      subst h2
      exact ⟨g, cap, hp, by simp only [D.at_]; omega, by simp only [D.at_]; omega, by simp only [D.at_]; rw [hz, Nat.add_zero]⟩
theorem Putd.all {k : IntKind} {xs ys : List Int} (h : ys.length = xs.length) : Putd (.ints k xs) 0 0 (ys.map (.int k)) (.ints k ys) := by
  refine ⟨by simp [D.flat, D.z, h], ?_, by simp [D.size, h], rfl, trivial, rfl⟩
  simp [D.flat, D.z, h]
theorem rd_ints {w : World} {Z : Nat → Prop} {k : IntKind} : ∀ (ys : List Int) (cs : List Value), Rd w Z cs (ys.map (.int k)) → cs = ys.map (Value.int k)
  | [], _, h => by cases h; rfl
  | y :: ys, cs, h => by
    cases h with
    | val hv h2 => simp only [D.val, Option.some.injEq] at hv; subst hv; rw [rd_ints ys _ h2]; rfl
    | sl h1 _ _ _ _ _ _ _ => simp [D.isSl] at h1
theorem own_ints (w : World) (k : IntKind) : ∀ ys : List Int, Own w (ys.map (Value.int k)) (ys.map (D.int k)) []
  | [] => .nil
  | y :: ys => .val rfl (own_ints w k ys)
theorem TL.copyArr {P : Program} {C : Ctx} {ops : Array Oper} {o1 o2 o3 : Oper} {l : List Oper} {E : Env} {Q : Env → Prop} {T e n t1 t2 t3 r : Nat} {T' S1 S2 : TypeId} {x y : Operand} {k : IntKind} {xs ys : List Int}
    (g1 : o1.guard = none) (g2 : o2.guard = none) (g3 : o3.guard = none) (ho1 : o1.op = .slice T x none none none) (hd1 : o1.dst = some t1) (ht1 : t1 < C.n) (ho2 : o2.op = .move y) (hd2 : o2.dst = some t2) (ht2 : t2 < C.n)
    (ho3 : o3.op = .call { callee := .builtin .copy, args := #[.tmp t1, .tmp t2], argTypes := #[S1, S2] }) (hd3 : o3.dst = some t3) (ht3 : t3 < C.n) (hT : isArr P T e n 1 = true) (hS : isSlice P S1 e 1 = true) (hne : t1 ≠ t2) (hx : E.ev x = .one (.rptr r [] 0 0)) (hr : E.row r = some (T', .ints k xs)) (hn : xs.length = n)
    (hy : (E.set t1 (.one .und)).ev y = .one (.d (.ints k ys))) (hl : ys.length = xs.length) (hq : 0 < n)
    (h : TL P C ops l (({ ((E.set t1 (.one .und)).set t2 (.one (.d (.ints k ys)))).mapc (PC.killDeep r) with rows := (r, (T', .ints k ys)) :: E.rows } : Env).set t3 (.one .und)) Q) : TL P C ops (o1 :: o2 :: o3 :: l) E Q := by
  intro a w ⟨M, R⟩ QQ hQ
  have hxo := ev_ok R x
  rw [hx] at hxo
  obtain ⟨g, cap, hp, _, _, hev⟩ := hxo T' _ hr
  have hev : a.eval x = .pointer (some ⟨g, 0, none⟩) := by rw [hev]; simp
  obtain ⟨hu, hz⟩ := isArr_spec hT
  have hrun1 : (execOp a.eval o1).run P w = .ok (.value (.slice (some ⟨g, 0, none⟩) n n)) w := by
    unfold execOp
    rw [ho1]
    simp [hev, Instr.sliceAt, run_underlying hu, Instr.sureAddr, Instr.sliceBounds, run_size hz w, Sem.run_bind, Result.andThen]
    exact fun _ => rfl
  have R1 : RelM C M (E.set t1 (.one .und)) (a.put (some t1) (.slice (some ⟨g, 0, none⟩) n n)) w := R.put ht1 trivial
  generalize ha1 : a.put (some t1) (.slice (some ⟨g, 0, none⟩) n n) = a1 at R1
  have hv1 : a1.tmps.getD t1 undef = .slice (some ⟨g, 0, none⟩) n n := by
    rw [← ha1]
    show (a.tmps.setIfInBounds t1 _).getD t1 undef = _
    rw [getD_set, if_pos ⟨rfl, by rw [R.tn]; exact ht1⟩]
  have hyd := ev_d R1 hy
  have R2 : RelM C M ((E.set t1 (.one .und)).set t2 (.one (.d (.ints k ys)))) (a1.put (some t2) (a1.eval y)) w := R1.put ht2 hyd
  generalize ha2 : a1.put (some t2) (a1.eval y) = a2 at R2
  have hv2 : a2.tmps.getD t2 undef = a1.eval y := by
    rw [← ha2]
    show (a1.tmps.setIfInBounds t2 _).getD t2 undef = _
    rw [getD_set, if_pos ⟨rfl, by rw [R1.tn]; exact ht2⟩]
  have hv12 : a2.tmps.getD t1 undef = .slice (some ⟨g, 0, none⟩) n n := by
    rw [← ha2]
    show (a1.tmps.setIfInBounds t2 _).getD t1 undef = _
    rw [getD_set, if_neg (fun h => hne h.1.symm)]
    exact hv1
  obtain ⟨ad, cap2, cs, hc1, _, hc2, hc3, _⟩ := rd_some hyd rfl (by simp only [D.size]; omega)
  have hcs := rd_ints ys cs hc3
  generalize hE2 : ((E.set t1 (.one .und)).set t2 (.one (.d (.ints k ys))) : Env) = E2 at R2 h
  have hr2 : E2.row r = some (T', .ints k xs) := by rw [← hE2]; exact hr
  have hrows : E2.rows = E.rows := by rw [← hE2]; rfl
  obtain ⟨⟨r1, r2, r3⟩, r4, r5⟩ := R2.rows r T' _ hr2
  have hcl : cs.length = n := by rw [hcs, List.length_map, hl, hn]
  obtain ⟨cur, ty, fp', k1, k2, k3, k4, k5, k6⟩ := store_own (q := []) (i := 0) (j := 0) (d1 := .ints k ys) (d' := .ints k ys) r2 r4 hp (own_ints w k ys) (by simp) (by simp) (Putd.all hl) rfl
  simp only [D.at_, D.z, Nat.zero_mul, Nat.zero_add, List.length_map] at k2 k4
  have hrun3 : (execOp a2.eval o3).run P w = .ok (.value (goInt cs.length)) (w.setRow g (cur.toList.take 0 ++ cs ++ cur.toList.drop (0 + cs.length)).toArray) := by
    have hS' := isSlice_spec hS
    have := run_copy_row P w S1 S2 o3.type e g 0 n n ad ys.length cap2 cur ty cs hS'.1 hS'.2 k1 (by rw [hcl, hl, hn]; exact (Nat.min_self n).symm) hc2 (by rw [hcs, List.length_map]; omega) (fun v hv => by rw [hcs] at hv; obtain ⟨q, _, rfl⟩ := List.mem_map.1 hv; rfl)
    unfold execOp
    rw [ho3]
    have e1 : a2.eval (.tmp t1) = .slice (some ⟨g, 0, none⟩) n n := hv12
    have e2 : a2.eval (.tmp t2) = .slice (some ad) ys.length cap2 := hv2.trans hc1
    simp only [resolve, invoke, builtin, Sem.run_bind, Sem.run_pure, Result.andThen, List.map_toArray, List.map_cons, List.map_nil, e1, e2, this]
  simp only [Nat.zero_add] at hrun3
  rw [hcs, List.length_map] at hrun3
  generalize hw' : w.setRow g (cur.toList.take 0 ++ ys.map (Value.int k) ++ cur.toList.drop ys.length).toArray = w' at k4 hrun3
  have hown : M.own g = .row r := r5 g k3
  have hother : ∀ k, k ≠ g → w'.heap[k]? = w.heap[k]? := fun k hk => by rw [← hw']; exact setRow_other w g k _ hk
  have hsame : w'.heap[g]? = some (.cells (cur.toList.take 0 ++ ys.map (Value.int k) ++ cur.toList.drop ys.length).toArray ty (0, 0)) := by rw [← hw']; exact setRow_heap w g cur _ ty (0, 0) k1
  have hfr : Frame_ C w' := ⟨by rw [← hw']; exact R.fr.os, by rw [← hw']; exact R.fr.tape, by rw [← hw']; exact R.fr.output, by rw [← hw', setRow_size]; exact R.fr.size, fun k hk hi => by
    rw [hother k (fun e => by
      subst e
      rcases R.wr k (by rw [hown]; simp) (by rw [hown]; simp) with h | h
      · exact hi h
      · omega)]
    exact R.fr.block k hk hi⟩
  have R3 := R2.upd (f := PC.killDeep r) (w' := w') (v' := M.hdl r) (T' := T') (d' := .ints k ys) (fp' := fp') hr2 hfr (by rw [← hw', setRow_size]; exact Nat.le_refl _) (fun k h0 hs => hother k fun e => by subst e; exact (hs r hown).1 rfl)
    ⟨rfl, k4, fun ad2 nn cc hv => by
      obtain ⟨cs0, fr0, h6⟩ := r3 ad2 nn cc hv
      by_cases e : ad2.block = g
      · rw [e] at h6 ⊢
        rw [k1] at h6
        injection h6 with h6
        injection h6 with e1 e2 e3
        subst e2
        exact ⟨_, _, hsame⟩
      · exact ⟨cs0, fr0, (hother _ e).trans h6⟩⟩ k5 (fun q hq => by
      rcases k6 q hq with h | h
      · exact .inr ⟨r, r5 q h, .inl rfl⟩
      · cases h) (fun y' hy' e => by
      have := R2.pin y'.1 y'.2 hy' T' _ (by rw [e]; exact hr2)
      rw [e] at this
      exact this) (fun c => by
      rcases PC.killDeep_ok r c with h | ⟨h, h'⟩
      · exact .inl h
      · refine .inr ⟨h, ?_⟩
        rcases h' with h' | h'
        · exact .inl h'
        · exact .inr ⟨rfl, hl, rfl, h'⟩)
  rw [hrows] at R3
  refine wpList_plain g1 fun K hK => ?_
  unfold Oper.wp
  rw [hrun1, Oper.upon_value, hd1, ha1]
  refine hK _ _ (wpList_plain g2 fun K hK => ?_)
  have hrun2 : (execOp a1.eval o2).run P w = .ok (.value (a1.eval y)) w := by unfold execOp; rw [ho2]; rfl
  unfold Oper.wp
  rw [hrun2, Oper.upon_value, hd2, ha2]
  refine hK _ _ (wpList_plain g3 fun K hK => ?_)
  unfold Oper.wp
  rw [hrun3, Oper.upon_value, hd3]
  exact hK _ _ (h _ _ ⟨_, R3.put ht3 trivial⟩ QQ hQ)
def placesArr (P : Program) (T : TypeId) : Option (List Value × Nat) :=
  match P.info? T, P.underlying T with
  | some it, some (.array _ e) => match it.zero, P.info? e with
    | some z, some i => some (z.cells.toList, i.size)
    | _, _ => none
  | _, _ => none
theorem Step.buildArr {P : Program} {C : Ctx} {o : Oper} {E : Env} {t : Nat} {T : TypeId} {parts : Array (Nat × Operand)} {zs : List Value} {size : Nat} {pss : List (Nat × List PC)} {ps' : List PC} (ho : o.op = .build T parts) (hd : o.dst = some t) (ht : t < C.n)
    (hT : placesArr P T = some (zs, size)) (hfl : All2 (fun x y => x.1 = y.1 ∧ (E.ev x.2).flat = some y.2) parts.toList pss) (hf : (pss.all fun y => y.2.all E.fine) = true) (hz : (zs.all fun v => match PC.ofValue v with | .und => false | _ => true) = true) (hfill : fillP (fun i => some (i * size, size)) (zs.map PC.ofValue) pss = some ps') :
    Step P C o E (E.set t (.agg ps')) :=
  .value hd ht fun M a w R => by
    have hparts : All2 (fun (x : Nat × Value) (y : Nat × List PC) => x.1 = y.1 ∧ All2 (COk M E w) x.2.cells.toList y.2) (parts.map fun (i, x) => (i, a.eval x)).toList pss := by
      rw [Array.toList_map]
      generalize parts.toList = l at hfl
      clear hfill ho
      induction hfl with
      | nil => exact .nil
      | @cons x y l pss h1 _ ih =>
        rw [List.all_cons, Bool.and_eq_true] at hf
        refine .cons ⟨h1.1, ?_⟩ (ih hf.2)
        exact (cells_ok R (ev_ok R x.2) h1.2 hf.1).1
    obtain ⟨cells', h1, h2⟩ := fill_ok (place := fun i => some (i * size, size)) _ _ zs.toArray _ _ (zeros_ok M E w zs hz) hparts hfill
    unfold placesArr at hT
    cases hit : P.info? T with
    | none => simp [hit] at hT
    | some it =>
      cases hu : P.underlying T with
      | none => simp [hit, hu] at hT
      | some d =>
        cases d <;> try (simp [hit, hu] at hT; done)
        case array n e =>
          cases hz2 : it.zero with
          | none => simp [hit, hu, hz2] at hT
          | some z =>
            cases hp : P.info? e with
            | none => simp [hit, hu, hz2, hp] at hT
            | some i =>
              simp only [hit, hu, hz2, hp, Option.some.injEq, Prod.mk.injEq] at hT
              obtain ⟨rfl, rfl⟩ := hT
              refine ⟨.agg cells', ?_, cells', rfl, h2⟩
              unfold execOp
              rw [ho]
              have h1 : Instr.fill (fun j => some (j * i.size, i.size)) z.cells (List.map (fun x => (x.fst, a.eval x.snd)) parts.toList) = some cells' := by
                have h1 := h1
                rw [Array.toList_map] at h1
                simpa using h1
              simp [Instr.build, zeroValue, typeInfo, hit, hz2, run_underlying hu, sizeOf, hp, Sem.run_bind, Result.andThen]
              rw [h1]
              rfl
def bor (a b : Int) : Int := IntKind.i64.wrap (BitVec.ofInt IntKind.i64.bits a ||| BitVec.ofInt IntKind.i64.bits b).toNat
def bxor (a b : Int) : Int := IntKind.i64.wrap (BitVec.ofInt IntKind.i64.bits a ^^^ BitVec.ofInt IntKind.i64.bits b).toNat
def band (a b : Int) : Int := IntKind.i64.wrap (BitVec.ofInt IntKind.i64.bits a &&& BitVec.ofInt IntKind.i64.bits b).toNat
def bshl (a n : Int) : Int := IntKind.i64.wrap (a * 2 ^ (min n.toNat IntKind.i64.bits))
def bshr (a n : Int) : Int := a.fdiv (2 ^ (min n.toNat IntKind.i64.bits))
def wadd (a b : Int) : Int := IntKind.i64.wrap (a + b)
def turnW (x n : Int) : Int := band (bor (bshr x n) (bshl x (32 - n))) 4294967295
theorem ofInt_nat (n : Nat) : (BitVec.ofInt 64 (n : Int)) = BitVec.ofNat 64 n := BitVec.ofInt_natCast 64 n
theorem ofInt_wrap (v : BitVec IntKind.i64.bits) : BitVec.ofInt IntKind.i64.bits (IntKind.i64.wrap ((v.toNat : Nat) : Int)) = v := by
  apply BitVec.eq_of_toNat_eq
  rw [BitVec.toNat_ofInt, IntKind.wrap_i64]
  have h : v.toNat < 2 ^ 64 := v.isLt
  show ((((v.toNat : Int) + 9223372036854775808) % 18446744073709551616 - 9223372036854775808) % ((2 ^ 64 : Nat) : Int)).toNat = v.toNat
  omega
theorem band_W (x : Int) : 0 ≤ band x 4294967295 ∧ band x 4294967295 ≤ 4294967295 := by
  unfold band
  have h : (BitVec.ofInt IntKind.i64.bits x &&& BitVec.ofInt IntKind.i64.bits 4294967295).toNat ≤ 4294967295 := by
    rw [BitVec.toNat_and]
    exact Nat.le_trans Nat.and_le_right (by decide)
  generalize (BitVec.ofInt IntKind.i64.bits x &&& BitVec.ofInt IntKind.i64.bits 4294967295).toNat = n at h
  rw [wrap_ok (by omega) (by omega)]
  omega
theorem bor_W {x y : Int} (hx : 0 ≤ x ∧ x ≤ 4294967295) (hy : 0 ≤ y ∧ y ≤ 4294967295) : 0 ≤ bor x y ∧ bor x y ≤ 4294967295 := by
  obtain ⟨a, rfl⟩ : ∃ a : Nat, x = a := ⟨x.toNat, by omega⟩
  obtain ⟨b, rfl⟩ : ∃ b : Nat, y = b := ⟨y.toNat, by omega⟩
  have h : (BitVec.ofInt IntKind.i64.bits (a : Int) ||| BitVec.ofInt IntKind.i64.bits (b : Int)).toNat ≤ 4294967295 := by
    rw [BitVec.toNat_or]
    have e : ∀ q : Nat, q < 2 ^ 32 → (BitVec.ofInt IntKind.i64.bits ((q : Nat) : Int)).toNat = q := fun q hq => by
      rw [BitVec.toNat_ofInt]; show ((q : Int) % ((2 ^ 64 : Nat) : Int)).toNat = q; omega
    rw [e a (by omega), e b (by omega)]
    have := Nat.or_lt_two_pow (x := a) (y := b) (n := 32) (by omega) (by omega)
    omega
  unfold bor
  generalize (BitVec.ofInt IntKind.i64.bits (a : Int) ||| BitVec.ofInt IntKind.i64.bits (b : Int)).toNat = n at h
  rw [wrap_ok (by omega) (by omega)]
  omega
theorem bshl_W {a : Int} (h0 : 0 ≤ a ∧ a ≤ 255) : (0 ≤ bshl a 24 ∧ bshl a 24 ≤ 4294967295) ∧ (0 ≤ bshl a 16 ∧ bshl a 16 ≤ 4294967295) ∧ (0 ≤ bshl a 8 ∧ bshl a 8 ≤ 4294967295) := by
  have e1 : bshl a 24 = a * 16777216 := wrap_ok (x := a * 16777216) (by omega) (by omega)
  have e2 : bshl a 16 = a * 65536 := wrap_ok (x := a * 65536) (by omega) (by omega)
  have e3 : bshl a 8 = a * 256 := wrap_ok (x := a * 256) (by omega) (by omega)
  rw [e1, e2, e3]
  omega
theorem bv_maj (A B C : BitVec IntKind.i64.bits) : (A &&& B) ||| (A &&& C) ||| (B &&& C) = (A &&& B) ^^^ (A &&& C) ^^^ (B &&& C) := by
  apply BitVec.eq_of_getLsbD_eq
  intro i hi
  simp only [BitVec.getLsbD_or, BitVec.getLsbD_and, BitVec.getLsbD_xor]
  cases A.getLsbD i <;> cases B.getLsbD i <;> cases C.getLsbD i <;> rfl
theorem bv_ch {E A B M : BitVec IntKind.i64.bits} (h : ∀ i, E.getLsbD i = true → M.getLsbD i = true) : (E &&& A) ||| ((E ^^^ M) &&& B) = (E &&& A) ^^^ ((M ^^^ E) &&& B) := by
  apply BitVec.eq_of_getLsbD_eq
  intro i hi
  have := h i
  simp only [BitVec.getLsbD_or, BitVec.getLsbD_and, BitVec.getLsbD_xor]
  cases hE : E.getLsbD i <;> cases A.getLsbD i <;> cases B.getLsbD i <;> cases hM : M.getLsbD i <;> simp_all
theorem maj_eq (a b c : Int) : bor (bor (band a b) (band a c)) (band b c) = bxor (bxor (band a b) (band a c)) (band b c) := by
  simp only [bor, bxor, band, ofInt_wrap, bv_maj]
theorem word_bits {e : Int} (h : 0 ≤ e ∧ e ≤ 4294967295) (i : Nat) : (BitVec.ofInt 64 e).getLsbD i = true → (BitVec.ofInt 64 4294967295).getLsbD i = true := by
  obtain ⟨n, rfl⟩ : ∃ n : Nat, e = n := ⟨e.toNat, by omega⟩
  intro hb
  have h1 : (BitVec.ofInt 64 (n : Int)).getLsbD i = (BitVec.ofNat 64 n).getLsbD i := by rw [ofInt_nat]
  rw [h1, BitVec.getLsbD_ofNat, Bool.and_eq_true, decide_eq_true_eq] at hb
  have h2 : (BitVec.ofInt 64 (4294967295 : Int)).getLsbD i = (BitVec.ofNat 64 (2 ^ 32 - 1)).getLsbD i := by rfl
  rw [h2, BitVec.getLsbD_ofNat, Nat.testBit_two_pow_sub_one, Bool.and_eq_true, decide_eq_true_eq, decide_eq_true_eq]
  refine ⟨hb.1, Nat.lt_of_not_le fun hle => ?_⟩
  have h3 := Nat.testBit_lt_two_pow (x := n) (i := i) (Nat.lt_of_lt_of_le (show n < 2 ^ 32 by omega) (Nat.pow_le_pow_right (by omega) hle))
  rw [h3] at hb
  exact absurd hb.2 (by decide)
theorem ch_eq {e : Int} (h : 0 ≤ e ∧ e ≤ 4294967295) (a b : Int) : bor (band e a) (band (bxor e 4294967295) b) = bxor (band e a) (band (bxor 4294967295 e) b) := by
  simp only [bor, bxor, band, ofInt_wrap]
  rw [bv_ch (E := BitVec.ofInt IntKind.i64.bits e) (M := BitVec.ofInt IntKind.i64.bits 4294967295) (word_bits h)]
def wordsOk (h : List Int) : Bool := h.all fun x => decide (0 ≤ x ∧ x ≤ 4294967295)
theorem words_step {l : List Int} {i : Nat} (hi : i < l.length) (h : wordsOk (l.take i) = true) (hx : 0 ≤ l.getD i 0 ∧ l.getD i 0 ≤ 4294967295) : wordsOk (l.take (i + 1)) = true := by
  rw [take_succ' (df := 0) hi]; simp only [wordsOk, List.all_append, List.all_cons, List.all_nil, Bool.and_true, Bool.and_eq_true] at h ⊢; exact ⟨h, decide_eq_true hx⟩
theorem words_no {l : List Int} {i : Nat} (hi : i < l.length) (hx : ¬ (0 ≤ l.getD i 0 ∧ l.getD i 0 ≤ 4294967295)) : wordsOk l = false := by
  cases h : wordsOk l with
  | false => rfl
  | true =>
    rw [wordsOk, List.all_eq_true] at h
    have := h (l.getD i 0) (by rw [List.getD_eq_getElem?_getD, List.getElem?_eq_getElem hi]; exact List.getElem_mem hi)
    exact absurd (of_decide_eq_true this) hx
theorem words_at {l : List Int} (h : wordsOk l = true) (i : Nat) : 0 ≤ l.getD i 0 ∧ l.getD i 0 ≤ 4294967295 := by
  rw [List.getD_eq_getElem?_getD]
  cases hx : l[i]? with
  | none => simp
  | some x => rw [wordsOk, List.all_eq_true] at h; exact of_decide_eq_true (h x (List.mem_of_getElem? hx))
def shaInit : List Int := [1779033703, 3144134277, 1013904242, 2773480762, 1359893119, 2600822924, 528734635, 1541459225]
def shaK : List Int := [1116352408, 1899447441, 3049323471, 3921009573, 961987163, 1508970993, 2453635748, 2870763221, 3624381080, 310598401, 607225278, 1426881987, 1925078388, 2162078206, 2614888103, 3248222580, 3835390401, 4022224774, 264347078, 604807628, 770255983, 1249150122, 1555081692, 1996064986, 2554220882, 2821834349, 2952996808, 3210313671, 3336571891, 3584528711, 113926993, 338241895, 666307205, 773529912, 1294757372, 1396182291, 1695183700, 1986661051, 2177026350, 2456956037, 2730485921, 2820302411, 3259730800, 3345764771, 3516065817, 3600352804, 4094571909, 275423344, 430227734, 506948616, 659060556, 883997877, 958139571, 1322822218, 1537002063, 1747873779, 1955562222, 2024104815, 2227730452, 2361852424, 2428436474, 2756734187, 3204031479, 3329325298]
def wAt (b : List Int) (i : Nat) : Int := bor (bor (bor (bshl (b.getD (4 * (i : Int)).toNat 0) 24) (bshl (b.getD (4 * (i : Int) + 1).toNat 0) 16)) (bshl (b.getD (4 * (i : Int) + 2).toNat 0) 8)) (b.getD (4 * (i : Int) + 3).toNat 0)
def w16 (b : List Int) : Nat → List Int
  | 0 => []
  | i + 1 => w16 b i ++ [wAt b i]
def nextW (A : List Int) (i : Nat) : Int := band (wadd (wadd (wadd (A.getD (16 + (i : Int) - 16).toNat 0) (bxor (bxor (turnW (A.getD (16 + (i : Int) - 15).toNat 0) 7) (turnW (A.getD (16 + (i : Int) - 15).toNat 0) 18)) (bshr (A.getD (16 + (i : Int) - 15).toNat 0) 3))) (A.getD (16 + (i : Int) - 7).toNat 0)) (bxor (bxor (turnW (A.getD (16 + (i : Int) - 2).toNat 0) 17) (turnW (A.getD (16 + (i : Int) - 2).toNat 0) 19)) (bshr (A.getD (16 + (i : Int) - 2).toNat 0) 10))) 4294967295
def wN (b : List Int) : Nat → List Int
  | 0 => w16 b 16
  | i + 1 => wN b i ++ [nextW (wN b i) i]
theorem w16_len (b : List Int) : ∀ i, (w16 b i).length = i
  | 0 => rfl
  | i + 1 => by rw [w16, List.length_append, w16_len b i]; rfl
theorem wN_len (b : List Int) : ∀ i, (wN b i).length = 16 + i
  | 0 => w16_len b 16
  | i + 1 => by rw [wN, List.length_append, wN_len b i]; rfl
theorem getD_app {A : List Int} {x : Int} (n : Nat) : (A ++ [x]).getD n 0 = if n < A.length then A.getD n 0 else if n = A.length then x else 0 := by
  simp only [List.getD_eq_getElem?_getD]
  split
  · rw [List.getElem?_append_left (by assumption)]
  · split
    · rw [List.getElem?_append_right (by omega), show n - A.length = 0 from by omega]; rfl
    · rw [List.getElem?_append_right (by omega), List.getElem?_eq_none (by simp; omega)]; rfl
theorem wAt_W {b : List Int} (h : U8s b) (i : Nat) : 0 ≤ wAt b i ∧ wAt b i ≤ 4294967295 := by
  have h3 := getD_u8 h (4 * (i : Int) + 3).toNat
  exact bor_W (bor_W (bor_W (bshl_W (getD_u8 h _)).1 (bshl_W (getD_u8 h _)).2.1) (bshl_W (getD_u8 h _)).2.2) (by omega)
theorem w16_W {b : List Int} (h : U8s b) : ∀ (i q : Nat), 0 ≤ (w16 b i).getD q 0 ∧ (w16 b i).getD q 0 ≤ 4294967295
  | 0, q => by simp [w16]
  | i + 1, q => by
    have h1 := w16_W h i q
    have h2 := wAt_W h i
    rw [w16, getD_app]
    split
    · exact h1
    · split
      · exact h2
      · simp
theorem wN_W {b : List Int} (h : U8s b) : ∀ (i q : Nat), 0 ≤ (wN b i).getD q 0 ∧ (wN b i).getD q 0 ≤ 4294967295
  | 0, q => w16_W h 16 q
  | i + 1, q => by
    have h1 := wN_W h i q
    rw [wN, getD_app]
    split
    · exact h1
    · split
      · exact band_W _
      · simp
theorem getD_rep {A : List Int} {n q : Nat} (h : q < A.length) : (A ++ List.replicate n 0).getD q 0 = A.getD q 0 := by
  simp only [List.getD_eq_getElem?_getD]
  rw [List.getElem?_append_left h]
theorem arr_W {A : List Int} (h : ∀ q, 0 ≤ A.getD q 0 ∧ A.getD q 0 ≤ 4294967295) (n q : Nat) : 0 ≤ (A ++ List.replicate n 0).getD q 0 ∧ (A ++ List.replicate n 0).getD q 0 ≤ 4294967295 := by
  by_cases hq : q < A.length
  · rw [getD_rep hq]; exact h q
  · simp only [List.getD_eq_getElem?_getD]
    rw [List.getElem?_append_right (by omega), List.getElem?_replicate]
    split <;> simp
theorem set_fill {A : List Int} {n q : Nat} {x : Int} (hq : q = A.length) : (A ++ List.replicate (n + 1) 0).set q x = (A ++ [x]) ++ List.replicate n 0 := by
  subst hq
  rw [List.replicate_succ, List.set_append_right _ _ (Nat.le_refl _), Nat.sub_self, List.set_cons_zero, List.append_assoc]; rfl
theorem nextW_rep {A : List Int} {i n : Nat} (h : A.length = 16 + i) : nextW (A ++ List.replicate n 0) i = nextW A i := by
  unfold nextW
  rw [getD_rep (q := (16 + (i : Int) - 16).toNat) (by omega), getD_rep (q := (16 + (i : Int) - 15).toNat) (by omega), getD_rep (q := (16 + (i : Int) - 7).toNat) (by omega), getD_rep (q := (16 + (i : Int) - 2).toNat) (by omega)]
theorem w16_set (b : List Int) {i : Nat} (hi : i < 16) : (w16 b i ++ List.replicate (64 - i) 0).set i (wAt b i) = w16 b (i + 1) ++ List.replicate (64 - (i + 1)) 0 := by
  rw [show 64 - i = (64 - (i + 1)) + 1 from by omega, set_fill (w16_len b i).symm]; rfl
theorem wN_set (b : List Int) {i : Nat} (hi : i < 48) : (wN b i ++ List.replicate (48 - i) 0).set (16 + (i : Int)).toNat (nextW (wN b i ++ List.replicate (48 - i) 0) i) = wN b (i + 1) ++ List.replicate (48 - (i + 1)) 0 := by
  rw [nextW_rep (wN_len b i), show 48 - i = (48 - (i + 1)) + 1 from by omega, set_fill (by rw [wN_len]; omega)]; rfl
def aI (b : List Int) (i : Nat) : List Int := w16 b i ++ List.replicate (64 - i) 0
theorem aI_len (b : List Int) {i : Nat} (h : i ≤ 16) : (aI b i).length = 64 := by unfold aI; rw [List.length_append, w16_len, List.length_replicate]; omega
theorem aI_zero (b : List Int) : List.replicate 64 0 = aI b 0 := rfl
theorem aI_set (b : List Int) {i : Nat} (hi : i < 16) : (aI b i).set i (wAt b i) = aI b (i + 1) := w16_set b hi
def wI (b : List Int) (i : Nat) : List Int := wN b i ++ List.replicate (48 - i) 0
theorem wI_len (b : List Int) {i : Nat} (h : i ≤ 48) : (wI b i).length = 64 := by unfold wI; rw [List.length_append, wN_len, List.length_replicate]; omega
theorem wI_zero (b : List Int) : aI b 16 = wI b 0 := rfl
theorem wI_set (b : List Int) {i : Nat} (hi : i < 48) : (wI b i).set (16 + (i : Int)).toNat (nextW (wI b i) i) = wI b (i + 1) := wN_set b hi
theorem wI_W {b : List Int} (h : U8s b) (i q : Nat) : 0 ≤ (wI b i).getD q 0 ∧ (wI b i).getD q 0 ≤ 4294967295 := arr_W (wN_W h i) _ q
theorem wI_all (b : List Int) : wI b 48 = wN b 48 := by unfold wI; simp
def stepV (v : List Int) (k w : Int) : List Int :=
  [band (wadd (wadd (wadd (wadd (wadd (v.getD 7 0) (bxor (bxor (turnW (v.getD 4 0) 6) (turnW (v.getD 4 0) 11)) (turnW (v.getD 4 0) 25))) (bxor (band (v.getD 4 0) (v.getD 5 0)) (band (bxor 4294967295 (v.getD 4 0)) (v.getD 6 0)))) k) w) (wadd (bxor (bxor (turnW (v.getD 0 0) 2) (turnW (v.getD 0 0) 13)) (turnW (v.getD 0 0) 22)) (bxor (bxor (band (v.getD 0 0) (v.getD 1 0)) (band (v.getD 0 0) (v.getD 2 0))) (band (v.getD 1 0) (v.getD 2 0))))) 4294967295,
   v.getD 0 0, v.getD 1 0, v.getD 2 0,
   band (wadd (v.getD 3 0) (wadd (wadd (wadd (wadd (v.getD 7 0) (bxor (bxor (turnW (v.getD 4 0) 6) (turnW (v.getD 4 0) 11)) (turnW (v.getD 4 0) 25))) (bxor (band (v.getD 4 0) (v.getD 5 0)) (band (bxor 4294967295 (v.getD 4 0)) (v.getD 6 0)))) k) w)) 4294967295,
   v.getD 4 0, v.getD 5 0, v.getD 6 0]
def stepI (v : List Int) (k w : Int) : List Int :=
  [band (wadd (wadd (wadd (wadd (wadd (v.getD 7 0) (bxor (bxor (turnW (v.getD 4 0) 6) (turnW (v.getD 4 0) 11)) (turnW (v.getD 4 0) 25))) (bor (band (v.getD 4 0) (v.getD 5 0)) (band (bxor (v.getD 4 0) 4294967295) (v.getD 6 0)))) k) w) (wadd (bxor (bxor (turnW (v.getD 0 0) 2) (turnW (v.getD 0 0) 13)) (turnW (v.getD 0 0) 22)) (bor (bor (band (v.getD 0 0) (v.getD 1 0)) (band (v.getD 0 0) (v.getD 2 0))) (band (v.getD 1 0) (v.getD 2 0))))) 4294967295,
   v.getD 0 0, v.getD 1 0, v.getD 2 0,
   band (wadd (v.getD 3 0) (wadd (wadd (wadd (wadd (v.getD 7 0) (bxor (bxor (turnW (v.getD 4 0) 6) (turnW (v.getD 4 0) 11)) (turnW (v.getD 4 0) 25))) (bor (band (v.getD 4 0) (v.getD 5 0)) (band (bxor (v.getD 4 0) 4294967295) (v.getD 6 0)))) k) w)) 4294967295,
   v.getD 4 0, v.getD 5 0, v.getD 6 0]
theorem stepI_eq {v : List Int} {k w : Int} (h : 0 ≤ v.getD 4 0 ∧ v.getD 4 0 ≤ 4294967295) : stepI v k w = stepV v k w := by
  unfold stepI stepV
  rw [ch_eq h, maj_eq]
def vN (h w : List Int) : Nat → List Int
  | 0 => h
  | i + 1 => stepV (vN h w i) (shaK.getD i 0) (w.getD i 0)
theorem vN_len {h w : List Int} (h8 : h.length = 8) : ∀ i, (vN h w i).length = 8
  | 0 => h8
  | i + 1 => rfl
theorem vN_W {h w : List Int} (hh : wordsOk h = true) : ∀ (i q : Nat), 0 ≤ (vN h w i).getD q 0 ∧ (vN h w i).getD q 0 ≤ 4294967295
  | 0, q => words_at hh q
  | i + 1, q => by
    have ih := vN_W (w := w) hh i
    match q with
    | 0 => exact band_W _
    | 1 => exact ih 0
    | 2 => exact ih 1
    | 3 => exact ih 2
    | 4 => exact band_W _
    | 5 => exact ih 4
    | 6 => exact ih 5
    | 7 => exact ih 6
    | q + 8 => exact ⟨Int.le_refl _, show (0 : Int) ≤ 4294967295 by decide⟩
def outs (h v : List Int) : Nat → List Int
  | 0 => []
  | i + 1 => outs h v i ++ [band (wadd (h.getD i 0) (v.getD i 0)) 4294967295]
theorem outs_len (h v : List Int) : ∀ i, (outs h v i).length = i
  | 0 => rfl
  | i + 1 => by rw [outs, List.length_append, outs_len h v i]; rfl
def shaBlock (h b : List Int) : List Int := if h.length = 8 ∧ b.length = 64 ∧ wordsOk h = true then outs h (vN h (wN b 48) 64) 8 else []
theorem shaBlock_len (h b : List Int) : (shaBlock h b).length ≤ 8 := by
  unfold shaBlock
  split
  · rw [outs_len]; omega
  · simp
theorem shaBlock_no {h b : List Int} (hn : ¬ (h.length = 8 ∧ b.length = 64 ∧ wordsOk h = true)) : shaBlock h b = [] := if_neg hn
theorem shaBlock_yes {h b : List Int} (hn : h.length = 8 ∧ b.length = 64 ∧ wordsOk h = true) : shaBlock h b = outs h (vN h (wN b 48) 64) 8 := if_pos hn
def padK (n : Nat) : Nat := (119 - n % 64) % 64
def padB (n : Nat) : Nat → List Int
  | 0 => []
  | i + 1 => padB n i ++ [bshr (8 * (n : Int)) (8 * (7 - (i : Int))) % 256]
theorem padB_len (n : Nat) : ∀ i, (padB n i).length = i
  | 0 => rfl
  | i + 1 => by rw [padB, List.length_append, padB_len n i]; rfl
def shaPad (b : List Int) : List Int := b ++ [128] ++ List.replicate (padK b.length) 0 ++ padB b.length 8
theorem shaPad_len (b : List Int) : (shaPad b).length = b.length + 1 + padK b.length + 8 := by simp [shaPad, padB_len]; omega
theorem shaPad_mod (b : List Int) : (shaPad b).length % 64 = 0 ∧ (shaPad b).length ≤ b.length + 72 := by rw [shaPad_len]; unfold padK; omega
theorem padB_u8 (n : Nat) : ∀ i, U8s (padB n i)
  | 0 => fun x hx => by cases hx
  | i + 1 => fun x hx => by
    rcases List.mem_append.1 hx with hx | hx
    · exact padB_u8 n i x hx
    · rcases List.mem_singleton.1 hx with rfl; omega
theorem shaPad_u8 {b : List Int} (h : U8s b) : U8s (shaPad b) := fun x hx => by
  rcases List.mem_append.1 hx with hx | hx
  · rcases List.mem_append.1 hx with hx | hx
    · rcases List.mem_append.1 hx with hx | hx
      · exact h x hx
      · rcases List.mem_singleton.1 hx with rfl; omega
    · rw [List.eq_of_mem_replicate hx]; omega
  · exact padB_u8 _ _ x hx
theorem u8_sub {b : List Int} (h : U8s b) (x y : Nat) : U8s ((b.drop x).take y) := fun z hz => h z (List.mem_of_mem_drop (List.mem_of_mem_take hz))
def hN (p : List Int) : Nat → List Int
  | 0 => shaInit
  | i + 1 => shaBlock (hN p i) ((p.drop (64 * (i : Int)).toNat).take ((64 * (i : Int) + 64).toNat - (64 * (i : Int)).toNat))
theorem hN_len (p : List Int) : ∀ i, (hN p i).length ≤ 8
  | 0 => show shaInit.length ≤ 8 by decide
  | i + 1 => shaBlock_len _ _
def outB (h : List Int) : Nat → List Int
  | 0 => []
  | i + 1 => outB h i ++ [bshr (h.getD i 0) 24 % 256, bshr (h.getD i 0) 16 % 256, bshr (h.getD i 0) 8 % 256, h.getD i 0 % 256]
theorem outB_len (h : List Int) : ∀ i, (outB h i).length = 4 * i
  | 0 => rfl
  | i + 1 => by rw [outB, List.length_append, outB_len h i]; simp; omega
theorem outB_u8 (h : List Int) : ∀ i, U8s (outB h i)
  | 0 => fun x hx => by cases hx
  | i + 1 => fun x hx => by
    rcases List.mem_append.1 hx with hx | hx
    · exact outB_u8 h i x hx
    · simp only [List.mem_cons, List.not_mem_nil, or_false] at hx
      omega
def shaH (b : List Int) : List Int := hN (shaPad b) ((shaPad b).length / 64)
def sha (b : List Int) : List Int := outB (shaH b) (shaH b).length
theorem sha_len (b : List Int) : (sha b).length ≤ 32 := by
  have := hN_len (shaPad b) ((shaPad b).length / 64)
  unfold sha
  rw [outB_len]
  unfold shaH
  omega
theorem sha_u8 (b : List Int) : U8s (sha b) := outB_u8 _ _
abbrev pI (x : Int) : PV := .one (.d (.int .i64 x))
abbrev pB (x : Bool) : PV := .one (.d (.bool x))
abbrev pS (x : List Int) : PV := .one (.d (.ints .u8 x))
abbrev cI (x : Int) : PC := .d (.int .i64 x)
abbrev cS (x : List Int) : PC := .d (.ints .u8 x)
theorem At.g {E0 : Env} {l : List Oper} {effs : List Eff} {i : Nat} {o : Oper} {E : Env} (A : At E0 l effs i o E) (t : Nat) {p : PV} (hp : (plus E0 (fun _ => true) 0 effs).get t = p) (hr : t ∈ reads l o := by decide) : Env.ev E (.tmp t) = p := (show Env.ev E (.tmp t) = E.get t from rfl).trans ((A.get t hr).trans hp)
theorem At.mv {P : Program} {C : Ctx} {ops : Array Oper} {E0 : Env} {l : List Oper} {effs : List Eff} {i : Nat} {o : Oper} {E : Env} (A : At E0 l effs i o E) (a t : Nat) {p : PV} (ho : o.op = .move (.tmp a) := by exact rfl) (hg : o.guard = none := by exact rfl) (hd : o.dst = some t := by exact rfl) (ht : t < C.n := by exact lt_ok rfl)
    (hp : (plus E0 (fun _ => true) 0 effs).get a = p := by exact rfl) (hr : a ∈ reads l o := by decide) : OpStep P C ops o E (Eff.app ⟨t, p, []⟩ E) := OpStep.plain hg (Step.move ho hd ht (A.g a hp hr))
theorem At.as {P : Program} {C : Ctx} {ops : Array Oper} {E0 : Env} {l : List Oper} {effs : List Eff} {i : Nat} {o : Oper} {E : Env} (A : At E0 l effs i o E) (a t : Nat) {p : PV} (ho : o.op = .assign (.tmp a) := by exact rfl) (hg : o.guard = none := by exact rfl) (hd : o.dst = some t := by exact rfl) (ht : t < C.n := by exact lt_ok rfl)
    (hp : (plus E0 (fun _ => true) 0 effs).get a = p := by exact rfl) (hr : a ∈ reads l o := by decide) : OpStep P C ops o E (Eff.app ⟨t, p, []⟩ E) := OpStep.plain hg (Step.assign ho hd ht (A.g a hp hr))
theorem At.y {P : Program} {C : Ctx} {ops : Array Oper} {E0 : Env} {l : List Oper} {effs : List Eff} {i : Nat} {o : Oper} {E E' : Env} (A : At E0 l effs i o E) (t : Nat) {j : Nat} {want : Bool} (h : Step P C o E E') (hg : o.guard = some (j, want) := by exact rfl) (hj : (ops[j]?).bind (·.dst) = some t := by exact rfl) (ht : t < C.n := by exact lt_ok rfl)
    (hb : (plus E0 (fun _ => true) 0 effs).get t = .one (.d (.bool want)) := by exact rfl) (hr : t ∈ reads l o := by decide) : OpStep P C ops o E E' := OpStep.yes (t := t) hg hj ht ((A.get t hr).trans hb) h
theorem At.of {P : Program} {C : Ctx} {ops : Array Oper} {E0 : Env} {l : List Oper} {effs : List Eff} {i : Nat} {o : Oper} {E : Env} (A : At E0 l effs i o E) (t : Nat) {j u : Nat} {want b : Bool} (hg : o.guard = some (j, want) := by exact rfl) (hj : (ops[j]?).bind (·.dst) = some t := by exact rfl) (ht : t < C.n := by exact lt_ok rfl)
    (hb : (plus E0 (fun _ => true) 0 effs).get t = .one (.d (.bool b)) := by exact rfl) (hr : t ∈ reads l o := by decide) (hne : b ≠ want := by decide) (hd : o.dst = some u := by exact rfl) (hu : u < C.n := by exact lt_ok rfl) : OpStep P C ops o E (E.set u (.tup [])) := OpStep.off (t := t) hg hj ht ((A.get t hr).trans hb) hne hd hu
theorem Step.fa {P : Program} {C : Ctx} {o : Oper} {E : Env} {T f off n b : Nat} {one : Bool} {x : Operand} (q t : Nat) (hx : E.ev x = .one (.ptr b q)) (ho : o.op = .fieldAddr T x f := by exact rfl) (hd : o.dst = some t := by exact rfl) (ht : t < C.n := by exact lt_ok rfl) (hf : isField P T f off n one = true := by kernel_rfl) (hn : n ≠ 0 := by exact Nat.succ_ne_zero _) : Step P C o E (E.set t (.one (.ptr b (q + off)))) := Step.fieldAddr ho hd ht hf hn hx
theorem Step.tb {P : Program} {C : Ctx} {o : Oper} {E : Env} (t : Nat) (b : Bool) {c : Bool} (h : b = c) (s : Step P C o E (E.set t (.one (.d (.bool b))))) : Step P C o E (E.set t (.one (.d (.bool c)))) := Step.to (congrArg (fun b_ => E.set t (.one (.d (.bool b_)))) h) s
theorem Step.bd {P : Program} {C : Ctx} {o : Oper} {E : Env} {op : BinOp} {tx ty : TypeId} {x y : Operand} {dx dy r : D} (t : Nat) (hx : E.ev x = .one (.d dx)) (hy : E.ev y = .one (.d dy)) (hb : Bin op dx dy r) (ho : o.op = .binOp op tx x y ty := by exact rfl) (hd : o.dst = some t := by exact rfl) (ht : t < C.n := by exact lt_ok rfl) : Step P C o E (E.set t (.one (.d r))) := Step.bin ho hd ht hx hy hb
theorem Step.cl {P : Program} {C : Ctx} {o : Oper} {E : Env} {t f : Nat} {ats : Array TypeId} {g : Operand} {xs : List Operand} {ps : List PV} {args : List A} {res : Res} (fz : Bool) (hargs : All2 (ArgP E fz) ps args) (hro : RO P f args res) (ho : o.op = .call { callee := .value g, args := xs.toArray, argTypes := ats } := by exact rfl) (hd : o.dst = some t := by exact rfl) (ht : t < C.n := by exact lt_ok rfl)
    (hg : E.ev g = .one (.d (.fn f)) := by exact rfl) (hfn : isFn P f = true := by kernel_rfl) (hev : xs.map E.ev = ps := by exact rfl) (hsc : fz = true ∨ resScal res = true := by first | exact .inr rfl | exact .inl rfl) (hfr : E.freshRows t 0 (res.flatMap (·.2)) = true := by exact rfl) (hpin : ∀ x ∈ C.pin, x.1 < 1000 := by simp) (hsh : res.all (fun x => x.1 || x.2.length == 1) = true := by exact rfl) :
    Step P C o E ((E.addRows t 0 (res.flatMap (·.2))).set t (.ofRes (respvs t 0 res))) := Step.call fz ho hd ht hg hfn hev hargs hro hsc hfr hpin hsh
theorem Step.cd {P : Program} {C : Ctx} {o : Oper} {E : Env} {f : Nat} {ats : Array TypeId} {g : Operand} {xs : List Operand} {ps : List PV} {args : List A} {res : Res} (fz : Bool) (t : Nat) (hev : xs.map E.ev = ps) (hargs : All2 (ArgP E fz) ps args) (hro : RO P f args res) (hfr : E.freshRows t 0 (res.flatMap (·.2)) = true) (ho : o.op = .call { callee := .value g, args := xs.toArray, argTypes := ats } := by exact rfl) (hd : o.dst = some t := by exact rfl) (ht : t < C.n := by exact lt_ok rfl)
    (hg : E.ev g = .one (.d (.fn f)) := by exact rfl) (hfn : isFn P f = true := by kernel_rfl) (hsc : fz = true ∨ resScal res = true := by first | exact .inr rfl | exact .inl rfl) (hpin : ∀ x ∈ C.pin, x.1 < 1000 := by simp) (hsh : res.all (fun x => x.1 || x.2.length == 1) = true := by exact rfl) :
    Step P C o E ((E.addRows t 0 (res.flatMap (·.2))).set t (.ofRes (respvs t 0 res))) := Step.call fz ho hd ht hg hfn hev hargs hro hsc hfr hpin hsh
theorem TL.c {P : Program} {C : Ctx} {ops : Array Oper} {o : Oper} {l : List Oper} {E E1 : Env} {Q : Env → Prop} (hs : Step P C o E E1) (h : TL P C ops l E1 Q) (hg : o.guard = none := by exact rfl) : TL P C ops (o :: l) E Q := TL.cons hg hs h
theorem TL.mv {P : Program} {C : Ctx} {ops : Array Oper} {o : Oper} {l : List Oper} {E : Env} {Q : Env → Prop} {t : Nat} {x : Operand} (p : PV) (h : TL P C ops l (E.set t p) Q) (ho : o.op = .move x := by exact rfl) (hg : o.guard = none := by exact rfl) (hd : o.dst = some t := by exact rfl) (ht : t < C.n := by exact lt_ok rfl) (hx : E.ev x = p := by exact rfl) : TL P C ops (o :: l) E Q := TL.cons hg (Step.move ho hd ht hx) h
theorem TL.as {P : Program} {C : Ctx} {ops : Array Oper} {o : Oper} {l : List Oper} {E : Env} {Q : Env → Prop} {t : Nat} {x : Operand} (p : PV) (h : TL P C ops l (E.set t p) Q) (ho : o.op = .assign x := by exact rfl) (hg : o.guard = none := by exact rfl) (hd : o.dst = some t := by exact rfl) (ht : t < C.n := by exact lt_ok rfl) (hx : E.ev x = p := by exact rfl) : TL P C ops (o :: l) E Q := TL.cons hg (Step.assign ho hd ht hx) h
theorem TL.pk {P : Program} {C : Ctx} {ops : Array Oper} {o : Oper} {l : List Oper} {E : Env} {Q : Env → Prop} {t : Nat} {x y z : Operand} (b : Bool) (p : PV) (h : TL P C ops l (E.set t p) Q) (ho : o.op = .pick x y z := by exact rfl) (hg : o.guard = none := by exact rfl) (hd : o.dst = some t := by exact rfl) (ht : t < C.n := by exact lt_ok rfl) (hx : E.ev x = .one (.d (.bool b)) := by exact rfl) (hp : E.ev (bif b then y else z) = p := by exact rfl) : TL P C ops (o :: l) E Q := TL.cons hg (Step.pick ho hd ht hx hp) h
theorem TL.gy {P : Program} {C : Ctx} {ops : Array Oper} {o : Oper} {l : List Oper} {E E1 : Env} {Q : Env → Prop} {j : Nat} {want : Bool} (t : Nat) (hs : Step P C o E E1) (h : TL P C ops l E1 Q) (hg : o.guard = some (j, want) := by exact rfl) (hj : (ops[j]?).bind (·.dst) = some t := by exact rfl) (ht : t < C.n := by exact lt_ok rfl) (hb : E.get t = .one (.d (.bool want)) := by exact rfl) : TL P C ops (o :: l) E Q := TL.gyes t hg hj ht hb hs h
theorem TL.gm {P : Program} {C : Ctx} {ops : Array Oper} {o : Oper} {l : List Oper} {E : Env} {Q : Env → Prop} {j u : Nat} {x : Operand} {want : Bool} (t : Nat) (p : PV) (h : TL P C ops l (E.set u p) Q) (ho : o.op = .move x := by exact rfl) (hg : o.guard = some (j, want) := by exact rfl) (hj : (ops[j]?).bind (·.dst) = some t := by exact rfl) (ht : t < C.n := by exact lt_ok rfl) (hb : E.get t = .one (.d (.bool want)) := by exact rfl) (hd : o.dst = some u := by exact rfl) (hu : u < C.n := by exact lt_ok rfl) (hx : E.ev x = p := by exact rfl) : TL P C ops (o :: l) E Q := TL.gyes t hg hj ht hb (Step.move ho hd hu hx) h
theorem TL.gf {P : Program} {C : Ctx} {ops : Array Oper} {o : Oper} {l : List Oper} {E : Env} {Q : Env → Prop} {j u : Nat} {want b : Bool} (t : Nat) (h : TL P C ops l (E.set u (.tup [])) Q) (hg : o.guard = some (j, want) := by exact rfl) (hj : (ops[j]?).bind (·.dst) = some t := by exact rfl) (ht : t < C.n := by exact lt_ok rfl) (hb : E.get t = .one (.d (.bool b)) := by exact rfl) (hne : (b == want) = false := by exact rfl) (hd : o.dst = some u := by exact rfl) (hu : u < C.n := by exact lt_ok rfl) : TL P C ops (o :: l) E Q := TL.goff t hg hj ht hb hne hd hu h
end Go.Proofs.Ytlcmflenbddliaa.Rf
