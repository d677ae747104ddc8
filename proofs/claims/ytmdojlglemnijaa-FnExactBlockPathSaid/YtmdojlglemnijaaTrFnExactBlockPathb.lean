/- A logic of our own over the kit's 'wp', as much of it as this claim uses. Plain definitions and theorems. -/
import Derived.Test.YtmdojlglemnijaaTrFnExactBlockPatha
namespace Go.Proofs.Ytmdojlglemnijaa.Rf
open Go.RowKit
set_option linter.unusedVariables false
set_option linter.unnecessarySimpa false
set_option linter.unusedSimpArgs false
open Go.RowKit Go.ChangeShapes Go.WideShapes Go.ChangeAt
def MPost (w : World) (O : Nat → Option Nat) (Ts : Nat → TypeId) : Nat → List Value → List MC → Prop
  | _, [], [] => True
  | j, v :: vs, .rd d :: cs => MPost w O Ts (j + 1) vs cs
  | j, v :: vs, .mk _ d :: cs => (∃ fp, RowOk w (Ts j) v d fp ∧ fp.Nodup ∧ ∀ k ∈ fp, O k = some j) ∧ MPost w O Ts (j + 1) vs cs
  | _, _, _ => False
structure Gives (w : World) (O : Nat → Option Nat) (w' : World) : Prop where
  os : w'.os = w.os
  tape : w'.tape = w.tape
  output : w'.output = w.output
  size : w.heap.size ≤ w'.heap.size
  block : ∀ k, k < w.heap.size → O k = none → w'.heap[k]? = w.heap[k]?
def ReturnsM (w : World) (O : Nat → Option Nat) (Ts : Nat → TypeId) (us : List Value) (cs : List MC) (res : Res) (e : Ending) (w' : World) : Prop :=
  Gives w O w' ∧ ∃ (vs : List Value) (bcs : List (Bool × List Value)) (O' : Nat → Option Nat), e = .returned (packed vs) ∧ All2 Packs vs bcs ∧ shape bcs = shape res ∧ RCs w' (fun _ => False) (fun _ => .none) 0 (bcs.flatMap (·.2)) (res.flatMap (·.2)) ∧
    (∀ k, O' k ≠ none → k < w'.heap.size ∧ (O k ≠ none ∨ w.heap.size ≤ k)) ∧ MPost w' O' Ts 0 us cs
def MK (P : Program) (f : FuncId) (args : List MA) (res : Res) : Prop :=
  ∀ (w : World) (Z : Nat → Prop) (O : Nat → Option Nat) (Ts : Nat → TypeId) (vals us : List Value), (∀ k, Z k → k < w.heap.size) → (∀ k, O k ≠ none → k < w.heap.size) → (∀ k, Z k → O k = none) → unp vals args us → MPre w Z O Ts 0 us (args.flatMap MA.cells) →
    Calls P f vals.toArray w (ReturnsM w O Ts us (args.flatMap MA.cells) res)
def MC.pc (j : Nat) : MC → PC
  | .rd d => .d d
  | .mk _ _ => .row (900 + j) []
def mpcs : Nat → List MC → List PC
  | _, [] => []
  | j, c :: cs => c.pc j :: mpcs (j + 1) cs
def MA.pv (j : Nat) : MA → PV
  | .one c => .one (c.pc j)
  | .agg cs => .agg (mpcs j cs)
def startTm : Nat → Nat → List MA → List (Nat × PV)
  | _, _, [] => []
  | t, j, a :: as => (t, a.pv j) :: startTm (t + 1) (j + a.cells.length) as
def startRows (Ts : Nat → TypeId) : Nat → List MC → List (Nat × (TypeId × D))
  | _, [] => []
  | j, .rd _ :: cs => startRows Ts (j + 1) cs
  | j, .mk d _ :: cs => (900 + j, (Ts j, d)) :: startRows Ts (j + 1) cs
def Env.startM (args : List MA) (Ts : Nat → TypeId) : Env := { tm := startTm 0 0 args, rows := startRows Ts 0 (args.flatMap MA.cells) }
def RowsAre (E : Env) (Ts : Nat → TypeId) : Nat → List MC → Prop
  | _, [] => True
  | j, .rd _ :: cs => RowsAre E Ts (j + 1) cs
  | j, .mk _ d :: cs => E.row (900 + j) = some (Ts j, d) ∧ RowsAre E Ts (j + 1) cs
def QRetM (P : Program) (fn : Func) (res : Res) (Ts : Nat → TypeId) (cs : List MC) : Exit → Env → Prop
  | .normal, E => (RetOk P fn res E ∧ resScal res = true) ∧ RowsAre E Ts 0 cs
  | .ret, E => (RetOk P fn res E ∧ resScal res = true) ∧ RowsAre E Ts 0 cs
  | _, _ => False
theorem MPre.get {w : World} {Z : Nat → Prop} {O : Nat → Option Nat} {Ts : Nat → TypeId} : ∀ (us : List Value) (cs : List MC) (j : Nat), MPre w Z O Ts j us cs → us.length = cs.length ∧
    (∀ (i : Nat) (d : D), cs[i]? = some (MC.rd d) → ∃ v, us[i]? = some v ∧ Rd w Z [v] [d]) ∧ (∀ (i : Nat) (d d' : D), cs[i]? = some (MC.mk d d') → ∃ v, us[i]? = some v ∧ ∃ fp, RowOk w (Ts (j + i)) v d fp ∧ fp.Nodup ∧ ∀ k ∈ fp, O k = some (j + i))
  | [], [], j, _ => ⟨rfl, by simp, by simp⟩
  | [], _ :: _, _, h => by simp [MPre] at h
  | _ :: _, [], _, h => by simp [MPre] at h
  | v :: us, .rd d :: cs, j, h => by
    obtain ⟨h1, h2⟩ := h
    obtain ⟨i1, i2, i3⟩ := MPre.get us cs (j + 1) h2
    refine ⟨by simp [i1], fun i d' hi => ?_, fun i d0 d' hi => ?_⟩
    · cases i with
      | zero => simp only [List.getElem?_cons_zero, Option.some.injEq, MC.rd.injEq] at hi; subst hi; exact ⟨v, rfl, h1⟩
      | succ i => simpa using i2 i d' (by simpa using hi)
    · cases i with
      | zero => simp at hi
      | succ i => rw [show j + (i + 1) = j + 1 + i from by omega]; simpa using i3 i d0 d' (by simpa using hi)
  | v :: us, .mk d e :: cs, j, h => by
    obtain ⟨h1, h2⟩ := h
    obtain ⟨i1, i2, i3⟩ := MPre.get us cs (j + 1) h2
    refine ⟨by simp [i1], fun i d' hi => ?_, fun i d0 d' hi => ?_⟩
    · cases i with
      | zero => simp at hi
      | succ i => simpa using i2 i d' (by simpa using hi)
    · cases i with
      | zero => simp only [List.getElem?_cons_zero, Option.some.injEq, MC.mk.injEq] at hi; obtain ⟨rfl, rfl⟩ := hi; exact ⟨v, rfl, h1⟩
      | succ i => rw [show j + (i + 1) = j + 1 + i from by omega]; simpa using i3 i d0 d' (by simpa using hi)
theorem MPost.mk {w : World} {O : Nat → Option Nat} {Ts : Nat → TypeId} : ∀ (us : List Value) (cs : List MC) (j : Nat), us.length = cs.length → (∀ (i : Nat) (v : Value) (d d' : D), us[i]? = some v → cs[i]? = some (MC.mk d d') → ∃ fp, RowOk w (Ts (j + i)) v d' fp ∧ fp.Nodup ∧ ∀ k ∈ fp, O k = some (j + i)) → MPost w O Ts j us cs
  | [], [], _, _, _ => trivial
  | [], _ :: _, _, h, _ => by simp at h
  | _ :: _, [], _, h, _ => by simp at h
  | v :: us, .rd d :: cs, j, hl, h => MPost.mk us cs (j + 1) (by simpa using hl) fun i v' d0 d' h1 h2 => by
    have := h (i + 1) v' d0 d' (by simpa using h1) (by simpa using h2)
    rwa [show j + (i + 1) = j + 1 + i from by omega] at this
  | v :: us, .mk d e :: cs, j, hl, h => ⟨h 0 v d e rfl rfl, MPost.mk us cs (j + 1) (by simpa using hl) fun i v' d0 d' h1 h2 => by
    have := h (i + 1) v' d0 d' (by simpa using h1) (by simpa using h2)
    rwa [show j + (i + 1) = j + 1 + i from by omega] at this⟩
theorem startRows_get {Ts : Nat → TypeId} : ∀ (cs : List MC) (j r : Nat) (x : TypeId × D), lk (startRows Ts j cs) r = some x → ∃ (i : Nat) (d d' : D), r = 900 + (j + i) ∧ cs[i]? = some (MC.mk d d') ∧ x = (Ts (j + i), d)
  | [], _, _, _, h => by simp [startRows, lk] at h
  | .rd d :: cs, j, r, x, h => by
    obtain ⟨i, d, d', h1, h2, h3⟩ := startRows_get cs (j + 1) r x h
    exact ⟨i + 1, d, d', by rw [h1]; omega, by simpa using h2, by rw [h3]; congr 2; omega⟩
  | .mk d e :: cs, j, r, x, h => by
    simp only [startRows, lk] at h
    split at h
    · rename_i he
      injection h with h
      exact ⟨0, d, e, by rw [← he]; omega, rfl, by rw [← h]; simp⟩
    · obtain ⟨i, d, d', h1, h2, h3⟩ := startRows_get cs (j + 1) r x h
      exact ⟨i + 1, d, d', by rw [h1]; omega, by simpa using h2, by rw [h3]; congr 2; omega⟩
theorem mpcs_ok {M : Maps} {E : Env} {w : World} : ∀ (cs : List MC) (us : List Value) (j : Nat), us.length = cs.length → (∀ (i : Nat) (c : MC) (v : Value), cs[i]? = some c → us[i]? = some v → COk M E w v (c.pc (j + i))) → All2 (COk M E w) us (mpcs j cs)
  | [], [], _, _, _ => .nil
  | [], _ :: _, _, h, _ => by simp at h
  | _ :: _, [], _, h, _ => by simp at h
  | c :: cs, u :: us, j, hl, h => .cons (h 0 c u rfl rfl) (mpcs_ok cs us (j + 1) (by simpa using hl) fun i c' v h1 h2 => by
    have := h (i + 1) c' v (by simpa using h1) (by simpa using h2)
    rwa [show j + (i + 1) = j + 1 + i from by omega] at this)
theorem startTm_ok {M : Maps} {E : Env} {w : World} : ∀ (args : List MA) (vals us : List Value) (t0 j : Nat), unp vals args us → (∀ (i : Nat) (c : MC) (v : Value), (args.flatMap MA.cells)[i]? = some c → us[i]? = some v → COk M E w v (c.pc (j + i))) →
    ∀ t p, lk (startTm t0 j args) t = some p → ∃ v, t0 ≤ t ∧ vals[t - t0]? = some v ∧ POk M E w v p
  | [], [], us, t0, j, _, _, t, p, h => by simp [startTm, lk] at h
  | [], _ :: _, _, _, _, h, _, _, _, _ => by simp [unp] at h
  | a :: args, [], _, _, _, h, _, _, _, _ => by cases a <;> simp [unp] at h
  | .one c :: args, v :: vals, us, t0, j, h, hc, t, p, ht => by
    obtain ⟨us', rfl, h2⟩ := h
    simp only [startTm, lk] at ht
    split at ht
    · rename_i he
      subst he
      injection ht with ht
      subst ht
      exact ⟨v, Nat.le_refl _, by simp, hc 0 c v rfl rfl⟩
    · obtain ⟨v', k1, k2, k3⟩ := startTm_ok args vals us' (t0 + 1) (j + 1) h2 (fun i c' v' h1 h3 => by
        have := hc (i + 1) c' v' (by simpa [MA.cells] using h1) (by simpa using h3)
        rwa [show j + (i + 1) = j + 1 + i from by omega] at this) t p ht
      exact ⟨v', by omega, by rw [show t - t0 = (t - (t0 + 1)) + 1 from by omega]; simpa using k2, k3⟩
  | .agg cs :: args, v :: vals, us, t0, j, h, hc, t, p, ht => by
    obtain ⟨arr, us', rfl, hl, rfl, h2⟩ := h
    simp only [startTm, lk] at ht
    split at ht
    · rename_i he
      subst he
      injection ht with ht
      subst ht
      refine ⟨_, Nat.le_refl _, by simp, arr, rfl, mpcs_ok cs _ j hl fun i c v h1 h3 => ?_⟩
      have hi : i < cs.length := (List.getElem?_eq_some_iff.1 h1).1
      exact hc i c v (by rw [List.flatMap_cons, List.getElem?_append_left (by simpa [MA.cells] using hi)]; exact h1) (by rw [List.getElem?_append_left (by omega)]; exact h3)
    · obtain ⟨v', k1, k2, k3⟩ := startTm_ok args vals us' (t0 + 1) (j + cs.length) h2 (fun i c' v' h1 h3 => by
        have := hc (cs.length + i) c' v' (by rw [List.flatMap_cons, List.getElem?_append_right (by simp [MA.cells])]; simpa [MA.cells] using h1) (by rw [List.getElem?_append_right (by omega), hl]; simpa using h3)
        rwa [show j + (cs.length + i) = j + cs.length + i from by omega] at this) t p ht
      exact ⟨v', by omega, by rw [show t - t0 = (t - (t0 + 1)) + 1 from by omega]; simpa using k2, k3⟩
theorem unp_len : ∀ (vals : List Value) (args : List MA) (us : List Value), unp vals args us → vals.length = args.length
  | [], [], _, _ => rfl
  | [], _ :: _, _, h => by simp [unp] at h
  | _ :: _, [], _, h => by simp [unp] at h
  | v :: vs, .one c :: as, us, h => by obtain ⟨us', _, h⟩ := h; simp [unp_len vs as us' h]
  | v :: vs, .agg cs :: as, us, h => by obtain ⟨_, us', _, _, _, h⟩ := h; simp [unp_len vs as us' h]
theorem RowsAre.get {E : Env} {Ts : Nat → TypeId} : ∀ (cs : List MC) (j : Nat), RowsAre E Ts j cs → ∀ (i : Nat) (d d' : D), cs[i]? = some (MC.mk d d') → E.row (900 + (j + i)) = some (Ts (j + i), d')
  | [], _, _, i, _, _, h => by simp at h
  | .rd x :: cs, j, hr, i, d, d', h => by
    cases i with
    | zero => simp at h
    | succ i => have := RowsAre.get cs (j + 1) hr i d d' (by simpa using h); rwa [show j + 1 + i = j + (i + 1) from by omega] at this
  | .mk x y :: cs, j, hr, i, d, d', h => by
    cases i with
    | zero => simp only [List.getElem?_cons_zero, Option.some.injEq, MC.mk.injEq] at h; obtain ⟨rfl, rfl⟩ := h; exact hr.1
    | succ i => have := RowsAre.get cs (j + 1) hr.2 i d d' (by simpa using h); rwa [show j + 1 + i = j + (i + 1) from by omega] at this
def resNum (res : Res) : Bool := (res.flatMap (·.2)).all fun rc => match rc with | .rd d => d.val.isSome | .own .. => false
theorem rcs_num {w w' : World} {Z Z' : Nat → Prop} {O O' : Nat → Tag} : ∀ (rcs : List RC) (vs : List Value) (j : Nat), rcs.all (fun rc => match rc with | .rd d => d.val.isSome | .own .. => false) = true → RCs w Z O j vs rcs → RCs w' Z' O' j vs rcs
  | [], [], j, _, h => trivial
  | [], _ :: _, _, _, h => h.elim
  | _ :: _, [], _, _, h => h.elim
  | .rd d :: rcs, v :: vs, j, hs, h => by
    simp only [List.all_cons, Bool.and_eq_true] at hs
    obtain ⟨u, hu⟩ := Option.isSome_iff_exists.1 hs.1
    refine ⟨?_, rcs_num rcs vs (j + 1) hs.2 h.2⟩
    have := rd_val (h.1 : Rd w _ [v] [d]) hu
    subst this
    exact Rd.val hu .nil
  | .own T d :: rcs, v :: vs, j, hs, h => by simp at hs
open Classical in
theorem MK.intro {P : Program} {f : FuncId} {fn : Func} {c : Code} {args : List MA} {res : Res} (hf : P.funcs[f]? = some fn) (hb : fn.body = some c) (n : Nat) (hn : fn.ntmps = n) (ha : args.length ≤ n) (hcs : (args.flatMap MA.cells).length ≤ 100) (hnum : resNum res = true)
    (h : ∀ (w : World) (Z IX : Nat → Prop) (pin : List (Nat × Value)) (Ts : Nat → TypeId), (∀ x ∈ pin, 900 ≤ x.1 ∧ x.1 < 1000) → T P ⟨w.heap.size, w, Z, IX, pin, n⟩ c (Env.startM args Ts) (QRetM P fn res Ts (args.flatMap MA.cells))) : MK P f args res := by
  intro w Z O Ts vals us hz hO hZO hunp hpre
  have hl : vals.length = args.length := unp_len _ _ _ hunp
  obtain ⟨hul, hrd, hmk⟩ := MPre.get us _ 0 hpre
  refine calls_of_wp hf hb ?_
  obtain ⟨fpf, hfp⟩ : ∃ fpf : Nat → List Nat, ∀ (i : Nat) (d d' : D), (args.flatMap MA.cells)[i]? = some (MC.mk d d') → ∃ v, us[i]? = some v ∧ RowOk w (Ts i) v d (fpf i) ∧ (fpf i).Nodup ∧ ∀ k ∈ fpf i, O k = some i := by
    refine ⟨fun i => if h : ∃ fp : List Nat, ∀ d d' : D, (args.flatMap MA.cells)[i]? = some (MC.mk d d') → ∃ v, us[i]? = some v ∧ RowOk w (Ts i) v d fp ∧ fp.Nodup ∧ ∀ k ∈ fp, O k = some i then Classical.choose h else [], fun i d d' hc => ?_⟩
    have hex : ∃ fp : List Nat, ∀ d d' : D, (args.flatMap MA.cells)[i]? = some (MC.mk d d') → ∃ v, us[i]? = some v ∧ RowOk w (Ts i) v d fp ∧ fp.Nodup ∧ ∀ k ∈ fp, O k = some i := by
      obtain ⟨v, h1, fp, h2, h3, h4⟩ := hmk i d d' hc
      refine ⟨fp, fun e e' he => ?_⟩
      rw [hc] at he
      injection he with he
      injection he with he1 he2
      subst he1
      exact ⟨v, h1, by simpa using h2, h3, by simpa using h4⟩
    simp only [dif_pos hex]
    exact Classical.choose_spec hex d d' hc
  have hst : Rel ⟨w.heap.size, w, Z, fun k => O k ≠ none, (List.range us.length).map fun i => (900 + i, us.getD i undef), n⟩ (Env.startM args Ts) { tmps := vals.toArray ++ Array.replicate (n - vals.toArray.size) undef, defers := [] } w := by
    refine ⟨⟨fun r => us.getD (r - 900) undef, fun r => fpf (r - 900), fun _ => 0, fun k => if Z k then .froz else match O k with | some j => .row (900 + j) | none => .none⟩, ?_⟩
    have hown : ∀ k j, O k = some j → (if Z k then Tag.froz else match O k with | some j => .row (900 + j) | none => .none) = .row (900 + j) := fun k j hk => by
      rw [if_neg (fun hzk => by rw [hZO k hzk] at hk; cases hk), hk]
    have hcell : ∀ (i : Nat) (c : MC) (v : Value), (args.flatMap MA.cells)[i]? = some c → us[i]? = some v → COk ⟨fun r => us.getD (r - 900) undef, fun r => fpf (r - 900), fun _ => 0, fun k => if Z k then .froz else match O k with | some j => .row (900 + j) | none => .none⟩ (Env.startM args Ts) w v (c.pc (0 + i)) := fun i c v hc hv => by
      cases c with
      | rd d =>
        obtain ⟨v', h1, h2⟩ := hrd i d hc
        rw [hv] at h1
        injection h1 with h1
        subst h1
        exact Rd.keep h2 (fun _ _ => rfl) fun k hk => by simp [hk]
      | mk d d' =>
        intro T e _
        simp only [PathTo]
        rw [List.getD_eq_getElem?_getD, show 900 + (0 + i) - 900 = i from by omega, hv]
        rfl
    refine { tn := by simp; omega, df := rfl, fr := ⟨rfl, rfl, rfl, Nat.le_refl _, fun _ _ _ => rfl⟩, ba := Nat.le_refl _, lt := ?_, z0 := fun k hk => by have hk' : Z k := hk; simp [hk'], zb := ?_, wr := ?_, tm := ?_, rows := ?_, boxes := ?_, pin := ?_, bpin := fun b v hp hn T ps hb => by simp [Env.box, Env.startM, lk] at hb }
    · intro k hk
      simp only at hk
      split at hk
      · rename_i hz'; exact hz k hz'
      · cases hOk : O k with
        | none => rw [hOk] at hk; exact absurd rfl hk
        | some j => exact hO k (by rw [hOk]; simp)
    · intro k hk
      simp only at hk
      split at hk
      · rename_i hz'; exact .inl hz'
      · cases hOk : O k with
        | none => rw [hOk] at hk; cases hk
        | some j => rw [hOk] at hk; cases hk
    · intro k hk hk'
      simp only at hk hk'
      split at hk
      · rename_i hz'; rw [if_pos hz'] at hk'; exact absurd rfl hk'
      · cases hOk : O k with
        | none => rw [hOk] at hk; exact absurd rfl hk
        | some j => left; show O k ≠ none; rw [hOk]; simp
    · intro t
      have hget : (Env.startM args Ts).get t = (lk (startTm 0 0 args) t).getD (.one .und) := rfl
      rw [hget]
      cases hx : lk (startTm 0 0 args) t with
      | none => trivial
      | some p =>
        obtain ⟨v, _, hv, hok⟩ := startTm_ok args vals us 0 0 hunp hcell t p hx
        rw [Nat.sub_zero] at hv
        have hval : ({ tmps := vals.toArray ++ Array.replicate (n - vals.toArray.size) undef, defers := [] } : Act).tmps.getD t undef = v := by
          have hlt : t < vals.length := (List.getElem?_eq_some_iff.1 hv).1
          have : (vals.toArray ++ Array.replicate (n - vals.toArray.size) undef)[t]? = some v := by
            rw [Array.getElem?_append_left (by simpa using hlt)]; simpa using hv
          simp only [Array.getD_eq_getD_getElem?, this, Option.getD_some]
        rw [hval]
        exact hok
    · intro r T d hr
      obtain ⟨i, e, e', h1, h2, h3⟩ := startRows_get _ 0 r _ hr
      injection h3 with h3 h4
      subst h3 h4
      rw [Nat.zero_add] at h1
      subst h1
      obtain ⟨v, k1, k2, k3, k4⟩ := hfp i d e' h2
      refine ⟨?_, ?_, fun k hk => ?_⟩
      · simp only [Nat.add_sub_cancel_left, Nat.zero_add, List.getD_eq_getElem?_getD, k1, Option.getD_some]
        exact k2
      · simpa only [Nat.add_sub_cancel_left] using k3
      · simp only [Nat.add_sub_cancel_left] at hk
        exact hown k i (k4 k hk)
    · intro b T ps hb; simp [Env.box, Env.startM, lk] at hb
    · intro r v hrv T d hr
      obtain ⟨i, _, h2⟩ := List.mem_map.1 hrv
      have h3 : r = 900 + i := (congrArg Prod.fst h2).symm
      have h4 : v = us.getD i undef := (congrArg Prod.snd h2).symm
      rw [h3, h4]
      simp only [Nat.add_sub_cancel_left]
  have hpin : ∀ x ∈ ((List.range us.length).map fun i => (900 + i, us.getD i undef)), 900 ≤ x.1 ∧ x.1 < 1000 := fun x hx => by
    obtain ⟨i, h1, rfl⟩ := List.mem_map.1 hx
    rw [List.mem_range] at h1
    simp only
    omega
  have := h w Z (fun k => O k ≠ none) _ Ts hpin _ _ hst
  rw [hn]
  refine wp_mono this fun e a w' ⟨E, hq, M, R⟩ => ?_
  have key : (RetOk P fn res E ∧ resScal res = true) ∧ RowsAre E Ts 0 (args.flatMap MA.cells) → bodyPost P fn (ReturnsM w O Ts us (args.flatMap MA.cells) res) .ret a w' := fun ⟨⟨⟨pss, h1, h2, ss, h3⟩, _⟩, hrows⟩ => by
    obtain ⟨vs, bcs, k1, k2, k3, k4⟩ := ret_all R h1
    obtain ⟨O1, o1, _, o3, o4⟩ := retC_ok R h3 _ 0 k4
    refine ⟨R.df, packed vs, results_run k1, ⟨R.fr.os, R.fr.tape, R.fr.output, R.fr.size, fun k hk hno => R.fr.block k hk fun h => h hno⟩, vs, bcs,
      fun k => match M.own k with | .row r => if 900 ≤ r then some (r - 900) else none | _ => none, rfl, k2, k3.trans h2, rcs_num _ _ _ hnum o4, fun k hk => ?_, ?_⟩
    · simp only at hk
      split at hk
      · rename_i r hr
        refine ⟨R.lt k (by rw [hr]; simp), ?_⟩
        exact R.wr k (by rw [hr]; simp) (by rw [hr]; simp)
      · exact absurd rfl hk
    · refine MPost.mk us _ 0 hul fun i v d d' hv hc => ?_
      have hr := RowsAre.get _ 0 hrows i d d' hc
      obtain ⟨p1, p2, p3⟩ := R.rows _ _ _ hr
      have hi : i < us.length := (List.getElem?_eq_some_iff.1 hv).1
      have hh := R.pin (900 + i) v (by
        refine List.mem_map.2 ⟨i, List.mem_range.2 hi, ?_⟩
        rw [List.getD_eq_getElem?_getD, hv]; rfl) _ _ (by rw [Nat.zero_add] at hr; exact hr)
      rw [Nat.zero_add] at p1 p2 p3 ⊢
      rw [hh] at p1
      exact ⟨_, p1, p2, fun k hk => by simp [p3 k hk]⟩
  cases e with
  | normal => exact key hq
  | ret => exact key hq
  | _ => exact hq.elim
theorem Own.lend' {w : World} {v u : Value} {d : D} {bs : List Nat} (p : List (Nat × Nat)) (ho : Own w [v] [d] bs) (hp : PathTo w v d p u) (hnd : bs.Nodup) : ∃ b1 b b2, bs = b1 ++ b ++ b2 ∧ Own w [u] [d.at_ p] b ∧ (p = [] ∨ ∀ a n c, v = .slice (some a) n c → a.block ∈ b1) ∧
    ∀ (w' : World) (e d' : D) (b' : List Nat), d.putAt p e = some d' → Own w' [u] [e] b' → (∀ k ∈ b1, w'.heap[k]? = w.heap[k]?) → (∀ k ∈ b2, w'.heap[k]? = w.heap[k]?) → Own w' [v] [d'] (b1 ++ b' ++ b2) := by
  cases p with
  | nil =>
    obtain ⟨b1, b, b2, h1, h2, h3⟩ := Own.lend [] v d u bs ho hp
    exact ⟨b1, b, b2, h1, h2, .inl rfl, h3⟩
  | cons ij p =>
    obtain ⟨i, j⟩ := ij
    obtain ⟨g, cap, cs, t, c, h1, h2, h3, h4, h5, h6⟩ := hp
    subst h1
    obtain ⟨k1, k2, _, k3, k4, cs', t', b, k5, k6, k7, rfl⟩ := own_sl ho
    rw [h2] at k5
    injection k5 with k5
    injection k5 with e1 e2
    subst e1 e2
    have hlt : i * d.z + j < d.flat.length := by
      rw [D.flat_length k2 k1]
      calc i * d.z + j < i * d.z + d.z := by omega
        _ = (i + 1) * d.z := by rw [Nat.succ_mul]
        _ ≤ d.size * d.z := Nat.mul_le_mul_right _ (by omega)
    obtain ⟨c', c1, b0, c2, hc', rfl, ho', hback⟩ := k7.lend1 (i * d.z + j) (d.cell i j) (D.flat_get k2 k1 h3 h4)
    obtain rfl : c' = c := by
      rw [List.getElem?_take, if_pos hlt] at hc'
      have : cs[i * d.z + j]? = some c' := by simpa using hc'
      rw [h5] at this
      injection this with this
      exact this.symm
    obtain ⟨a1, a, a2, rfl, hoa, hbk⟩ := Own.lend p c' (d.cell i j) u b0 ho' h6
    refine ⟨g :: (c1 ++ a1), a, a2 ++ c2, by simp, hoa, .inr (fun a n c h => by injection h with h; injection h with h; subst h; simp), fun w' e d' b' he ho2 hk1 hk2 => ?_⟩
    simp only [D.putAt] at he
    obtain ⟨y, hy, hput⟩ := Option.bind_eq_some_iff.1 he
    obtain ⟨f1, f2, f3, f4, f5⟩ := D.put_flat hput k2 h3 h4
    have hb := hbk w' e y b' hy ho2 (fun k hk => hk1 k (by simp [hk])) (fun k hk => hk2 k (by simp [hk]))
    have hc := hback w' c' y _ hb (fun k hk => hk1 k (by simp [hk])) (fun k hk => hk2 k (by simp [hk]))
    have hset : (cs.toList.take d.flat.length).set (i * d.z + j) c' = cs.toList.take d.flat.length := by
      apply List.ext_getElem? 
      intro q
      rw [List.getElem?_set]
      split
      · rename_i e; subst e; split
        · rw [hc']
        · rename_i hh; rw [List.getElem?_eq_none (by omega)]
      · rfl
    rw [hset, ← f1] at hc
    have hlen : d'.flat.length = d.flat.length := by rw [f1, List.length_set]
    have hg : w'.heap[g]? = some (.cells cs t (0, 0)) := (hk1 g (by simp)).trans h2
    have := Own.sl (w := w') (vs := []) (ds := []) (b2 := []) f5 hg (by rw [f2]; exact k3) k4 (by rw [f3]; exact k6) f4 (by rw [hlen]; exact hc) .nil
    rw [f2] at this
    simpa using this
theorem own_head {w : World} {v : Value} {d : D} {bs : List Nat} (h : Own w [v] [d] bs) (hs : d.isSl = true) : ∃ T, ∀ a n c, v = .slice (some a) n c → ∃ cs fr, w.heap[a.block]? = some (.cells cs T fr) := by
  cases h with
  | val hv _ => cases d <;> simp [D.val] at hv <;> simp [D.isSl] at hs
  | empty => exact ⟨0, fun a n c h => by injection h with h; cases h⟩
  | sl h1 h2 h3 h4 h5 h6 h7 h8 => exact ⟨_, fun a n c h => by injection h with h; injection h with h; subst h; exact ⟨_, _, h2⟩⟩
inductive MCells (E : Env) : List PC → List MC → List (Nat × D) → Prop
  | nil : MCells E [] [] []
  | d {x : D} {ps : List PC} {cs : List MC} {js : List (Nat × D)} : MCells E ps cs js → MCells E (.d x :: ps) (.rd x :: cs) js
  | nilmk {x : D} {ps : List PC} {cs : List MC} {js : List (Nat × D)} : x.isSl = true → x.size = 0 → x.wf → MCells E ps cs js → MCells E (.nil :: ps) (.mk x x :: cs) js
  | row {r : Nat} {p : List (Nat × Nat)} {T : TypeId} {d e e' d' : D} {ps : List PC} {cs : List MC} {js : List (Nat × D)} : E.row r = some (T, d) → d.at_ p = e → e.isSl = true → d.putAt p e' = some d' → d'.isSl = true → d'.size = d.size → d'.z = d.z → lk js r = none →
      MCells E ps cs js → MCells E (.row r p :: ps) (.mk e e' :: cs) ((r, d') :: js)
def blkT (w : World) : Value → TypeId
  | .slice (some a) _ _ => match w.heap[a.block]? with | some (.cells _ T _) => T | _ => 0
  | _ => 0
theorem MPre.imp {w : World} {Z : Nat → Prop} {O O' : Nat → Option Nat} {Ts : Nat → TypeId} (h : ∀ k i, O k = some i → O' k = some i) : ∀ (us : List Value) (cs : List MC) (j : Nat), MPre w Z O Ts j us cs → MPre w Z O' Ts j us cs
  | [], [], _, _ => trivial
  | [], _ :: _, _, hp => by simp [MPre] at hp
  | _ :: _, [], _, hp => by simp [MPre] at hp
  | v :: us, .rd d :: cs, j, hp => ⟨hp.1, MPre.imp h us cs (j + 1) hp.2⟩
  | v :: us, .mk d e :: cs, j, ⟨⟨fp, h1, h2, h3⟩, hp⟩ => ⟨⟨fp, h1, h2, fun k hk => h k j (h3 k hk)⟩, MPre.imp h us cs (j + 1) hp⟩
open Classical in
theorem MCells.hand {C : Ctx} {M : Maps} {E : Env} {a : Act} {w : World} (R : RelM C M E a w) (Ts : Nat → TypeId) {ps : List PC} {cs : List MC} {js : List (Nat × D)} (h : MCells E ps cs js) : ∀ (us : List Value) (j : Nat), All2 (COk M E w) us ps → (∀ (i : Nat) (v : Value), us[i]? = some v → Ts (j + i) = blkT w v) →
    ∃ (O : Nat → Option Nat) (ix : Nat → Nat), (∀ k i, O k = some i → ∃ r, (lk js r).isSome = true ∧ M.own k = .row r) ∧ (∀ r, (lk js r).isSome = true → j ≤ ix r) ∧ (∀ r s, (lk js r).isSome = true → (lk js s).isSome = true → ix r = ix s → r = s) ∧ MPre w (fun k => M.own k = .froz) O Ts j us cs ∧
      ∀ (w' : World) (Om O' : Nat → Option Nat), (∀ k r, (lk js r).isSome = true → M.own k = .row r → Om k = O k) → (∀ k, k < w.heap.size → Om k = none → w'.heap[k]? = w.heap[k]?) → (∀ k, O' k ≠ none → Om k ≠ none ∨ w.heap.size ≤ k) → MPost w' O' Ts j us cs →
        ∃ fp' : Nat → List Nat, ∀ r d', lk js r = some d' → ∃ T d, E.row r = some (T, d) ∧ d'.size = d.size ∧ d'.z = d.z ∧ RowOk w' T (M.hdl r) d' (fp' r) ∧ (fp' r).Nodup ∧ ∀ k ∈ fp' r, (k < w.heap.size ∧ M.own k = .row r ∧ O' k = none) ∨ O' k = some (ix r) := by
  induction h with
  | nil =>
    intro us j hus hTs
    cases hus
    exact ⟨fun _ => none, fun _ => 0, by simp, by simp [lk], by simp [lk], trivial, fun _ _ _ _ _ _ _ => ⟨fun _ => [], by simp [lk]⟩⟩
  | @d x ps cs js _ ih =>
    intro us j hus hTs
    cases hus with
    | @cons v _ us _ h1 h2 =>
      obtain ⟨O, ix, k1, k2, k3, k4, k5⟩ := ih us (j + 1) h2 fun i v' hv => by rw [show j + 1 + i = j + (i + 1) from by omega]; exact hTs (i + 1) v' (by simpa using hv)
      exact ⟨O, ix, k1, fun r hr => by have := k2 r hr; omega, k3, ⟨h1, k4⟩, k5⟩
  | @nilmk x ps cs js e1 e2 e3 _ ih =>
    intro us j hus hTs
    cases hus with
    | @cons v _ us _ h1 h2 =>
      obtain ⟨O, ix, k1, k2, k3, k4, k5⟩ := ih us (j + 1) h2 fun i v' hv => by rw [show j + 1 + i = j + (i + 1) from by omega]; exact hTs (i + 1) v' (by simpa using hv)
      have e : v = .slice none 0 0 := h1
      subst e
      exact ⟨O, ix, k1, fun r hr => by have := k2 r hr; omega, k3, ⟨⟨[], ⟨e1, .empty e1 e2 e3 .nil, fun ad n c h => by injection h with h; cases h⟩, by simp, by simp⟩, k4⟩, fun w' Om O' q1 q2 q3 q4 => k5 w' Om O' q1 q2 q3 q4.2⟩
  | @row r p T d e e' d' ps cs js hr hat hsl hput hsl' hsize hz hlk _ ih =>
    intro us j hus hTs
    cases hus with
    | @cons v _ us _ h1 h2 =>
      obtain ⟨O, ix, k1, k2, k3, k4, k5⟩ := ih us (j + 1) h2 fun i v' hv => by rw [show j + 1 + i = j + (i + 1) from by omega]; exact hTs (i + 1) v' (by simpa using hv)
      obtain ⟨⟨s1, ho, hh⟩, hnd, hrow⟩ := R.rows r T d hr
      have hp : PathTo w (M.hdl r) d p v := h1 T d hr
      obtain ⟨b1, b, b2, hbs, hob, hhd, hback⟩ := Own.lend' p ho hp hnd
      rw [hat] at hob
      have hT0 : Ts j = blkT w v := hTs 0 v rfl
      have hlkr : ∀ s, lk ((r, d') :: js) s = if r = s then some d' else lk js s := fun s => rfl
      have hne : ∀ s, (lk js s).isSome = true → s ≠ r := fun s hs e => by subst e; rw [hlk] at hs; cases hs
      have hOt : ∀ k, M.own k = .row r → O k = none := fun k hk => by
        cases hOk : O k with
        | none => rfl
        | some i =>
          obtain ⟨s, h3, h4⟩ := k1 k i hOk
          rw [hk] at h4
          injection h4 with h4
          exact absurd h4.symm (hne s h3)
      have hb : ∀ k ∈ b, M.own k = .row r := fun k hk => hrow k (by rw [hbs]; simp [hk])
      have hb12 : ∀ k, k ∈ b1 ∨ k ∈ b2 → M.own k = .row r ∧ k ∉ b ∧ k < w.heap.size := fun k hk => by
        have hm : k ∈ M.fp r := by rw [hbs]; rcases hk with hk | hk <;> simp [hk]
        refine ⟨hrow k hm, fun hkb => ?_, ho.lt k hm⟩
        rw [hbs, List.append_assoc, List.nodup_append] at hnd
        obtain ⟨n1, n2, n3⟩ := hnd
        rw [List.nodup_append] at n2
        rcases hk with hk | hk
        · exact n3 k hk k (by simp [hkb]) rfl
        · exact n2.2.2 k hkb k hk rfl
      have hndb : b.Nodup ∧ (b1 ++ b2).Nodup := by
        rw [hbs, List.append_assoc, List.nodup_append] at hnd
        obtain ⟨n1, n2, n3⟩ := hnd
        rw [List.nodup_append] at n2
        exact ⟨n2.1, List.nodup_append.2 ⟨n1, n2.2.1, fun x hx y hy => n3 x hx y (by simp [hy])⟩⟩
      refine ⟨fun k => if k ∈ b then some j else O k, fun s => if s = r then j else ix s, fun k i hk => ?_, fun s hs => ?_, fun s s' hs hs' he => ?_, ⟨⟨b, ⟨hsl, hob, fun ad n c hv => ?_⟩, hndb.1, fun k hk => by simp [hk]⟩, MPre.imp (fun k i hk => ?_) _ _ _ k4⟩, fun w' Om O' q1 q2 q3 q4 => ?_⟩
      · simp only at hk
        split at hk
        · rename_i hkb; exact ⟨r, by rw [hlkr, if_pos rfl]; rfl, hb k hkb⟩
        · obtain ⟨s, h3, h4⟩ := k1 k i hk
          exact ⟨s, by rw [hlkr, if_neg (fun e => hne s h3 e.symm)]; exact h3, h4⟩
      · simp only
        split
        · exact Nat.le_refl _
        · rename_i hsr
          rw [hlkr, if_neg (fun e => hsr e.symm)] at hs
          have := k2 s hs; omega
      · rw [hlkr] at hs hs'
        simp only at he
        by_cases e1 : s = r <;> by_cases e2 : s' = r
        · rw [e1, e2]
        · rw [if_neg (fun e => e2 e.symm)] at hs'
          rw [if_pos e1, if_neg e2] at he
          have := k2 s' hs'; omega
        · rw [if_neg (fun e => e1 e.symm)] at hs
          rw [if_neg e1, if_pos e2] at he
          have := k2 s hs; omega
        · rw [if_neg (fun e => e1 e.symm)] at hs
          rw [if_neg (fun e => e2 e.symm)] at hs'
          rw [if_neg e1, if_neg e2] at he
          exact k3 s s' hs hs' he
      · obtain ⟨T1, hT1⟩ := own_head hob hsl
        obtain ⟨cs1, fr, h3⟩ := hT1 ad n c hv
        refine ⟨cs1, fr, ?_⟩
        rw [h3, hT0, hv]
        simp only [blkT, h3]
      · show (if k ∈ b then some j else O k) = some i
        rw [if_neg]
        · exact hk
        · intro hkb
          obtain ⟨s, h3, h4⟩ := k1 k i hk
          rw [hb k hkb] at h4
          injection h4 with h4
          exact hne s h3 h4.symm
      · obtain ⟨⟨fpb, ⟨r1, r2, r3⟩, r4, r5⟩, q4⟩ := q4
        obtain ⟨fpt, hfpt⟩ := k5 w' Om O' (fun k s hs hk => by
          rw [q1 k s (by rw [hlkr, if_neg (fun e => hne s hs e.symm)]; exact hs) hk]
          show (if k ∈ b then some j else O k) = O k
          rw [if_neg]
          intro hkb
          rw [hb k hkb] at hk
          injection hk with hk
          exact hne s hs hk.symm) q2 q3 q4
        have hom : ∀ k, k ∈ b1 ∨ k ∈ b2 → Om k = none := fun k hk => by
          obtain ⟨m1, m2, m3⟩ := hb12 k hk
          rw [q1 k r (by rw [hlkr, if_pos rfl]; rfl) m1]
          show (if k ∈ b then some j else O k) = none
          rw [if_neg m2]
          exact hOt k m1
        have hon : ∀ k, k ∈ b1 ∨ k ∈ b2 → O' k = none := fun k hk => by
          cases hOk : O' k with
          | none => rfl
          | some i =>
            rcases q3 k (by rw [hOk]; simp) with h3 | h3
            · exact absurd (hom k hk) h3
            · have := (hb12 k hk).2.2; omega
        have hsame : ∀ k, k ∈ b1 ∨ k ∈ b2 → w'.heap[k]? = w.heap[k]? := fun k hk => q2 k (hb12 k hk).2.2 (hom k hk)
        refine ⟨fun s => if s = r then b1 ++ fpb ++ b2 else fpt s, fun s ds hs => ?_⟩
        rw [hlkr] at hs
        by_cases e : r = s
        · subst e
          rw [if_pos rfl] at hs
          injection hs with hs
          subst hs
          simp only [if_pos]
          refine ⟨T, d, hr, hsize, hz, ⟨hsl', hback w' e' d' fpb hput r2 (fun k hk => hsame k (.inl hk)) (fun k hk => hsame k (.inr hk)), fun ad n c hv => ?_⟩, ?_, fun k hk => ?_⟩
          · obtain ⟨cs1, fr1, h3⟩ := hh ad n c hv
            rcases hhd with hp0 | hp1
            · subst hp0
              have e : v = M.hdl r := hp
              rw [e, hv] at hT0
              simp only [blkT, h3] at hT0
              rw [← hT0]
              exact r3 ad n c (by rw [e]; exact hv)
            · exact ⟨cs1, fr1, (hsame _ (.inl (hp1 ad n c hv))).trans h3⟩
          · have hd1 : ∀ k ∈ fpb, ¬ (k ∈ b1 ∨ k ∈ b2) := fun k hk hm => by have := hon k hm; rw [r5 k hk] at this; cases this
            have := List.nodup_append.1 hndb.2
            rw [List.append_assoc]
            refine List.nodup_append.2 ⟨this.1, List.nodup_append.2 ⟨r4, this.2.1, fun x hx y hy e => hd1 x hx (.inr (e ▸ hy))⟩, fun x hx y hy e => ?_⟩
            subst e
            rcases List.mem_append.1 hy with hy | hy
            · exact hd1 x hy (.inl hx)
            · exact this.2.2 x hx x hy rfl
          · simp only [List.mem_append] at hk
            rcases hk with (hk | hk) | hk
            · exact .inl ⟨(hb12 k (.inl hk)).2.2, (hb12 k (.inl hk)).1, hon k (.inl hk)⟩
            · exact .inr (r5 k hk)
            · exact .inl ⟨(hb12 k (.inr hk)).2.2, (hb12 k (.inr hk)).1, hon k (.inr hk)⟩
        · rw [if_neg e] at hs
          have e' : ¬ s = r := fun h => e h.symm
          simp only [if_neg e']
          exact hfpt s ds hs
def PV.mcells : PV → List PC
  | .one c => [c]
  | .agg cs => cs
  | .tup _ => []
def shOk : List PV → List MA → Bool
  | [], [] => true
  | .one _ :: ps, .one _ :: as => shOk ps as
  | .agg cs :: ps, .agg ds :: as => cs.length == ds.length && shOk ps as
  | _, _ => false
theorem unp_of {M : Maps} {E : Env} {w : World} : ∀ (ps : List PV) (args : List MA) (vals : List Value), shOk ps args = true → All2 (POk M E w) vals ps → ∃ us, unp vals args us ∧ All2 (COk M E w) us (ps.flatMap PV.mcells)
  | [], [], _, _, h => by cases h; exact ⟨[], rfl, .nil⟩
  | [], _ :: _, _, h, _ => by simp [shOk] at h
  | p :: _, [], _, h, _ => by cases p <;> simp [shOk] at h
  | .one c :: ps, .one m :: as, _, h, hv => by
    cases hv with
    | @cons v _ vs _ h1 h2 =>
      obtain ⟨us, k1, k2⟩ := unp_of ps as vs h h2
      exact ⟨v :: us, ⟨us, rfl, k1⟩, .cons h1 k2⟩
  | .agg cs :: ps, .agg ds :: as, _, h, hv => by
    simp only [shOk, Bool.and_eq_true, beq_iff_eq] at h
    cases hv with
    | @cons v _ vs _ h1 h2 =>
      obtain ⟨us, k1, k2⟩ := unp_of ps as vs h.2 h2
      obtain ⟨arr, rfl, h3⟩ := h1
      exact ⟨arr.toList ++ us, ⟨arr, us, rfl, by rw [h3.length]; exact h.1, rfl, k1⟩, h3.append k2⟩
  | .one _ :: _, .agg _ :: _, _, h, _ => by simp [shOk] at h
  | .agg _ :: _, .one _ :: _, _, h, _ => by simp [shOk] at h
  | .tup _ :: _, _ :: _, _, h, _ => by simp [shOk] at h
def killJ (js : List (Nat × D)) : PC → PC
  | .row r p => if (lk js r).isSome && !p.isEmpty then .und else .row r p
  | .rptr r p i j => if (lk js r).isSome && !p.isEmpty then .und else .rptr r p i j
  | c => c
theorem killJ_ok (js : List (Nat × D)) (c : PC) : killJ js c = .und ∨ (killJ js c = c ∧ ((∀ r, (lk js r).isSome = true → c.ment r = false) ∨ ∃ r, (lk js r).isSome = true ∧ (c = .row r [] ∨ ∃ i j, c = .rptr r [] i j))) := by
  cases c with
  | row r p =>
    simp only [killJ]
    split
    · exact .inl rfl
    · rename_i h
      refine .inr ⟨rfl, ?_⟩
      by_cases h1 : (lk js r).isSome = true
      · right
        refine ⟨r, h1, .inl ?_⟩
        cases p with
        | nil => rfl
        | cons => simp [h1] at h
      · left
        intro s hs
        simp only [PC.ment, beq_eq_false_iff_ne]
        rintro rfl
        exact h1 hs
  | rptr r p i j =>
    simp only [killJ]
    split
    · exact .inl rfl
    · rename_i h
      refine .inr ⟨rfl, ?_⟩
      by_cases h1 : (lk js r).isSome = true
      · right
        refine ⟨r, h1, .inr ⟨i, j, ?_⟩⟩
        cases p with
        | nil => rfl
        | cons => simp [h1] at h
      · left
        intro s hs
        simp only [PC.ment, beq_eq_false_iff_ne]
        rintro rfl
        exact h1 hs
  | _ => exact .inr ⟨rfl, .inl fun r _ => rfl⟩
open Classical in
theorem Step.callM {P : Program} {C : Ctx} {o : Oper} {E : Env} {t f : Nat} {ats : Array TypeId} {g : Operand} {xs : List Operand} {ps : List PV} {args : List MA} {js : List (Nat × D)} {x : D} {u : Value} (ho : o.op = .call { callee := .value g, args := xs.toArray, argTypes := ats }) (hd : o.dst = some t) (ht : t < C.n)
    (hg : E.ev g = .one (.d (.fn f))) (hfn : isFn P f = true) (hev : xs.map E.ev = ps) (hsh : shOk ps args = true) (hcs : MCells E (ps.flatMap PV.mcells) (args.flatMap MA.cells) js) (hmk : MK P f args [(false, [.rd x])]) (hx : x.val = some u) :
    Step P C o E ((E.marked (killJ js) (lk js)).set t (.one (.d x))) := by
  intro a w ⟨M, R⟩ K Q hK
  have hrun : (execOp a.eval o).run P w = .ok (.enter f (xs.map a.eval).toArray) w := by
    unfold execOp
    rw [ho]
    have hgv : a.eval g = .func (.func f) #[] #[] := ev_val R hg rfl
    simp only [resolve, hgv, Deferred.ofValue, Sem.run_bind, Sem.run_pure, Result.andThen, invoke, List.map_toArray]
    simp [run_callFn hfn]
  unfold Oper.wp
  rw [hrun, Oper.upon_enter]
  have hall : All2 (POk M E w) (xs.map a.eval) ps := by
    subst hev
    clear hrun ho hsh hcs
    induction xs with
    | nil => exact .nil
    | cons y xs ih => exact .cons (ev_ok R y) ih
  obtain ⟨us, hunp, hus⟩ := unp_of ps args _ hsh hall
  obtain ⟨O, ix, k1, k2, k3, k4, k5⟩ := hcs.hand R (fun i => blkT w (us.getD i undef)) us 0 hus fun i v hv => by rw [Nat.zero_add, List.getD_eq_getElem?_getD, hv]; rfl
  refine (hmk w _ O _ (xs.map a.eval) us (fun k hk => R.lt k (by rw [hk]; simp)) (fun k hk => ?_) (fun k hk => ?_) hunp k4).mono fun e w' hret => ?_
  · cases hOk : O k with
    | none => exact absurd hOk hk
    | some i => obtain ⟨r, _, h⟩ := k1 k i hOk; exact R.lt k (by rw [h]; simp)
  · cases hOk : O k with
    | none => rfl
    | some i => obtain ⟨r, _, h⟩ := k1 k i hOk; rw [hk] at h; cases h
  · obtain ⟨hgiv, vs, bcs, O', rfl, hpk, hshape, hrcs, hO', hpost⟩ := hret
    obtain ⟨fp', hfp'⟩ := k5 w' O O' (fun _ _ _ _ => rfl) (fun k hk hn => hgiv.block k hk hn) (fun k hk => (hO' k hk).2) hpost
    have hJ : ∀ r, (lk js r).isSome = true → ∃ d', lk js r = some d' := fun r h => Option.isSome_iff_exists.1 h
    have huniq : ∀ k r s, (lk js r).isSome = true → (lk js s).isSome = true → k ∈ fp' r → k ∈ fp' s → r = s := fun k r s hr hs h1 h2 => by
      obtain ⟨d1, e1⟩ := hJ r hr
      obtain ⟨d2, e2⟩ := hJ s hs
      obtain ⟨_, _, _, _, _, _, _, m1⟩ := hfp' r d1 e1
      obtain ⟨_, _, _, _, _, _, _, m2⟩ := hfp' s d2 e2
      rcases m1 k h1 with ⟨_, p1, p2⟩ | p1 <;> rcases m2 k h2 with ⟨_, q1, q2⟩ | q1
      · rw [p1] at q1; injection q1
      · rw [p2] at q1; cases q1
      · rw [p1] at q2; cases q2
      · rw [p1] at q1; injection q1 with q1; exact k3 r s hr hs q1
    have hfr : Frame_ C w' := ⟨hgiv.os.trans R.fr.os, hgiv.tape.trans R.fr.tape, hgiv.output.trans R.fr.output, Nat.le_trans R.fr.size hgiv.size, fun k hk hn => by
      have hO : O k = none := by
        cases hOk : O k with
        | none => rfl
        | some i =>
          obtain ⟨r, _, h⟩ := k1 k i hOk
          rcases R.wr k (by rw [h]; simp) (by rw [h]; simp) with h2 | h2
          · exact absurd h2 hn
          · omega
      rw [hgiv.block k (Nat.lt_of_lt_of_le hk R.ba) hO]
      exact R.fr.block k hk hn⟩
    have R1 := R.mark (f := killJ js) (lk js) fp' (fun k => if h : ∃ r, (lk js r).isSome = true ∧ k ∈ fp' r then .row (Classical.choose h) else .none) hfr hgiv.size (fun k h0 h1 => by
        refine hgiv.block k (R.lt k h0) ?_
        cases hOk : O k with
        | none => rfl
        | some i => obtain ⟨r, h2, h3⟩ := k1 k i hOk; rw [h1 r h3] at h2; cases h2) (fun r d' hr => by
        obtain ⟨T, d, p1, p2, p3, p4, p5, p6⟩ := hfp' r d' hr
        refine ⟨T, d, p1, p2, p3, p4, p5, fun k hk => ?_⟩
        have hex : ∃ r, (lk js r).isSome = true ∧ k ∈ fp' r := ⟨r, by rw [hr]; rfl, hk⟩
        rw [dif_pos hex]
        have hc := Classical.choose_spec hex
        rw [huniq k _ r hc.1 (by rw [hr]; rfl) hc.2 hk]) (fun k hk => by
        by_cases hex : ∃ r, (lk js r).isSome = true ∧ k ∈ fp' r
        · simp only [dif_pos hex]
          obtain ⟨hc1, hc2⟩ := Classical.choose_spec hex
          obtain ⟨d1, e1⟩ := hJ _ hc1
          obtain ⟨_, _, _, _, _, _, _, m1⟩ := hfp' _ d1 e1
          refine ⟨by simp, ?_⟩
          rcases m1 k hc2 with ⟨p1, p2, p3⟩ | p1
          · exact ⟨Nat.lt_of_lt_of_le p1 hgiv.size, .inr ⟨_, p2, hc1⟩⟩
          · obtain ⟨q1, q2⟩ := hO' k (by rw [p1]; simp)
            refine ⟨q1, ?_⟩
            rcases q2 with q2 | q2
            · cases hOk : O k with
              | none => exact absurd hOk q2
              | some i => obtain ⟨r, h2, h3⟩ := k1 k i hOk; exact .inr ⟨r, h3, h2⟩
            · exact .inl ⟨own_new R q2, Nat.le_trans R.ba q2⟩
        · exact absurd (by rw [dif_neg hex]) hk) (killJ_ok js)
    obtain ⟨M2, R2⟩ : ∃ M2, RelM C M2 (E.marked (killJ js) (lk js)) a w' := ⟨_, R1⟩
    refine hK _ _ ⟨M2, ?_⟩
    rw [hd]
    refine R2.put ht ?_
    -- the value
    match bcs, hshape, hpk, hrcs with
    | [(b, ws)], hshape, hpk, hrcs =>
      simp only [shape, List.map_cons, List.map_nil, List.cons.injEq, Prod.mk.injEq, and_true, List.length_cons, List.length_nil] at hshape
      obtain ⟨rfl, hl⟩ := hshape
      match ws, hl with
      | [v], _ =>
        cases hpk with
        | @cons v' _ vs _ p1 p2 =>
          cases p2
          have e : [v] = [v'] := by simpa [Packs] using p1
          injection e with e _
          subst e
          have hv := rd_val (w := w') (Z := fun k => False ∨ Tag.none = Tag.froz) hrcs.1 hx
          show Rd w' _ [v] [x]
          rw [hv]
          exact Rd.val hx .nil
    | [], hshape, _, _ => simp [shape] at hshape
    | _ :: _ :: _, hshape, _, _ => simp [shape] at hshape
theorem putAt_bss {xs : List (List Int)} {i : Nat} {ys : List Int} : (D.bss xs).putAt [(i, 0)] (.ints .u8 ys) = some (.bss (xs.set i ys)) := rfl
def mkL {α : Type} (cnt : α → Int) (mk : α → Int → α) : List α → Int → List α
  | [], _ => []
  | x :: xs, k => mk x k :: mkL cnt mk xs (k + cnt x)
def cntL {α : Type} (cnt : α → Int) : List α → Int
  | [] => 0
  | x :: xs => cnt x + cntL cnt xs
def upTo {α : Type} (cnt : α → Int) (mk : α → Int → α) (xs : List α) (k : Int) (i : Nat) : List α := mkL cnt mk (xs.take i) k ++ xs.drop i
section
variable {α : Type} {cnt : α → Int} {mk : α → Int → α}
theorem mkL_length : ∀ (xs : List α) (k : Int), (mkL cnt mk xs k).length = xs.length
  | [], _ => rfl
  | x :: xs, k => by simp [mkL, mkL_length xs]
theorem upTo_zero (xs : List α) (k : Int) : upTo cnt mk xs k 0 = xs := by simp [upTo, mkL]
theorem upTo_all {xs : List α} {k : Int} {i : Nat} (h : xs.length ≤ i) : upTo cnt mk xs k i = mkL cnt mk xs k := by simp [upTo, List.take_of_length_le h, List.drop_of_length_le h]
theorem upTo_length (xs : List α) (k : Int) (i : Nat) : (upTo cnt mk xs k i).length = xs.length := by simp [upTo, mkL_length]; omega
theorem mkL_append : ∀ (xs ys : List α) (k : Int), mkL cnt mk (xs ++ ys) k = mkL cnt mk xs k ++ mkL cnt mk ys (k + cntL cnt xs)
  | [], ys, k => by simp [mkL, cntL]
  | x :: xs, ys, k => by simp [mkL, cntL, mkL_append xs ys, Int.add_assoc]
theorem cntL_append : ∀ (xs ys : List α), cntL cnt (xs ++ ys) = cntL cnt xs + cntL cnt ys
  | [], ys => by simp [cntL]
  | x :: xs, ys => by simp [cntL, cntL_append xs ys, Int.add_assoc]
theorem upTo_get {xs : List α} {k : Int} {i : Nat} {df : α} (hi : i < xs.length) : (upTo cnt mk xs k i).getD i df = xs.getD i df := by
  have hl : (mkL cnt mk (xs.take i) k).length = i := by rw [mkL_length]; simp; omega
  simp only [upTo, List.getD_eq_getElem?_getD]
  rw [List.getElem?_append_right (by omega), hl, Nat.sub_self, List.getElem?_drop, Nat.add_zero]
theorem take_succ' {xs : List α} {i : Nat} {df : α} (hi : i < xs.length) : xs.take (i + 1) = xs.take i ++ [xs.getD i df] := by
  rw [List.take_add_one, List.getD_eq_getElem?_getD, List.getElem?_eq_getElem hi]; rfl
theorem drop_cons' {xs : List α} {i : Nat} {df : α} (hi : i < xs.length) : xs.drop i = xs.getD i df :: xs.drop (i + 1) := by
  rw [List.getD_eq_getElem?_getD, List.getElem?_eq_getElem hi]; exact List.drop_eq_getElem_cons hi
theorem upTo_set {xs : List α} {k : Int} {i : Nat} {df : α} (hi : i < xs.length) {y : α} (hy : y = mk (xs.getD i df) (k + cntL cnt (xs.take i))) : (upTo cnt mk xs k i).set i y = upTo cnt mk xs k (i + 1) := by
  have hl : (mkL cnt mk (xs.take i) k).length = i := by rw [mkL_length]; simp; omega
  unfold upTo
  rw [take_succ' (df := df) hi, mkL_append, drop_cons' (df := df) hi, List.set_append_right _ _ (by omega), hl, Nat.sub_self, hy]
  simp [mkL]
theorem cntL_take_succ {xs : List α} {i : Nat} (df : α) (hi : i < xs.length) : cntL cnt (xs.take (i + 1)) = cntL cnt (xs.take i) + cnt (xs.getD i df) := by
  rw [take_succ' (df := df) hi, cntL_append]; simp [cntL]
theorem cntL_nonneg (h0 : ∀ x, 0 ≤ cnt x) : ∀ xs : List α, 0 ≤ cntL cnt xs
  | [] => Int.le_refl _
  | x :: xs => by have := cntL_nonneg h0 xs; have := h0 x; simp only [cntL]; omega
theorem cntL_take_le (h0 : ∀ x, 0 ≤ cnt x) (xs : List α) (i : Nat) : cntL cnt (xs.take i) ≤ cntL cnt xs := by
  have h := cntL_append (cnt := cnt) (xs.take i) (xs.drop i)
  rw [List.take_append_drop] at h
  have := cntL_nonneg h0 (xs.drop i)
  omega
theorem cntL_all {xs : List α} {i : Nat} (h : xs.length ≤ i) : cntL cnt (xs.take i) = cntL cnt xs := by rw [List.take_of_length_le h]
theorem mkL_getD : ∀ (xs : List α) (k : Int) (i : Nat) (df : α), i < xs.length → (mkL cnt mk xs k).getD i df = mk (xs.getD i df) (k + cntL cnt (xs.take i))
  | [], _, i, _, h => by simp at h
  | x :: xs, k, 0, df, h => by simp [mkL, cntL]
  | x :: xs, k, i + 1, df, h => by
    have := mkL_getD xs (k + cnt x) i df (by simpa using h)
    simp only [mkL, List.getD_cons_succ, List.take_succ_cons, cntL, this]
    congr 1; omega
theorem cntL_le {n : Int} : ∀ xs : List α, (∀ x ∈ xs, cnt x ≤ n) → cntL cnt xs ≤ xs.length * n
  | [], _ => by simp [cntL]
  | x :: xs, h => by
    have := cntL_le xs fun y hy => h y (by simp [hy])
    have := h x (by simp)
    simp only [cntL, List.length_cons, Int.natCast_succ, Int.add_mul]
    omega
end
abbrev mkB (xs : List Int) (k : Int) : List Int := mkL (fun _ => 1) (fun _ k => k % 256) xs k
theorem cntL_one : ∀ xs : List Int, cntL (fun _ => 1) xs = xs.length
  | [] => rfl
  | x :: xs => by simp only [cntL, cntL_one xs, List.length_cons, Int.natCast_succ]; omega
theorem cntL_one_take (xs : List Int) (i : Nat) (h : i ≤ xs.length) : cntL (fun _ => 1) (xs.take i) = (i : Int) := by rw [cntL_one]; simp; omega
abbrev mkBs (xs : List (List Int)) (k : Int) : List (List Int) := mkL (fun x => (x.length : Int)) mkB xs k
theorem cntBs_nonneg (xs : List (List Int)) : 0 ≤ cntL (fun x : List Int => (x.length : Int)) xs := cntL_nonneg (fun x => by omega) xs
theorem cntBs_le {xs : List (List Int)} (h : xs.length ≤ 1048576 ∧ ∀ y ∈ xs, y.length ≤ 1048576) : cntL (fun x : List Int => (x.length : Int)) xs ≤ 1099511627776 := by
  have h1 := cntL_le (cnt := fun x : List Int => (x.length : Int)) (n := 1048576) xs fun x hx => by have := h.2 x hx; omega
  have h2 := h.1
  have : (xs.length : Int) * 1048576 ≤ 1099511627776 := by omega
  exact Int.le_trans h1 this
theorem wrap_byte (n : Int) : IntKind.u8.wrap n = n % 256 := rfl
theorem T.bndRow {P : Program} {C : Ctx} {c : Code} {E : Env} {Q : Exit → Env → Prop} (r : Nat) {Ty : TypeId} {d : D} (hr : E.row r = some (Ty, d)) (h : d.size ≤ 9223372036854775807 → T P C c E Q) : T P C c E Q := by
  intro a w R
  have ⟨M, R0⟩ := R
  have ho := (R0.rows r Ty d hr).1.2.1
  refine h ?_ a w R
  generalize M.fp r = bs at ho
  generalize M.hdl r = vv at ho
  cases ho with
  | val hv _ => cases d <;> simp [D.val] at hv <;> simp [D.size]
  | empty _ h2 _ _ => omega
  | sl _ _ h3 h4 _ _ _ _ => omega
theorem RowsAre.rd {E : Env} {Ts : Nat → TypeId} {j : Nat} {d : D} {cs : List MC} (h : RowsAre E Ts (j + 1) cs) : RowsAre E Ts j (.rd d :: cs) := h
theorem RowsAre.mk' {E : Env} {Ts : Nat → TypeId} {j : Nat} {d d' : D} {cs : List MC} (h1 : E.row (900 + j) = some (Ts j, d')) (h : RowsAre E Ts (j + 1) cs) : RowsAre E Ts j (.mk d d' :: cs) := ⟨h1, h⟩
theorem RowsAre.nil' {E : Env} {Ts : Nat → TypeId} {j : Nat} : RowsAre E Ts j [] := trivial
section
variable {α : Type} {cnt : α → Int} {mk : α → Int → α}
theorem upTo_self {xs : List α} {k : Int} (i : Nat) (df : α) : (upTo cnt mk xs k i).set i (xs.getD i df) = upTo cnt mk xs k i := by
  by_cases h : i < xs.length
  · rw [← upTo_get (cnt := cnt) (mk := mk) (k := k) (df := df) h]
    have hl := upTo_length (cnt := cnt) (mk := mk) xs k i
    rw [List.getD_eq_getElem?_getD, List.getElem?_eq_getElem (by omega)]
    exact List.set_getElem_self _
  · exact List.set_eq_of_length_le (by rw [upTo_length]; omega)
theorem upTo_first (xs : List α) (k : Int) (df : α) : xs = (upTo cnt mk xs k 0).set 0 (xs.getD 0 df) := by rw [upTo_self, upTo_zero]
theorem upTo_next {xs : List α} {k : Int} {i : Nat} {df : α} (hi : i < xs.length) {y : α} (hy : y = mk (xs.getD i df) (k + cntL cnt (xs.take i))) : (upTo cnt mk xs k i).set i y = (upTo cnt mk xs k (i + 1)).set (i + 1) (xs.getD (i + 1) df) := by
  rw [upTo_self]; exact upTo_set hi hy
theorem upTo_end {xs : List α} {k : Int} {i : Nat} {df : α} (hi : xs.length ≤ i) : (upTo cnt mk xs k i).set i (xs.getD i df) = mkL cnt mk xs k := by
  rw [upTo_self]; exact upTo_all hi
end
theorem cell_set_bss {U : List (List Int)} {i : Nat} {y : List Int} (hi : i < U.length) : (D.bss (U.set i y)).at_ [(i, 0)] = .ints .u8 y := by
  show (D.bss (U.set i y)).cell i 0 = _
  simp only [D.cell, List.getD_eq_getElem?_getD]
  rw [List.getElem?_set_self (by simpa using hi)]
  rfl
theorem putAt_bss2 {U : List (List Int)} {i : Nat} {y y' : List Int} : (D.bss (U.set i y)).putAt [(i, 0)] (.ints .u8 y') = some (.bss (U.set i y')) := by
  rw [putAt_bss, List.set_set]
theorem ofRow_sl {r : Nat} {p : List (Nat × Nat)} {i j : Nat} {e e' : D} (h : e = e') (hs : e'.isSl = true) : PC.ofRow r p i j e = .row r (p ++ [(i, j)]) := by subst h; simp [PC.ofRow, hs]
def fillP (place : Nat → Option (Nat × Nat)) (ps : List PC) : List (Nat × List PC) → Option (List PC)
  | [] => some ps
  | (i, q) :: rest => match place i with
    | none => none
    | some (off, size) => if q.length = size ∧ off + size ≤ ps.length then fillP place (ps.take off ++ q ++ ps.drop (off + size)) rest else none
theorem fill_ok {R : Value → PC → Prop} {place : Nat → Option (Nat × Nat)} : ∀ (parts : List (Nat × Value)) (pp : List (Nat × List PC)) (cells : Array Value) (ps ps' : List PC), All2 R cells.toList ps → All2 (fun x y => x.1 = y.1 ∧ All2 R x.2.cells.toList y.2) parts pp → fillP place ps pp = some ps' →
    ∃ cells', Instr.fill place cells parts = some cells' ∧ All2 R cells'.toList ps'
  | [], _, cells, ps, ps', hc, hp, h => by
    cases hp
    simp only [fillP, Option.some.injEq] at h
    subst h
    exact ⟨cells, rfl, hc⟩
  | (i, v) :: parts, _, cells, ps, ps', hc, hp, h => by
    cases hp with
    | @cons _ y _ pp h1 h2 =>
      obtain ⟨j, q⟩ := y
      obtain ⟨e, hq⟩ := h1
      dsimp only at e hq
      subst e
      simp only [fillP] at h
      cases hpl : place i with
      | none => rw [hpl] at h; cases h
      | some os =>
        obtain ⟨off, size⟩ := os
        rw [hpl] at h
        dsimp only at h
        split at h
        · rename_i hcond
          obtain ⟨c1, c2⟩ := hcond
          have hvl : v.cells.size = q.length := by have := hq.length; simpa using this
          have hcl : cells.size = ps.length := by have := hc.length; simpa using this
          have hf := fold_set' v.cells off cells (by omega)
          have hR : All2 R (v.cells.zipIdx.foldl (fun cs x => cs.setIfInBounds (off + x.2) x.1) cells).toList (ps.take off ++ q ++ ps.drop (off + size)) := by
            rw [hf]
            refine (((hc.take off).append hq).append ?_)
            rw [show off + v.cells.size = off + size from by omega]
            exact hc.drop _
          obtain ⟨cells', k1, k2⟩ := fill_ok parts pp _ _ ps' hR h2 h
          refine ⟨cells', ?_, k2⟩
          simp only [Instr.fill, hpl]
          rw [if_neg (by simp only [ne_eq, decide_not, Bool.or_eq_true, Bool.not_eq_true', decide_eq_false_iff_not, decide_eq_true_eq]; omega)]
          exact k1
        · cases h
theorem zeros_ok (M : Maps) (E : Env) (w : World) : ∀ zs : List Value, (zs.all fun v => match PC.ofValue v with | .und => false | _ => true) = true → All2 (COk M E w) zs (zs.map PC.ofValue)
  | [], _ => .nil
  | v :: zs, h => by
    simp only [List.all_cons, Bool.and_eq_true] at h
    refine .cons (zero_ok M E w v ?_) (zeros_ok M E w zs h.2)
    intro e
    rw [e] at h
    exact absurd h.1 (by simp)
def rd (l : List Int) (i : Int) : Int := l.getD i.toNat 0
theorem rd_at {l : List Int} {i : Nat} {x : Int} (h : l[i]? = some x) : rd l (i : Int) = x := by simp [rd, List.getD_eq_getElem?_getD, h]
theorem lt_of_at {α : Type} {l : List α} {i : Nat} {x : α} (h : l[i]? = some x) : i < l.length := (List.getElem?_eq_some_iff.1 h).1
theorem getD_u8 {l : List Int} (h : U8s l) (i : Nat) : 0 ≤ l.getD i 0 ∧ l.getD i 0 ≤ 255 := by
  rw [List.getD_eq_getElem?_getD]
  cases hx : l[i]? with
  | none => simp
  | some x => simpa using h x (List.mem_of_getElem? hx)
def splitGo : Nat → Int → Int → Int
  | 0, _, x => x
  | d + 1, n, x => if x < n - x then splitGo d n (2 * x) else x
def splitAt (n : Int) : Int := splitGo n.toNat n 1
theorem splitGo_bd : ∀ (d : Nat) (n x : Int), 1 ≤ x → x < n → 1 ≤ splitGo d n x ∧ splitGo d n x < n
  | 0, n, x, h1, h2 => ⟨h1, h2⟩
  | d + 1, n, x, h1, h2 => by
    unfold splitGo
    by_cases c : x < n - x
    · rw [if_pos c]; exact splitGo_bd d n (2 * x) (by omega) (by omega)
    · rw [if_neg c]; exact ⟨h1, h2⟩
theorem splitAt_bd (n : Int) (hn : 2 ≤ n) : 1 ≤ splitAt n ∧ splitAt n < n := splitGo_bd n.toNat n 1 (by omega) (by omega)
def bitHas (l : List Int) (i : Int) : Bool := decide (0 ≤ i) && (decide (i / 8 < l.length) && decide (rd l (i / 8) / 2 ^ (i % 8).toNat % 2 = 1))
def bitsGo (l : List Int) : Nat → Nat → List Int
  | 0, _ => []
  | d + 1, i => if bitHas l i = true then (i : Int) :: bitsGo l d (i + 1) else bitsGo l d (i + 1)
def bitList (l : List Int) : List Int := bitsGo l (8 * l.length) 0
theorem bitsGo_len (l : List Int) : ∀ d i, (bitsGo l d i).length ≤ d
  | 0, _ => Nat.le_refl _
  | d + 1, i => by
    have := bitsGo_len l d (i + 1)
    unfold bitsGo; split
    · rw [List.length_cons]; omega
    · omega
theorem bitsGo_ge (l : List Int) : ∀ d i x, x ∈ bitsGo l d i → (i : Int) ≤ x ∧ x < ((i + d : Nat) : Int)
  | 0, _, x, h => by cases h
  | d + 1, i, x, h => by
    unfold bitsGo at h
    have ih := bitsGo_ge l d (i + 1) x
    split at h
    · rcases List.mem_cons.1 h with rfl | h
      · exact ⟨Int.le_refl _, by omega⟩
      · have := ih h; omega
    · have := ih h; omega
theorem bitsGo_last (l : List Int) (n : Int) : ∀ d i, (bitsGo l d i).all (fun x => decide (x < n)) = match (bitsGo l d i).getLast? with | none => true | some x => decide (x < n)
  | 0, _ => rfl
  | d + 1, i => by
    have ih := bitsGo_last l n d (i + 1)
    have hg := bitsGo_ge l d (i + 1)
    unfold bitsGo
    split
    · rw [List.all_cons, ih, List.getLast?_cons]
      cases h : (bitsGo l d (i + 1)).getLast? with
      | none => simp
      | some y =>
        have hy := hg y (List.mem_of_getLast? h)
        simp only [Option.getD_some]
        by_cases c : y < n
        · rw [decide_eq_true c, decide_eq_true (by omega)]; rfl
        · rw [decide_eq_false c, Bool.and_false]
    · exact ih
theorem bitList_len (l : List Int) : (bitList l).length ≤ 8 * l.length := bitsGo_len l _ _
def ones (x : Int) : Int := (if x / 1 % 2 = 1 then 1 else 0) + (if x / 2 % 2 = 1 then 1 else 0) + (if x / 4 % 2 = 1 then 1 else 0) + (if x / 8 % 2 = 1 then 1 else 0) + (if x / 16 % 2 = 1 then 1 else 0) + (if x / 32 % 2 = 1 then 1 else 0) + (if x / 64 % 2 = 1 then 1 else 0) + (if x / 128 % 2 = 1 then 1 else 0)
theorem ones_bd (x : Int) : 0 ≤ ones x ∧ ones x ≤ 8 := by unfold ones; omega
theorem bitHas_at {l : List Int} {j : Nat} {x : Int} (h : l[j]? = some x) (t : Nat) (ht : t < 8) : bitHas l ((8 * j + t : Nat) : Int) = decide (x / 2 ^ t % 2 = 1) := by
  have hj := lt_of_at h
  have e1 : ((8 * j + t : Nat) : Int) / 8 = (j : Int) := by omega
  have e2 : (((8 * j + t : Nat) : Int) % 8).toNat = t := by omega
  unfold bitHas
  rw [e1, e2, rd_at h, decide_eq_true (show (0 : Int) ≤ ((8 * j + t : Nat) : Int) by omega), decide_eq_true (show (j : Int) < (l.length : Int) by omega), Bool.true_and, Bool.true_and]
theorem bitsGo_step (l : List Int) (d i : Nat) : ((bitsGo l (d + 1) i).length : Int) = (if bitHas l i = true then 1 else 0) + ((bitsGo l d (i + 1)).length : Int) := by
  show ((if bitHas l i = true then (i : Int) :: bitsGo l d (i + 1) else bitsGo l d (i + 1)).length : Int) = _
  split
  · rw [List.length_cons]; omega
  · omega
theorem bitsGo_eight {l : List Int} {j d : Nat} {x : Int} (h : l[j]? = some x) : ((bitsGo l (8 * (d + 1)) (8 * j)).length : Int) = ones x + ((bitsGo l (8 * d) (8 * (j + 1))).length : Int) := by
  rw [show 8 * (d + 1) = 8 * d + 1 + 1 + 1 + 1 + 1 + 1 + 1 + 1 by omega, show 8 * (j + 1) = 8 * j + 1 + 1 + 1 + 1 + 1 + 1 + 1 + 1 by omega]
  iterate 8 rw [bitsGo_step]
  have b := fun t ht => bitHas_at h t ht
  have b0 := b 0 (by decide); have b1 := b 1 (by decide); have b2 := b 2 (by decide); have b3 := b 3 (by decide); have b4 := b 4 (by decide); have b5 := b 5 (by decide); have b6 := b 6 (by decide); have b7 := b 7 (by decide)
  simp only [Nat.add_assoc, Nat.reduceAdd, Nat.add_zero] at b0 b1 b2 b3 b4 b5 b6 b7 ⊢
  rw [b0, b1, b2, b3, b4, b5, b6, b7]
  simp only [decide_eq_true_eq]
  unfold ones
  simp only [Int.reducePow]
  omega
def onesSum : List Int → Int
  | [] => 0
  | x :: xs => ones x + onesSum xs
theorem onesSum_len (l : List Int) : ∀ d j, j + d = l.length → onesSum (l.drop j) = ((bitsGo l (8 * d) (8 * j)).length : Int) := by
  intro d
  induction d with
  | zero => intro j hj; rw [List.drop_of_length_le (by omega)]; rfl
  | succ d ih =>
    intro j hj
    have hlt : j < l.length := by omega
    rw [List.drop_eq_getElem_cons hlt, bitsGo_eight (List.getElem?_eq_getElem hlt), ← ih (j + 1) (by omega)]
    rfl
theorem onesSum_all (l : List Int) : onesSum l = ((bitList l).length : Int) := by simpa [bitList] using onesSum_len l l.length 0 (by omega)
def bitsSize (n : Int) : Int := if n < 1 then 0 else (n - 1) / 8 + 1
theorem div_pow_bd {x : Int} (h0 : 0 ≤ x) (h1 : x ≤ 255) (t : Nat) : 0 ≤ x / 2 ^ t ∧ x / 2 ^ t ≤ 255 := by
  have hp : (0 : Int) < 2 ^ t := Int.pow_pos (by decide)
  refine ⟨Int.ediv_nonneg h0 (by omega), ?_⟩
  have := Int.ediv_le_self (2 ^ t) h0
  omega
theorem bitsGo_next (b : List Int) {n i : Nat} (h : i < n) : bitsGo b (n - i) i = (if bitHas b (i : Int) = true then [(i : Int)] else []) ++ bitsGo b (n - (i + 1)) (i + 1) := by
  obtain ⟨d, hd⟩ : ∃ d, n - i = d + 1 := ⟨n - i - 1, by omega⟩
  rw [hd, show n - (i + 1) = d from by omega, bitsGo]
  split <;> simp [*]
theorem bitsGo_end (b : List Int) {n i : Nat} (h : n ≤ i) : bitsGo b (n - i) i = [] := by rw [show n - i = 0 from by omega]; rfl
theorem onesSum_drop (b : List Int) {i : Nat} (h : i < b.length) : onesSum (b.drop i) = ones (b.getD i 0) + onesSum (b.drop (i + 1)) := by
  rw [drop_cons' (df := 0) h]; rfl
theorem shr_ok {a b : Int} {n : Nat} (h0 : 0 ≤ b) (h : b < n) : a.fdiv (2 ^ (min b.toNat n)) = a / 2 ^ b.toNat := by
  rw [Nat.min_eq_left (by omega)]
  exact Int.fdiv_eq_ediv_of_nonneg _ (Int.le_of_lt (Int.pow_pos (by decide)))
theorem and1_u8 {a : Int} (h0 : 0 ≤ a) (h1 : a ≤ 255) : IntKind.u8.wrap (BitVec.ofInt IntKind.u8.bits a &&& BitVec.ofInt IntKind.u8.bits 1).toNat = a % 2 := by
  have key : ∀ n : Fin 256, IntKind.u8.wrap (BitVec.ofInt IntKind.u8.bits ((n.val : Nat) : Int) &&& BitVec.ofInt IntKind.u8.bits 1).toNat = ((n.val : Nat) : Int) % 2 := by decide +kernel
  have := key ⟨a.toNat, by omega⟩
  rwa [show ((a.toNat : Nat) : Int) = a from by omega] at this
theorem Step.index_str {P : Program} {C : Ctx} {o : Oper} {E : Env} {t : Nat} {T : TypeId} {x y : Operand} {s : ByteArray} {k : IntKind} {i c : Int} (ho : o.op = .index T x y) (hd : o.dst = some t) (ht : t < C.n) (hT : P.underlying T = some .string) (hx : E.ev x = .one (.d (.str s))) (hy : E.ev y = .one (.d (.int k i)))
    (h0 : 0 ≤ i) (hc : (s[i.toNat]?).map (fun b => ((b.toNat : Nat) : Int)) = some c) : Step P C o E (E.set t (.one (.d (.int .u8 c)))) :=
  .value hd ht fun M a w R => by
    refine ⟨.int .u8 c, ?_, ok_val M E w rfl⟩
    unfold execOp
    rw [ho]
    obtain ⟨b, hb, hbc⟩ := Option.map_eq_some_iff.1 hc
    have hrun : (Instr.index T (a.eval x) (a.eval y)).run P w = .ok (.int .u8 c) w := by
      rw [ev_val R hx rfl, ev_val R hy rfl]
      simp only [Instr.index, asIntOf, Sem.run_bind, Sem.run_pure, Result.andThen, run_underlying hT]
      rw [if_pos h0, hb]
      simp only [Sem.run_pure, ← hbc]
    simp only [Sem.run_bind, hrun, Result.andThen, Sem.run_pure]
theorem mem_len {xs : List (List Int)} {q : Nat} (h : ∀ y ∈ xs, y.length ≤ q) (i : Nat) : (xs.getD i []).length ≤ q := by
  rw [List.getD_eq_getElem?_getD]
  cases hx : xs[i]? with
  | none => simp
  | some x => simpa using h x (List.mem_of_getElem? hx)
def PC.ren (r s : Nat) : PC → PC
  | .row x p => .row (if x = r then s else x) p
  | .rptr x p i j => .rptr (if x = r then s else x) p i j
  | c => c
def Env.ren (E : Env) (r s : Nat) : Env := { E.mapc (PC.ren r s) with rows := E.rows.map fun x => (if x.1 = r then s else x.1, x.2) }
theorem ren_row {E : Env} {r s x : Nat} {T : TypeId} {d : D} (hs : lk E.rows s = none) (h : (E.ren r s).row x = some (T, d)) : (x = s ∧ E.row r = some (T, d)) ∨ (x ≠ s ∧ x ≠ r ∧ E.row x = some (T, d)) := by
  have key : ∀ l : List (Nat × (TypeId × D)), lk l s = none → lk (l.map fun x => (if x.1 = r then s else x.1, x.2)) x = some (T, d) → (x = s ∧ lk l r = some (T, d)) ∨ (x ≠ s ∧ x ≠ r ∧ lk l x = some (T, d)) := by
    intro l
    induction l with
    | nil => intro _ h; simp [lk] at h
    | cons y l ih =>
      intro h0 h1
      obtain ⟨k, v⟩ := y
      simp only [lk] at h0
      split at h0
      · cases h0
      · rename_i hk
        simp only [List.map_cons, lk] at h1
        by_cases e : k = r
        · rw [if_pos e] at h1
          by_cases e2 : s = x
          · rw [if_pos e2] at h1
            left
            exact ⟨e2.symm, by simp only [lk]; rw [if_pos e]; exact h1⟩
          · rw [if_neg e2] at h1
            rcases ih h0 h1 with ⟨p, _⟩ | ⟨p, q, t⟩
            · exact absurd p.symm e2
            · right
              exact ⟨p, q, by simp only [lk]; rw [if_neg (fun h => q (h.symm.trans e))]; exact t⟩
        · rw [if_neg e] at h1
          by_cases e2 : k = x
          · rw [if_pos e2] at h1
            right
            refine ⟨fun h => hk (e2.trans h), fun h => e (e2.trans h), ?_⟩
            simp only [lk]; rw [if_pos e2]; exact h1
          · rw [if_neg e2] at h1
            rcases ih h0 h1 with ⟨p, t⟩ | ⟨p, q, t⟩
            · left; exact ⟨p, by simp only [lk]; rw [if_neg e]; exact t⟩
            · right; exact ⟨p, q, by simp only [lk]; rw [if_neg e2]; exact t⟩
  exact key E.rows hs h
open Classical in
theorem RelM.ren {C : Ctx} {M : Maps} {E : Env} {a : Act} {w : World} (R : RelM C M E a w) {r s : Nat} (hf : E.noref' s = true) (hpr : ∀ x ∈ C.pin, x.1 ≠ s) : ∃ M', RelM C M' (E.ren r s) a w := by
  simp only [Env.noref', Bool.and_eq_true, List.all_eq_true, Option.isNone_iff_eq_none] at hf
  obtain ⟨⟨f1, f2⟩, f3⟩ := hf
  refine ⟨{ M with hdl := fun x => if x = s then M.hdl r else M.hdl x, fp := fun x => if x = s then M.fp r else M.fp x, own := fun k => if M.own k = .row r then .row s else M.own k }, ?_⟩
  generalize hM : ({ M with hdl := fun x => if x = s then M.hdl r else M.hdl x, fp := fun x => if x = s then M.fp r else M.fp x, own := fun k => if M.own k = .row r then .row s else M.own k } : Maps) = M'
  have hblk : M'.blk = M.blk := by subst hM; rfl
  have hown : ∀ k, M'.own k = if M.own k = .row r then .row s else M.own k := fun k => by subst hM; rfl
  have hfroz : ∀ k, M.own k = .froz → M'.own k = .froz := fun k h => by rw [hown, if_neg (by rw [h]; simp)]; exact h
  have hbox : ∀ t, (E.ren r s).box t = (E.box t).map fun x => (x.1, x.2.map (PC.ren r s)) := fun t => Env.box_mapc E (PC.ren r s) t
  have hget : ∀ t, (E.ren r s).get t = (E.get t).mapc (PC.ren r s) := fun t => Env.get_mapc E (PC.ren r s) rfl t
  have hh : ∀ x, M'.hdl x = if x = s then M.hdl r else M.hdl x := fun x => by subst hM; rfl
  have hp : ∀ x, M'.fp x = if x = s then M.fp r else M.fp x := fun x => by subst hM; rfl
  have hc : ∀ c : PC, c.ment s = false → ∀ v, COk M E w v c → COk M' (E.ren r s) w v (c.ren r s) := fun c hm v h => by
    cases c with
    | d x => exact Rd.keep h (fun _ _ => rfl) hfroz
    | nil => exact h
    | und => trivial
    | ptr b off => simp only [PC.ren, COk] at h ⊢; rw [hblk]; exact h
    | eptr x i j =>
      obtain ⟨ad, cap, h1, h2⟩ := h
      exact ⟨ad, cap, Rd.keep h1 (fun _ _ => rfl) hfroz, h2⟩
    | row x p =>
      have hxs : x ≠ s := by simp only [PC.ment, beq_eq_false_iff_ne] at hm; exact fun e => hm e.symm
      intro T d hT
      by_cases e : x = r
      · simp only [PC.ren, if_pos e] at hT ⊢
        rcases ren_row f3 hT with ⟨_, h2⟩ | ⟨h2, _⟩
        · rw [hh, if_pos rfl]; subst e; exact h T d h2
        · exact absurd rfl h2
      · simp only [PC.ren, if_neg e] at hT ⊢
        rcases ren_row f3 hT with ⟨h1, _⟩ | ⟨_, _, h2⟩
        · exact absurd h1 hxs
        · rw [hh, if_neg hxs]; exact h T d h2
    | rptr x p i j =>
      have hxs : x ≠ s := by simp only [PC.ment, beq_eq_false_iff_ne] at hm; exact fun e => hm e.symm
      intro T d hT
      by_cases e : x = r
      · simp only [PC.ren, if_pos e] at hT ⊢
        rcases ren_row f3 hT with ⟨_, h2⟩ | ⟨h2, _⟩
        · rw [hh, if_pos rfl]; subst e; exact h T d h2
        · exact absurd rfl h2
      · simp only [PC.ren, if_neg e] at hT ⊢
        rcases ren_row f3 hT with ⟨h1, _⟩ | ⟨_, _, h2⟩
        · exact absurd h1 hxs
        · rw [hh, if_neg hxs]; exact h T d h2
  have hall : ∀ (vs : List Value) (ps : List PC), (∀ c ∈ ps, c.ment s = false) → All2 (COk M E w) vs ps → All2 (COk M' (E.ren r s) w) vs (ps.map (PC.ren r s)) := fun vs ps hm h => by
    induction h with
    | nil => exact .nil
    | @cons v c vs ps h1 _ ih => exact .cons (hc c (hm c (by simp)) v h1) (ih fun c' hc' => hm c' (by simp [hc']))
  refine { tn := R.tn, df := R.df, fr := R.fr, ba := R.ba, lt := ?_, z0 := fun k hk => hfroz k (R.z0 k hk), zb := ?_, wr := ?_, tm := ?_, rows := ?_, boxes := ?_, pin := ?_, bpin := ?_ }
  · intro k hk
    refine R.lt k fun h => hk ?_
    rw [hown, if_neg (by rw [h]; simp)]; exact h
  · intro k hk
    refine R.zb k ?_
    rw [hown] at hk
    split at hk
    · cases hk
    · exact hk
  · intro k hk hk'
    refine R.wr k (fun h => hk ?_) (fun h => hk' (hfroz k h))
    rw [hown, if_neg (by rw [h]; simp)]; exact h
  · intro t
    rw [hget]
    have h := R.tm t
    have hm : ∀ c ∈ (E.get t).cells, c.ment s = false := fun c hcm => by
      rcases Env.get_mem hcm with rfl | ⟨x, hx, hcx⟩
      · rfl
      · simpa using f1 x hx c hcx
    generalize E.get t = p at h hm
    cases p with
    | one c => exact hc c (hm c (by simp [PV.cells])) _ h
    | agg cs => obtain ⟨arr, e, h⟩ := h; exact ⟨arr, e, hall _ _ (fun c hcm => hm c (by simpa [PV.cells] using hcm)) h⟩
    | tup vs =>
      obtain ⟨arr, e, h⟩ := h
      refine ⟨arr, e, ?_⟩
      clear e
      generalize arr.toList = l at h
      show All2 _ l (vs.map _)
      have hm' : ∀ y ∈ vs, ∀ c ∈ y.2, c.ment s = false := fun y hy c hcy => hm c (by simp only [PV.cells, List.mem_flatMap]; exact ⟨y, hy, hcy⟩)
      clear hm
      induction h with
      | nil => exact .nil
      | @cons v y l vs h1 _ ih =>
        refine .cons ?_ (ih fun y' hy' => hm' y' (by simp [hy']))
        have hy := hm' y (by simp)
        obtain ⟨b, cs⟩ := y
        match b, cs, h1, hy with
        | true, cs, ⟨arr', e', h'⟩, hy => exact ⟨arr', e', hall _ _ hy h'⟩
        | false, [c], h', hy => exact hc c (hy c (by simp)) _ h'
  · intro x T d hx
    rcases ren_row f3 hx with ⟨rfl, h2⟩ | ⟨h1, h3, h2⟩
    · obtain ⟨k1, k2, k3⟩ := R.rows r T d h2
      rw [hh, hp, if_pos rfl, if_pos rfl]
      exact ⟨k1, k2, fun k hk => by rw [hown, if_pos (k3 k hk)]⟩
    · obtain ⟨k1, k2, k3⟩ := R.rows x T d h2
      rw [hh, hp, if_neg h1, if_neg h1]
      exact ⟨k1, k2, fun k hk => by rw [hown, if_neg (by rw [k3 k hk]; intro h; injection h with h; exact h3 h)]; exact k3 k hk⟩
  · intro b T ps' hb
    rw [hbox] at hb
    obtain ⟨⟨T2, ps⟩, h1, h2⟩ := Option.map_eq_some_iff.1 hb
    injection h2 with e1 e2
    subst e1 e2
    obtain ⟨k1, cs, k2, k3⟩ := R.boxes b _ ps h1
    rw [hblk]
    exact ⟨by rw [hown, if_neg (by rw [k1]; simp)]; exact k1, cs, k2, hall _ _ (fun c hcm => by simpa using f2 (b, _, ps) (lk_mem h1) c hcm) k3⟩
  · intro x v hxv T d hx
    rcases ren_row f3 hx with ⟨rfl, _⟩ | ⟨h1, _, h2⟩
    · exact absurd rfl (hpr (x, v) hxv)
    · rw [hh, if_neg h1]; exact R.pin x v hxv T d h2
  · intro b v hpb hn T ps hb
    rw [hbox] at hb
    obtain ⟨⟨T2, ps2⟩, h1, _⟩ := Option.map_eq_some_iff.1 hb
    rw [hblk]
    exact R.bpin b v hpb hn T2 ps2 h1
theorem TL.ren {P : Program} {C : Ctx} {ops : Array Oper} {l : List Oper} {E : Env} {Q : Env → Prop} (r s : Nat) (hf : E.noref' s = true) (hpr : ∀ x ∈ C.pin, x.1 ≠ s) (h : TL P C ops l (E.ren r s) Q) : TL P C ops l E Q := fun a w ⟨M, R⟩ => by
  obtain ⟨M', R'⟩ := R.ren (r := r) hf hpr
  exact h a w ⟨M', R'⟩
theorem undef_tup {M : Maps} {E : Env} {w : World} : POk M E w undef (.tup []) := ⟨#[], rfl, .nil⟩
theorem OpStep.off {P : Program} {C : Ctx} {ops : Array Oper} {o : Oper} {E : Env} {j t u : Nat} {want b : Bool} (hg : o.guard = some (j, want)) (hj : (ops[j]?).bind (·.dst) = some t) (ht : t < C.n) (hb : E.get t = .one (.d (.bool b))) (hne : b ≠ want) (hd : o.dst = some u) (hu : u < C.n) : OpStep P C ops o E (E.set u (.tup [])) := fun a w R K Q hK => by
  rw [if_neg (by simp [Region.wanted, hg, guard_val R hj ht hb, hne])]
  obtain ⟨M, R0⟩ := R
  refine hK _ _ ⟨M, ?_⟩
  rw [hd]
  exact R0.put hu undef_tup
theorem TL.goff {P : Program} {C : Ctx} {ops : Array Oper} {o : Oper} {l : List Oper} {E : Env} {Q : Env → Prop} {j u : Nat} {want b : Bool} (t : Nat) (hg : o.guard = some (j, want)) (hj : (ops[j]?).bind (·.dst) = some t) (ht : t < C.n) (hb : E.get t = .one (.d (.bool b))) (hne : (b == want) = false) (hd : o.dst = some u) (hu : u < C.n) (h : TL P C ops l (E.set u (.tup [])) Q) : TL P C ops (o :: l) E Q := by
  intro a w R QQ hQ
  refine wpList_step fun K hK => ?_
  have hv := guard_val R hj ht hb
  have hne' : ¬ b = want := by simpa using hne
  rw [if_neg (by simp [Region.wanted, hg, hv, hne'])]
  obtain ⟨M, R0⟩ := R
  refine hK _ _ (h _ _ ⟨M, ?_⟩ QQ hQ)
  rw [hd]
  exact R0.put hu undef_tup
theorem Step.callM2 {P : Program} {C : Ctx} {o : Oper} {E : Env} {t f : Nat} {ats : Array TypeId} {g : Operand} {xs : List Operand} {ps : List PV} {args : List MA} {js : List (Nat × D)} {x : D} {u : Value} (hmk : MK P f args [(false, [.rd x])]) (ho : o.op = .call { callee := .value g, args := xs.toArray, argTypes := ats }) (hd : o.dst = some t) (ht : t < C.n)
    (hg : E.ev g = .one (.d (.fn f))) (hfn : isFn P f = true) (hev : xs.map E.ev = ps) (hsh : shOk ps args = true) (hcs : MCells E (ps.flatMap PV.mcells) (args.flatMap MA.cells) js) (hx : x.val = some u) :
    Step P C o E ((E.marked (killJ js) (lk js)).set t (.one (.d x))) :=
  Step.callM ho hd ht hg hfn hev hsh hcs hmk hx
def isArr (P : Program) (T e n z : Nat) : Bool := (match P.underlying T with
  | some (.array n' e') => n' == n && e' == e
  | _ => false) && (P.info? e).map (·.size) == some z
theorem isArr_spec {P : Program} {T e n z : Nat} (h : isArr P T e n z = true) : P.underlying T = some (.array n e) ∧ (P.info? e).map (·.size) = some z := by
  unfold isArr at h
  simp only [Bool.and_eq_true, beq_iff_eq] at h
  obtain ⟨h1, h2⟩ := h
  refine ⟨?_, h2⟩
  split at h1
  · rename_i n' e' he; simp at h1; obtain ⟨rfl, rfl⟩ := h1; exact he
  · exact absurd h1 (by simp)
theorem Step.allocArr {P : Program} {C : Ctx} {o : Oper} {E : Env} {t : Nat} {T : TypeId} {zs : List Value} {zd : List D} {d : D} (ho : o.op = .alloc T) (hd : o.dst = some t) (ht : t < C.n)
    (hz : zeroCells P T = some zs) (hzd : ZeroOk zs zd) (hfl : d.flat = zd) (hs : d.isSl = true) (hw : d.wf) (h0 : 0 < d.size) (h63 : d.size ≤ 9223372036854775807) (hdz : 0 < d.z) (hf : E.noref' t = true) (hpin : ∀ x ∈ C.pin, x.1 ≠ t) :
    Step P C o E ({ E with rows := (t, (T, d)) :: E.rows }.set t (.one (.rptr t [] 0 0))) :=
  .change hd ht fun M a w R => by
    obtain ⟨z, hz1, hz2⟩ := Option.map_eq_some_iff.1 hz
    obtain ⟨i, hi, hiz⟩ := Option.bind_eq_some_iff.1 hz1
    obtain ⟨M', R', hM⟩ := R.newRow (r := t) (e := T) (d := d) (cs := z.cells) (b := []) hf hpin hs hw h63 (by rw [hz2, hfl]; exact hzd.own w) (by simp) (by simp)
    refine ⟨.pointer (some ⟨w.heap.size, 0, none⟩), _, M', ?_, R', fun T2 d2 h2 => ?_⟩
    · unfold execOp
      rw [ho]
      simp [Instr.alloc, zeroValue, typeInfo, hi, hiz, newVar, newRow]
    · have h2 : lk ((t, (T, d)) :: E.rows) t = some (T2, d2) := h2
      simp only [lk, if_true, Option.some.injEq, Prod.mk.injEq] at h2
      obtain ⟨rfl, rfl⟩ := h2
      exact ⟨w.heap.size, d.size, by simp only [PathTo]; exact hM.symm, h0, hdz, by simp⟩
theorem run_indexArr {P : Program} {T e n z : Nat} (hT : isArr P T e n z = true) (w : World) (g : Nat) (k : IntKind) (i : Int) (h0 : 0 ≤ i) (h1 : i < n) : (Instr.indexAt T (.pointer (some ⟨g, 0, none⟩)) (.int k i)).run P w = .ok (.pointer (some ⟨g, i.toNat * z, none⟩)) w := by
  obtain ⟨hu, hz⟩ := isArr_spec hT
  have hsz := run_size hz w
  unfold Instr.indexAt
  simp [asIntOf, run_underlying hu, Instr.sureAddr, hsz, h0, h1, Sem.run_bind, Result.andThen, Addr.add]
  intro h; exact h.symm
theorem Step.index_arr {P : Program} {C : Ctx} {o : Oper} {E : Env} {t : Nat} {T e T' n : TypeId} {z : Nat} {x y : Operand} {r : Nat} {d : D} {k : IntKind} {i : Int} (ho : o.op = .indexAddr T x y) (hd : o.dst = some t) (ht : t < C.n)
    (hT : isArr P T e n z = true) (hx : E.ev x = .one (.rptr r [] 0 0)) (hr : E.row r = some (T', d)) (hn : d.size = n) (hz : d.z = z) (hz0 : 0 < z) (hy : E.ev y = .one (.d (.int k i))) (h0 : 0 ≤ i) (h1 : i < n) :
    Step P C o E (E.set t (.one (.rptr r [] i.toNat 0))) :=
  .value hd ht fun M a w R => by
    have h := ev_ok R x
    rw [hx] at h
    obtain ⟨g, cap, hp, _, _, he⟩ := h T' d hr
    have he : a.eval x = .pointer (some ⟨g, 0, none⟩) := by rw [he]; simp
    refine ⟨.pointer (some ⟨g, i.toNat * z, none⟩), ?_, fun T2 d2 h2 => ?_⟩
    · unfold execOp
      rw [ho]
      simp only [he, ev_val R hy rfl, Sem.run_bind, run_indexArr hT w g k i h0 h1, Result.andThen, Sem.run_pure]
    · rw [hr] at h2
      injection h2 with h2
      injection h2 with _ h2
      subst h2
      exact ⟨g, cap, hp, by simp only [D.at_]; omega, by simp only [D.at_]; omega, by simp only [D.at_]; rw [hz, Nat.add_zero]⟩
theorem Putd.all {k : IntKind} {xs ys : List Int} (h : ys.length = xs.length) : Putd (.ints k xs) 0 0 (ys.map (.int k)) (.ints k ys) := by
  refine ⟨by simp [D.flat, D.z, h], ?_, by simp [D.size, h], rfl, trivial, rfl⟩
  simp [D.flat, D.z, h]
theorem rd_ints {w : World} {Z : Nat → Prop} {k : IntKind} : ∀ (ys : List Int) (cs : List Value), Rd w Z cs (ys.map (.int k)) → cs = ys.map (Value.int k)
  | [], _, h => by cases h; rfl
  | y :: ys, cs, h => by
    cases h with
    | val hv h2 => simp only [D.val, Option.some.injEq] at hv; subst hv; rw [rd_ints ys _ h2]; rfl
    | sl h1 _ _ _ _ _ _ _ => simp [D.isSl] at h1
theorem own_ints (w : World) (k : IntKind) : ∀ ys : List Int, Own w (ys.map (Value.int k)) (ys.map (D.int k)) []
  | [] => .nil
  | y :: ys => .val rfl (own_ints w k ys)
theorem TL.copyArr {P : Program} {C : Ctx} {ops : Array Oper} {o1 o2 o3 : Oper} {l : List Oper} {E : Env} {Q : Env → Prop} {T e n t1 t2 t3 r : Nat} {T' S1 S2 : TypeId} {x y : Operand} {k : IntKind} {xs ys : List Int}
    (g1 : o1.guard = none) (g2 : o2.guard = none) (g3 : o3.guard = none) (ho1 : o1.op = .slice T x none none none) (hd1 : o1.dst = some t1) (ht1 : t1 < C.n) (ho2 : o2.op = .move y) (hd2 : o2.dst = some t2) (ht2 : t2 < C.n)
    (ho3 : o3.op = .call { callee := .builtin .copy, args := #[.tmp t1, .tmp t2], argTypes := #[S1, S2] }) (hd3 : o3.dst = some t3) (ht3 : t3 < C.n) (hT : isArr P T e n 1 = true) (hS : isSlice P S1 e 1 = true) (hne : t1 ≠ t2) (hx : E.ev x = .one (.rptr r [] 0 0)) (hr : E.row r = some (T', .ints k xs)) (hn : xs.length = n)
    (hy : (E.set t1 (.one .und)).ev y = .one (.d (.ints k ys))) (hl : ys.length = xs.length) (hq : 0 < n)
    (h : TL P C ops l (({ ((E.set t1 (.one .und)).set t2 (.one (.d (.ints k ys)))).mapc (PC.killDeep r) with rows := (r, (T', .ints k ys)) :: E.rows } : Env).set t3 (.one .und)) Q) : TL P C ops (o1 :: o2 :: o3 :: l) E Q := by
  intro a w ⟨M, R⟩ QQ hQ
  have hxo := ev_ok R x
  rw [hx] at hxo
  obtain ⟨g, cap, hp, _, _, hev⟩ := hxo T' _ hr
  have hev : a.eval x = .pointer (some ⟨g, 0, none⟩) := by rw [hev]; simp
  obtain ⟨hu, hz⟩ := isArr_spec hT
  have hrun1 : (execOp a.eval o1).run P w = .ok (.value (.slice (some ⟨g, 0, none⟩) n n)) w := by
    unfold execOp
    rw [ho1]
    simp [hev, Instr.sliceAt, run_underlying hu, Instr.sureAddr, Instr.sliceBounds, run_size hz w, Sem.run_bind, Result.andThen]
    exact fun _ => rfl
  have R1 : RelM C M (E.set t1 (.one .und)) (a.put (some t1) (.slice (some ⟨g, 0, none⟩) n n)) w := R.put ht1 trivial
  generalize ha1 : a.put (some t1) (.slice (some ⟨g, 0, none⟩) n n) = a1 at R1
  have hv1 : a1.tmps.getD t1 undef = .slice (some ⟨g, 0, none⟩) n n := by
    rw [← ha1]
    show (a.tmps.setIfInBounds t1 _).getD t1 undef = _
    rw [getD_set, if_pos ⟨rfl, by rw [R.tn]; exact ht1⟩]
  have hyd := ev_d R1 hy
  have R2 : RelM C M ((E.set t1 (.one .und)).set t2 (.one (.d (.ints k ys)))) (a1.put (some t2) (a1.eval y)) w := R1.put ht2 hyd
  generalize ha2 : a1.put (some t2) (a1.eval y) = a2 at R2
  have hv2 : a2.tmps.getD t2 undef = a1.eval y := by
    rw [← ha2]
    show (a1.tmps.setIfInBounds t2 _).getD t2 undef = _
    rw [getD_set, if_pos ⟨rfl, by rw [R1.tn]; exact ht2⟩]
  have hv12 : a2.tmps.getD t1 undef = .slice (some ⟨g, 0, none⟩) n n := by
    rw [← ha2]
    show (a1.tmps.setIfInBounds t2 _).getD t1 undef = _
    rw [getD_set, if_neg (fun h => hne h.1.symm)]
    exact hv1
  obtain ⟨ad, cap2, cs, hc1, _, hc2, hc3, _⟩ := rd_some hyd rfl (by simp only [D.size]; omega)
  have hcs := rd_ints ys cs hc3
  generalize hE2 : ((E.set t1 (.one .und)).set t2 (.one (.d (.ints k ys))) : Env) = E2 at R2 h
  have hr2 : E2.row r = some (T', .ints k xs) := by rw [← hE2]; exact hr
  have hrows : E2.rows = E.rows := by rw [← hE2]; rfl
  obtain ⟨⟨r1, r2, r3⟩, r4, r5⟩ := R2.rows r T' _ hr2
  have hcl : cs.length = n := by rw [hcs, List.length_map, hl, hn]
  obtain ⟨cur, ty, fp', k1, k2, k3, k4, k5, k6⟩ := store_own (q := []) (i := 0) (j := 0) (d1 := .ints k ys) (d' := .ints k ys) r2 r4 hp (own_ints w k ys) (by simp) (by simp) (Putd.all hl) rfl
  simp only [D.at_, D.z, Nat.zero_mul, Nat.zero_add, List.length_map] at k2 k4
  have hrun3 : (execOp a2.eval o3).run P w = .ok (.value (goInt cs.length)) (w.setRow g (cur.toList.take 0 ++ cs ++ cur.toList.drop (0 + cs.length)).toArray) := by
    have hS' := isSlice_spec hS
    have := run_copy_row P w S1 S2 o3.type e g 0 n n ad ys.length cap2 cur ty cs hS'.1 hS'.2 k1 (by rw [hcl, hl, hn]; exact (Nat.min_self n).symm) hc2 (by rw [hcs, List.length_map]; omega) (fun v hv => by rw [hcs] at hv; obtain ⟨q, _, rfl⟩ := List.mem_map.1 hv; rfl)
    unfold execOp
    rw [ho3]
    have e1 : a2.eval (.tmp t1) = .slice (some ⟨g, 0, none⟩) n n := hv12
    have e2 : a2.eval (.tmp t2) = .slice (some ad) ys.length cap2 := hv2.trans hc1
    simp only [resolve, invoke, builtin, Sem.run_bind, Sem.run_pure, Result.andThen, List.map_toArray, List.map_cons, List.map_nil, e1, e2, this]
  simp only [Nat.zero_add] at hrun3
  rw [hcs, List.length_map] at hrun3
  generalize hw' : w.setRow g (cur.toList.take 0 ++ ys.map (Value.int k) ++ cur.toList.drop ys.length).toArray = w' at k4 hrun3
  have hown : M.own g = .row r := r5 g k3
  have hother : ∀ k, k ≠ g → w'.heap[k]? = w.heap[k]? := fun k hk => by rw [← hw']; exact setRow_other w g k _ hk
  have hsame : w'.heap[g]? = some (.cells (cur.toList.take 0 ++ ys.map (Value.int k) ++ cur.toList.drop ys.length).toArray ty (0, 0)) := by rw [← hw']; exact setRow_heap w g cur _ ty (0, 0) k1
  have hfr : Frame_ C w' := ⟨by rw [← hw']; exact R.fr.os, by rw [← hw']; exact R.fr.tape, by rw [← hw']; exact R.fr.output, by rw [← hw', setRow_size]; exact R.fr.size, fun k hk hi => by
    rw [hother k (fun e => by
      subst e
      rcases R.wr k (by rw [hown]; simp) (by rw [hown]; simp) with h | h
      · exact hi h
      · omega)]
    exact R.fr.block k hk hi⟩
  have R3 := R2.upd (f := PC.killDeep r) (w' := w') (v' := M.hdl r) (T' := T') (d' := .ints k ys) (fp' := fp') hr2 hfr (by rw [← hw', setRow_size]; exact Nat.le_refl _) (fun k h0 hs => hother k fun e => by subst e; exact (hs r hown).1 rfl)
    ⟨rfl, k4, fun ad2 nn cc hv => by
      obtain ⟨cs0, fr0, h6⟩ := r3 ad2 nn cc hv
      by_cases e : ad2.block = g
      · rw [e] at h6 ⊢
        rw [k1] at h6
        injection h6 with h6
        injection h6 with e1 e2 e3
        subst e2
        exact ⟨_, _, hsame⟩
      · exact ⟨cs0, fr0, (hother _ e).trans h6⟩⟩ k5 (fun q hq => by
      rcases k6 q hq with h | h
      · exact .inr ⟨r, r5 q h, .inl rfl⟩
      · cases h) (fun y' hy' e => by
      have := R2.pin y'.1 y'.2 hy' T' _ (by rw [e]; exact hr2)
      rw [e] at this
      exact this) (fun c => by
      rcases PC.killDeep_ok r c with h | ⟨h, h'⟩
      · exact .inl h
      · refine .inr ⟨h, ?_⟩
        rcases h' with h' | h'
        · exact .inl h'
        · exact .inr ⟨rfl, hl, rfl, h'⟩)
  rw [hrows] at R3
  refine wpList_plain g1 fun K hK => ?_
  unfold Oper.wp
  rw [hrun1, Oper.upon_value, hd1, ha1]
  refine hK _ _ (wpList_plain g2 fun K hK => ?_)
  have hrun2 : (execOp a1.eval o2).run P w = .ok (.value (a1.eval y)) w := by unfold execOp; rw [ho2]; rfl
  unfold Oper.wp
  rw [hrun2, Oper.upon_value, hd2, ha2]
  refine hK _ _ (wpList_plain g3 fun K hK => ?_)
  unfold Oper.wp
  rw [hrun3, Oper.upon_value, hd3]
  exact hK _ _ (h _ _ ⟨_, R3.put ht3 trivial⟩ QQ hQ)
def placesArr (P : Program) (T : TypeId) : Option (List Value × Nat) :=
  match P.info? T, P.underlying T with
  | some it, some (.array _ e) => match it.zero, P.info? e with
    | some z, some i => some (z.cells.toList, i.size)
    | _, _ => none
  | _, _ => none
theorem Step.buildArr {P : Program} {C : Ctx} {o : Oper} {E : Env} {t : Nat} {T : TypeId} {parts : Array (Nat × Operand)} {zs : List Value} {size : Nat} {pss : List (Nat × List PC)} {ps' : List PC} (ho : o.op = .build T parts) (hd : o.dst = some t) (ht : t < C.n)
    (hT : placesArr P T = some (zs, size)) (hfl : All2 (fun x y => x.1 = y.1 ∧ (E.ev x.2).flat = some y.2) parts.toList pss) (hf : (pss.all fun y => y.2.all E.fine) = true) (hz : (zs.all fun v => match PC.ofValue v with | .und => false | _ => true) = true) (hfill : fillP (fun i => some (i * size, size)) (zs.map PC.ofValue) pss = some ps') :
    Step P C o E (E.set t (.agg ps')) :=
  .value hd ht fun M a w R => by
    have hparts : All2 (fun (x : Nat × Value) (y : Nat × List PC) => x.1 = y.1 ∧ All2 (COk M E w) x.2.cells.toList y.2) (parts.map fun (i, x) => (i, a.eval x)).toList pss := by
      rw [Array.toList_map]
      generalize parts.toList = l at hfl
      clear hfill ho
      induction hfl with
      | nil => exact .nil
      | @cons x y l pss h1 _ ih =>
        rw [List.all_cons, Bool.and_eq_true] at hf
        refine .cons ⟨h1.1, ?_⟩ (ih hf.2)
        exact (cells_ok R (ev_ok R x.2) h1.2 hf.1).1
    obtain ⟨cells', h1, h2⟩ := fill_ok (place := fun i => some (i * size, size)) _ _ zs.toArray _ _ (zeros_ok M E w zs hz) hparts hfill
    unfold placesArr at hT
    cases hit : P.info? T with
    | none => simp [hit] at hT
    | some it =>
      cases hu : P.underlying T with
      | none => simp [hit, hu] at hT
      | some d =>
        cases d <;> try (simp [hit, hu] at hT; done)
        case array n e =>
          cases hz2 : it.zero with
          | none => simp [hit, hu, hz2] at hT
          | some z =>
            cases hp : P.info? e with
            | none => simp [hit, hu, hz2, hp] at hT
            | some i =>
              simp only [hit, hu, hz2, hp, Option.some.injEq, Prod.mk.injEq] at hT
              obtain ⟨rfl, rfl⟩ := hT
              refine ⟨.agg cells', ?_, cells', rfl, h2⟩
              unfold execOp
              rw [ho]
              have h1 : Instr.fill (fun j => some (j * i.size, i.size)) z.cells (List.map (fun x => (x.fst, a.eval x.snd)) parts.toList) = some cells' := by
                have h1 := h1
                rw [Array.toList_map] at h1
                simpa using h1
              simp [Instr.build, zeroValue, typeInfo, hit, hz2, run_underlying hu, sizeOf, hp, Sem.run_bind, Result.andThen]
              rw [h1]
              rfl
def bor (a b : Int) : Int := IntKind.i64.wrap (BitVec.ofInt IntKind.i64.bits a ||| BitVec.ofInt IntKind.i64.bits b).toNat
def bxor (a b : Int) : Int := IntKind.i64.wrap (BitVec.ofInt IntKind.i64.bits a ^^^ BitVec.ofInt IntKind.i64.bits b).toNat
def band (a b : Int) : Int := IntKind.i64.wrap (BitVec.ofInt IntKind.i64.bits a &&& BitVec.ofInt IntKind.i64.bits b).toNat
def bshl (a n : Int) : Int := IntKind.i64.wrap (a * 2 ^ (min n.toNat IntKind.i64.bits))
def bshr (a n : Int) : Int := a.fdiv (2 ^ (min n.toNat IntKind.i64.bits))
def wadd (a b : Int) : Int := IntKind.i64.wrap (a + b)
def turnW (x n : Int) : Int := band (bor (bshr x n) (bshl x (32 - n))) 4294967295
theorem ofInt_nat (n : Nat) : (BitVec.ofInt 64 (n : Int)) = BitVec.ofNat 64 n := BitVec.ofInt_natCast 64 n
theorem ofInt_wrap (v : BitVec IntKind.i64.bits) : BitVec.ofInt IntKind.i64.bits (IntKind.i64.wrap ((v.toNat : Nat) : Int)) = v := by
  apply BitVec.eq_of_toNat_eq
  rw [BitVec.toNat_ofInt, IntKind.wrap_i64]
  have h : v.toNat < 2 ^ 64 := v.isLt
  show ((((v.toNat : Int) + 9223372036854775808) % 18446744073709551616 - 9223372036854775808) % ((2 ^ 64 : Nat) : Int)).toNat = v.toNat
  omega
theorem band_W (x : Int) : 0 ≤ band x 4294967295 ∧ band x 4294967295 ≤ 4294967295 := by
  unfold band
  have h : (BitVec.ofInt IntKind.i64.bits x &&& BitVec.ofInt IntKind.i64.bits 4294967295).toNat ≤ 4294967295 := by
    rw [BitVec.toNat_and]
    exact Nat.le_trans Nat.and_le_right (by decide)
  generalize (BitVec.ofInt IntKind.i64.bits x &&& BitVec.ofInt IntKind.i64.bits 4294967295).toNat = n at h
  rw [wrap_ok (by omega) (by omega)]
  omega
theorem bor_W {x y : Int} (hx : 0 ≤ x ∧ x ≤ 4294967295) (hy : 0 ≤ y ∧ y ≤ 4294967295) : 0 ≤ bor x y ∧ bor x y ≤ 4294967295 := by
  obtain ⟨a, rfl⟩ : ∃ a : Nat, x = a := ⟨x.toNat, by omega⟩
  obtain ⟨b, rfl⟩ : ∃ b : Nat, y = b := ⟨y.toNat, by omega⟩
  have h : (BitVec.ofInt IntKind.i64.bits (a : Int) ||| BitVec.ofInt IntKind.i64.bits (b : Int)).toNat ≤ 4294967295 := by
    rw [BitVec.toNat_or]
    have e : ∀ q : Nat, q < 2 ^ 32 → (BitVec.ofInt IntKind.i64.bits ((q : Nat) : Int)).toNat = q := fun q hq => by
      rw [BitVec.toNat_ofInt]; show ((q : Int) % ((2 ^ 64 : Nat) : Int)).toNat = q; omega
    rw [e a (by omega), e b (by omega)]
    have := Nat.or_lt_two_pow (x := a) (y := b) (n := 32) (by omega) (by omega)
    omega
  unfold bor
  generalize (BitVec.ofInt IntKind.i64.bits (a : Int) ||| BitVec.ofInt IntKind.i64.bits (b : Int)).toNat = n at h
  rw [wrap_ok (by omega) (by omega)]
  omega
theorem bshl_W {a : Int} (h0 : 0 ≤ a ∧ a ≤ 255) : (0 ≤ bshl a 24 ∧ bshl a 24 ≤ 4294967295) ∧ (0 ≤ bshl a 16 ∧ bshl a 16 ≤ 4294967295) ∧ (0 ≤ bshl a 8 ∧ bshl a 8 ≤ 4294967295) := by
  have e1 : bshl a 24 = a * 16777216 := wrap_ok (x := a * 16777216) (by omega) (by omega)
  have e2 : bshl a 16 = a * 65536 := wrap_ok (x := a * 65536) (by omega) (by omega)
  have e3 : bshl a 8 = a * 256 := wrap_ok (x := a * 256) (by omega) (by omega)
  rw [e1, e2, e3]
  omega
theorem bv_maj (A B C : BitVec IntKind.i64.bits) : (A &&& B) ||| (A &&& C) ||| (B &&& C) = (A &&& B) ^^^ (A &&& C) ^^^ (B &&& C) := by
  apply BitVec.eq_of_getLsbD_eq
  intro i hi
  simp only [BitVec.getLsbD_or, BitVec.getLsbD_and, BitVec.getLsbD_xor]
  cases A.getLsbD i <;> cases B.getLsbD i <;> cases C.getLsbD i <;> rfl
theorem bv_ch {E A B M : BitVec IntKind.i64.bits} (h : ∀ i, E.getLsbD i = true → M.getLsbD i = true) : (E &&& A) ||| ((E ^^^ M) &&& B) = (E &&& A) ^^^ ((M ^^^ E) &&& B) := by
  apply BitVec.eq_of_getLsbD_eq
  intro i hi
  have := h i
  simp only [BitVec.getLsbD_or, BitVec.getLsbD_and, BitVec.getLsbD_xor]
  cases hE : E.getLsbD i <;> cases A.getLsbD i <;> cases B.getLsbD i <;> cases hM : M.getLsbD i <;> simp_all
theorem maj_eq (a b c : Int) : bor (bor (band a b) (band a c)) (band b c) = bxor (bxor (band a b) (band a c)) (band b c) := by
  simp only [bor, bxor, band, ofInt_wrap, bv_maj]
theorem word_bits {e : Int} (h : 0 ≤ e ∧ e ≤ 4294967295) (i : Nat) : (BitVec.ofInt 64 e).getLsbD i = true → (BitVec.ofInt 64 4294967295).getLsbD i = true := by
  obtain ⟨n, rfl⟩ : ∃ n : Nat, e = n := ⟨e.toNat, by omega⟩
  intro hb
  have h1 : (BitVec.ofInt 64 (n : Int)).getLsbD i = (BitVec.ofNat 64 n).getLsbD i := by rw [ofInt_nat]
  rw [h1, BitVec.getLsbD_ofNat, Bool.and_eq_true, decide_eq_true_eq] at hb
  have h2 : (BitVec.ofInt 64 (4294967295 : Int)).getLsbD i = (BitVec.ofNat 64 (2 ^ 32 - 1)).getLsbD i := by rfl
  rw [h2, BitVec.getLsbD_ofNat, Nat.testBit_two_pow_sub_one, Bool.and_eq_true, decide_eq_true_eq, decide_eq_true_eq]
  refine ⟨hb.1, Nat.lt_of_not_le fun hle => ?_⟩
  have h3 := Nat.testBit_lt_two_pow (x := n) (i := i) (Nat.lt_of_lt_of_le (show n < 2 ^ 32 by omega) (Nat.pow_le_pow_right (by omega) hle))
  rw [h3] at hb
  exact absurd hb.2 (by decide)
theorem ch_eq {e : Int} (h : 0 ≤ e ∧ e ≤ 4294967295) (a b : Int) : bor (band e a) (band (bxor e 4294967295) b) = bxor (band e a) (band (bxor 4294967295 e) b) := by
  simp only [bor, bxor, band, ofInt_wrap]
  rw [bv_ch (E := BitVec.ofInt IntKind.i64.bits e) (M := BitVec.ofInt IntKind.i64.bits 4294967295) (word_bits h)]
def wordsOk (h : List Int) : Bool := h.all fun x => decide (0 ≤ x ∧ x ≤ 4294967295)
theorem words_step {l : List Int} {i : Nat} (hi : i < l.length) (h : wordsOk (l.take i) = true) (hx : 0 ≤ l.getD i 0 ∧ l.getD i 0 ≤ 4294967295) : wordsOk (l.take (i + 1)) = true := by
  rw [take_succ' (df := 0) hi]; simp only [wordsOk, List.all_append, List.all_cons, List.all_nil, Bool.and_true, Bool.and_eq_true] at h ⊢; exact ⟨h, decide_eq_true hx⟩
theorem words_no {l : List Int} {i : Nat} (hi : i < l.length) (hx : ¬ (0 ≤ l.getD i 0 ∧ l.getD i 0 ≤ 4294967295)) : wordsOk l = false := by
  cases h : wordsOk l with
  | false => rfl
  | true =>
    rw [wordsOk, List.all_eq_true] at h
    have := h (l.getD i 0) (by rw [List.getD_eq_getElem?_getD, List.getElem?_eq_getElem hi]; exact List.getElem_mem hi)
    exact absurd (of_decide_eq_true this) hx
theorem words_at {l : List Int} (h : wordsOk l = true) (i : Nat) : 0 ≤ l.getD i 0 ∧ l.getD i 0 ≤ 4294967295 := by
  rw [List.getD_eq_getElem?_getD]
  cases hx : l[i]? with
  | none => simp
  | some x => rw [wordsOk, List.all_eq_true] at h; exact of_decide_eq_true (h x (List.mem_of_getElem? hx))
def shaInit : List Int := [1779033703, 3144134277, 1013904242, 2773480762, 1359893119, 2600822924, 528734635, 1541459225]
def shaK : List Int := [1116352408, 1899447441, 3049323471, 3921009573, 961987163, 1508970993, 2453635748, 2870763221, 3624381080, 310598401, 607225278, 1426881987, 1925078388, 2162078206, 2614888103, 3248222580, 3835390401, 4022224774, 264347078, 604807628, 770255983, 1249150122, 1555081692, 1996064986, 2554220882, 2821834349, 2952996808, 3210313671, 3336571891, 3584528711, 113926993, 338241895, 666307205, 773529912, 1294757372, 1396182291, 1695183700, 1986661051, 2177026350, 2456956037, 2730485921, 2820302411, 3259730800, 3345764771, 3516065817, 3600352804, 4094571909, 275423344, 430227734, 506948616, 659060556, 883997877, 958139571, 1322822218, 1537002063, 1747873779, 1955562222, 2024104815, 2227730452, 2361852424, 2428436474, 2756734187, 3204031479, 3329325298]
def wAt (b : List Int) (i : Nat) : Int := bor (bor (bor (bshl (b.getD (4 * (i : Int)).toNat 0) 24) (bshl (b.getD (4 * (i : Int) + 1).toNat 0) 16)) (bshl (b.getD (4 * (i : Int) + 2).toNat 0) 8)) (b.getD (4 * (i : Int) + 3).toNat 0)
def w16 (b : List Int) : Nat → List Int
  | 0 => []
  | i + 1 => w16 b i ++ [wAt b i]
def nextW (A : List Int) (i : Nat) : Int := band (wadd (wadd (wadd (A.getD (16 + (i : Int) - 16).toNat 0) (bxor (bxor (turnW (A.getD (16 + (i : Int) - 15).toNat 0) 7) (turnW (A.getD (16 + (i : Int) - 15).toNat 0) 18)) (bshr (A.getD (16 + (i : Int) - 15).toNat 0) 3))) (A.getD (16 + (i : Int) - 7).toNat 0)) (bxor (bxor (turnW (A.getD (16 + (i : Int) - 2).toNat 0) 17) (turnW (A.getD (16 + (i : Int) - 2).toNat 0) 19)) (bshr (A.getD (16 + (i : Int) - 2).toNat 0) 10))) 4294967295
def wN (b : List Int) : Nat → List Int
  | 0 => w16 b 16
  | i + 1 => wN b i ++ [nextW (wN b i) i]
theorem w16_len (b : List Int) : ∀ i, (w16 b i).length = i
  | 0 => rfl
  | i + 1 => by rw [w16, List.length_append, w16_len b i]; rfl
theorem wN_len (b : List Int) : ∀ i, (wN b i).length = 16 + i
  | 0 => w16_len b 16
  | i + 1 => by rw [wN, List.length_append, wN_len b i]; rfl
theorem getD_app {A : List Int} {x : Int} (n : Nat) : (A ++ [x]).getD n 0 = if n < A.length then A.getD n 0 else if n = A.length then x else 0 := by
  simp only [List.getD_eq_getElem?_getD]
  split
  · rw [List.getElem?_append_left (by assumption)]
  · split
    · rw [List.getElem?_append_right (by omega), show n - A.length = 0 from by omega]; rfl
    · rw [List.getElem?_append_right (by omega), List.getElem?_eq_none (by simp; omega)]; rfl
theorem wAt_W {b : List Int} (h : U8s b) (i : Nat) : 0 ≤ wAt b i ∧ wAt b i ≤ 4294967295 := by
  have h3 := getD_u8 h (4 * (i : Int) + 3).toNat
  exact bor_W (bor_W (bor_W (bshl_W (getD_u8 h _)).1 (bshl_W (getD_u8 h _)).2.1) (bshl_W (getD_u8 h _)).2.2) (by omega)
theorem w16_W {b : List Int} (h : U8s b) : ∀ (i q : Nat), 0 ≤ (w16 b i).getD q 0 ∧ (w16 b i).getD q 0 ≤ 4294967295
  | 0, q => by simp [w16]
  | i + 1, q => by
    have h1 := w16_W h i q
    have h2 := wAt_W h i
    rw [w16, getD_app]
    split
    · exact h1
    · split
      · exact h2
      · simp
theorem wN_W {b : List Int} (h : U8s b) : ∀ (i q : Nat), 0 ≤ (wN b i).getD q 0 ∧ (wN b i).getD q 0 ≤ 4294967295
  | 0, q => w16_W h 16 q
  | i + 1, q => by
    have h1 := wN_W h i q
    rw [wN, getD_app]
    split
    · exact h1
    · split
      · exact band_W _
      · simp
theorem getD_rep {A : List Int} {n q : Nat} (h : q < A.length) : (A ++ List.replicate n 0).getD q 0 = A.getD q 0 := by
  simp only [List.getD_eq_getElem?_getD]
  rw [List.getElem?_append_left h]
theorem arr_W {A : List Int} (h : ∀ q, 0 ≤ A.getD q 0 ∧ A.getD q 0 ≤ 4294967295) (n q : Nat) : 0 ≤ (A ++ List.replicate n 0).getD q 0 ∧ (A ++ List.replicate n 0).getD q 0 ≤ 4294967295 := by
  by_cases hq : q < A.length
  · rw [getD_rep hq]; exact h q
  · simp only [List.getD_eq_getElem?_getD]
    rw [List.getElem?_append_right (by omega), List.getElem?_replicate]
    split <;> simp
theorem set_fill {A : List Int} {n q : Nat} {x : Int} (hq : q = A.length) : (A ++ List.replicate (n + 1) 0).set q x = (A ++ [x]) ++ List.replicate n 0 := by
  subst hq
  rw [List.replicate_succ, List.set_append_right _ _ (Nat.le_refl _), Nat.sub_self, List.set_cons_zero, List.append_assoc]; rfl
theorem nextW_rep {A : List Int} {i n : Nat} (h : A.length = 16 + i) : nextW (A ++ List.replicate n 0) i = nextW A i := by
  unfold nextW
  rw [getD_rep (q := (16 + (i : Int) - 16).toNat) (by omega), getD_rep (q := (16 + (i : Int) - 15).toNat) (by omega), getD_rep (q := (16 + (i : Int) - 7).toNat) (by omega), getD_rep (q := (16 + (i : Int) - 2).toNat) (by omega)]
theorem w16_set (b : List Int) {i : Nat} (hi : i < 16) : (w16 b i ++ List.replicate (64 - i) 0).set i (wAt b i) = w16 b (i + 1) ++ List.replicate (64 - (i + 1)) 0 := by
  rw [show 64 - i = (64 - (i + 1)) + 1 from by omega, set_fill (w16_len b i).symm]; rfl
theorem wN_set (b : List Int) {i : Nat} (hi : i < 48) : (wN b i ++ List.replicate (48 - i) 0).set (16 + (i : Int)).toNat (nextW (wN b i ++ List.replicate (48 - i) 0) i) = wN b (i + 1) ++ List.replicate (48 - (i + 1)) 0 := by
  rw [nextW_rep (wN_len b i), show 48 - i = (48 - (i + 1)) + 1 from by omega, set_fill (by rw [wN_len]; omega)]; rfl
def aI (b : List Int) (i : Nat) : List Int := w16 b i ++ List.replicate (64 - i) 0
theorem aI_len (b : List Int) {i : Nat} (h : i ≤ 16) : (aI b i).length = 64 := by unfold aI; rw [List.length_append, w16_len, List.length_replicate]; omega
theorem aI_zero (b : List Int) : List.replicate 64 0 = aI b 0 := rfl
theorem aI_set (b : List Int) {i : Nat} (hi : i < 16) : (aI b i).set i (wAt b i) = aI b (i + 1) := w16_set b hi
def wI (b : List Int) (i : Nat) : List Int := wN b i ++ List.replicate (48 - i) 0
theorem wI_len (b : List Int) {i : Nat} (h : i ≤ 48) : (wI b i).length = 64 := by unfold wI; rw [List.length_append, wN_len, List.length_replicate]; omega
theorem wI_zero (b : List Int) : aI b 16 = wI b 0 := rfl
theorem wI_set (b : List Int) {i : Nat} (hi : i < 48) : (wI b i).set (16 + (i : Int)).toNat (nextW (wI b i) i) = wI b (i + 1) := wN_set b hi
theorem wI_W {b : List Int} (h : U8s b) (i q : Nat) : 0 ≤ (wI b i).getD q 0 ∧ (wI b i).getD q 0 ≤ 4294967295 := arr_W (wN_W h i) _ q
theorem wI_all (b : List Int) : wI b 48 = wN b 48 := by unfold wI; simp
def stepV (v : List Int) (k w : Int) : List Int :=
  [band (wadd (wadd (wadd (wadd (wadd (v.getD 7 0) (bxor (bxor (turnW (v.getD 4 0) 6) (turnW (v.getD 4 0) 11)) (turnW (v.getD 4 0) 25))) (bxor (band (v.getD 4 0) (v.getD 5 0)) (band (bxor 4294967295 (v.getD 4 0)) (v.getD 6 0)))) k) w) (wadd (bxor (bxor (turnW (v.getD 0 0) 2) (turnW (v.getD 0 0) 13)) (turnW (v.getD 0 0) 22)) (bxor (bxor (band (v.getD 0 0) (v.getD 1 0)) (band (v.getD 0 0) (v.getD 2 0))) (band (v.getD 1 0) (v.getD 2 0))))) 4294967295,
   v.getD 0 0, v.getD 1 0, v.getD 2 0,
   band (wadd (v.getD 3 0) (wadd (wadd (wadd (wadd (v.getD 7 0) (bxor (bxor (turnW (v.getD 4 0) 6) (turnW (v.getD 4 0) 11)) (turnW (v.getD 4 0) 25))) (bxor (band (v.getD 4 0) (v.getD 5 0)) (band (bxor 4294967295 (v.getD 4 0)) (v.getD 6 0)))) k) w)) 4294967295,
   v.getD 4 0, v.getD 5 0, v.getD 6 0]
def stepI (v : List Int) (k w : Int) : List Int :=
  [band (wadd (wadd (wadd (wadd (wadd (v.getD 7 0) (bxor (bxor (turnW (v.getD 4 0) 6) (turnW (v.getD 4 0) 11)) (turnW (v.getD 4 0) 25))) (bor (band (v.getD 4 0) (v.getD 5 0)) (band (bxor (v.getD 4 0) 4294967295) (v.getD 6 0)))) k) w) (wadd (bxor (bxor (turnW (v.getD 0 0) 2) (turnW (v.getD 0 0) 13)) (turnW (v.getD 0 0) 22)) (bor (bor (band (v.getD 0 0) (v.getD 1 0)) (band (v.getD 0 0) (v.getD 2 0))) (band (v.getD 1 0) (v.getD 2 0))))) 4294967295,
   v.getD 0 0, v.getD 1 0, v.getD 2 0,
   band (wadd (v.getD 3 0) (wadd (wadd (wadd (wadd (v.getD 7 0) (bxor (bxor (turnW (v.getD 4 0) 6) (turnW (v.getD 4 0) 11)) (turnW (v.getD 4 0) 25))) (bor (band (v.getD 4 0) (v.getD 5 0)) (band (bxor (v.getD 4 0) 4294967295) (v.getD 6 0)))) k) w)) 4294967295,
   v.getD 4 0, v.getD 5 0, v.getD 6 0]
theorem stepI_eq {v : List Int} {k w : Int} (h : 0 ≤ v.getD 4 0 ∧ v.getD 4 0 ≤ 4294967295) : stepI v k w = stepV v k w := by
  unfold stepI stepV
  rw [ch_eq h, maj_eq]
def vN (h w : List Int) : Nat → List Int
  | 0 => h
  | i + 1 => stepV (vN h w i) (shaK.getD i 0) (w.getD i 0)
theorem vN_len {h w : List Int} (h8 : h.length = 8) : ∀ i, (vN h w i).length = 8
  | 0 => h8
  | i + 1 => rfl
theorem vN_W {h w : List Int} (hh : wordsOk h = true) : ∀ (i q : Nat), 0 ≤ (vN h w i).getD q 0 ∧ (vN h w i).getD q 0 ≤ 4294967295
  | 0, q => words_at hh q
  | i + 1, q => by
    have ih := vN_W (w := w) hh i
    match q with
    | 0 => exact band_W _
    | 1 => exact ih 0
    | 2 => exact ih 1
    | 3 => exact ih 2
    | 4 => exact band_W _
    | 5 => exact ih 4
    | 6 => exact ih 5
    | 7 => exact ih 6
    | q + 8 => exact ⟨Int.le_refl _, show (0 : Int) ≤ 4294967295 by decide⟩
def outs (h v : List Int) : Nat → List Int
  | 0 => []
  | i + 1 => outs h v i ++ [band (wadd (h.getD i 0) (v.getD i 0)) 4294967295]
theorem outs_len (h v : List Int) : ∀ i, (outs h v i).length = i
  | 0 => rfl
  | i + 1 => by rw [outs, List.length_append, outs_len h v i]; rfl
def shaBlock (h b : List Int) : List Int := if h.length = 8 ∧ b.length = 64 ∧ wordsOk h = true then outs h (vN h (wN b 48) 64) 8 else []
theorem shaBlock_len (h b : List Int) : (shaBlock h b).length ≤ 8 := by
  unfold shaBlock
  split
  · rw [outs_len]; omega
  · simp
theorem shaBlock_no {h b : List Int} (hn : ¬ (h.length = 8 ∧ b.length = 64 ∧ wordsOk h = true)) : shaBlock h b = [] := if_neg hn
theorem shaBlock_yes {h b : List Int} (hn : h.length = 8 ∧ b.length = 64 ∧ wordsOk h = true) : shaBlock h b = outs h (vN h (wN b 48) 64) 8 := if_pos hn
def padK (n : Nat) : Nat := (119 - n % 64) % 64
def padB (n : Nat) : Nat → List Int
  | 0 => []
  | i + 1 => padB n i ++ [bshr (8 * (n : Int)) (8 * (7 - (i : Int))) % 256]
theorem padB_len (n : Nat) : ∀ i, (padB n i).length = i
  | 0 => rfl
  | i + 1 => by rw [padB, List.length_append, padB_len n i]; rfl
def shaPad (b : List Int) : List Int := b ++ [128] ++ List.replicate (padK b.length) 0 ++ padB b.length 8
theorem shaPad_len (b : List Int) : (shaPad b).length = b.length + 1 + padK b.length + 8 := by simp [shaPad, padB_len]; omega
theorem shaPad_mod (b : List Int) : (shaPad b).length % 64 = 0 ∧ (shaPad b).length ≤ b.length + 72 := by rw [shaPad_len]; unfold padK; omega
theorem padB_u8 (n : Nat) : ∀ i, U8s (padB n i)
  | 0 => fun x hx => by cases hx
  | i + 1 => fun x hx => by
    rcases List.mem_append.1 hx with hx | hx
    · exact padB_u8 n i x hx
    · rcases List.mem_singleton.1 hx with rfl; omega
theorem shaPad_u8 {b : List Int} (h : U8s b) : U8s (shaPad b) := fun x hx => by
  rcases List.mem_append.1 hx with hx | hx
  · rcases List.mem_append.1 hx with hx | hx
    · rcases List.mem_append.1 hx with hx | hx
      · exact h x hx
      · rcases List.mem_singleton.1 hx with rfl; omega
    · rw [List.eq_of_mem_replicate hx]; omega
  · exact padB_u8 _ _ x hx
theorem u8_sub {b : List Int} (h : U8s b) (x y : Nat) : U8s ((b.drop x).take y) := fun z hz => h z (List.mem_of_mem_drop (List.mem_of_mem_take hz))
def hN (p : List Int) : Nat → List Int
  | 0 => shaInit
  | i + 1 => shaBlock (hN p i) ((p.drop (64 * (i : Int)).toNat).take ((64 * (i : Int) + 64).toNat - (64 * (i : Int)).toNat))
theorem hN_len (p : List Int) : ∀ i, (hN p i).length ≤ 8
  | 0 => show shaInit.length ≤ 8 by decide
  | i + 1 => shaBlock_len _ _
def outB (h : List Int) : Nat → List Int
  | 0 => []
  | i + 1 => outB h i ++ [bshr (h.getD i 0) 24 % 256, bshr (h.getD i 0) 16 % 256, bshr (h.getD i 0) 8 % 256, h.getD i 0 % 256]
theorem outB_len (h : List Int) : ∀ i, (outB h i).length = 4 * i
  | 0 => rfl
  | i + 1 => by rw [outB, List.length_append, outB_len h i]; simp; omega
theorem outB_u8 (h : List Int) : ∀ i, U8s (outB h i)
  | 0 => fun x hx => by cases hx
  | i + 1 => fun x hx => by
    rcases List.mem_append.1 hx with hx | hx
    · exact outB_u8 h i x hx
    · simp only [List.mem_cons, List.not_mem_nil, or_false] at hx
      omega
def shaH (b : List Int) : List Int := hN (shaPad b) ((shaPad b).length / 64)
def sha (b : List Int) : List Int := outB (shaH b) (shaH b).length
theorem sha_len (b : List Int) : (sha b).length ≤ 32 := by
  have := hN_len (shaPad b) ((shaPad b).length / 64)
  unfold sha
  rw [outB_len]
  unfold shaH
  omega
theorem sha_u8 (b : List Int) : U8s (sha b) := outB_u8 _ _
abbrev pI (x : Int) : PV := .one (.d (.int .i64 x))
abbrev pB (x : Bool) : PV := .one (.d (.bool x))
abbrev pS (x : List Int) : PV := .one (.d (.ints .u8 x))
abbrev cI (x : Int) : PC := .d (.int .i64 x)
abbrev cS (x : List Int) : PC := .d (.ints .u8 x)
theorem At.g {E0 : Env} {l : List Oper} {effs : List Eff} {i : Nat} {o : Oper} {E : Env} (A : At E0 l effs i o E) (t : Nat) {p : PV} (hp : (plus E0 (fun _ => true) 0 effs).get t = p) (hr : t ∈ reads l o := by decide) : Env.ev E (.tmp t) = p := (show Env.ev E (.tmp t) = E.get t from rfl).trans ((A.get t hr).trans hp)
theorem At.mv {P : Program} {C : Ctx} {ops : Array Oper} {E0 : Env} {l : List Oper} {effs : List Eff} {i : Nat} {o : Oper} {E : Env} (A : At E0 l effs i o E) (a t : Nat) {p : PV} (ho : o.op = .move (.tmp a) := by exact rfl) (hg : o.guard = none := by exact rfl) (hd : o.dst = some t := by exact rfl) (ht : t < C.n := by exact lt_ok rfl)
    (hp : (plus E0 (fun _ => true) 0 effs).get a = p := by exact rfl) (hr : a ∈ reads l o := by decide) : OpStep P C ops o E (Eff.app ⟨t, p, []⟩ E) := OpStep.plain hg (Step.move ho hd ht (A.g a hp hr))
theorem At.as {P : Program} {C : Ctx} {ops : Array Oper} {E0 : Env} {l : List Oper} {effs : List Eff} {i : Nat} {o : Oper} {E : Env} (A : At E0 l effs i o E) (a t : Nat) {p : PV} (ho : o.op = .assign (.tmp a) := by exact rfl) (hg : o.guard = none := by exact rfl) (hd : o.dst = some t := by exact rfl) (ht : t < C.n := by exact lt_ok rfl)
    (hp : (plus E0 (fun _ => true) 0 effs).get a = p := by exact rfl) (hr : a ∈ reads l o := by decide) : OpStep P C ops o E (Eff.app ⟨t, p, []⟩ E) := OpStep.plain hg (Step.assign ho hd ht (A.g a hp hr))
theorem At.y {P : Program} {C : Ctx} {ops : Array Oper} {E0 : Env} {l : List Oper} {effs : List Eff} {i : Nat} {o : Oper} {E E' : Env} (A : At E0 l effs i o E) (t : Nat) {j : Nat} {want : Bool} (h : Step P C o E E') (hg : o.guard = some (j, want) := by exact rfl) (hj : (ops[j]?).bind (·.dst) = some t := by exact rfl) (ht : t < C.n := by exact lt_ok rfl)
    (hb : (plus E0 (fun _ => true) 0 effs).get t = .one (.d (.bool want)) := by exact rfl) (hr : t ∈ reads l o := by decide) : OpStep P C ops o E E' := OpStep.yes (t := t) hg hj ht ((A.get t hr).trans hb) h
theorem At.of {P : Program} {C : Ctx} {ops : Array Oper} {E0 : Env} {l : List Oper} {effs : List Eff} {i : Nat} {o : Oper} {E : Env} (A : At E0 l effs i o E) (t : Nat) {j u : Nat} {want b : Bool} (hg : o.guard = some (j, want) := by exact rfl) (hj : (ops[j]?).bind (·.dst) = some t := by exact rfl) (ht : t < C.n := by exact lt_ok rfl)
    (hb : (plus E0 (fun _ => true) 0 effs).get t = .one (.d (.bool b)) := by exact rfl) (hr : t ∈ reads l o := by decide) (hne : b ≠ want := by decide) (hd : o.dst = some u := by exact rfl) (hu : u < C.n := by exact lt_ok rfl) : OpStep P C ops o E (E.set u (.tup [])) := OpStep.off (t := t) hg hj ht ((A.get t hr).trans hb) hne hd hu
theorem Step.fa {P : Program} {C : Ctx} {o : Oper} {E : Env} {T f off n b : Nat} {one : Bool} {x : Operand} (q t : Nat) (hx : E.ev x = .one (.ptr b q)) (ho : o.op = .fieldAddr T x f := by exact rfl) (hd : o.dst = some t := by exact rfl) (ht : t < C.n := by exact lt_ok rfl) (hf : isField P T f off n one = true := by kernel_rfl) (hn : n ≠ 0 := by exact Nat.succ_ne_zero _) : Step P C o E (E.set t (.one (.ptr b (q + off)))) := Step.fieldAddr ho hd ht hf hn hx
theorem Step.tb {P : Program} {C : Ctx} {o : Oper} {E : Env} (t : Nat) (b : Bool) {c : Bool} (h : b = c) (s : Step P C o E (E.set t (.one (.d (.bool b))))) : Step P C o E (E.set t (.one (.d (.bool c)))) := Step.to (congrArg (fun b_ => E.set t (.one (.d (.bool b_)))) h) s
theorem Step.bd {P : Program} {C : Ctx} {o : Oper} {E : Env} {op : BinOp} {tx ty : TypeId} {x y : Operand} {dx dy r : D} (t : Nat) (hx : E.ev x = .one (.d dx)) (hy : E.ev y = .one (.d dy)) (hb : Bin op dx dy r) (ho : o.op = .binOp op tx x y ty := by exact rfl) (hd : o.dst = some t := by exact rfl) (ht : t < C.n := by exact lt_ok rfl) : Step P C o E (E.set t (.one (.d r))) := Step.bin ho hd ht hx hy hb
theorem Step.cl {P : Program} {C : Ctx} {o : Oper} {E : Env} {t f : Nat} {ats : Array TypeId} {g : Operand} {xs : List Operand} {ps : List PV} {args : List A} {res : Res} (fz : Bool) (hargs : All2 (ArgP E fz) ps args) (hro : RO P f args res) (ho : o.op = .call { callee := .value g, args := xs.toArray, argTypes := ats } := by exact rfl) (hd : o.dst = some t := by exact rfl) (ht : t < C.n := by exact lt_ok rfl)
    (hg : E.ev g = .one (.d (.fn f)) := by exact rfl) (hfn : isFn P f = true := by kernel_rfl) (hev : xs.map E.ev = ps := by exact rfl) (hsc : fz = true ∨ resScal res = true := by first | exact .inr rfl | exact .inl rfl) (hfr : E.freshRows t 0 (res.flatMap (·.2)) = true := by exact rfl) (hpin : ∀ x ∈ C.pin, x.1 < 1000 := by simp) (hsh : res.all (fun x => x.1 || x.2.length == 1) = true := by exact rfl) :
    Step P C o E ((E.addRows t 0 (res.flatMap (·.2))).set t (.ofRes (respvs t 0 res))) := Step.call fz ho hd ht hg hfn hev hargs hro hsc hfr hpin hsh
theorem Step.cd {P : Program} {C : Ctx} {o : Oper} {E : Env} {f : Nat} {ats : Array TypeId} {g : Operand} {xs : List Operand} {ps : List PV} {args : List A} {res : Res} (fz : Bool) (t : Nat) (hev : xs.map E.ev = ps) (hargs : All2 (ArgP E fz) ps args) (hro : RO P f args res) (hfr : E.freshRows t 0 (res.flatMap (·.2)) = true) (ho : o.op = .call { callee := .value g, args := xs.toArray, argTypes := ats } := by exact rfl) (hd : o.dst = some t := by exact rfl) (ht : t < C.n := by exact lt_ok rfl)
    (hg : E.ev g = .one (.d (.fn f)) := by exact rfl) (hfn : isFn P f = true := by kernel_rfl) (hsc : fz = true ∨ resScal res = true := by first | exact .inr rfl | exact .inl rfl) (hpin : ∀ x ∈ C.pin, x.1 < 1000 := by simp) (hsh : res.all (fun x => x.1 || x.2.length == 1) = true := by exact rfl) :
    Step P C o E ((E.addRows t 0 (res.flatMap (·.2))).set t (.ofRes (respvs t 0 res))) := Step.call fz ho hd ht hg hfn hev hargs hro hsc hfr hpin hsh
theorem TL.c {P : Program} {C : Ctx} {ops : Array Oper} {o : Oper} {l : List Oper} {E E1 : Env} {Q : Env → Prop} (hs : Step P C o E E1) (h : TL P C ops l E1 Q) (hg : o.guard = none := by exact rfl) : TL P C ops (o :: l) E Q := TL.cons hg hs h
theorem TL.mv {P : Program} {C : Ctx} {ops : Array Oper} {o : Oper} {l : List Oper} {E : Env} {Q : Env → Prop} {t : Nat} {x : Operand} (p : PV) (h : TL P C ops l (E.set t p) Q) (ho : o.op = .move x := by exact rfl) (hg : o.guard = none := by exact rfl) (hd : o.dst = some t := by exact rfl) (ht : t < C.n := by exact lt_ok rfl) (hx : E.ev x = p := by exact rfl) : TL P C ops (o :: l) E Q := TL.cons hg (Step.move ho hd ht hx) h
theorem TL.as {P : Program} {C : Ctx} {ops : Array Oper} {o : Oper} {l : List Oper} {E : Env} {Q : Env → Prop} {t : Nat} {x : Operand} (p : PV) (h : TL P C ops l (E.set t p) Q) (ho : o.op = .assign x := by exact rfl) (hg : o.guard = none := by exact rfl) (hd : o.dst = some t := by exact rfl) (ht : t < C.n := by exact lt_ok rfl) (hx : E.ev x = p := by exact rfl) : TL P C ops (o :: l) E Q := TL.cons hg (Step.assign ho hd ht hx) h
theorem TL.pk {P : Program} {C : Ctx} {ops : Array Oper} {o : Oper} {l : List Oper} {E : Env} {Q : Env → Prop} {t : Nat} {x y z : Operand} (b : Bool) (p : PV) (h : TL P C ops l (E.set t p) Q) (ho : o.op = .pick x y z := by exact rfl) (hg : o.guard = none := by exact rfl) (hd : o.dst = some t := by exact rfl) (ht : t < C.n := by exact lt_ok rfl) (hx : E.ev x = .one (.d (.bool b)) := by exact rfl) (hp : E.ev (bif b then y else z) = p := by exact rfl) : TL P C ops (o :: l) E Q := TL.cons hg (Step.pick ho hd ht hx hp) h
theorem TL.gy {P : Program} {C : Ctx} {ops : Array Oper} {o : Oper} {l : List Oper} {E E1 : Env} {Q : Env → Prop} {j : Nat} {want : Bool} (t : Nat) (hs : Step P C o E E1) (h : TL P C ops l E1 Q) (hg : o.guard = some (j, want) := by exact rfl) (hj : (ops[j]?).bind (·.dst) = some t := by exact rfl) (ht : t < C.n := by exact lt_ok rfl) (hb : E.get t = .one (.d (.bool want)) := by exact rfl) : TL P C ops (o :: l) E Q := TL.gyes t hg hj ht hb hs h
theorem TL.gm {P : Program} {C : Ctx} {ops : Array Oper} {o : Oper} {l : List Oper} {E : Env} {Q : Env → Prop} {j u : Nat} {x : Operand} {want : Bool} (t : Nat) (p : PV) (h : TL P C ops l (E.set u p) Q) (ho : o.op = .move x := by exact rfl) (hg : o.guard = some (j, want) := by exact rfl) (hj : (ops[j]?).bind (·.dst) = some t := by exact rfl) (ht : t < C.n := by exact lt_ok rfl) (hb : E.get t = .one (.d (.bool want)) := by exact rfl) (hd : o.dst = some u := by exact rfl) (hu : u < C.n := by exact lt_ok rfl) (hx : E.ev x = p := by exact rfl) : TL P C ops (o :: l) E Q := TL.gyes t hg hj ht hb (Step.move ho hd hu hx) h
theorem TL.gf {P : Program} {C : Ctx} {ops : Array Oper} {o : Oper} {l : List Oper} {E : Env} {Q : Env → Prop} {j u : Nat} {want b : Bool} (t : Nat) (h : TL P C ops l (E.set u (.tup [])) Q) (hg : o.guard = some (j, want) := by exact rfl) (hj : (ops[j]?).bind (·.dst) = some t := by exact rfl) (ht : t < C.n := by exact lt_ok rfl) (hb : E.get t = .one (.d (.bool b)) := by exact rfl) (hne : (b == want) = false := by exact rfl) (hd : o.dst = some u := by exact rfl) (hu : u < C.n := by exact lt_ok rfl) : TL P C ops (o :: l) E Q := TL.goff t hg hj ht hb hne hd hu h
end Go.Proofs.Ytmdojlglemnijaa.Rf
