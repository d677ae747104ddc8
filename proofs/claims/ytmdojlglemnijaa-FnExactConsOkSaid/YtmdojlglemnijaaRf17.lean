/- A logic of our own over the kit's 'wp': rows that are handed over to a callee, written there and given back. Plain definitions and theorems. -/
import Derived.Test.YtmdojlglemnijaaRf16
namespace Go.Proofs.Ytmdojlglemnijaa.Rf
open Go.RowKit
set_option linter.unusedVariables false
set_option linter.unnecessarySimpa false
set_option linter.unusedSimpArgs false
/-- Rows J have new data behind the same heads. -/
def Env.marked (E : Env) (f : PC → PC) (J : Nat → Option D) : Env := { E.mapc f with rows := E.rows.map fun x => (x.1, (x.2.1, (J x.1).getD x.2.2)) }
open Classical in
theorem RelM.mark {C : Ctx} {M : Maps} {E : Env} {a : Act} {w w' : World} (R : RelM C M E a w) {f : PC → PC} (J : Nat → Option D) (fp' : Nat → List Nat) (O' : Nat → Tag) (hfr : Frame_ C w') (hsz : w.heap.size ≤ w'.heap.size)
    (hk : ∀ k, M.own k ≠ .none → (∀ s, M.own k = .row s → J s = none) → w'.heap[k]? = w.heap[k]?)
    (hrow : ∀ r d', J r = some d' → ∃ T d, E.row r = some (T, d) ∧ d'.size = d.size ∧ d'.z = d.z ∧ RowOk w' T (M.hdl r) d' (fp' r) ∧ (fp' r).Nodup ∧ ∀ k ∈ fp' r, O' k = .row r)
    (hO : ∀ k, O' k ≠ .none → O' k ≠ .froz ∧ k < w'.heap.size ∧ ((M.own k = .none ∧ C.base ≤ k) ∨ ∃ s, M.own k = .row s ∧ (J s).isSome = true))
    (hf : ∀ c, f c = .und ∨ (f c = c ∧ ((∀ r, (J r).isSome = true → c.ment r = false) ∨ ∃ r, (J r).isSome = true ∧ (c = .row r [] ∨ ∃ i j, c = .rptr r [] i j)))) :
    RelM C { M with fp := fun x => if (J x).isSome = true then fp' x else M.fp x, own := fun k => if O' k = .none then M.own k else O' k } (E.marked f J) a w' := by
  generalize hM : ({ M with fp := fun x => if (J x).isSome = true then fp' x else M.fp x, own := fun k => if O' k = .none then M.own k else O' k } : Maps) = M'
  have hcase : ∀ k, (O' k = .none ∧ M'.own k = M.own k) ∨ (O' k ≠ .none ∧ M'.own k = O' k) := fun k => by
    by_cases e : O' k = .none
    · left; exact ⟨e, by subst hM; simp [e]⟩
    · right; exact ⟨e, by subst hM; simp [e]⟩
  have hkeep : ∀ k, M.own k ≠ .none → (∀ s, M.own k = .row s → J s = none) → M'.own k = M.own k := fun k h0 h1 => by
    rcases hcase k with ⟨_, e⟩ | ⟨e, _⟩
    · exact e
    · rcases (hO k e).2.2 with ⟨h, _⟩ | ⟨s, h, h'⟩
      · exact absurd h h0
      · rw [h1 s h] at h'; cases h'
  have hrw : ∀ r, (E.marked f J).row r = (E.row r).map fun x => (x.1, (J r).getD x.2) := fun r => by
    show lk (E.rows.map fun x => (x.1, (x.2.1, (J x.1).getD x.2.2))) r = _
    unfold Env.row
    induction E.rows with
    | nil => rfl
    | cons x l ih =>
      simp only [List.map_cons, lk]
      by_cases e : x.1 = r
      · subst e; simp
      · rw [if_neg e, if_neg e, ih]
  have hu : f .und = .und := by rcases hf .und with h | ⟨h, _⟩ <;> exact h
  have hget : ∀ t, (E.marked f J).get t = (E.get t).mapc f := fun t => Env.get_mapc E f hu t
  have hbox : ∀ t, (E.marked f J).box t = (E.box t).map fun x => (x.1, x.2.map f) := fun t => Env.box_mapc E f t
  have hhdl : M'.hdl = M.hdl := by subst hM; rfl
  have hfp : ∀ x, J x = none → M'.fp x = M.fp x := fun x hx => by subst hM; simp [hx]
  have hfpr : ∀ x, (J x).isSome = true → M'.fp x = fp' x := fun x hx => by subst hM; simp [hx]
  have hblk : M'.blk = M.blk := by subst hM; rfl
  have hfroz : ∀ k, M.own k = .froz → M'.own k = .froz ∧ w'.heap[k]? = w.heap[k]? := fun k h =>
    ⟨by rw [hkeep k (by rw [h]; simp) (fun s hs => by rw [h] at hs; cases hs)]; exact h, hk k (by rw [h]; simp) (fun s hs => by rw [h] at hs; cases hs)⟩
  have hlive : ∀ s, J s = none → ∀ T d, E.row s = some (T, d) → ∀ k ∈ M.fp s, M'.own k = .row s ∧ w'.heap[k]? = w.heap[k]? := fun s hs T d hT k hkf => by
    have ho := (R.rows s T d hT).2.2 k hkf
    have hc : ∀ s', M.own k = .row s' → J s' = none := fun s' e => by rw [ho] at e; injection e with e; subst e; exact hs
    exact ⟨by rw [hkeep k (by rw [ho]; simp) hc]; exact ho, hk k (by rw [ho]; simp) hc⟩
  have hbx : ∀ b T ps, E.box b = some (T, ps) → M'.own (M.blk b) = .box b ∧ w'.heap[M.blk b]? = w.heap[M.blk b]? := fun b T ps hb => by
    have ho := (R.boxes b T ps hb).1
    have hc : ∀ s', M.own (M.blk b) = .row s' → J s' = none := fun s' e => by rw [ho] at e; cases e
    exact ⟨by rw [hkeep _ (by rw [ho]; simp) hc]; exact ho, hk _ (by rw [ho]; simp) hc⟩
  have hrow' : ∀ r T d, (E.marked f J).row r = some (T, d) → ∃ d0, E.row r = some (T, d0) ∧ d = (J r).getD d0 := fun r T d h => by
    rw [hrw] at h
    obtain ⟨⟨T0, d0⟩, h1, h2⟩ := Option.map_eq_some_iff.1 h
    injection h2 with e1 e2
    subst e1
    exact ⟨d0, h1, e2.symm⟩
  have hc : ∀ c : PC, ∀ v, COk M E w v c → COk M' (E.marked f J) w' v (f c) := fun c v h => by
    rcases hf c with e | ⟨e, e2⟩
    · rw [e]; trivial
    · rw [e]
      rcases e2 with e2 | ⟨r, e3, e6⟩
      · exact h.mono R hfroz (fun _ _ _ => by rw [hblk]) (fun x hx T d hT => by
          have hne : J x = none := by
            cases hJ : J x with
            | none => rfl
            | some y => have := e2 x (by rw [hJ]; rfl); rw [this] at hx; cases hx
          obtain ⟨d0, h1, h2⟩ := hrow' x T d hT
          rw [hne] at h2
          subst h2
          exact ⟨h1, by rw [hhdl], fun k hk => (hlive x hne T _ h1 k hk).2⟩)
      · obtain ⟨d', hd'⟩ := Option.isSome_iff_exists.1 e3
        obtain ⟨T, d, k1, k2, k3, k4, _⟩ := hrow r d' hd'
        rcases e6 with rfl | ⟨i, j, rfl⟩
        · intro T2 d2 _
          have := h T d k1
          simp only [PathTo] at this ⊢
          rw [hhdl]; exact this
        · intro T2 d2 h2
          obtain ⟨d0, q1, q2⟩ := hrow' r T2 d2 h2
          rw [k1] at q1
          injection q1 with q1
          injection q1 with q3 q4
          subst q3 q4
          rw [hd'] at q2
          simp only [Option.getD_some] at q2
          subst q2
          obtain ⟨g, cap, p1, p2, p3, p4⟩ := h T d k1
          refine ⟨g, cap, ?_, by simp only [D.at_] at p2 ⊢; rw [k2]; exact p2, by simp only [D.at_] at p3 ⊢; rw [k3]; exact p3, by simp only [D.at_] at p4 ⊢; rw [k3]; exact p4⟩
          simp only [PathTo, D.at_] at p1 ⊢
          rw [hhdl, k2]; exact p1
  have hall : ∀ (vs : List Value) (ps : List PC), All2 (COk M E w) vs ps → All2 (COk M' (E.marked f J) w') vs (ps.map f) := fun vs ps h => by
    induction h with
    | nil => exact .nil
    | cons h1 _ ih => exact .cons (hc _ _ h1) ih
  refine { tn := R.tn, df := R.df, fr := hfr, ba := Nat.le_trans R.ba hsz, lt := ?_, z0 := fun k hk => (hfroz k (R.z0 k hk)).1, zb := ?_, wr := ?_, tm := ?_, rows := ?_, boxes := ?_, pin := ?_, bpin := fun b v hp hn T ps hb => (by rw [hbox] at hb; obtain ⟨⟨T2, ps2⟩, h1, h2⟩ := Option.map_eq_some_iff.1 hb; rw [hblk]; exact R.bpin b v hp hn T2 ps2 h1) }
  · intro k hk
    rcases hcase k with ⟨_, e⟩ | ⟨e, _⟩
    · exact Nat.lt_of_lt_of_le (R.lt k (by rw [← e]; exact hk)) hsz
    · exact (hO k e).2.1
  · intro k hk
    rcases hcase k with ⟨_, e⟩ | ⟨e0, e⟩
    · exact R.zb k (by rw [← e]; exact hk)
    · rw [e] at hk; exact absurd hk (hO k e0).1
  · intro k hk hk'
    rcases hcase k with ⟨_, e⟩ | ⟨e, _⟩
    · exact R.wr k (by rw [← e]; exact hk) (by rw [← e]; exact hk')
    · rcases (hO k e).2.2 with ⟨_, h⟩ | ⟨s, h, _⟩
      · exact .inr h
      · exact R.wr k (by rw [h]; simp) (by rw [h]; simp)
  · intro t
    rw [hget]
    have h := R.tm t
    generalize E.get t = p at h
    cases p with
    | one c => exact hc c _ h
    | agg cs => obtain ⟨arr, e, h⟩ := h; exact ⟨arr, e, hall _ _ h⟩
    | tup vs =>
      obtain ⟨arr, e, h⟩ := h
      refine ⟨arr, e, ?_⟩
      clear e
      generalize arr.toList = l at h
      show All2 _ l (vs.map _)
      induction h with
      | nil => exact .nil
      | @cons v y l vs h1 _ ih =>
        refine .cons ?_ ih
        obtain ⟨b, cs⟩ := y
        match b, cs, h1 with
        | true, cs, ⟨arr', e', h'⟩ => exact ⟨arr', e', hall _ _ h'⟩
        | false, [c], h' => exact hc c _ h'
  · intro x Tx dx hx
    obtain ⟨d0, q1, q2⟩ := hrow' x Tx dx hx
    cases hJ : J x with
    | some d' =>
      obtain ⟨T, d, k1, _, _, k4, k5, k6⟩ := hrow x d' hJ
      rw [k1] at q1
      injection q1 with q1
      injection q1 with q3 q4
      subst q3 q4
      rw [hJ] at q2
      simp only [Option.getD_some] at q2
      subst q2
      rw [hhdl, hfpr x (by rw [hJ]; rfl)]
      refine ⟨k4, k5, fun k hk => ?_⟩
      rcases hcase k with ⟨e, _⟩ | ⟨_, e⟩
      · rw [k6 k hk] at e; cases e
      · rw [e]; exact k6 k hk
    | none =>
      rw [hJ] at q2
      simp only [Option.getD_none] at q2
      subst q2
      obtain ⟨⟨h1, h2, h3⟩, h4, h5⟩ := R.rows x Tx dx q1
      have hl := hlive x hJ Tx dx q1
      rw [hhdl, hfp x hJ]
      refine ⟨⟨h1, h2.keep fun k hk => (hl k hk).2, fun ad n c hv => ?_⟩, h4, fun k hk => (hl k hk).1⟩
      obtain ⟨cs, fr, h6⟩ := h3 ad n c hv
      have hmem : ad.block ∈ M.fp x := by
        rw [hv] at h2
        generalize M.fp x = q at h2
        cases h2 with
        | val hv' _ => cases dx <;> simp [D.val] at hv'
        | sl _ _ _ _ _ _ _ _ => simp
      exact ⟨cs, fr, ((hl _ hmem).2).trans h6⟩
  · intro b Tb ps' hb
    rw [hbox] at hb
    obtain ⟨⟨T2, ps⟩, h1, h2⟩ := Option.map_eq_some_iff.1 hb
    injection h2 with e1 e2
    subst e1 e2
    obtain ⟨k1, cs, k2, k3⟩ := R.boxes b _ ps h1
    obtain ⟨k4, k5⟩ := hbx b _ ps h1
    rw [hblk]
    exact ⟨k4, cs, k5.trans k2, hall _ _ k3⟩
  · intro x v hxv Tx dx hx
    obtain ⟨d0, q1, _⟩ := hrow' x Tx dx hx
    rw [hhdl]
    exact R.pin x v hxv Tx d0 q1
end Go.Proofs.Ytmdojlglemnijaa.Rf
