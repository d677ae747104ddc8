/- A logic of our own over the kit's 'wp': a function that writes to what it is handed: its body (MK.intro) and its call (Step.callM). Plain definitions and theorems. -/
import Derived.Test.YtlcmflenbddliaaRf18
namespace Go.Proofs.Ytlcmflenbddliaa.Rf
open Go.RowKit
set_option linter.unusedVariables false
set_option linter.unnecessarySimpa false
set_option linter.unusedSimpArgs false
def resNum (res : Res) : Bool := (res.flatMap (·.2)).all fun rc => match rc with | .rd d => d.val.isSome | .own .. => false
theorem rcs_num {w w' : World} {Z Z' : Nat → Prop} {O O' : Nat → Tag} : ∀ (rcs : List RC) (vs : List Value) (j : Nat), rcs.all (fun rc => match rc with | .rd d => d.val.isSome | .own .. => false) = true → RCs w Z O j vs rcs → RCs w' Z' O' j vs rcs
  | [], [], j, _, h => trivial
  | [], _ :: _, _, _, h => h.elim
  | _ :: _, [], _, _, h => h.elim
  | .rd d :: rcs, v :: vs, j, hs, h => by
    simp only [List.all_cons, Bool.and_eq_true] at hs
    obtain ⟨u, hu⟩ := Option.isSome_iff_exists.1 hs.1
    refine ⟨?_, rcs_num rcs vs (j + 1) hs.2 h.2⟩
    have := rd_val (h.1 : Rd w _ [v] [d]) hu
    subst this
    exact Rd.val hu .nil
  | .own T d :: rcs, v :: vs, j, hs, h => by simp at hs

open Classical in
/-- A function is held to what its body comes to. -/
theorem MK.intro {P : Program} {f : FuncId} {fn : Func} {c : Code} {args : List MA} {res : Res} (hf : P.funcs[f]? = some fn) (hb : fn.body = some c) (n : Nat) (hn : fn.ntmps = n) (ha : args.length ≤ n) (hcs : (args.flatMap MA.cells).length ≤ 100) (hnum : resNum res = true)
    (h : ∀ (w : World) (Z IX : Nat → Prop) (pin : List (Nat × Value)) (Ts : Nat → TypeId), (∀ x ∈ pin, 900 ≤ x.1 ∧ x.1 < 1000) → T P ⟨w.heap.size, w, Z, IX, pin, n⟩ c (Env.startM args Ts) (QRetM P fn res Ts (args.flatMap MA.cells))) : MK P f args res := by
  intro w Z O Ts vals us hz hO hZO hunp hpre
  have hl : vals.length = args.length := unp_len _ _ _ hunp
  obtain ⟨hul, hrd, hmk⟩ := MPre.get us _ 0 hpre
  refine calls_of_wp hf hb ?_
  obtain ⟨fpf, hfp⟩ : ∃ fpf : Nat → List Nat, ∀ (i : Nat) (d d' : D), (args.flatMap MA.cells)[i]? = some (MC.mk d d') → ∃ v, us[i]? = some v ∧ RowOk w (Ts i) v d (fpf i) ∧ (fpf i).Nodup ∧ ∀ k ∈ fpf i, O k = some i := by
    refine ⟨fun i => if h : ∃ fp : List Nat, ∀ d d' : D, (args.flatMap MA.cells)[i]? = some (MC.mk d d') → ∃ v, us[i]? = some v ∧ RowOk w (Ts i) v d fp ∧ fp.Nodup ∧ ∀ k ∈ fp, O k = some i then Classical.choose h else [], fun i d d' hc => ?_⟩
    have hex : ∃ fp : List Nat, ∀ d d' : D, (args.flatMap MA.cells)[i]? = some (MC.mk d d') → ∃ v, us[i]? = some v ∧ RowOk w (Ts i) v d fp ∧ fp.Nodup ∧ ∀ k ∈ fp, O k = some i := by
      obtain ⟨v, h1, fp, h2, h3, h4⟩ := hmk i d d' hc
      refine ⟨fp, fun e e' he => ?_⟩
      rw [hc] at he
      injection he with he
      injection he with he1 he2
      subst he1
      exact ⟨v, h1, by simpa using h2, h3, by simpa using h4⟩
    simp only [dif_pos hex]
    exact Classical.choose_spec hex d d' hc
  have hst : Rel ⟨w.heap.size, w, Z, fun k => O k ≠ none, (List.range us.length).map fun i => (900 + i, us.getD i undef), n⟩ (Env.startM args Ts) { tmps := vals.toArray ++ Array.replicate (n - vals.toArray.size) undef, defers := [] } w := by
    refine ⟨⟨fun r => us.getD (r - 900) undef, fun r => fpf (r - 900), fun _ => 0, fun k => if Z k then .froz else match O k with | some j => .row (900 + j) | none => .none⟩, ?_⟩
    have hown : ∀ k j, O k = some j → (if Z k then Tag.froz else match O k with | some j => .row (900 + j) | none => .none) = .row (900 + j) := fun k j hk => by
      rw [if_neg (fun hzk => by rw [hZO k hzk] at hk; cases hk), hk]
    have hcell : ∀ (i : Nat) (c : MC) (v : Value), (args.flatMap MA.cells)[i]? = some c → us[i]? = some v → COk ⟨fun r => us.getD (r - 900) undef, fun r => fpf (r - 900), fun _ => 0, fun k => if Z k then .froz else match O k with | some j => .row (900 + j) | none => .none⟩ (Env.startM args Ts) w v (c.pc (0 + i)) := fun i c v hc hv => by
      cases c with
      | rd d =>
        obtain ⟨v', h1, h2⟩ := hrd i d hc
        rw [hv] at h1
        injection h1 with h1
        subst h1
        exact Rd.keep h2 (fun _ _ => rfl) fun k hk => by simp [hk]
      | mk d d' =>
        intro T e _
        simp only [PathTo]
        rw [List.getD_eq_getElem?_getD, show 900 + (0 + i) - 900 = i from by omega, hv]
        rfl
    refine { tn := by simp; omega, df := rfl, fr := ⟨rfl, rfl, rfl, Nat.le_refl _, fun _ _ _ => rfl⟩, ba := Nat.le_refl _, lt := ?_, z0 := fun k hk => by have hk' : Z k := hk; simp [hk'], zb := ?_, wr := ?_, tm := ?_, rows := ?_, boxes := ?_, pin := ?_, bpin := fun b v hp hn T ps hb => by simp [Env.box, Env.startM, lk] at hb }
    · intro k hk
      simp only at hk
      split at hk
      · rename_i hz'; exact hz k hz'
      · cases hOk : O k with
        | none => rw [hOk] at hk; exact absurd rfl hk
        | some j => exact hO k (by rw [hOk]; simp)
    · intro k hk
      simp only at hk
      split at hk
      · rename_i hz'; exact .inl hz'
      · cases hOk : O k with
        | none => rw [hOk] at hk; cases hk
        | some j => rw [hOk] at hk; cases hk
    · intro k hk hk'
      simp only at hk hk'
      split at hk
      · rename_i hz'; rw [if_pos hz'] at hk'; exact absurd rfl hk'
      · cases hOk : O k with
        | none => rw [hOk] at hk; exact absurd rfl hk
        | some j => left; show O k ≠ none; rw [hOk]; simp
    · intro t
      have hget : (Env.startM args Ts).get t = (lk (startTm 0 0 args) t).getD (.one .und) := rfl
      rw [hget]
      cases hx : lk (startTm 0 0 args) t with
      | none => trivial
      | some p =>
        obtain ⟨v, _, hv, hok⟩ := startTm_ok args vals us 0 0 hunp hcell t p hx
        rw [Nat.sub_zero] at hv
        have hval : ({ tmps := vals.toArray ++ Array.replicate (n - vals.toArray.size) undef, defers := [] } : Act).tmps.getD t undef = v := by
          have hlt : t < vals.length := (List.getElem?_eq_some_iff.1 hv).1
          have : (vals.toArray ++ Array.replicate (n - vals.toArray.size) undef)[t]? = some v := by
            rw [Array.getElem?_append_left (by simpa using hlt)]; simpa using hv
          simp only [Array.getD_eq_getD_getElem?, this, Option.getD_some]
        rw [hval]
        exact hok
    · intro r T d hr
      obtain ⟨i, e, e', h1, h2, h3⟩ := startRows_get _ 0 r _ hr
      injection h3 with h3 h4
      subst h3 h4
      rw [Nat.zero_add] at h1
      subst h1
      obtain ⟨v, k1, k2, k3, k4⟩ := hfp i d e' h2
      refine ⟨?_, ?_, fun k hk => ?_⟩
      · simp only [Nat.add_sub_cancel_left, Nat.zero_add, List.getD_eq_getElem?_getD, k1, Option.getD_some]
        exact k2
      · simpa only [Nat.add_sub_cancel_left] using k3
      · simp only [Nat.add_sub_cancel_left] at hk
        exact hown k i (k4 k hk)
    · intro b T ps hb; simp [Env.box, Env.startM, lk] at hb
    · intro r v hrv T d hr
      obtain ⟨i, _, h2⟩ := List.mem_map.1 hrv
      have h3 : r = 900 + i := (congrArg Prod.fst h2).symm
      have h4 : v = us.getD i undef := (congrArg Prod.snd h2).symm
      rw [h3, h4]
      simp only [Nat.add_sub_cancel_left]
  have hpin : ∀ x ∈ ((List.range us.length).map fun i => (900 + i, us.getD i undef)), 900 ≤ x.1 ∧ x.1 < 1000 := fun x hx => by
    obtain ⟨i, h1, rfl⟩ := List.mem_map.1 hx
    rw [List.mem_range] at h1
    simp only
    omega
  have := h w Z (fun k => O k ≠ none) _ Ts hpin _ _ hst
  rw [hn]
  refine wp_mono this fun e a w' ⟨E, hq, M, R⟩ => ?_
  have key : (RetOk P fn res E ∧ resScal res = true) ∧ RowsAre E Ts 0 (args.flatMap MA.cells) → bodyPost P fn (ReturnsM w O Ts us (args.flatMap MA.cells) res) .ret a w' := fun ⟨⟨⟨pss, h1, h2, ss, h3⟩, _⟩, hrows⟩ => by
    obtain ⟨vs, bcs, k1, k2, k3, k4⟩ := ret_all R h1
    obtain ⟨O1, o1, _, o3, o4⟩ := retC_ok R h3 _ 0 k4
    refine ⟨R.df, packed vs, results_run k1, ⟨R.fr.os, R.fr.tape, R.fr.output, R.fr.size, fun k hk hno => R.fr.block k hk fun h => h hno⟩, vs, bcs,
      fun k => match M.own k with | .row r => if 900 ≤ r then some (r - 900) else none | _ => none, rfl, k2, k3.trans h2, rcs_num _ _ _ hnum o4, fun k hk => ?_, ?_⟩
    · simp only at hk
      split at hk
      · rename_i r hr
        refine ⟨R.lt k (by rw [hr]; simp), ?_⟩
        exact R.wr k (by rw [hr]; simp) (by rw [hr]; simp)
      · exact absurd rfl hk
    · refine MPost.mk us _ 0 hul fun i v d d' hv hc => ?_
      have hr := RowsAre.get _ 0 hrows i d d' hc
      obtain ⟨p1, p2, p3⟩ := R.rows _ _ _ hr
      have hi : i < us.length := (List.getElem?_eq_some_iff.1 hv).1
      have hh := R.pin (900 + i) v (by
        refine List.mem_map.2 ⟨i, List.mem_range.2 hi, ?_⟩
        rw [List.getD_eq_getElem?_getD, hv]; rfl) _ _ (by rw [Nat.zero_add] at hr; exact hr)
      rw [Nat.zero_add] at p1 p2 p3 ⊢
      rw [hh] at p1
      exact ⟨_, p1, p2, fun k hk => by simp [p3 k hk]⟩
  cases e with
  | normal => exact key hq
  | ret => exact key hq
  | _ => exact hq.elim

/-- Lending, and where the head's block stays. -/
theorem Own.lend' {w : World} {v u : Value} {d : D} {bs : List Nat} (p : List (Nat × Nat)) (ho : Own w [v] [d] bs) (hp : PathTo w v d p u) (hnd : bs.Nodup) : ∃ b1 b b2, bs = b1 ++ b ++ b2 ∧ Own w [u] [d.at_ p] b ∧ (p = [] ∨ ∀ a n c, v = .slice (some a) n c → a.block ∈ b1) ∧
    ∀ (w' : World) (e d' : D) (b' : List Nat), d.putAt p e = some d' → Own w' [u] [e] b' → (∀ k ∈ b1, w'.heap[k]? = w.heap[k]?) → (∀ k ∈ b2, w'.heap[k]? = w.heap[k]?) → Own w' [v] [d'] (b1 ++ b' ++ b2) := by
  cases p with
  | nil =>
    obtain ⟨b1, b, b2, h1, h2, h3⟩ := Own.lend [] v d u bs ho hp
    exact ⟨b1, b, b2, h1, h2, .inl rfl, h3⟩
  | cons ij p =>
    obtain ⟨i, j⟩ := ij
    obtain ⟨g, cap, cs, t, c, h1, h2, h3, h4, h5, h6⟩ := hp
    subst h1
    obtain ⟨k1, k2, _, k3, k4, cs', t', b, k5, k6, k7, rfl⟩ := own_sl ho
    rw [h2] at k5
    injection k5 with k5
    injection k5 with e1 e2
    subst e1 e2
    have hlt : i * d.z + j < d.flat.length := by
      rw [D.flat_length k2 k1]
      calc i * d.z + j < i * d.z + d.z := by omega
        _ = (i + 1) * d.z := by rw [Nat.succ_mul]
        _ ≤ d.size * d.z := Nat.mul_le_mul_right _ (by omega)
    obtain ⟨c', c1, b0, c2, hc', rfl, ho', hback⟩ := k7.lend1 (i * d.z + j) (d.cell i j) (D.flat_get k2 k1 h3 h4)
    obtain rfl : c' = c := by
      rw [List.getElem?_take, if_pos hlt] at hc'
      have : cs[i * d.z + j]? = some c' := by simpa using hc'
      rw [h5] at this
      injection this with this
      exact this.symm
    obtain ⟨a1, a, a2, rfl, hoa, hbk⟩ := Own.lend p c' (d.cell i j) u b0 ho' h6
    refine ⟨g :: (c1 ++ a1), a, a2 ++ c2, by simp, hoa, .inr (fun a n c h => by injection h with h; injection h with h; subst h; simp), fun w' e d' b' he ho2 hk1 hk2 => ?_⟩
    simp only [D.putAt] at he
    obtain ⟨y, hy, hput⟩ := Option.bind_eq_some_iff.1 he
    obtain ⟨f1, f2, f3, f4, f5⟩ := D.put_flat hput k2 h3 h4
    have hb := hbk w' e y b' hy ho2 (fun k hk => hk1 k (by simp [hk])) (fun k hk => hk2 k (by simp [hk]))
    have hc := hback w' c' y _ hb (fun k hk => hk1 k (by simp [hk])) (fun k hk => hk2 k (by simp [hk]))
    have hset : (cs.toList.take d.flat.length).set (i * d.z + j) c' = cs.toList.take d.flat.length := by
      apply List.ext_getElem? 
      intro q
      rw [List.getElem?_set]
      split
      · rename_i e; subst e; split
        · rw [hc']
        · rename_i hh; rw [List.getElem?_eq_none (by omega)]
      · rfl
    rw [hset, ← f1] at hc
    have hlen : d'.flat.length = d.flat.length := by rw [f1, List.length_set]
    have hg : w'.heap[g]? = some (.cells cs t (0, 0)) := (hk1 g (by simp)).trans h2
    have := Own.sl (w := w') (vs := []) (ds := []) (b2 := []) f5 hg (by rw [f2]; exact k3) k4 (by rw [f3]; exact k6) f4 (by rw [hlen]; exact hc) .nil
    rw [f2] at this
    simpa using this
theorem own_head {w : World} {v : Value} {d : D} {bs : List Nat} (h : Own w [v] [d] bs) (hs : d.isSl = true) : ∃ T, ∀ a n c, v = .slice (some a) n c → ∃ cs fr, w.heap[a.block]? = some (.cells cs T fr) := by
  cases h with
  | val hv _ => cases d <;> simp [D.val] at hv <;> simp [D.isSl] at hs
  | empty => exact ⟨0, fun a n c h => by injection h with h; cases h⟩
  | sl h1 h2 h3 h4 h5 h6 h7 h8 => exact ⟨_, fun a n c h => by injection h with h; injection h with h; subst h; exact ⟨_, _, h2⟩⟩

/-- The cells handed to a callee: which row each belongs to, and what becomes of the row. -/
inductive MCells (E : Env) : List PC → List MC → List (Nat × D) → Prop
  | nil : MCells E [] [] []
  | d {x : D} {ps : List PC} {cs : List MC} {js : List (Nat × D)} : MCells E ps cs js → MCells E (.d x :: ps) (.rd x :: cs) js
  | nilmk {x : D} {ps : List PC} {cs : List MC} {js : List (Nat × D)} : x.isSl = true → x.size = 0 → x.wf → MCells E ps cs js → MCells E (.nil :: ps) (.mk x x :: cs) js
  | row {r : Nat} {p : List (Nat × Nat)} {T : TypeId} {d e e' d' : D} {ps : List PC} {cs : List MC} {js : List (Nat × D)} : E.row r = some (T, d) → d.at_ p = e → e.isSl = true → d.putAt p e' = some d' → d'.isSl = true → d'.size = d.size → d'.z = d.z → lk js r = none →
      MCells E ps cs js → MCells E (.row r p :: ps) (.mk e e' :: cs) ((r, d') :: js)
theorem MCells.length {E : Env} {ps : List PC} {cs : List MC} {js : List (Nat × D)} (h : MCells E ps cs js) : ps.length = cs.length := by
  induction h <;> simp_all

/-- The type of the block that a slice lies in. -/
def blkT (w : World) : Value → TypeId
  | .slice (some a) _ _ => match w.heap[a.block]? with | some (.cells _ T _) => T | _ => 0
  | _ => 0
theorem MPre.imp {w : World} {Z : Nat → Prop} {O O' : Nat → Option Nat} {Ts : Nat → TypeId} (h : ∀ k i, O k = some i → O' k = some i) : ∀ (us : List Value) (cs : List MC) (j : Nat), MPre w Z O Ts j us cs → MPre w Z O' Ts j us cs
  | [], [], _, _ => trivial
  | [], _ :: _, _, hp => by simp [MPre] at hp
  | _ :: _, [], _, hp => by simp [MPre] at hp
  | v :: us, .rd d :: cs, j, hp => ⟨hp.1, MPre.imp h us cs (j + 1) hp.2⟩
  | v :: us, .mk d e :: cs, j, ⟨⟨fp, h1, h2, h3⟩, hp⟩ => ⟨⟨fp, h1, h2, fun k hk => h k j (h3 k hk)⟩, MPre.imp h us cs (j + 1) hp⟩

open Classical in
/-- What a caller hands over, and what it has when that is given back. -/
theorem MCells.hand {C : Ctx} {M : Maps} {E : Env} {a : Act} {w : World} (R : RelM C M E a w) (Ts : Nat → TypeId) {ps : List PC} {cs : List MC} {js : List (Nat × D)} (h : MCells E ps cs js) : ∀ (us : List Value) (j : Nat), All2 (COk M E w) us ps → (∀ (i : Nat) (v : Value), us[i]? = some v → Ts (j + i) = blkT w v) →
    ∃ (O : Nat → Option Nat) (ix : Nat → Nat), (∀ k i, O k = some i → ∃ r, (lk js r).isSome = true ∧ M.own k = .row r) ∧ (∀ r, (lk js r).isSome = true → j ≤ ix r) ∧ (∀ r s, (lk js r).isSome = true → (lk js s).isSome = true → ix r = ix s → r = s) ∧ MPre w (fun k => M.own k = .froz) O Ts j us cs ∧
      ∀ (w' : World) (Om O' : Nat → Option Nat), (∀ k r, (lk js r).isSome = true → M.own k = .row r → Om k = O k) → (∀ k, k < w.heap.size → Om k = none → w'.heap[k]? = w.heap[k]?) → (∀ k, O' k ≠ none → Om k ≠ none ∨ w.heap.size ≤ k) → MPost w' O' Ts j us cs →
        ∃ fp' : Nat → List Nat, ∀ r d', lk js r = some d' → ∃ T d, E.row r = some (T, d) ∧ d'.size = d.size ∧ d'.z = d.z ∧ RowOk w' T (M.hdl r) d' (fp' r) ∧ (fp' r).Nodup ∧ ∀ k ∈ fp' r, (k < w.heap.size ∧ M.own k = .row r ∧ O' k = none) ∨ O' k = some (ix r) := by
  induction h with
  | nil =>
    intro us j hus hTs
    cases hus
    exact ⟨fun _ => none, fun _ => 0, by simp, by simp [lk], by simp [lk], trivial, fun _ _ _ _ _ _ _ => ⟨fun _ => [], by simp [lk]⟩⟩
  | @d x ps cs js _ ih =>
    intro us j hus hTs
    cases hus with
    | @cons v _ us _ h1 h2 =>
      obtain ⟨O, ix, k1, k2, k3, k4, k5⟩ := ih us (j + 1) h2 fun i v' hv => by rw [show j + 1 + i = j + (i + 1) from by omega]; exact hTs (i + 1) v' (by simpa using hv)
      exact ⟨O, ix, k1, fun r hr => by have := k2 r hr; omega, k3, ⟨h1, k4⟩, k5⟩
  | @nilmk x ps cs js e1 e2 e3 _ ih =>
    intro us j hus hTs
    cases hus with
    | @cons v _ us _ h1 h2 =>
      obtain ⟨O, ix, k1, k2, k3, k4, k5⟩ := ih us (j + 1) h2 fun i v' hv => by rw [show j + 1 + i = j + (i + 1) from by omega]; exact hTs (i + 1) v' (by simpa using hv)
      have e : v = .slice none 0 0 := h1
      subst e
      exact ⟨O, ix, k1, fun r hr => by have := k2 r hr; omega, k3, ⟨⟨[], ⟨e1, .empty e1 e2 e3 .nil, fun ad n c h => by injection h with h; cases h⟩, by simp, by simp⟩, k4⟩, fun w' Om O' q1 q2 q3 q4 => k5 w' Om O' q1 q2 q3 q4.2⟩
  | @row r p T d e e' d' ps cs js hr hat hsl hput hsl' hsize hz hlk _ ih =>
    intro us j hus hTs
    cases hus with
    | @cons v _ us _ h1 h2 =>
      obtain ⟨O, ix, k1, k2, k3, k4, k5⟩ := ih us (j + 1) h2 fun i v' hv => by rw [show j + 1 + i = j + (i + 1) from by omega]; exact hTs (i + 1) v' (by simpa using hv)
      obtain ⟨⟨s1, ho, hh⟩, hnd, hrow⟩ := R.rows r T d hr
      have hp : PathTo w (M.hdl r) d p v := h1 T d hr
      obtain ⟨b1, b, b2, hbs, hob, hhd, hback⟩ := Own.lend' p ho hp hnd
      rw [hat] at hob
      have hT0 : Ts j = blkT w v := hTs 0 v rfl
      have hlkr : ∀ s, lk ((r, d') :: js) s = if r = s then some d' else lk js s := fun s => rfl
      have hne : ∀ s, (lk js s).isSome = true → s ≠ r := fun s hs e => by subst e; rw [hlk] at hs; cases hs
      have hOt : ∀ k, M.own k = .row r → O k = none := fun k hk => by
        cases hOk : O k with
        | none => rfl
        | some i =>
          obtain ⟨s, h3, h4⟩ := k1 k i hOk
          rw [hk] at h4
          injection h4 with h4
          exact absurd h4.symm (hne s h3)
      have hb : ∀ k ∈ b, M.own k = .row r := fun k hk => hrow k (by rw [hbs]; simp [hk])
      have hb12 : ∀ k, k ∈ b1 ∨ k ∈ b2 → M.own k = .row r ∧ k ∉ b ∧ k < w.heap.size := fun k hk => by
        have hm : k ∈ M.fp r := by rw [hbs]; rcases hk with hk | hk <;> simp [hk]
        refine ⟨hrow k hm, fun hkb => ?_, ho.lt k hm⟩
        rw [hbs, List.append_assoc, List.nodup_append] at hnd
        obtain ⟨n1, n2, n3⟩ := hnd
        rw [List.nodup_append] at n2
        rcases hk with hk | hk
        · exact n3 k hk k (by simp [hkb]) rfl
        · exact n2.2.2 k hkb k hk rfl
      have hndb : b.Nodup ∧ (b1 ++ b2).Nodup := by
        rw [hbs, List.append_assoc, List.nodup_append] at hnd
        obtain ⟨n1, n2, n3⟩ := hnd
        rw [List.nodup_append] at n2
        exact ⟨n2.1, List.nodup_append.2 ⟨n1, n2.2.1, fun x hx y hy => n3 x hx y (by simp [hy])⟩⟩
      refine ⟨fun k => if k ∈ b then some j else O k, fun s => if s = r then j else ix s, fun k i hk => ?_, fun s hs => ?_, fun s s' hs hs' he => ?_, ⟨⟨b, ⟨hsl, hob, fun ad n c hv => ?_⟩, hndb.1, fun k hk => by simp [hk]⟩, MPre.imp (fun k i hk => ?_) _ _ _ k4⟩, fun w' Om O' q1 q2 q3 q4 => ?_⟩
      · simp only at hk
        split at hk
        · rename_i hkb; exact ⟨r, by rw [hlkr, if_pos rfl]; rfl, hb k hkb⟩
        · obtain ⟨s, h3, h4⟩ := k1 k i hk
          exact ⟨s, by rw [hlkr, if_neg (fun e => hne s h3 e.symm)]; exact h3, h4⟩
      · simp only
        split
        · exact Nat.le_refl _
        · rename_i hsr
          rw [hlkr, if_neg (fun e => hsr e.symm)] at hs
          have := k2 s hs; omega
      · rw [hlkr] at hs hs'
        simp only at he
        by_cases e1 : s = r <;> by_cases e2 : s' = r
        · rw [e1, e2]
        · rw [if_neg (fun e => e2 e.symm)] at hs'
          rw [if_pos e1, if_neg e2] at he
          have := k2 s' hs'; omega
        · rw [if_neg (fun e => e1 e.symm)] at hs
          rw [if_neg e1, if_pos e2] at he
          have := k2 s hs; omega
        · rw [if_neg (fun e => e1 e.symm)] at hs
          rw [if_neg (fun e => e2 e.symm)] at hs'
          rw [if_neg e1, if_neg e2] at he
          exact k3 s s' hs hs' he
      · obtain ⟨T1, hT1⟩ := own_head hob hsl
        obtain ⟨cs1, fr, h3⟩ := hT1 ad n c hv
        refine ⟨cs1, fr, ?_⟩
        rw [h3, hT0, hv]
        simp only [blkT, h3]
      · show (if k ∈ b then some j else O k) = some i
        rw [if_neg]
        · exact hk
        · intro hkb
          obtain ⟨s, h3, h4⟩ := k1 k i hk
          rw [hb k hkb] at h4
          injection h4 with h4
          exact hne s h3 h4.symm
      · obtain ⟨⟨fpb, ⟨r1, r2, r3⟩, r4, r5⟩, q4⟩ := q4
        obtain ⟨fpt, hfpt⟩ := k5 w' Om O' (fun k s hs hk => by
          rw [q1 k s (by rw [hlkr, if_neg (fun e => hne s hs e.symm)]; exact hs) hk]
          show (if k ∈ b then some j else O k) = O k
          rw [if_neg]
          intro hkb
          rw [hb k hkb] at hk
          injection hk with hk
          exact hne s hs hk.symm) q2 q3 q4
        have hom : ∀ k, k ∈ b1 ∨ k ∈ b2 → Om k = none := fun k hk => by
          obtain ⟨m1, m2, m3⟩ := hb12 k hk
          rw [q1 k r (by rw [hlkr, if_pos rfl]; rfl) m1]
          show (if k ∈ b then some j else O k) = none
          rw [if_neg m2]
          exact hOt k m1
        have hon : ∀ k, k ∈ b1 ∨ k ∈ b2 → O' k = none := fun k hk => by
          cases hOk : O' k with
          | none => rfl
          | some i =>
            rcases q3 k (by rw [hOk]; simp) with h3 | h3
            · exact absurd (hom k hk) h3
            · have := (hb12 k hk).2.2; omega
        have hsame : ∀ k, k ∈ b1 ∨ k ∈ b2 → w'.heap[k]? = w.heap[k]? := fun k hk => q2 k (hb12 k hk).2.2 (hom k hk)
        refine ⟨fun s => if s = r then b1 ++ fpb ++ b2 else fpt s, fun s ds hs => ?_⟩
        rw [hlkr] at hs
        by_cases e : r = s
        · subst e
          rw [if_pos rfl] at hs
          injection hs with hs
          subst hs
          simp only [if_pos]
          refine ⟨T, d, hr, hsize, hz, ⟨hsl', hback w' e' d' fpb hput r2 (fun k hk => hsame k (.inl hk)) (fun k hk => hsame k (.inr hk)), fun ad n c hv => ?_⟩, ?_, fun k hk => ?_⟩
          · obtain ⟨cs1, fr1, h3⟩ := hh ad n c hv
            rcases hhd with hp0 | hp1
            · subst hp0
              have e : v = M.hdl r := hp
              rw [e, hv] at hT0
              simp only [blkT, h3] at hT0
              rw [← hT0]
              exact r3 ad n c (by rw [e]; exact hv)
            · exact ⟨cs1, fr1, (hsame _ (.inl (hp1 ad n c hv))).trans h3⟩
          · have hd1 : ∀ k ∈ fpb, ¬ (k ∈ b1 ∨ k ∈ b2) := fun k hk hm => by have := hon k hm; rw [r5 k hk] at this; cases this
            have := List.nodup_append.1 hndb.2
            rw [List.append_assoc]
            refine List.nodup_append.2 ⟨this.1, List.nodup_append.2 ⟨r4, this.2.1, fun x hx y hy e => hd1 x hx (.inr (e ▸ hy))⟩, fun x hx y hy e => ?_⟩
            subst e
            rcases List.mem_append.1 hy with hy | hy
            · exact hd1 x hy (.inl hx)
            · exact this.2.2 x hx x hy rfl
          · simp only [List.mem_append] at hk
            rcases hk with (hk | hk) | hk
            · exact .inl ⟨(hb12 k (.inl hk)).2.2, (hb12 k (.inl hk)).1, hon k (.inl hk)⟩
            · exact .inr (r5 k hk)
            · exact .inl ⟨(hb12 k (.inr hk)).2.2, (hb12 k (.inr hk)).1, hon k (.inr hk)⟩
        · rw [if_neg e] at hs
          have e' : ¬ s = r := fun h => e h.symm
          simp only [if_neg e']
          exact hfpt s ds hs

def PV.mcells : PV → List PC
  | .one c => [c]
  | .agg cs => cs
  | .tup _ => []
def shOk : List PV → List MA → Bool
  | [], [] => true
  | .one _ :: ps, .one _ :: as => shOk ps as
  | .agg cs :: ps, .agg ds :: as => cs.length == ds.length && shOk ps as
  | _, _ => false
theorem unp_of {M : Maps} {E : Env} {w : World} : ∀ (ps : List PV) (args : List MA) (vals : List Value), shOk ps args = true → All2 (POk M E w) vals ps → ∃ us, unp vals args us ∧ All2 (COk M E w) us (ps.flatMap PV.mcells)
  | [], [], _, _, h => by cases h; exact ⟨[], rfl, .nil⟩
  | [], _ :: _, _, h, _ => by simp [shOk] at h
  | p :: _, [], _, h, _ => by cases p <;> simp [shOk] at h
  | .one c :: ps, .one m :: as, _, h, hv => by
    cases hv with
    | @cons v _ vs _ h1 h2 =>
      obtain ⟨us, k1, k2⟩ := unp_of ps as vs h h2
      exact ⟨v :: us, ⟨us, rfl, k1⟩, .cons h1 k2⟩
  | .agg cs :: ps, .agg ds :: as, _, h, hv => by
    simp only [shOk, Bool.and_eq_true, beq_iff_eq] at h
    cases hv with
    | @cons v _ vs _ h1 h2 =>
      obtain ⟨us, k1, k2⟩ := unp_of ps as vs h.2 h2
      obtain ⟨arr, rfl, h3⟩ := h1
      exact ⟨arr.toList ++ us, ⟨arr, us, rfl, by rw [h3.length]; exact h.1, rfl, k1⟩, h3.append k2⟩
  | .one _ :: _, .agg _ :: _, _, h, _ => by simp [shOk] at h
  | .agg _ :: _, .one _ :: _, _, h, _ => by simp [shOk] at h
  | .tup _ :: _, _ :: _, _, h, _ => by simp [shOk] at h
/-- A slot whose cell goes below the head of one of the rows is unknown from now on. -/
def killJ (js : List (Nat × D)) : PC → PC
  | .row r p => if (lk js r).isSome && !p.isEmpty then .und else .row r p
  | .rptr r p i j => if (lk js r).isSome && !p.isEmpty then .und else .rptr r p i j
  | c => c
theorem killJ_ok (js : List (Nat × D)) (c : PC) : killJ js c = .und ∨ (killJ js c = c ∧ ((∀ r, (lk js r).isSome = true → c.ment r = false) ∨ ∃ r, (lk js r).isSome = true ∧ (c = .row r [] ∨ ∃ i j, c = .rptr r [] i j))) := by
  cases c with
  | row r p =>
    simp only [killJ]
    split
    · exact .inl rfl
    · rename_i h
      refine .inr ⟨rfl, ?_⟩
      by_cases h1 : (lk js r).isSome = true
      · right
        refine ⟨r, h1, .inl ?_⟩
        cases p with
        | nil => rfl
        | cons => simp [h1] at h
      · left
        intro s hs
        simp only [PC.ment, beq_eq_false_iff_ne]
        rintro rfl
        exact h1 hs
  | rptr r p i j =>
    simp only [killJ]
    split
    · exact .inl rfl
    · rename_i h
      refine .inr ⟨rfl, ?_⟩
      by_cases h1 : (lk js r).isSome = true
      · right
        refine ⟨r, h1, .inr ⟨i, j, ?_⟩⟩
        cases p with
        | nil => rfl
        | cons => simp [h1] at h
      · left
        intro s hs
        simp only [PC.ment, beq_eq_false_iff_ne]
        rintro rfl
        exact h1 hs
  | _ => exact .inr ⟨rfl, .inl fun r _ => rfl⟩

open Classical in
/-- A call of a function that writes to what it is handed. -/
theorem Step.callM {P : Program} {C : Ctx} {o : Oper} {E : Env} {t f : Nat} {ats : Array TypeId} {g : Operand} {xs : List Operand} {ps : List PV} {args : List MA} {js : List (Nat × D)} {x : D} {u : Value} (ho : o.op = .call { callee := .value g, args := xs.toArray, argTypes := ats }) (hd : o.dst = some t) (ht : t < C.n)
    (hg : E.ev g = .one (.d (.fn f))) (hfn : isFn P f = true) (hev : xs.map E.ev = ps) (hsh : shOk ps args = true) (hcs : MCells E (ps.flatMap PV.mcells) (args.flatMap MA.cells) js) (hmk : MK P f args [(false, [.rd x])]) (hx : x.val = some u) :
    Step P C o E ((E.marked (killJ js) (lk js)).set t (.one (.d x))) := by
  intro a w ⟨M, R⟩ K Q hK
  have hrun : (execOp a.eval o).run P w = .ok (.enter f (xs.map a.eval).toArray) w := by
    unfold execOp
    rw [ho]
    have hgv : a.eval g = .func (.func f) #[] #[] := ev_val R hg rfl
    simp only [resolve, hgv, Deferred.ofValue, Sem.run_bind, Sem.run_pure, Result.andThen, invoke, List.map_toArray]
    simp [run_callFn hfn]
  unfold Oper.wp
  rw [hrun, Oper.upon_enter]
  have hall : All2 (POk M E w) (xs.map a.eval) ps := by
    subst hev
    clear hrun ho hsh hcs
    induction xs with
    | nil => exact .nil
    | cons y xs ih => exact .cons (ev_ok R y) ih
  obtain ⟨us, hunp, hus⟩ := unp_of ps args _ hsh hall
  obtain ⟨O, ix, k1, k2, k3, k4, k5⟩ := hcs.hand R (fun i => blkT w (us.getD i undef)) us 0 hus fun i v hv => by rw [Nat.zero_add, List.getD_eq_getElem?_getD, hv]; rfl
  refine (hmk w _ O _ (xs.map a.eval) us (fun k hk => R.lt k (by rw [hk]; simp)) (fun k hk => ?_) (fun k hk => ?_) hunp k4).mono fun e w' hret => ?_
  · cases hOk : O k with
    | none => exact absurd hOk hk
    | some i => obtain ⟨r, _, h⟩ := k1 k i hOk; exact R.lt k (by rw [h]; simp)
  · cases hOk : O k with
    | none => rfl
    | some i => obtain ⟨r, _, h⟩ := k1 k i hOk; rw [hk] at h; cases h
  · obtain ⟨hgiv, vs, bcs, O', rfl, hpk, hshape, hrcs, hO', hpost⟩ := hret
    obtain ⟨fp', hfp'⟩ := k5 w' O O' (fun _ _ _ _ => rfl) (fun k hk hn => hgiv.block k hk hn) (fun k hk => (hO' k hk).2) hpost
    have hJ : ∀ r, (lk js r).isSome = true → ∃ d', lk js r = some d' := fun r h => Option.isSome_iff_exists.1 h
    have huniq : ∀ k r s, (lk js r).isSome = true → (lk js s).isSome = true → k ∈ fp' r → k ∈ fp' s → r = s := fun k r s hr hs h1 h2 => by
      obtain ⟨d1, e1⟩ := hJ r hr
      obtain ⟨d2, e2⟩ := hJ s hs
      obtain ⟨_, _, _, _, _, _, _, m1⟩ := hfp' r d1 e1
      obtain ⟨_, _, _, _, _, _, _, m2⟩ := hfp' s d2 e2
      rcases m1 k h1 with ⟨_, p1, p2⟩ | p1 <;> rcases m2 k h2 with ⟨_, q1, q2⟩ | q1
      · rw [p1] at q1; injection q1
      · rw [p2] at q1; cases q1
      · rw [p1] at q2; cases q2
      · rw [p1] at q1; injection q1 with q1; exact k3 r s hr hs q1
    have hfr : Frame_ C w' := ⟨hgiv.os.trans R.fr.os, hgiv.tape.trans R.fr.tape, hgiv.output.trans R.fr.output, Nat.le_trans R.fr.size hgiv.size, fun k hk hn => by
      have hO : O k = none := by
        cases hOk : O k with
        | none => rfl
        | some i =>
          obtain ⟨r, _, h⟩ := k1 k i hOk
          rcases R.wr k (by rw [h]; simp) (by rw [h]; simp) with h2 | h2
          · exact absurd h2 hn
          · omega
      rw [hgiv.block k (Nat.lt_of_lt_of_le hk R.ba) hO]
      exact R.fr.block k hk hn⟩
    have R1 := R.mark (f := killJ js) (lk js) fp' (fun k => if h : ∃ r, (lk js r).isSome = true ∧ k ∈ fp' r then .row (Classical.choose h) else .none) hfr hgiv.size (fun k h0 h1 => by
        refine hgiv.block k (R.lt k h0) ?_
        cases hOk : O k with
        | none => rfl
        | some i => obtain ⟨r, h2, h3⟩ := k1 k i hOk; rw [h1 r h3] at h2; cases h2) (fun r d' hr => by
        obtain ⟨T, d, p1, p2, p3, p4, p5, p6⟩ := hfp' r d' hr
        refine ⟨T, d, p1, p2, p3, p4, p5, fun k hk => ?_⟩
        have hex : ∃ r, (lk js r).isSome = true ∧ k ∈ fp' r := ⟨r, by rw [hr]; rfl, hk⟩
        rw [dif_pos hex]
        have hc := Classical.choose_spec hex
        rw [huniq k _ r hc.1 (by rw [hr]; rfl) hc.2 hk]) (fun k hk => by
        by_cases hex : ∃ r, (lk js r).isSome = true ∧ k ∈ fp' r
        · simp only [dif_pos hex]
          obtain ⟨hc1, hc2⟩ := Classical.choose_spec hex
          obtain ⟨d1, e1⟩ := hJ _ hc1
          obtain ⟨_, _, _, _, _, _, _, m1⟩ := hfp' _ d1 e1
          refine ⟨by simp, ?_⟩
          rcases m1 k hc2 with ⟨p1, p2, p3⟩ | p1
          · exact ⟨Nat.lt_of_lt_of_le p1 hgiv.size, .inr ⟨_, p2, hc1⟩⟩
          · obtain ⟨q1, q2⟩ := hO' k (by rw [p1]; simp)
            refine ⟨q1, ?_⟩
            rcases q2 with q2 | q2
            · cases hOk : O k with
              | none => exact absurd hOk q2
              | some i => obtain ⟨r, h2, h3⟩ := k1 k i hOk; exact .inr ⟨r, h3, h2⟩
            · exact .inl ⟨own_new R q2, Nat.le_trans R.ba q2⟩
        · exact absurd (by rw [dif_neg hex]) hk) (killJ_ok js)
    obtain ⟨M2, R2⟩ : ∃ M2, RelM C M2 (E.marked (killJ js) (lk js)) a w' := ⟨_, R1⟩
    refine hK _ _ ⟨M2, ?_⟩
    rw [hd]
    refine R2.put ht ?_
    -- the value
    match bcs, hshape, hpk, hrcs with
    | [(b, ws)], hshape, hpk, hrcs =>
      simp only [shape, List.map_cons, List.map_nil, List.cons.injEq, Prod.mk.injEq, and_true, List.length_cons, List.length_nil] at hshape
      obtain ⟨rfl, hl⟩ := hshape
      match ws, hl with
      | [v], _ =>
        cases hpk with
        | @cons v' _ vs _ p1 p2 =>
          cases p2
          have e : [v] = [v'] := by simpa [Packs] using p1
          injection e with e _
          subst e
          have hv := rd_val (w := w') (Z := fun k => False ∨ Tag.none = Tag.froz) hrcs.1 hx
          show Rd w' _ [v] [x]
          rw [hv]
          exact Rd.val hx .nil
    | [], hshape, _, _ => simp [shape] at hshape
    | _ :: _ :: _, hshape, _, _ => simp [shape] at hshape
/-- Putting a field of an element anew. -/
theorem Putd.fld {α : Type} {enc : α → List D} {z : Nat} (hl : ∀ y, (enc y).length = z) {xs : List α} {i j : Nat} {df : α} {y : α} {x : D} (hi : i < xs.length) (hj : j < z) (h : enc y = (enc (xs.getD i df)).set j x) : Putd (.sl z (xs.map enc)) i j [x] (.sl z ((xs.set i y).map enc)) := by
  have hw : (D.sl z (xs.map enc)).wf := fun e he => by obtain ⟨q, _, rfl⟩ := List.mem_map.1 he; exact hl q
  refine Putd.one ?_ hw rfl (by simpa [D.size] using hi) (by simpa [D.z] using hj)
  simp only [D.put, Option.some.injEq, D.sl.injEq, true_and]
  rw [List.map_set, h]
  congr 2
  rw [List.getD_eq_getElem?_getD, List.getElem?_map, List.getD_eq_getElem?_getD, List.getElem?_eq_getElem hi]
  rfl
/-- The same, below a path of one step. -/
theorem putAt_fld {α : Type} {enc : α → List D} {z : Nat} {xs : List α} {i j : Nat} {df : α} {y : α} {x : D} (hi : i < xs.length) (h : enc y = (enc (xs.getD i df)).set j x) : (D.sl z (xs.map enc)).putAt [(i, j)] x = some (.sl z ((xs.set i y).map enc)) := by
  simp only [D.putAt, Option.bind_some, D.put, Option.some.injEq, D.sl.injEq, true_and]
  rw [List.map_set, h]
  congr 2
  rw [List.getD_eq_getElem?_getD, List.getElem?_map, List.getD_eq_getElem?_getD, List.getElem?_eq_getElem hi]
  rfl
theorem putAt_bss {xs : List (List Int)} {i : Nat} {ys : List Int} : (D.bss xs).putAt [(i, 0)] (.ints .u8 ys) = some (.bss (xs.set i ys)) := rfl
end Go.Proofs.Ytlcmflenbddliaa.Rf
