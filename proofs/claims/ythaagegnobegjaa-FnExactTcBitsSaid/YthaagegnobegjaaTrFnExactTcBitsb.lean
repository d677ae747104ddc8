/- A logic of our own over the kit's 'wp', as much of it as this claim uses. Plain definitions and theorems. -/
import Derived.Test.YthaagegnobegjaaTrFnExactTcBitsa
namespace Go.Proofs.Ythaagegnobegjaa.Rf
open Go.RowKit
set_option linter.unusedVariables false
set_option linter.unnecessarySimpa false
set_option linter.unusedSimpArgs false
open Go.RowKit Go.ChangeShapes Go.WideShapes Go.ChangeAt
open Classical in
theorem MK.intro {P : Program} {f : FuncId} {fn : Func} {c : Code} {args : List MA} {res : Res} (hf : P.funcs[f]? = some fn) (hb : fn.body = some c) (n : Nat) (hn : fn.ntmps = n) (ha : args.length ≤ n) (hcs : (args.flatMap MA.cells).length ≤ 100) (hnum : resNum res = true)
    (h : ∀ (w : World) (Z IX : Nat → Prop) (pin : List (Nat × Value)) (Ts : Nat → TypeId), (∀ x ∈ pin, 900 ≤ x.1 ∧ x.1 < 1000) → T P ⟨w.heap.size, w, Z, IX, pin, n⟩ c (Env.startM args Ts) (QRetM P fn res Ts (args.flatMap MA.cells))) : MK P f args res := by
  intro w Z O Ts vals us hz hO hZO hunp hpre
  have hl : vals.length = args.length := unp_len _ _ _ hunp
  obtain ⟨hul, hrd, hmk⟩ := MPre.get us _ 0 hpre
  refine calls_of_wp hf hb ?_
  obtain ⟨fpf, hfp⟩ : ∃ fpf : Nat → List Nat, ∀ (i : Nat) (d d' : D), (args.flatMap MA.cells)[i]? = some (MC.mk d d') → ∃ v, us[i]? = some v ∧ RowOk w (Ts i) v d (fpf i) ∧ (fpf i).Nodup ∧ ∀ k ∈ fpf i, O k = some i := by
    refine ⟨fun i => if h : ∃ fp : List Nat, ∀ d d' : D, (args.flatMap MA.cells)[i]? = some (MC.mk d d') → ∃ v, us[i]? = some v ∧ RowOk w (Ts i) v d fp ∧ fp.Nodup ∧ ∀ k ∈ fp, O k = some i then Classical.choose h else [], fun i d d' hc => ?_⟩
    have hex : ∃ fp : List Nat, ∀ d d' : D, (args.flatMap MA.cells)[i]? = some (MC.mk d d') → ∃ v, us[i]? = some v ∧ RowOk w (Ts i) v d fp ∧ fp.Nodup ∧ ∀ k ∈ fp, O k = some i := by
      obtain ⟨v, h1, fp, h2, h3, h4⟩ := hmk i d d' hc
      refine ⟨fp, fun e e' he => ?_⟩
      rw [hc] at he
      injection he with he
      injection he with he1 he2
      subst he1
      exact ⟨v, h1, by simpa using h2, h3, by simpa using h4⟩
    simp only [dif_pos hex]
    exact Classical.choose_spec hex d d' hc
  have hst : Rel ⟨w.heap.size, w, Z, fun k => O k ≠ none, (List.range us.length).map fun i => (900 + i, us.getD i undef), n⟩ (Env.startM args Ts) { tmps := vals.toArray ++ Array.replicate (n - vals.toArray.size) undef, defers := [] } w := by
    refine ⟨⟨fun r => us.getD (r - 900) undef, fun r => fpf (r - 900), fun _ => 0, fun k => if Z k then .froz else match O k with | some j => .row (900 + j) | none => .none⟩, ?_⟩
    have hown : ∀ k j, O k = some j → (if Z k then Tag.froz else match O k with | some j => .row (900 + j) | none => .none) = .row (900 + j) := fun k j hk => by
      rw [if_neg (fun hzk => by rw [hZO k hzk] at hk; cases hk), hk]
    have hcell : ∀ (i : Nat) (c : MC) (v : Value), (args.flatMap MA.cells)[i]? = some c → us[i]? = some v → COk ⟨fun r => us.getD (r - 900) undef, fun r => fpf (r - 900), fun _ => 0, fun k => if Z k then .froz else match O k with | some j => .row (900 + j) | none => .none⟩ (Env.startM args Ts) w v (c.pc (0 + i)) := fun i c v hc hv => by
      cases c with
      | rd d =>
        obtain ⟨v', h1, h2⟩ := hrd i d hc
        rw [hv] at h1
        injection h1 with h1
        subst h1
        exact Rd.keep h2 (fun _ _ => rfl) fun k hk => by simp [hk]
      | mk d d' =>
        intro T e _
        simp only [PathTo]
        rw [List.getD_eq_getElem?_getD, show 900 + (0 + i) - 900 = i from by omega, hv]
        rfl
    refine { tn := by simp; omega, df := rfl, fr := ⟨rfl, rfl, rfl, Nat.le_refl _, fun _ _ _ => rfl⟩, ba := Nat.le_refl _, lt := ?_, z0 := fun k hk => by have hk' : Z k := hk; simp [hk'], zb := ?_, wr := ?_, tm := ?_, rows := ?_, boxes := ?_, pin := ?_, bpin := fun b v hp hn T ps hb => by simp [Env.box, Env.startM, lk] at hb }
    · intro k hk
      simp only at hk
      split at hk
      · rename_i hz'; exact hz k hz'
      · cases hOk : O k with
        | none => rw [hOk] at hk; exact absurd rfl hk
        | some j => exact hO k (by rw [hOk]; simp)
    · intro k hk
      simp only at hk
      split at hk
      · rename_i hz'; exact .inl hz'
      · cases hOk : O k with
        | none => rw [hOk] at hk; cases hk
        | some j => rw [hOk] at hk; cases hk
    · intro k hk hk'
      simp only at hk hk'
      split at hk
      · rename_i hz'; rw [if_pos hz'] at hk'; exact absurd rfl hk'
      · cases hOk : O k with
        | none => rw [hOk] at hk; exact absurd rfl hk
        | some j => left; show O k ≠ none; rw [hOk]; simp
    · intro t
      have hget : (Env.startM args Ts).get t = (lk (startTm 0 0 args) t).getD (.one .und) := rfl
      rw [hget]
      cases hx : lk (startTm 0 0 args) t with
      | none => trivial
      | some p =>
        obtain ⟨v, _, hv, hok⟩ := startTm_ok args vals us 0 0 hunp hcell t p hx
        rw [Nat.sub_zero] at hv
        have hval : ({ tmps := vals.toArray ++ Array.replicate (n - vals.toArray.size) undef, defers := [] } : Act).tmps.getD t undef = v := by
          have hlt : t < vals.length := (List.getElem?_eq_some_iff.1 hv).1
          have : (vals.toArray ++ Array.replicate (n - vals.toArray.size) undef)[t]? = some v := by
            rw [Array.getElem?_append_left (by simpa using hlt)]; simpa using hv
          simp only [Array.getD_eq_getD_getElem?, this, Option.getD_some]
        rw [hval]
        exact hok
    · intro r T d hr
      obtain ⟨i, e, e', h1, h2, h3⟩ := startRows_get _ 0 r _ hr
      injection h3 with h3 h4
      subst h3 h4
      rw [Nat.zero_add] at h1
      subst h1
      obtain ⟨v, k1, k2, k3, k4⟩ := hfp i d e' h2
      refine ⟨?_, ?_, fun k hk => ?_⟩
      · simp only [Nat.add_sub_cancel_left, Nat.zero_add, List.getD_eq_getElem?_getD, k1, Option.getD_some]
        exact k2
      · simpa only [Nat.add_sub_cancel_left] using k3
      · simp only [Nat.add_sub_cancel_left] at hk
        exact hown k i (k4 k hk)
    · intro b T ps hb; simp [Env.box, Env.startM, lk] at hb
    · intro r v hrv T d hr
      obtain ⟨i, _, h2⟩ := List.mem_map.1 hrv
      have h3 : r = 900 + i := (congrArg Prod.fst h2).symm
      have h4 : v = us.getD i undef := (congrArg Prod.snd h2).symm
      rw [h3, h4]
      simp only [Nat.add_sub_cancel_left]
  have hpin : ∀ x ∈ ((List.range us.length).map fun i => (900 + i, us.getD i undef)), 900 ≤ x.1 ∧ x.1 < 1000 := fun x hx => by
    obtain ⟨i, h1, rfl⟩ := List.mem_map.1 hx
    rw [List.mem_range] at h1
    simp only
    omega
  have := h w Z (fun k => O k ≠ none) _ Ts hpin _ _ hst
  rw [hn]
  refine wp_mono this fun e a w' ⟨E, hq, M, R⟩ => ?_
  have key : (RetOk P fn res E ∧ resScal res = true) ∧ RowsAre E Ts 0 (args.flatMap MA.cells) → bodyPost P fn (ReturnsM w O Ts us (args.flatMap MA.cells) res) .ret a w' := fun ⟨⟨⟨pss, h1, h2, ss, h3⟩, _⟩, hrows⟩ => by
    obtain ⟨vs, bcs, k1, k2, k3, k4⟩ := ret_all R h1
    obtain ⟨O1, o1, _, o3, o4⟩ := retC_ok R h3 _ 0 k4
    refine ⟨R.df, packed vs, results_run k1, ⟨R.fr.os, R.fr.tape, R.fr.output, R.fr.size, fun k hk hno => R.fr.block k hk fun h => h hno⟩, vs, bcs,
      fun k => match M.own k with | .row r => if 900 ≤ r then some (r - 900) else none | _ => none, rfl, k2, k3.trans h2, rcs_num _ _ _ hnum o4, fun k hk => ?_, ?_⟩
    · simp only at hk
      split at hk
      · rename_i r hr
        refine ⟨R.lt k (by rw [hr]; simp), ?_⟩
        exact R.wr k (by rw [hr]; simp) (by rw [hr]; simp)
      · exact absurd rfl hk
    · refine MPost.mk us _ 0 hul fun i v d d' hv hc => ?_
      have hr := RowsAre.get _ 0 hrows i d d' hc
      obtain ⟨p1, p2, p3⟩ := R.rows _ _ _ hr
      have hi : i < us.length := (List.getElem?_eq_some_iff.1 hv).1
      have hh := R.pin (900 + i) v (by
        refine List.mem_map.2 ⟨i, List.mem_range.2 hi, ?_⟩
        rw [List.getD_eq_getElem?_getD, hv]; rfl) _ _ (by rw [Nat.zero_add] at hr; exact hr)
      rw [Nat.zero_add] at p1 p2 p3 ⊢
      rw [hh] at p1
      exact ⟨_, p1, p2, fun k hk => by simp [p3 k hk]⟩
  cases e with
  | normal => exact key hq
  | ret => exact key hq
  | _ => exact hq.elim
theorem Own.lend' {w : World} {v u : Value} {d : D} {bs : List Nat} (p : List (Nat × Nat)) (ho : Own w [v] [d] bs) (hp : PathTo w v d p u) (hnd : bs.Nodup) : ∃ b1 b b2, bs = b1 ++ b ++ b2 ∧ Own w [u] [d.at_ p] b ∧ (p = [] ∨ ∀ a n c, v = .slice (some a) n c → a.block ∈ b1) ∧
    ∀ (w' : World) (e d' : D) (b' : List Nat), d.putAt p e = some d' → Own w' [u] [e] b' → (∀ k ∈ b1, w'.heap[k]? = w.heap[k]?) → (∀ k ∈ b2, w'.heap[k]? = w.heap[k]?) → Own w' [v] [d'] (b1 ++ b' ++ b2) := by
  cases p with
  | nil =>
    obtain ⟨b1, b, b2, h1, h2, h3⟩ := Own.lend [] v d u bs ho hp
    exact ⟨b1, b, b2, h1, h2, .inl rfl, h3⟩
  | cons ij p =>
    obtain ⟨i, j⟩ := ij
    obtain ⟨g, cap, cs, t, c, h1, h2, h3, h4, h5, h6⟩ := hp
    subst h1
    obtain ⟨k1, k2, _, k3, k4, cs', t', b, k5, k6, k7, rfl⟩ := own_sl ho
    rw [h2] at k5
    injection k5 with k5
    injection k5 with e1 e2
    subst e1 e2
    have hlt : i * d.z + j < d.flat.length := by
      rw [D.flat_length k2 k1]
      calc i * d.z + j < i * d.z + d.z := by omega
        _ = (i + 1) * d.z := by rw [Nat.succ_mul]
        _ ≤ d.size * d.z := Nat.mul_le_mul_right _ (by omega)
    obtain ⟨c', c1, b0, c2, hc', rfl, ho', hback⟩ := k7.lend1 (i * d.z + j) (d.cell i j) (D.flat_get k2 k1 h3 h4)
    obtain rfl : c' = c := by
      rw [List.getElem?_take, if_pos hlt] at hc'
      have : cs[i * d.z + j]? = some c' := by simpa using hc'
      rw [h5] at this
      injection this with this
      exact this.symm
    obtain ⟨a1, a, a2, rfl, hoa, hbk⟩ := Own.lend p c' (d.cell i j) u b0 ho' h6
    refine ⟨g :: (c1 ++ a1), a, a2 ++ c2, by simp, hoa, .inr (fun a n c h => by injection h with h; injection h with h; subst h; simp), fun w' e d' b' he ho2 hk1 hk2 => ?_⟩
    simp only [D.putAt] at he
    obtain ⟨y, hy, hput⟩ := Option.bind_eq_some_iff.1 he
    obtain ⟨f1, f2, f3, f4, f5⟩ := D.put_flat hput k2 h3 h4
    have hb := hbk w' e y b' hy ho2 (fun k hk => hk1 k (by simp [hk])) (fun k hk => hk2 k (by simp [hk]))
    have hc := hback w' c' y _ hb (fun k hk => hk1 k (by simp [hk])) (fun k hk => hk2 k (by simp [hk]))
    have hset : (cs.toList.take d.flat.length).set (i * d.z + j) c' = cs.toList.take d.flat.length := by
      apply List.ext_getElem? 
      intro q
      rw [List.getElem?_set]
      split
      · rename_i e; subst e; split
        · rw [hc']
        · rename_i hh; rw [List.getElem?_eq_none (by omega)]
      · rfl
    rw [hset, ← f1] at hc
    have hlen : d'.flat.length = d.flat.length := by rw [f1, List.length_set]
    have hg : w'.heap[g]? = some (.cells cs t (0, 0)) := (hk1 g (by simp)).trans h2
    have := Own.sl (w := w') (vs := []) (ds := []) (b2 := []) f5 hg (by rw [f2]; exact k3) k4 (by rw [f3]; exact k6) f4 (by rw [hlen]; exact hc) .nil
    rw [f2] at this
    simpa using this
theorem own_head {w : World} {v : Value} {d : D} {bs : List Nat} (h : Own w [v] [d] bs) (hs : d.isSl = true) : ∃ T, ∀ a n c, v = .slice (some a) n c → ∃ cs fr, w.heap[a.block]? = some (.cells cs T fr) := by
  cases h with
  | val hv _ => cases d <;> simp [D.val] at hv <;> simp [D.isSl] at hs
  | empty => exact ⟨0, fun a n c h => by injection h with h; cases h⟩
  | sl h1 h2 h3 h4 h5 h6 h7 h8 => exact ⟨_, fun a n c h => by injection h with h; injection h with h; subst h; exact ⟨_, _, h2⟩⟩
inductive MCells (E : Env) : List PC → List MC → List (Nat × D) → Prop
  | nil : MCells E [] [] []
  | d {x : D} {ps : List PC} {cs : List MC} {js : List (Nat × D)} : MCells E ps cs js → MCells E (.d x :: ps) (.rd x :: cs) js
  | nilmk {x : D} {ps : List PC} {cs : List MC} {js : List (Nat × D)} : x.isSl = true → x.size = 0 → x.wf → MCells E ps cs js → MCells E (.nil :: ps) (.mk x x :: cs) js
  | row {r : Nat} {p : List (Nat × Nat)} {T : TypeId} {d e e' d' : D} {ps : List PC} {cs : List MC} {js : List (Nat × D)} : E.row r = some (T, d) → d.at_ p = e → e.isSl = true → d.putAt p e' = some d' → d'.isSl = true → d'.size = d.size → d'.z = d.z → lk js r = none →
      MCells E ps cs js → MCells E (.row r p :: ps) (.mk e e' :: cs) ((r, d') :: js)
def blkT (w : World) : Value → TypeId
  | .slice (some a) _ _ => match w.heap[a.block]? with | some (.cells _ T _) => T | _ => 0
  | _ => 0
theorem MPre.imp {w : World} {Z : Nat → Prop} {O O' : Nat → Option Nat} {Ts : Nat → TypeId} (h : ∀ k i, O k = some i → O' k = some i) : ∀ (us : List Value) (cs : List MC) (j : Nat), MPre w Z O Ts j us cs → MPre w Z O' Ts j us cs
  | [], [], _, _ => trivial
  | [], _ :: _, _, hp => by simp [MPre] at hp
  | _ :: _, [], _, hp => by simp [MPre] at hp
  | v :: us, .rd d :: cs, j, hp => ⟨hp.1, MPre.imp h us cs (j + 1) hp.2⟩
  | v :: us, .mk d e :: cs, j, ⟨⟨fp, h1, h2, h3⟩, hp⟩ => ⟨⟨fp, h1, h2, fun k hk => h k j (h3 k hk)⟩, MPre.imp h us cs (j + 1) hp⟩
open Classical in
theorem MCells.hand {C : Ctx} {M : Maps} {E : Env} {a : Act} {w : World} (R : RelM C M E a w) (Ts : Nat → TypeId) {ps : List PC} {cs : List MC} {js : List (Nat × D)} (h : MCells E ps cs js) : ∀ (us : List Value) (j : Nat), All2 (COk M E w) us ps → (∀ (i : Nat) (v : Value), us[i]? = some v → Ts (j + i) = blkT w v) →
    ∃ (O : Nat → Option Nat) (ix : Nat → Nat), (∀ k i, O k = some i → ∃ r, (lk js r).isSome = true ∧ M.own k = .row r) ∧ (∀ r, (lk js r).isSome = true → j ≤ ix r) ∧ (∀ r s, (lk js r).isSome = true → (lk js s).isSome = true → ix r = ix s → r = s) ∧ MPre w (fun k => M.own k = .froz) O Ts j us cs ∧
      ∀ (w' : World) (Om O' : Nat → Option Nat), (∀ k r, (lk js r).isSome = true → M.own k = .row r → Om k = O k) → (∀ k, k < w.heap.size → Om k = none → w'.heap[k]? = w.heap[k]?) → (∀ k, O' k ≠ none → Om k ≠ none ∨ w.heap.size ≤ k) → MPost w' O' Ts j us cs →
        ∃ fp' : Nat → List Nat, ∀ r d', lk js r = some d' → ∃ T d, E.row r = some (T, d) ∧ d'.size = d.size ∧ d'.z = d.z ∧ RowOk w' T (M.hdl r) d' (fp' r) ∧ (fp' r).Nodup ∧ ∀ k ∈ fp' r, (k < w.heap.size ∧ M.own k = .row r ∧ O' k = none) ∨ O' k = some (ix r) := by
  induction h with
  | nil =>
    intro us j hus hTs
    cases hus
    exact ⟨fun _ => none, fun _ => 0, by simp, by simp [lk], by simp [lk], trivial, fun _ _ _ _ _ _ _ => ⟨fun _ => [], by simp [lk]⟩⟩
  | @d x ps cs js _ ih =>
    intro us j hus hTs
    cases hus with
    | @cons v _ us _ h1 h2 =>
      obtain ⟨O, ix, k1, k2, k3, k4, k5⟩ := ih us (j + 1) h2 fun i v' hv => by rw [show j + 1 + i = j + (i + 1) from by omega]; exact hTs (i + 1) v' (by simpa using hv)
      exact ⟨O, ix, k1, fun r hr => by have := k2 r hr; omega, k3, ⟨h1, k4⟩, k5⟩
  | @nilmk x ps cs js e1 e2 e3 _ ih =>
    intro us j hus hTs
    cases hus with
    | @cons v _ us _ h1 h2 =>
      obtain ⟨O, ix, k1, k2, k3, k4, k5⟩ := ih us (j + 1) h2 fun i v' hv => by rw [show j + 1 + i = j + (i + 1) from by omega]; exact hTs (i + 1) v' (by simpa using hv)
      have e : v = .slice none 0 0 := h1
      subst e
      exact ⟨O, ix, k1, fun r hr => by have := k2 r hr; omega, k3, ⟨⟨[], ⟨e1, .empty e1 e2 e3 .nil, fun ad n c h => by injection h with h; cases h⟩, by simp, by simp⟩, k4⟩, fun w' Om O' q1 q2 q3 q4 => k5 w' Om O' q1 q2 q3 q4.2⟩
  | @row r p T d e e' d' ps cs js hr hat hsl hput hsl' hsize hz hlk _ ih =>
    intro us j hus hTs
    cases hus with
    | @cons v _ us _ h1 h2 =>
      obtain ⟨O, ix, k1, k2, k3, k4, k5⟩ := ih us (j + 1) h2 fun i v' hv => by rw [show j + 1 + i = j + (i + 1) from by omega]; exact hTs (i + 1) v' (by simpa using hv)
      obtain ⟨⟨s1, ho, hh⟩, hnd, hrow⟩ := R.rows r T d hr
      have hp : PathTo w (M.hdl r) d p v := h1 T d hr
      obtain ⟨b1, b, b2, hbs, hob, hhd, hback⟩ := Own.lend' p ho hp hnd
      rw [hat] at hob
      have hT0 : Ts j = blkT w v := hTs 0 v rfl
      have hlkr : ∀ s, lk ((r, d') :: js) s = if r = s then some d' else lk js s := fun s => rfl
      have hne : ∀ s, (lk js s).isSome = true → s ≠ r := fun s hs e => by subst e; rw [hlk] at hs; cases hs
      have hOt : ∀ k, M.own k = .row r → O k = none := fun k hk => by
        cases hOk : O k with
        | none => rfl
        | some i =>
          obtain ⟨s, h3, h4⟩ := k1 k i hOk
          rw [hk] at h4
          injection h4 with h4
          exact absurd h4.symm (hne s h3)
      have hb : ∀ k ∈ b, M.own k = .row r := fun k hk => hrow k (by rw [hbs]; simp [hk])
      have hb12 : ∀ k, k ∈ b1 ∨ k ∈ b2 → M.own k = .row r ∧ k ∉ b ∧ k < w.heap.size := fun k hk => by
        have hm : k ∈ M.fp r := by rw [hbs]; rcases hk with hk | hk <;> simp [hk]
        refine ⟨hrow k hm, fun hkb => ?_, ho.lt k hm⟩
        rw [hbs, List.append_assoc, List.nodup_append] at hnd
        obtain ⟨n1, n2, n3⟩ := hnd
        rw [List.nodup_append] at n2
        rcases hk with hk | hk
        · exact n3 k hk k (by simp [hkb]) rfl
        · exact n2.2.2 k hkb k hk rfl
      have hndb : b.Nodup ∧ (b1 ++ b2).Nodup := by
        rw [hbs, List.append_assoc, List.nodup_append] at hnd
        obtain ⟨n1, n2, n3⟩ := hnd
        rw [List.nodup_append] at n2
        exact ⟨n2.1, List.nodup_append.2 ⟨n1, n2.2.1, fun x hx y hy => n3 x hx y (by simp [hy])⟩⟩
      refine ⟨fun k => if k ∈ b then some j else O k, fun s => if s = r then j else ix s, fun k i hk => ?_, fun s hs => ?_, fun s s' hs hs' he => ?_, ⟨⟨b, ⟨hsl, hob, fun ad n c hv => ?_⟩, hndb.1, fun k hk => by simp [hk]⟩, MPre.imp (fun k i hk => ?_) _ _ _ k4⟩, fun w' Om O' q1 q2 q3 q4 => ?_⟩
      · simp only at hk
        split at hk
        · rename_i hkb; exact ⟨r, by rw [hlkr, if_pos rfl]; rfl, hb k hkb⟩
        · obtain ⟨s, h3, h4⟩ := k1 k i hk
          exact ⟨s, by rw [hlkr, if_neg (fun e => hne s h3 e.symm)]; exact h3, h4⟩
      · simp only
        split
        · exact Nat.le_refl _
        · rename_i hsr
          rw [hlkr, if_neg (fun e => hsr e.symm)] at hs
          have := k2 s hs; omega
      · rw [hlkr] at hs hs'
        simp only at he
        by_cases e1 : s = r <;> by_cases e2 : s' = r
        · rw [e1, e2]
        · rw [if_neg (fun e => e2 e.symm)] at hs'
          rw [if_pos e1, if_neg e2] at he
          have := k2 s' hs'; omega
        · rw [if_neg (fun e => e1 e.symm)] at hs
          rw [if_neg e1, if_pos e2] at he
          have := k2 s hs; omega
        · rw [if_neg (fun e => e1 e.symm)] at hs
          rw [if_neg (fun e => e2 e.symm)] at hs'
          rw [if_neg e1, if_neg e2] at he
          exact k3 s s' hs hs' he
      · obtain ⟨T1, hT1⟩ := own_head hob hsl
        obtain ⟨cs1, fr, h3⟩ := hT1 ad n c hv
        refine ⟨cs1, fr, ?_⟩
        rw [h3, hT0, hv]
        simp only [blkT, h3]
      · show (if k ∈ b then some j else O k) = some i
        rw [if_neg]
        · exact hk
        · intro hkb
          obtain ⟨s, h3, h4⟩ := k1 k i hk
          rw [hb k hkb] at h4
          injection h4 with h4
          exact hne s h3 h4.symm
      · obtain ⟨⟨fpb, ⟨r1, r2, r3⟩, r4, r5⟩, q4⟩ := q4
        obtain ⟨fpt, hfpt⟩ := k5 w' Om O' (fun k s hs hk => by
          rw [q1 k s (by rw [hlkr, if_neg (fun e => hne s hs e.symm)]; exact hs) hk]
          show (if k ∈ b then some j else O k) = O k
          rw [if_neg]
          intro hkb
          rw [hb k hkb] at hk
          injection hk with hk
          exact hne s hs hk.symm) q2 q3 q4
        have hom : ∀ k, k ∈ b1 ∨ k ∈ b2 → Om k = none := fun k hk => by
          obtain ⟨m1, m2, m3⟩ := hb12 k hk
          rw [q1 k r (by rw [hlkr, if_pos rfl]; rfl) m1]
          show (if k ∈ b then some j else O k) = none
          rw [if_neg m2]
          exact hOt k m1
        have hon : ∀ k, k ∈ b1 ∨ k ∈ b2 → O' k = none := fun k hk => by
          cases hOk : O' k with
          | none => rfl
          | some i =>
            rcases q3 k (by rw [hOk]; simp) with h3 | h3
            · exact absurd (hom k hk) h3
            · have := (hb12 k hk).2.2; omega
        have hsame : ∀ k, k ∈ b1 ∨ k ∈ b2 → w'.heap[k]? = w.heap[k]? := fun k hk => q2 k (hb12 k hk).2.2 (hom k hk)
        refine ⟨fun s => if s = r then b1 ++ fpb ++ b2 else fpt s, fun s ds hs => ?_⟩
        rw [hlkr] at hs
        by_cases e : r = s
        · subst e
          rw [if_pos rfl] at hs
          injection hs with hs
          subst hs
          simp only [if_pos]
          refine ⟨T, d, hr, hsize, hz, ⟨hsl', hback w' e' d' fpb hput r2 (fun k hk => hsame k (.inl hk)) (fun k hk => hsame k (.inr hk)), fun ad n c hv => ?_⟩, ?_, fun k hk => ?_⟩
          · obtain ⟨cs1, fr1, h3⟩ := hh ad n c hv
            rcases hhd with hp0 | hp1
            · subst hp0
              have e : v = M.hdl r := hp
              rw [e, hv] at hT0
              simp only [blkT, h3] at hT0
              rw [← hT0]
              exact r3 ad n c (by rw [e]; exact hv)
            · exact ⟨cs1, fr1, (hsame _ (.inl (hp1 ad n c hv))).trans h3⟩
          · have hd1 : ∀ k ∈ fpb, ¬ (k ∈ b1 ∨ k ∈ b2) := fun k hk hm => by have := hon k hm; rw [r5 k hk] at this; cases this
            have := List.nodup_append.1 hndb.2
            rw [List.append_assoc]
            refine List.nodup_append.2 ⟨this.1, List.nodup_append.2 ⟨r4, this.2.1, fun x hx y hy e => hd1 x hx (.inr (e ▸ hy))⟩, fun x hx y hy e => ?_⟩
            subst e
            rcases List.mem_append.1 hy with hy | hy
            · exact hd1 x hy (.inl hx)
            · exact this.2.2 x hx x hy rfl
          · simp only [List.mem_append] at hk
            rcases hk with (hk | hk) | hk
            · exact .inl ⟨(hb12 k (.inl hk)).2.2, (hb12 k (.inl hk)).1, hon k (.inl hk)⟩
            · exact .inr (r5 k hk)
            · exact .inl ⟨(hb12 k (.inr hk)).2.2, (hb12 k (.inr hk)).1, hon k (.inr hk)⟩
        · rw [if_neg e] at hs
          have e' : ¬ s = r := fun h => e h.symm
          simp only [if_neg e']
          exact hfpt s ds hs
def PV.mcells : PV → List PC
  | .one c => [c]
  | .agg cs => cs
  | .tup _ => []
def shOk : List PV → List MA → Bool
  | [], [] => true
  | .one _ :: ps, .one _ :: as => shOk ps as
  | .agg cs :: ps, .agg ds :: as => cs.length == ds.length && shOk ps as
  | _, _ => false
theorem unp_of {M : Maps} {E : Env} {w : World} : ∀ (ps : List PV) (args : List MA) (vals : List Value), shOk ps args = true → All2 (POk M E w) vals ps → ∃ us, unp vals args us ∧ All2 (COk M E w) us (ps.flatMap PV.mcells)
  | [], [], _, _, h => by cases h; exact ⟨[], rfl, .nil⟩
  | [], _ :: _, _, h, _ => by simp [shOk] at h
  | p :: _, [], _, h, _ => by cases p <;> simp [shOk] at h
  | .one c :: ps, .one m :: as, _, h, hv => by
    cases hv with
    | @cons v _ vs _ h1 h2 =>
      obtain ⟨us, k1, k2⟩ := unp_of ps as vs h h2
      exact ⟨v :: us, ⟨us, rfl, k1⟩, .cons h1 k2⟩
  | .agg cs :: ps, .agg ds :: as, _, h, hv => by
    simp only [shOk, Bool.and_eq_true, beq_iff_eq] at h
    cases hv with
    | @cons v _ vs _ h1 h2 =>
      obtain ⟨us, k1, k2⟩ := unp_of ps as vs h.2 h2
      obtain ⟨arr, rfl, h3⟩ := h1
      exact ⟨arr.toList ++ us, ⟨arr, us, rfl, by rw [h3.length]; exact h.1, rfl, k1⟩, h3.append k2⟩
  | .one _ :: _, .agg _ :: _, _, h, _ => by simp [shOk] at h
  | .agg _ :: _, .one _ :: _, _, h, _ => by simp [shOk] at h
  | .tup _ :: _, _ :: _, _, h, _ => by simp [shOk] at h
def killJ (js : List (Nat × D)) : PC → PC
  | .row r p => if (lk js r).isSome && !p.isEmpty then .und else .row r p
  | .rptr r p i j => if (lk js r).isSome && !p.isEmpty then .und else .rptr r p i j
  | c => c
theorem killJ_ok (js : List (Nat × D)) (c : PC) : killJ js c = .und ∨ (killJ js c = c ∧ ((∀ r, (lk js r).isSome = true → c.ment r = false) ∨ ∃ r, (lk js r).isSome = true ∧ (c = .row r [] ∨ ∃ i j, c = .rptr r [] i j))) := by
  cases c with
  | row r p =>
    simp only [killJ]
    split
    · exact .inl rfl
    · rename_i h
      refine .inr ⟨rfl, ?_⟩
      by_cases h1 : (lk js r).isSome = true
      · right
        refine ⟨r, h1, .inl ?_⟩
        cases p with
        | nil => rfl
        | cons => simp [h1] at h
      · left
        intro s hs
        simp only [PC.ment, beq_eq_false_iff_ne]
        rintro rfl
        exact h1 hs
  | rptr r p i j =>
    simp only [killJ]
    split
    · exact .inl rfl
    · rename_i h
      refine .inr ⟨rfl, ?_⟩
      by_cases h1 : (lk js r).isSome = true
      · right
        refine ⟨r, h1, .inr ⟨i, j, ?_⟩⟩
        cases p with
        | nil => rfl
        | cons => simp [h1] at h
      · left
        intro s hs
        simp only [PC.ment, beq_eq_false_iff_ne]
        rintro rfl
        exact h1 hs
  | _ => exact .inr ⟨rfl, .inl fun r _ => rfl⟩
open Classical in
theorem Step.callM {P : Program} {C : Ctx} {o : Oper} {E : Env} {t f : Nat} {ats : Array TypeId} {g : Operand} {xs : List Operand} {ps : List PV} {args : List MA} {js : List (Nat × D)} {x : D} {u : Value} (ho : o.op = .call { callee := .value g, args := xs.toArray, argTypes := ats }) (hd : o.dst = some t) (ht : t < C.n)
    (hg : E.ev g = .one (.d (.fn f))) (hfn : isFn P f = true) (hev : xs.map E.ev = ps) (hsh : shOk ps args = true) (hcs : MCells E (ps.flatMap PV.mcells) (args.flatMap MA.cells) js) (hmk : MK P f args [(false, [.rd x])]) (hx : x.val = some u) :
    Step P C o E ((E.marked (killJ js) (lk js)).set t (.one (.d x))) := by
  intro a w ⟨M, R⟩ K Q hK
  have hrun : (execOp a.eval o).run P w = .ok (.enter f (xs.map a.eval).toArray) w := by
    unfold execOp
    rw [ho]
    have hgv : a.eval g = .func (.func f) #[] #[] := ev_val R hg rfl
    simp only [resolve, hgv, Deferred.ofValue, Sem.run_bind, Sem.run_pure, Result.andThen, invoke, List.map_toArray]
    simp [run_callFn hfn]
  unfold Oper.wp
  rw [hrun, Oper.upon_enter]
  have hall : All2 (POk M E w) (xs.map a.eval) ps := by
    subst hev
    clear hrun ho hsh hcs
    induction xs with
    | nil => exact .nil
    | cons y xs ih => exact .cons (ev_ok R y) ih
  obtain ⟨us, hunp, hus⟩ := unp_of ps args _ hsh hall
  obtain ⟨O, ix, k1, k2, k3, k4, k5⟩ := hcs.hand R (fun i => blkT w (us.getD i undef)) us 0 hus fun i v hv => by rw [Nat.zero_add, List.getD_eq_getElem?_getD, hv]; rfl
  refine (hmk w _ O _ (xs.map a.eval) us (fun k hk => R.lt k (by rw [hk]; simp)) (fun k hk => ?_) (fun k hk => ?_) hunp k4).mono fun e w' hret => ?_
  · cases hOk : O k with
    | none => exact absurd hOk hk
    | some i => obtain ⟨r, _, h⟩ := k1 k i hOk; exact R.lt k (by rw [h]; simp)
  · cases hOk : O k with
    | none => rfl
    | some i => obtain ⟨r, _, h⟩ := k1 k i hOk; rw [hk] at h; cases h
  · obtain ⟨hgiv, vs, bcs, O', rfl, hpk, hshape, hrcs, hO', hpost⟩ := hret
    obtain ⟨fp', hfp'⟩ := k5 w' O O' (fun _ _ _ _ => rfl) (fun k hk hn => hgiv.block k hk hn) (fun k hk => (hO' k hk).2) hpost
    have hJ : ∀ r, (lk js r).isSome = true → ∃ d', lk js r = some d' := fun r h => Option.isSome_iff_exists.1 h
    have huniq : ∀ k r s, (lk js r).isSome = true → (lk js s).isSome = true → k ∈ fp' r → k ∈ fp' s → r = s := fun k r s hr hs h1 h2 => by
      obtain ⟨d1, e1⟩ := hJ r hr
      obtain ⟨d2, e2⟩ := hJ s hs
      obtain ⟨_, _, _, _, _, _, _, m1⟩ := hfp' r d1 e1
      obtain ⟨_, _, _, _, _, _, _, m2⟩ := hfp' s d2 e2
      rcases m1 k h1 with ⟨_, p1, p2⟩ | p1 <;> rcases m2 k h2 with ⟨_, q1, q2⟩ | q1
      · rw [p1] at q1; injection q1
      · rw [p2] at q1; cases q1
      · rw [p1] at q2; cases q2
      · rw [p1] at q1; injection q1 with q1; exact k3 r s hr hs q1
    have hfr : Frame_ C w' := ⟨hgiv.os.trans R.fr.os, hgiv.tape.trans R.fr.tape, hgiv.output.trans R.fr.output, Nat.le_trans R.fr.size hgiv.size, fun k hk hn => by
      have hO : O k = none := by
        cases hOk : O k with
        | none => rfl
        | some i =>
          obtain ⟨r, _, h⟩ := k1 k i hOk
          rcases R.wr k (by rw [h]; simp) (by rw [h]; simp) with h2 | h2
          · exact absurd h2 hn
          · omega
      rw [hgiv.block k (Nat.lt_of_lt_of_le hk R.ba) hO]
      exact R.fr.block k hk hn⟩
    have R1 := R.mark (f := killJ js) (lk js) fp' (fun k => if h : ∃ r, (lk js r).isSome = true ∧ k ∈ fp' r then .row (Classical.choose h) else .none) hfr hgiv.size (fun k h0 h1 => by
        refine hgiv.block k (R.lt k h0) ?_
        cases hOk : O k with
        | none => rfl
        | some i => obtain ⟨r, h2, h3⟩ := k1 k i hOk; rw [h1 r h3] at h2; cases h2) (fun r d' hr => by
        obtain ⟨T, d, p1, p2, p3, p4, p5, p6⟩ := hfp' r d' hr
        refine ⟨T, d, p1, p2, p3, p4, p5, fun k hk => ?_⟩
        have hex : ∃ r, (lk js r).isSome = true ∧ k ∈ fp' r := ⟨r, by rw [hr]; rfl, hk⟩
        rw [dif_pos hex]
        have hc := Classical.choose_spec hex
        rw [huniq k _ r hc.1 (by rw [hr]; rfl) hc.2 hk]) (fun k hk => by
        by_cases hex : ∃ r, (lk js r).isSome = true ∧ k ∈ fp' r
        · simp only [dif_pos hex]
          obtain ⟨hc1, hc2⟩ := Classical.choose_spec hex
          obtain ⟨d1, e1⟩ := hJ _ hc1
          obtain ⟨_, _, _, _, _, _, _, m1⟩ := hfp' _ d1 e1
          refine ⟨by simp, ?_⟩
          rcases m1 k hc2 with ⟨p1, p2, p3⟩ | p1
          · exact ⟨Nat.lt_of_lt_of_le p1 hgiv.size, .inr ⟨_, p2, hc1⟩⟩
          · obtain ⟨q1, q2⟩ := hO' k (by rw [p1]; simp)
            refine ⟨q1, ?_⟩
            rcases q2 with q2 | q2
            · cases hOk : O k with
              | none => exact absurd hOk q2
              | some i => obtain ⟨r, h2, h3⟩ := k1 k i hOk; exact .inr ⟨r, h3, h2⟩
            · exact .inl ⟨own_new R q2, Nat.le_trans R.ba q2⟩
        · exact absurd (by rw [dif_neg hex]) hk) (killJ_ok js)
    obtain ⟨M2, R2⟩ : ∃ M2, RelM C M2 (E.marked (killJ js) (lk js)) a w' := ⟨_, R1⟩
    refine hK _ _ ⟨M2, ?_⟩
    rw [hd]
    refine R2.put ht ?_
    -- the value
    match bcs, hshape, hpk, hrcs with
    | [(b, ws)], hshape, hpk, hrcs =>
      simp only [shape, List.map_cons, List.map_nil, List.cons.injEq, Prod.mk.injEq, and_true, List.length_cons, List.length_nil] at hshape
      obtain ⟨rfl, hl⟩ := hshape
      match ws, hl with
      | [v], _ =>
        cases hpk with
        | @cons v' _ vs _ p1 p2 =>
          cases p2
          have e : [v] = [v'] := by simpa [Packs] using p1
          injection e with e _
          subst e
          have hv := rd_val (w := w') (Z := fun k => False ∨ Tag.none = Tag.froz) hrcs.1 hx
          show Rd w' _ [v] [x]
          rw [hv]
          exact Rd.val hx .nil
    | [], hshape, _, _ => simp [shape] at hshape
    | _ :: _ :: _, hshape, _, _ => simp [shape] at hshape
theorem Putd.fld {α : Type} {enc : α → List D} {z : Nat} (hl : ∀ y, (enc y).length = z) {xs : List α} {i j : Nat} {df : α} {y : α} {x : D} (hi : i < xs.length) (hj : j < z) (h : enc y = (enc (xs.getD i df)).set j x) : Putd (.sl z (xs.map enc)) i j [x] (.sl z ((xs.set i y).map enc)) := by
  have hw : (D.sl z (xs.map enc)).wf := fun e he => by obtain ⟨q, _, rfl⟩ := List.mem_map.1 he; exact hl q
  refine Putd.one ?_ hw rfl (by simpa [D.size] using hi) (by simpa [D.z] using hj)
  simp only [D.put, Option.some.injEq, D.sl.injEq, true_and]
  rw [List.map_set, h]
  congr 2
  rw [List.getD_eq_getElem?_getD, List.getElem?_map, List.getD_eq_getElem?_getD, List.getElem?_eq_getElem hi]
  rfl
theorem putAt_fld {α : Type} {enc : α → List D} {z : Nat} {xs : List α} {i j : Nat} {df : α} {y : α} {x : D} (hi : i < xs.length) (h : enc y = (enc (xs.getD i df)).set j x) : (D.sl z (xs.map enc)).putAt [(i, j)] x = some (.sl z ((xs.set i y).map enc)) := by
  simp only [D.putAt, Option.bind_some, D.put, Option.some.injEq, D.sl.injEq, true_and]
  rw [List.map_set, h]
  congr 2
  rw [List.getD_eq_getElem?_getD, List.getElem?_map, List.getD_eq_getElem?_getD, List.getElem?_eq_getElem hi]
  rfl
def mkL {α : Type} (cnt : α → Int) (mk : α → Int → α) : List α → Int → List α
  | [], _ => []
  | x :: xs, k => mk x k :: mkL cnt mk xs (k + cnt x)
def cntL {α : Type} (cnt : α → Int) : List α → Int
  | [] => 0
  | x :: xs => cnt x + cntL cnt xs
def upTo {α : Type} (cnt : α → Int) (mk : α → Int → α) (xs : List α) (k : Int) (i : Nat) : List α := mkL cnt mk (xs.take i) k ++ xs.drop i
section
variable {α : Type} {cnt : α → Int} {mk : α → Int → α}
theorem mkL_length : ∀ (xs : List α) (k : Int), (mkL cnt mk xs k).length = xs.length
  | [], _ => rfl
  | x :: xs, k => by simp [mkL, mkL_length xs]
theorem upTo_zero (xs : List α) (k : Int) : upTo cnt mk xs k 0 = xs := by simp [upTo, mkL]
theorem upTo_all {xs : List α} {k : Int} {i : Nat} (h : xs.length ≤ i) : upTo cnt mk xs k i = mkL cnt mk xs k := by simp [upTo, List.take_of_length_le h, List.drop_of_length_le h]
theorem upTo_length (xs : List α) (k : Int) (i : Nat) : (upTo cnt mk xs k i).length = xs.length := by simp [upTo, mkL_length]; omega
theorem mkL_append : ∀ (xs ys : List α) (k : Int), mkL cnt mk (xs ++ ys) k = mkL cnt mk xs k ++ mkL cnt mk ys (k + cntL cnt xs)
  | [], ys, k => by simp [mkL, cntL]
  | x :: xs, ys, k => by simp [mkL, cntL, mkL_append xs ys, Int.add_assoc]
theorem cntL_append : ∀ (xs ys : List α), cntL cnt (xs ++ ys) = cntL cnt xs + cntL cnt ys
  | [], ys => by simp [cntL]
  | x :: xs, ys => by simp [cntL, cntL_append xs ys, Int.add_assoc]
theorem upTo_get {xs : List α} {k : Int} {i : Nat} {df : α} (hi : i < xs.length) : (upTo cnt mk xs k i).getD i df = xs.getD i df := by
  have hl : (mkL cnt mk (xs.take i) k).length = i := by rw [mkL_length]; simp; omega
  simp only [upTo, List.getD_eq_getElem?_getD]
  rw [List.getElem?_append_right (by omega), hl, Nat.sub_self, List.getElem?_drop, Nat.add_zero]
theorem take_succ' {xs : List α} {i : Nat} {df : α} (hi : i < xs.length) : xs.take (i + 1) = xs.take i ++ [xs.getD i df] := by
  rw [List.take_add_one, List.getD_eq_getElem?_getD, List.getElem?_eq_getElem hi]; rfl
theorem drop_cons' {xs : List α} {i : Nat} {df : α} (hi : i < xs.length) : xs.drop i = xs.getD i df :: xs.drop (i + 1) := by
  rw [List.getD_eq_getElem?_getD, List.getElem?_eq_getElem hi]; exact List.drop_eq_getElem_cons hi
theorem upTo_set {xs : List α} {k : Int} {i : Nat} {df : α} (hi : i < xs.length) {y : α} (hy : y = mk (xs.getD i df) (k + cntL cnt (xs.take i))) : (upTo cnt mk xs k i).set i y = upTo cnt mk xs k (i + 1) := by
  have hl : (mkL cnt mk (xs.take i) k).length = i := by rw [mkL_length]; simp; omega
  unfold upTo
  rw [take_succ' (df := df) hi, mkL_append, drop_cons' (df := df) hi, List.set_append_right _ _ (by omega), hl, Nat.sub_self, hy]
  simp [mkL]
theorem cntL_take_succ {xs : List α} {i : Nat} (df : α) (hi : i < xs.length) : cntL cnt (xs.take (i + 1)) = cntL cnt (xs.take i) + cnt (xs.getD i df) := by
  rw [take_succ' (df := df) hi, cntL_append]; simp [cntL]
theorem cntL_nonneg (h0 : ∀ x, 0 ≤ cnt x) : ∀ xs : List α, 0 ≤ cntL cnt xs
  | [] => Int.le_refl _
  | x :: xs => by have := cntL_nonneg h0 xs; have := h0 x; simp only [cntL]; omega
theorem cntL_take_le (h0 : ∀ x, 0 ≤ cnt x) (xs : List α) (i : Nat) : cntL cnt (xs.take i) ≤ cntL cnt xs := by
  have h := cntL_append (cnt := cnt) (xs.take i) (xs.drop i)
  rw [List.take_append_drop] at h
  have := cntL_nonneg h0 (xs.drop i)
  omega
theorem cntL_all {xs : List α} {i : Nat} (h : xs.length ≤ i) : cntL cnt (xs.take i) = cntL cnt xs := by rw [List.take_of_length_le h]
theorem mkL_getD : ∀ (xs : List α) (k : Int) (i : Nat) (df : α), i < xs.length → (mkL cnt mk xs k).getD i df = mk (xs.getD i df) (k + cntL cnt (xs.take i))
  | [], _, i, _, h => by simp at h
  | x :: xs, k, 0, df, h => by simp [mkL, cntL]
  | x :: xs, k, i + 1, df, h => by
    have := mkL_getD xs (k + cnt x) i df (by simpa using h)
    simp only [mkL, List.getD_cons_succ, List.take_succ_cons, cntL, this]
    congr 1; omega
theorem cntL_le {n : Int} : ∀ xs : List α, (∀ x ∈ xs, cnt x ≤ n) → cntL cnt xs ≤ xs.length * n
  | [], _ => by simp [cntL]
  | x :: xs, h => by
    have := cntL_le xs fun y hy => h y (by simp [hy])
    have := h x (by simp)
    simp only [cntL, List.length_cons, Int.natCast_succ, Int.add_mul]
    omega
end
abbrev mkB (xs : List Int) (k : Int) : List Int := mkL (fun _ => 1) (fun _ k => k % 256) xs k
theorem cntL_one : ∀ xs : List Int, cntL (fun _ => 1) xs = xs.length
  | [] => rfl
  | x :: xs => by simp only [cntL, cntL_one xs, List.length_cons, Int.natCast_succ]; omega
theorem cntL_one_take (xs : List Int) (i : Nat) (h : i ≤ xs.length) : cntL (fun _ => 1) (xs.take i) = (i : Int) := by rw [cntL_one]; simp; omega
theorem wrap_byte (n : Int) : IntKind.u8.wrap n = n % 256 := rfl
theorem T.bndRow {P : Program} {C : Ctx} {c : Code} {E : Env} {Q : Exit → Env → Prop} (r : Nat) {Ty : TypeId} {d : D} (hr : E.row r = some (Ty, d)) (h : d.size ≤ 9223372036854775807 → T P C c E Q) : T P C c E Q := by
  intro a w R
  have ⟨M, R0⟩ := R
  have ho := (R0.rows r Ty d hr).1.2.1
  refine h ?_ a w R
  generalize M.fp r = bs at ho
  generalize M.hdl r = vv at ho
  cases ho with
  | val hv _ => cases d <;> simp [D.val] at hv <;> simp [D.size]
  | empty _ h2 _ _ => omega
  | sl _ _ h3 h4 _ _ _ _ => omega
theorem RowsAre.rd {E : Env} {Ts : Nat → TypeId} {j : Nat} {d : D} {cs : List MC} (h : RowsAre E Ts (j + 1) cs) : RowsAre E Ts j (.rd d :: cs) := h
theorem RowsAre.mk' {E : Env} {Ts : Nat → TypeId} {j : Nat} {d d' : D} {cs : List MC} (h1 : E.row (900 + j) = some (Ts j, d')) (h : RowsAre E Ts (j + 1) cs) : RowsAre E Ts j (.mk d d' :: cs) := ⟨h1, h⟩
theorem RowsAre.nil' {E : Env} {Ts : Nat → TypeId} {j : Nat} : RowsAre E Ts j [] := trivial
section
variable {α : Type} {cnt : α → Int} {mk : α → Int → α}
theorem upTo_self {xs : List α} {k : Int} (i : Nat) (df : α) : (upTo cnt mk xs k i).set i (xs.getD i df) = upTo cnt mk xs k i := by
  by_cases h : i < xs.length
  · rw [← upTo_get (cnt := cnt) (mk := mk) (k := k) (df := df) h]
    have hl := upTo_length (cnt := cnt) (mk := mk) xs k i
    rw [List.getD_eq_getElem?_getD, List.getElem?_eq_getElem (by omega)]
    exact List.set_getElem_self _
  · exact List.set_eq_of_length_le (by rw [upTo_length]; omega)
theorem upTo_first (xs : List α) (k : Int) (df : α) : xs = (upTo cnt mk xs k 0).set 0 (xs.getD 0 df) := by rw [upTo_self, upTo_zero]
theorem upTo_next {xs : List α} {k : Int} {i : Nat} {df : α} (hi : i < xs.length) {y : α} (hy : y = mk (xs.getD i df) (k + cntL cnt (xs.take i))) : (upTo cnt mk xs k i).set i y = (upTo cnt mk xs k (i + 1)).set (i + 1) (xs.getD (i + 1) df) := by
  rw [upTo_self]; exact upTo_set hi hy
theorem upTo_end {xs : List α} {k : Int} {i : Nat} {df : α} (hi : xs.length ≤ i) : (upTo cnt mk xs k i).set i (xs.getD i df) = mkL cnt mk xs k := by
  rw [upTo_self]; exact upTo_all hi
end
theorem cell_set_sl {α : Type} {enc : α → List D} {z : Nat} {U : List α} {i j : Nat} {y : α} {x : D} (hi : i < U.length) (h : (enc y).getD j (.bool false) = x) : (D.sl z ((U.set i y).map enc)).at_ [(i, j)] = x := by
  show (D.sl z ((U.set i y).map enc)).cell i j = x
  rw [cell_map y (by simpa using hi)]
  have e : (U.set i y).getD i y = y := by rw [List.getD_eq_getElem?_getD, List.getElem?_set_self (by simpa using hi)]; rfl
  rw [e]
  exact h
theorem Putd.fld2 {α : Type} {enc : α → List D} {z : Nat} (hl : ∀ y, (enc y).length = z) {U : List α} {i j : Nat} {y y' : α} {x : D} (hi : i < U.length) (hj : j < z) (h : enc y' = (enc y).set j x) : Putd (.sl z ((U.set i y).map enc)) i j [x] (.sl z ((U.set i y').map enc)) := by
  have := Putd.fld hl (xs := U.set i y) (i := i) (j := j) (df := y) (y := y') (x := x) (by simpa using hi) hj (by
    rw [List.getD_eq_getElem?_getD, List.getElem?_set_self (by simpa using hi)]; exact h)
  rwa [List.set_set] at this
theorem putAt_fld2 {α : Type} {enc : α → List D} {z : Nat} {U : List α} {i j : Nat} {y y' : α} {x : D} (hi : i < U.length) (h : enc y' = (enc y).set j x) : (D.sl z ((U.set i y).map enc)).putAt [(i, j)] x = some (.sl z ((U.set i y').map enc)) := by
  have := putAt_fld (enc := enc) (z := z) (xs := U.set i y) (i := i) (j := j) (df := y) (y := y') (x := x) (by simpa using hi) (by
    rw [List.getD_eq_getElem?_getD, List.getElem?_set_self (by simpa using hi)]; exact h)
  rwa [List.set_set] at this
theorem ofRow_sl {r : Nat} {p : List (Nat × Nat)} {i j : Nat} {e e' : D} (h : e = e') (hs : e'.isSl = true) : PC.ofRow r p i j e = .row r (p ++ [(i, j)]) := by subst h; simp [PC.ofRow, hs]
def rd (l : List Int) (i : Int) : Int := l.getD i.toNat 0
theorem rd_at {l : List Int} {i : Nat} {x : Int} (h : l[i]? = some x) : rd l (i : Int) = x := by simp [rd, List.getD_eq_getElem?_getD, h]
theorem getD_u8 {l : List Int} (h : U8s l) (i : Nat) : 0 ≤ l.getD i 0 ∧ l.getD i 0 ≤ 255 := by
  rw [List.getD_eq_getElem?_getD]
  cases hx : l[i]? with
  | none => simp
  | some x => simpa using h x (List.mem_of_getElem? hx)
def bitHas (l : List Int) (i : Int) : Bool := decide (0 ≤ i) && (decide (i / 8 < l.length) && decide (rd l (i / 8) / 2 ^ (i % 8).toNat % 2 = 1))
def bitsGo (l : List Int) : Nat → Nat → List Int
  | 0, _ => []
  | d + 1, i => if bitHas l i = true then (i : Int) :: bitsGo l d (i + 1) else bitsGo l d (i + 1)
def bitList (l : List Int) : List Int := bitsGo l (8 * l.length) 0
theorem bitsGo_len (l : List Int) : ∀ d i, (bitsGo l d i).length ≤ d
  | 0, _ => Nat.le_refl _
  | d + 1, i => by
    have := bitsGo_len l d (i + 1)
    unfold bitsGo; split
    · rw [List.length_cons]; omega
    · omega
theorem bitsGo_ge (l : List Int) : ∀ d i x, x ∈ bitsGo l d i → (i : Int) ≤ x ∧ x < ((i + d : Nat) : Int)
  | 0, _, x, h => by cases h
  | d + 1, i, x, h => by
    unfold bitsGo at h
    have ih := bitsGo_ge l d (i + 1) x
    split at h
    · rcases List.mem_cons.1 h with rfl | h
      · exact ⟨Int.le_refl _, by omega⟩
      · have := ih h; omega
    · have := ih h; omega
theorem bitsGo_last (l : List Int) (n : Int) : ∀ d i, (bitsGo l d i).all (fun x => decide (x < n)) = match (bitsGo l d i).getLast? with | none => true | some x => decide (x < n)
  | 0, _ => rfl
  | d + 1, i => by
    have ih := bitsGo_last l n d (i + 1)
    have hg := bitsGo_ge l d (i + 1)
    unfold bitsGo
    split
    · rw [List.all_cons, ih, List.getLast?_cons]
      cases h : (bitsGo l d (i + 1)).getLast? with
      | none => simp
      | some y =>
        have hy := hg y (List.mem_of_getLast? h)
        simp only [Option.getD_some]
        by_cases c : y < n
        · rw [decide_eq_true c, decide_eq_true (by omega)]; rfl
        · rw [decide_eq_false c, Bool.and_false]
    · exact ih
theorem bitList_len (l : List Int) : (bitList l).length ≤ 8 * l.length := bitsGo_len l _ _
def bitsSize (n : Int) : Int := if n < 1 then 0 else (n - 1) / 8 + 1
theorem div_pow_bd {x : Int} (h0 : 0 ≤ x) (h1 : x ≤ 255) (t : Nat) : 0 ≤ x / 2 ^ t ∧ x / 2 ^ t ≤ 255 := by
  have hp : (0 : Int) < 2 ^ t := Int.pow_pos (by decide)
  refine ⟨Int.ediv_nonneg h0 (by omega), ?_⟩
  have := Int.ediv_le_self (2 ^ t) h0
  omega
theorem bitsGo_next (b : List Int) {n i : Nat} (h : i < n) : bitsGo b (n - i) i = (if bitHas b (i : Int) = true then [(i : Int)] else []) ++ bitsGo b (n - (i + 1)) (i + 1) := by
  obtain ⟨d, hd⟩ : ∃ d, n - i = d + 1 := ⟨n - i - 1, by omega⟩
  rw [hd, show n - (i + 1) = d from by omega, bitsGo]
  split <;> simp [*]
theorem bitsGo_end (b : List Int) {n i : Nat} (h : n ≤ i) : bitsGo b (n - i) i = [] := by rw [show n - i = 0 from by omega]; rfl
theorem shr_ok {a b : Int} {n : Nat} (h0 : 0 ≤ b) (h : b < n) : a.fdiv (2 ^ (min b.toNat n)) = a / 2 ^ b.toNat := by
  rw [Nat.min_eq_left (by omega)]
  exact Int.fdiv_eq_ediv_of_nonneg _ (Int.le_of_lt (Int.pow_pos (by decide)))
def PC.ren (r s : Nat) : PC → PC
  | .row x p => .row (if x = r then s else x) p
  | .rptr x p i j => .rptr (if x = r then s else x) p i j
  | c => c
def Env.ren (E : Env) (r s : Nat) : Env := { E.mapc (PC.ren r s) with rows := E.rows.map fun x => (if x.1 = r then s else x.1, x.2) }
theorem ren_row {E : Env} {r s x : Nat} {T : TypeId} {d : D} (hs : lk E.rows s = none) (h : (E.ren r s).row x = some (T, d)) : (x = s ∧ E.row r = some (T, d)) ∨ (x ≠ s ∧ x ≠ r ∧ E.row x = some (T, d)) := by
  have key : ∀ l : List (Nat × (TypeId × D)), lk l s = none → lk (l.map fun x => (if x.1 = r then s else x.1, x.2)) x = some (T, d) → (x = s ∧ lk l r = some (T, d)) ∨ (x ≠ s ∧ x ≠ r ∧ lk l x = some (T, d)) := by
    intro l
    induction l with
    | nil => intro _ h; simp [lk] at h
    | cons y l ih =>
      intro h0 h1
      obtain ⟨k, v⟩ := y
      simp only [lk] at h0
      split at h0
      · cases h0
      · rename_i hk
        simp only [List.map_cons, lk] at h1
        by_cases e : k = r
        · rw [if_pos e] at h1
          by_cases e2 : s = x
          · rw [if_pos e2] at h1
            left
            exact ⟨e2.symm, by simp only [lk]; rw [if_pos e]; exact h1⟩
          · rw [if_neg e2] at h1
            rcases ih h0 h1 with ⟨p, _⟩ | ⟨p, q, t⟩
            · exact absurd p.symm e2
            · right
              exact ⟨p, q, by simp only [lk]; rw [if_neg (fun h => q (h.symm.trans e))]; exact t⟩
        · rw [if_neg e] at h1
          by_cases e2 : k = x
          · rw [if_pos e2] at h1
            right
            refine ⟨fun h => hk (e2.trans h), fun h => e (e2.trans h), ?_⟩
            simp only [lk]; rw [if_pos e2]; exact h1
          · rw [if_neg e2] at h1
            rcases ih h0 h1 with ⟨p, t⟩ | ⟨p, q, t⟩
            · left; exact ⟨p, by simp only [lk]; rw [if_neg e]; exact t⟩
            · right; exact ⟨p, q, by simp only [lk]; rw [if_neg e2]; exact t⟩
  exact key E.rows hs h
open Classical in
theorem RelM.ren {C : Ctx} {M : Maps} {E : Env} {a : Act} {w : World} (R : RelM C M E a w) {r s : Nat} (hf : E.noref' s = true) (hpr : ∀ x ∈ C.pin, x.1 ≠ s) : ∃ M', RelM C M' (E.ren r s) a w := by
  simp only [Env.noref', Bool.and_eq_true, List.all_eq_true, Option.isNone_iff_eq_none] at hf
  obtain ⟨⟨f1, f2⟩, f3⟩ := hf
  refine ⟨{ M with hdl := fun x => if x = s then M.hdl r else M.hdl x, fp := fun x => if x = s then M.fp r else M.fp x, own := fun k => if M.own k = .row r then .row s else M.own k }, ?_⟩
  generalize hM : ({ M with hdl := fun x => if x = s then M.hdl r else M.hdl x, fp := fun x => if x = s then M.fp r else M.fp x, own := fun k => if M.own k = .row r then .row s else M.own k } : Maps) = M'
  have hblk : M'.blk = M.blk := by subst hM; rfl
  have hown : ∀ k, M'.own k = if M.own k = .row r then .row s else M.own k := fun k => by subst hM; rfl
  have hfroz : ∀ k, M.own k = .froz → M'.own k = .froz := fun k h => by rw [hown, if_neg (by rw [h]; simp)]; exact h
  have hbox : ∀ t, (E.ren r s).box t = (E.box t).map fun x => (x.1, x.2.map (PC.ren r s)) := fun t => Env.box_mapc E (PC.ren r s) t
  have hget : ∀ t, (E.ren r s).get t = (E.get t).mapc (PC.ren r s) := fun t => Env.get_mapc E (PC.ren r s) rfl t
  have hh : ∀ x, M'.hdl x = if x = s then M.hdl r else M.hdl x := fun x => by subst hM; rfl
  have hp : ∀ x, M'.fp x = if x = s then M.fp r else M.fp x := fun x => by subst hM; rfl
  have hc : ∀ c : PC, c.ment s = false → ∀ v, COk M E w v c → COk M' (E.ren r s) w v (c.ren r s) := fun c hm v h => by
    cases c with
    | d x => exact Rd.keep h (fun _ _ => rfl) hfroz
    | nil => exact h
    | und => trivial
    | ptr b off => simp only [PC.ren, COk] at h ⊢; rw [hblk]; exact h
    | eptr x i j =>
      obtain ⟨ad, cap, h1, h2⟩ := h
      exact ⟨ad, cap, Rd.keep h1 (fun _ _ => rfl) hfroz, h2⟩
    | row x p =>
      have hxs : x ≠ s := by simp only [PC.ment, beq_eq_false_iff_ne] at hm; exact fun e => hm e.symm
      intro T d hT
      by_cases e : x = r
      · simp only [PC.ren, if_pos e] at hT ⊢
        rcases ren_row f3 hT with ⟨_, h2⟩ | ⟨h2, _⟩
        · rw [hh, if_pos rfl]; subst e; exact h T d h2
        · exact absurd rfl h2
      · simp only [PC.ren, if_neg e] at hT ⊢
        rcases ren_row f3 hT with ⟨h1, _⟩ | ⟨_, _, h2⟩
        · exact absurd h1 hxs
        · rw [hh, if_neg hxs]; exact h T d h2
    | rptr x p i j =>
      have hxs : x ≠ s := by simp only [PC.ment, beq_eq_false_iff_ne] at hm; exact fun e => hm e.symm
      intro T d hT
      by_cases e : x = r
      · simp only [PC.ren, if_pos e] at hT ⊢
        rcases ren_row f3 hT with ⟨_, h2⟩ | ⟨h2, _⟩
        · rw [hh, if_pos rfl]; subst e; exact h T d h2
        · exact absurd rfl h2
      · simp only [PC.ren, if_neg e] at hT ⊢
        rcases ren_row f3 hT with ⟨h1, _⟩ | ⟨_, _, h2⟩
        · exact absurd h1 hxs
        · rw [hh, if_neg hxs]; exact h T d h2
  have hall : ∀ (vs : List Value) (ps : List PC), (∀ c ∈ ps, c.ment s = false) → All2 (COk M E w) vs ps → All2 (COk M' (E.ren r s) w) vs (ps.map (PC.ren r s)) := fun vs ps hm h => by
    induction h with
    | nil => exact .nil
    | @cons v c vs ps h1 _ ih => exact .cons (hc c (hm c (by simp)) v h1) (ih fun c' hc' => hm c' (by simp [hc']))
  refine { tn := R.tn, df := R.df, fr := R.fr, ba := R.ba, lt := ?_, z0 := fun k hk => hfroz k (R.z0 k hk), zb := ?_, wr := ?_, tm := ?_, rows := ?_, boxes := ?_, pin := ?_, bpin := ?_ }
  · intro k hk
    refine R.lt k fun h => hk ?_
    rw [hown, if_neg (by rw [h]; simp)]; exact h
  · intro k hk
    refine R.zb k ?_
    rw [hown] at hk
    split at hk
    · cases hk
    · exact hk
  · intro k hk hk'
    refine R.wr k (fun h => hk ?_) (fun h => hk' (hfroz k h))
    rw [hown, if_neg (by rw [h]; simp)]; exact h
  · intro t
    rw [hget]
    have h := R.tm t
    have hm : ∀ c ∈ (E.get t).cells, c.ment s = false := fun c hcm => by
      rcases Env.get_mem hcm with rfl | ⟨x, hx, hcx⟩
      · rfl
      · simpa using f1 x hx c hcx
    generalize E.get t = p at h hm
    cases p with
    | one c => exact hc c (hm c (by simp [PV.cells])) _ h
    | agg cs => obtain ⟨arr, e, h⟩ := h; exact ⟨arr, e, hall _ _ (fun c hcm => hm c (by simpa [PV.cells] using hcm)) h⟩
    | tup vs =>
      obtain ⟨arr, e, h⟩ := h
      refine ⟨arr, e, ?_⟩
      clear e
      generalize arr.toList = l at h
      show All2 _ l (vs.map _)
      have hm' : ∀ y ∈ vs, ∀ c ∈ y.2, c.ment s = false := fun y hy c hcy => hm c (by simp only [PV.cells, List.mem_flatMap]; exact ⟨y, hy, hcy⟩)
      clear hm
      induction h with
      | nil => exact .nil
      | @cons v y l vs h1 _ ih =>
        refine .cons ?_ (ih fun y' hy' => hm' y' (by simp [hy']))
        have hy := hm' y (by simp)
        obtain ⟨b, cs⟩ := y
        match b, cs, h1, hy with
        | true, cs, ⟨arr', e', h'⟩, hy => exact ⟨arr', e', hall _ _ hy h'⟩
        | false, [c], h', hy => exact hc c (hy c (by simp)) _ h'
  · intro x T d hx
    rcases ren_row f3 hx with ⟨rfl, h2⟩ | ⟨h1, h3, h2⟩
    · obtain ⟨k1, k2, k3⟩ := R.rows r T d h2
      rw [hh, hp, if_pos rfl, if_pos rfl]
      exact ⟨k1, k2, fun k hk => by rw [hown, if_pos (k3 k hk)]⟩
    · obtain ⟨k1, k2, k3⟩ := R.rows x T d h2
      rw [hh, hp, if_neg h1, if_neg h1]
      exact ⟨k1, k2, fun k hk => by rw [hown, if_neg (by rw [k3 k hk]; intro h; injection h with h; exact h3 h)]; exact k3 k hk⟩
  · intro b T ps' hb
    rw [hbox] at hb
    obtain ⟨⟨T2, ps⟩, h1, h2⟩ := Option.map_eq_some_iff.1 hb
    injection h2 with e1 e2
    subst e1 e2
    obtain ⟨k1, cs, k2, k3⟩ := R.boxes b _ ps h1
    rw [hblk]
    exact ⟨by rw [hown, if_neg (by rw [k1]; simp)]; exact k1, cs, k2, hall _ _ (fun c hcm => by simpa using f2 (b, _, ps) (lk_mem h1) c hcm) k3⟩
  · intro x v hxv T d hx
    rcases ren_row f3 hx with ⟨rfl, _⟩ | ⟨h1, _, h2⟩
    · exact absurd rfl (hpr (x, v) hxv)
    · rw [hh, if_neg h1]; exact R.pin x v hxv T d h2
  · intro b v hpb hn T ps hb
    rw [hbox] at hb
    obtain ⟨⟨T2, ps2⟩, h1, _⟩ := Option.map_eq_some_iff.1 hb
    rw [hblk]
    exact R.bpin b v hpb hn T2 ps2 h1
theorem TL.ren {P : Program} {C : Ctx} {ops : Array Oper} {l : List Oper} {E : Env} {Q : Env → Prop} (r s : Nat) (hf : E.noref' s = true) (hpr : ∀ x ∈ C.pin, x.1 ≠ s) (h : TL P C ops l (E.ren r s) Q) : TL P C ops l E Q := fun a w ⟨M, R⟩ => by
  obtain ⟨M', R'⟩ := R.ren (r := r) hf hpr
  exact h a w ⟨M', R'⟩
theorem tup_undef {C : Ctx} {M : Maps} {E : Env} {a : Act} {w : World} (R : RelM C M E a w) {t : Nat} (h : E.get t = .tup []) : a.tmps.getD t undef = undef := by
  have := R.tm t
  rw [h] at this
  obtain ⟨arr, e, h2⟩ := this
  cases hl : arr.toList with
  | nil => rw [e]; have : arr = #[] := by apply Array.ext'; simpa using hl
           rw [this]; rfl
  | cons x xs => rw [hl] at h2; cases h2
theorem undef_tup {M : Maps} {E : Env} {w : World} : POk M E w undef (.tup []) := ⟨#[], rfl, .nil⟩
theorem guard_none {C : Ctx} {E : Env} {a : Act} {w : World} {ops : Array Oper} {j t : Nat} (R : Rel C E a w) (hj : (ops[j]?).bind (·.dst) = some t) (ht : t < C.n) (hb : E.get t = .tup []) : yielded ops a.tmps j = none := by
  obtain ⟨M, R0⟩ := R
  have hv := tup_undef R0 hb
  have hlt : t < a.tmps.size := by rw [R0.tn]; exact ht
  have : a.tmps[t]? = some undef := by
    rw [Array.getElem?_eq_getElem hlt]
    simp [Array.getD_eq_getD_getElem?, Array.getElem?_eq_getElem hlt] at hv
    rw [hv]
  unfold yielded
  simp only [hj, Option.bind_some, this]
  rfl
theorem OpStep.off {P : Program} {C : Ctx} {ops : Array Oper} {o : Oper} {E : Env} {j t u : Nat} {want b : Bool} (hg : o.guard = some (j, want)) (hj : (ops[j]?).bind (·.dst) = some t) (ht : t < C.n) (hb : E.get t = .one (.d (.bool b))) (hne : b ≠ want) (hd : o.dst = some u) (hu : u < C.n) : OpStep P C ops o E (E.set u (.tup [])) := fun a w R K Q hK => by
  rw [if_neg (by simp [Region.wanted, hg, guard_val R hj ht hb, hne])]
  obtain ⟨M, R0⟩ := R
  refine hK _ _ ⟨M, ?_⟩
  rw [hd]
  exact R0.put hu undef_tup
theorem OpStep.offU {P : Program} {C : Ctx} {ops : Array Oper} {o : Oper} {E : Env} {j t u : Nat} {want : Bool} (hg : o.guard = some (j, want)) (hj : (ops[j]?).bind (·.dst) = some t) (ht : t < C.n) (hb : E.get t = .tup []) (hd : o.dst = some u) (hu : u < C.n) : OpStep P C ops o E (E.set u (.tup [])) := fun a w R K Q hK => by
  rw [if_neg (by simp [Region.wanted, hg, guard_none R hj ht hb])]
  obtain ⟨M, R0⟩ := R
  refine hK _ _ ⟨M, ?_⟩
  rw [hd]
  exact R0.put hu undef_tup
theorem TL.goff {P : Program} {C : Ctx} {ops : Array Oper} {o : Oper} {l : List Oper} {E : Env} {Q : Env → Prop} {j u : Nat} {want b : Bool} (t : Nat) (hg : o.guard = some (j, want)) (hj : (ops[j]?).bind (·.dst) = some t) (ht : t < C.n) (hb : E.get t = .one (.d (.bool b))) (hne : (b == want) = false) (hd : o.dst = some u) (hu : u < C.n) (h : TL P C ops l (E.set u (.tup [])) Q) : TL P C ops (o :: l) E Q := by
  intro a w R QQ hQ
  refine wpList_step fun K hK => ?_
  have hv := guard_val R hj ht hb
  have hne' : ¬ b = want := by simpa using hne
  rw [if_neg (by simp [Region.wanted, hg, hv, hne'])]
  obtain ⟨M, R0⟩ := R
  refine hK _ _ (h _ _ ⟨M, ?_⟩ QQ hQ)
  rw [hd]
  exact R0.put hu undef_tup
theorem Step.callM2 {P : Program} {C : Ctx} {o : Oper} {E : Env} {t f : Nat} {ats : Array TypeId} {g : Operand} {xs : List Operand} {ps : List PV} {args : List MA} {js : List (Nat × D)} {x : D} {u : Value} (hmk : MK P f args [(false, [.rd x])]) (ho : o.op = .call { callee := .value g, args := xs.toArray, argTypes := ats }) (hd : o.dst = some t) (ht : t < C.n)
    (hg : E.ev g = .one (.d (.fn f))) (hfn : isFn P f = true) (hev : xs.map E.ev = ps) (hsh : shOk ps args = true) (hcs : MCells E (ps.flatMap PV.mcells) (args.flatMap MA.cells) js) (hx : x.val = some u) :
    Step P C o E ((E.marked (killJ js) (lk js)).set t (.one (.d x))) :=
  Step.callM ho hd ht hg hfn hev hsh hcs hmk hx
abbrev pI (x : Int) : PV := .one (.d (.int .i64 x))
abbrev pB (x : Bool) : PV := .one (.d (.bool x))
abbrev pS (x : List Int) : PV := .one (.d (.ints .u8 x))
abbrev cI (x : Int) : PC := .d (.int .i64 x)
abbrev cS (x : List Int) : PC := .d (.ints .u8 x)
theorem At.g {E0 : Env} {l : List Oper} {effs : List Eff} {i : Nat} {o : Oper} {E : Env} (A : At E0 l effs i o E) (t : Nat) {p : PV} (hp : (plus E0 (fun _ => true) 0 effs).get t = p) (hr : t ∈ reads l o := by decide) : Env.ev E (.tmp t) = p := (show Env.ev E (.tmp t) = E.get t from rfl).trans ((A.get t hr).trans hp)
theorem At.mv {P : Program} {C : Ctx} {ops : Array Oper} {E0 : Env} {l : List Oper} {effs : List Eff} {i : Nat} {o : Oper} {E : Env} (A : At E0 l effs i o E) (a t : Nat) {p : PV} (ho : o.op = .move (.tmp a) := by exact rfl) (hg : o.guard = none := by exact rfl) (hd : o.dst = some t := by exact rfl) (ht : t < C.n := by exact lt_ok rfl)
    (hp : (plus E0 (fun _ => true) 0 effs).get a = p := by exact rfl) (hr : a ∈ reads l o := by decide) : OpStep P C ops o E (Eff.app ⟨t, p, []⟩ E) := OpStep.plain hg (Step.move ho hd ht (A.g a hp hr))
theorem At.as {P : Program} {C : Ctx} {ops : Array Oper} {E0 : Env} {l : List Oper} {effs : List Eff} {i : Nat} {o : Oper} {E : Env} (A : At E0 l effs i o E) (a t : Nat) {p : PV} (ho : o.op = .assign (.tmp a) := by exact rfl) (hg : o.guard = none := by exact rfl) (hd : o.dst = some t := by exact rfl) (ht : t < C.n := by exact lt_ok rfl)
    (hp : (plus E0 (fun _ => true) 0 effs).get a = p := by exact rfl) (hr : a ∈ reads l o := by decide) : OpStep P C ops o E (Eff.app ⟨t, p, []⟩ E) := OpStep.plain hg (Step.assign ho hd ht (A.g a hp hr))
theorem At.y {P : Program} {C : Ctx} {ops : Array Oper} {E0 : Env} {l : List Oper} {effs : List Eff} {i : Nat} {o : Oper} {E E' : Env} (A : At E0 l effs i o E) (t : Nat) {j : Nat} {want : Bool} (h : Step P C o E E') (hg : o.guard = some (j, want) := by exact rfl) (hj : (ops[j]?).bind (·.dst) = some t := by exact rfl) (ht : t < C.n := by exact lt_ok rfl)
    (hb : (plus E0 (fun _ => true) 0 effs).get t = .one (.d (.bool want)) := by exact rfl) (hr : t ∈ reads l o := by decide) : OpStep P C ops o E E' := OpStep.yes (t := t) hg hj ht ((A.get t hr).trans hb) h
theorem At.of {P : Program} {C : Ctx} {ops : Array Oper} {E0 : Env} {l : List Oper} {effs : List Eff} {i : Nat} {o : Oper} {E : Env} (A : At E0 l effs i o E) (t : Nat) {j u : Nat} {want b : Bool} (hg : o.guard = some (j, want) := by exact rfl) (hj : (ops[j]?).bind (·.dst) = some t := by exact rfl) (ht : t < C.n := by exact lt_ok rfl)
    (hb : (plus E0 (fun _ => true) 0 effs).get t = .one (.d (.bool b)) := by exact rfl) (hr : t ∈ reads l o := by decide) (hne : b ≠ want := by decide) (hd : o.dst = some u := by exact rfl) (hu : u < C.n := by exact lt_ok rfl) : OpStep P C ops o E (E.set u (.tup [])) := OpStep.off (t := t) hg hj ht ((A.get t hr).trans hb) hne hd hu
theorem At.ou {P : Program} {C : Ctx} {ops : Array Oper} {E0 : Env} {l : List Oper} {effs : List Eff} {i : Nat} {o : Oper} {E : Env} (A : At E0 l effs i o E) (t : Nat) {j u : Nat} {want : Bool} (hg : o.guard = some (j, want) := by exact rfl) (hj : (ops[j]?).bind (·.dst) = some t := by exact rfl) (ht : t < C.n := by exact lt_ok rfl)
    (hb : (plus E0 (fun _ => true) 0 effs).get t = .tup [] := by exact rfl) (hr : t ∈ reads l o := by decide) (hd : o.dst = some u := by exact rfl) (hu : u < C.n := by exact lt_ok rfl) : OpStep P C ops o E (E.set u (.tup [])) := OpStep.offU (t := t) hg hj ht ((A.get t hr).trans hb) hd hu
theorem Step.fa {P : Program} {C : Ctx} {o : Oper} {E : Env} {T f off n b : Nat} {one : Bool} {x : Operand} (q t : Nat) (hx : E.ev x = .one (.ptr b q)) (ho : o.op = .fieldAddr T x f := by exact rfl) (hd : o.dst = some t := by exact rfl) (ht : t < C.n := by exact lt_ok rfl) (hf : isField P T f off n one = true := by kernel_rfl) (hn : n ≠ 0 := by exact Nat.succ_ne_zero _) : Step P C o E (E.set t (.one (.ptr b (q + off)))) := Step.fieldAddr ho hd ht hf hn hx
theorem Step.tb {P : Program} {C : Ctx} {o : Oper} {E : Env} (t : Nat) (b : Bool) {c : Bool} (h : b = c) (s : Step P C o E (E.set t (.one (.d (.bool b))))) : Step P C o E (E.set t (.one (.d (.bool c)))) := Step.to (congrArg (fun b_ => E.set t (.one (.d (.bool b_)))) h) s
theorem Step.bd {P : Program} {C : Ctx} {o : Oper} {E : Env} {op : BinOp} {tx ty : TypeId} {x y : Operand} {dx dy r : D} (t : Nat) (hx : E.ev x = .one (.d dx)) (hy : E.ev y = .one (.d dy)) (hb : Bin op dx dy r) (ho : o.op = .binOp op tx x y ty := by exact rfl) (hd : o.dst = some t := by exact rfl) (ht : t < C.n := by exact lt_ok rfl) : Step P C o E (E.set t (.one (.d r))) := Step.bin ho hd ht hx hy hb
theorem Step.cl {P : Program} {C : Ctx} {o : Oper} {E : Env} {t f : Nat} {ats : Array TypeId} {g : Operand} {xs : List Operand} {ps : List PV} {args : List A} {res : Res} (fz : Bool) (hargs : All2 (ArgP E fz) ps args) (hro : RO P f args res) (ho : o.op = .call { callee := .value g, args := xs.toArray, argTypes := ats } := by exact rfl) (hd : o.dst = some t := by exact rfl) (ht : t < C.n := by exact lt_ok rfl)
    (hg : E.ev g = .one (.d (.fn f)) := by exact rfl) (hfn : isFn P f = true := by kernel_rfl) (hev : xs.map E.ev = ps := by exact rfl) (hsc : fz = true ∨ resScal res = true := by first | exact .inr rfl | exact .inl rfl) (hfr : E.freshRows t 0 (res.flatMap (·.2)) = true := by exact rfl) (hpin : ∀ x ∈ C.pin, x.1 < 1000 := by simp) (hsh : res.all (fun x => x.1 || x.2.length == 1) = true := by exact rfl) :
    Step P C o E ((E.addRows t 0 (res.flatMap (·.2))).set t (.ofRes (respvs t 0 res))) := Step.call fz ho hd ht hg hfn hev hargs hro hsc hfr hpin hsh
theorem Step.cd {P : Program} {C : Ctx} {o : Oper} {E : Env} {f : Nat} {ats : Array TypeId} {g : Operand} {xs : List Operand} {ps : List PV} {args : List A} {res : Res} (fz : Bool) (t : Nat) (hev : xs.map E.ev = ps) (hargs : All2 (ArgP E fz) ps args) (hro : RO P f args res) (hfr : E.freshRows t 0 (res.flatMap (·.2)) = true) (ho : o.op = .call { callee := .value g, args := xs.toArray, argTypes := ats } := by exact rfl) (hd : o.dst = some t := by exact rfl) (ht : t < C.n := by exact lt_ok rfl)
    (hg : E.ev g = .one (.d (.fn f)) := by exact rfl) (hfn : isFn P f = true := by kernel_rfl) (hsc : fz = true ∨ resScal res = true := by first | exact .inr rfl | exact .inl rfl) (hpin : ∀ x ∈ C.pin, x.1 < 1000 := by simp) (hsh : res.all (fun x => x.1 || x.2.length == 1) = true := by exact rfl) :
    Step P C o E ((E.addRows t 0 (res.flatMap (·.2))).set t (.ofRes (respvs t 0 res))) := Step.call fz ho hd ht hg hfn hev hargs hro hsc hfr hpin hsh
theorem TL.c {P : Program} {C : Ctx} {ops : Array Oper} {o : Oper} {l : List Oper} {E E1 : Env} {Q : Env → Prop} (hs : Step P C o E E1) (h : TL P C ops l E1 Q) (hg : o.guard = none := by exact rfl) : TL P C ops (o :: l) E Q := TL.cons hg hs h
theorem TL.mv {P : Program} {C : Ctx} {ops : Array Oper} {o : Oper} {l : List Oper} {E : Env} {Q : Env → Prop} {t : Nat} {x : Operand} (p : PV) (h : TL P C ops l (E.set t p) Q) (ho : o.op = .move x := by exact rfl) (hg : o.guard = none := by exact rfl) (hd : o.dst = some t := by exact rfl) (ht : t < C.n := by exact lt_ok rfl) (hx : E.ev x = p := by exact rfl) : TL P C ops (o :: l) E Q := TL.cons hg (Step.move ho hd ht hx) h
theorem TL.as {P : Program} {C : Ctx} {ops : Array Oper} {o : Oper} {l : List Oper} {E : Env} {Q : Env → Prop} {t : Nat} {x : Operand} (p : PV) (h : TL P C ops l (E.set t p) Q) (ho : o.op = .assign x := by exact rfl) (hg : o.guard = none := by exact rfl) (hd : o.dst = some t := by exact rfl) (ht : t < C.n := by exact lt_ok rfl) (hx : E.ev x = p := by exact rfl) : TL P C ops (o :: l) E Q := TL.cons hg (Step.assign ho hd ht hx) h
theorem TL.pk {P : Program} {C : Ctx} {ops : Array Oper} {o : Oper} {l : List Oper} {E : Env} {Q : Env → Prop} {t : Nat} {x y z : Operand} (b : Bool) (p : PV) (h : TL P C ops l (E.set t p) Q) (ho : o.op = .pick x y z := by exact rfl) (hg : o.guard = none := by exact rfl) (hd : o.dst = some t := by exact rfl) (ht : t < C.n := by exact lt_ok rfl) (hx : E.ev x = .one (.d (.bool b)) := by exact rfl) (hp : E.ev (bif b then y else z) = p := by exact rfl) : TL P C ops (o :: l) E Q := TL.cons hg (Step.pick ho hd ht hx hp) h
theorem TL.gy {P : Program} {C : Ctx} {ops : Array Oper} {o : Oper} {l : List Oper} {E E1 : Env} {Q : Env → Prop} {j : Nat} {want : Bool} (t : Nat) (hs : Step P C o E E1) (h : TL P C ops l E1 Q) (hg : o.guard = some (j, want) := by exact rfl) (hj : (ops[j]?).bind (·.dst) = some t := by exact rfl) (ht : t < C.n := by exact lt_ok rfl) (hb : E.get t = .one (.d (.bool want)) := by exact rfl) : TL P C ops (o :: l) E Q := TL.gyes t hg hj ht hb hs h
theorem TL.gm {P : Program} {C : Ctx} {ops : Array Oper} {o : Oper} {l : List Oper} {E : Env} {Q : Env → Prop} {j u : Nat} {x : Operand} {want : Bool} (t : Nat) (p : PV) (h : TL P C ops l (E.set u p) Q) (ho : o.op = .move x := by exact rfl) (hg : o.guard = some (j, want) := by exact rfl) (hj : (ops[j]?).bind (·.dst) = some t := by exact rfl) (ht : t < C.n := by exact lt_ok rfl) (hb : E.get t = .one (.d (.bool want)) := by exact rfl) (hd : o.dst = some u := by exact rfl) (hu : u < C.n := by exact lt_ok rfl) (hx : E.ev x = p := by exact rfl) : TL P C ops (o :: l) E Q := TL.gyes t hg hj ht hb (Step.move ho hd hu hx) h
theorem TL.gf {P : Program} {C : Ctx} {ops : Array Oper} {o : Oper} {l : List Oper} {E : Env} {Q : Env → Prop} {j u : Nat} {want b : Bool} (t : Nat) (h : TL P C ops l (E.set u (.tup [])) Q) (hg : o.guard = some (j, want) := by exact rfl) (hj : (ops[j]?).bind (·.dst) = some t := by exact rfl) (ht : t < C.n := by exact lt_ok rfl) (hb : E.get t = .one (.d (.bool b)) := by exact rfl) (hne : (b == want) = false := by exact rfl) (hd : o.dst = some u := by exact rfl) (hu : u < C.n := by exact lt_ok rfl) : TL P C ops (o :: l) E Q := TL.goff t hg hj ht hb hne hd hu h
end Go.Proofs.Ythaagegnobegjaa.Rf
