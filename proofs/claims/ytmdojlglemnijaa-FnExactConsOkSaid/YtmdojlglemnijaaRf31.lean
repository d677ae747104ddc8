/- A logic of our own over the kit's 'wp': arrays, as rows of one's own that a pointer names. Plain definitions and theorems. -/
import Derived.Test.YtmdojlglemnijaaRf30
namespace Go.Proofs.Ytmdojlglemnijaa.Rf
open Go.RowKit
set_option linter.unusedVariables false
set_option linter.unnecessarySimpa false
set_option linter.unusedSimpArgs false
def isArr (P : Program) (T e n z : Nat) : Bool := (match P.underlying T with
  | some (.array n' e') => n' == n && e' == e
  | _ => false) && (P.info? e).map (·.size) == some z
theorem isArr_spec {P : Program} {T e n z : Nat} (h : isArr P T e n z = true) : P.underlying T = some (.array n e) ∧ (P.info? e).map (·.size) = some z := by
  unfold isArr at h
  simp only [Bool.and_eq_true, beq_iff_eq] at h
  obtain ⟨h1, h2⟩ := h
  refine ⟨?_, h2⟩
  split at h1
  · rename_i n' e' he; simp at h1; obtain ⟨rfl, rfl⟩ := h1; exact he
  · exact absurd h1 (by simp)
/-- A new array: a row, and the pointer to its first element. -/
theorem Step.allocArr {P : Program} {C : Ctx} {o : Oper} {E : Env} {t : Nat} {T : TypeId} {zs : List Value} {zd : List D} {d : D} (ho : o.op = .alloc T) (hd : o.dst = some t) (ht : t < C.n)
    (hz : zeroCells P T = some zs) (hzd : ZeroOk zs zd) (hfl : d.flat = zd) (hs : d.isSl = true) (hw : d.wf) (h0 : 0 < d.size) (h63 : d.size ≤ 9223372036854775807) (hdz : 0 < d.z) (hf : E.noref' t = true) (hpin : ∀ x ∈ C.pin, x.1 ≠ t) :
    Step P C o E ({ E with rows := (t, (T, d)) :: E.rows }.set t (.one (.rptr t [] 0 0))) :=
  .change hd ht fun M a w R => by
    obtain ⟨z, hz1, hz2⟩ := Option.map_eq_some_iff.1 hz
    obtain ⟨i, hi, hiz⟩ := Option.bind_eq_some_iff.1 hz1
    obtain ⟨M', R', hM⟩ := R.newRow (r := t) (e := T) (d := d) (cs := z.cells) (b := []) hf hpin hs hw h63 (by rw [hz2, hfl]; exact hzd.own w) (by simp) (by simp)
    refine ⟨.pointer (some ⟨w.heap.size, 0, none⟩), _, M', ?_, R', fun T2 d2 h2 => ?_⟩
    · unfold execOp
      rw [ho]
      simp [Instr.alloc, zeroValue, typeInfo, hi, hiz, newVar, newRow]
    · have h2 : lk ((t, (T, d)) :: E.rows) t = some (T2, d2) := h2
      simp only [lk, if_true, Option.some.injEq, Prod.mk.injEq] at h2
      obtain ⟨rfl, rfl⟩ := h2
      exact ⟨w.heap.size, d.size, by simp only [PathTo]; exact hM.symm, h0, hdz, by simp⟩
theorem run_indexArr {P : Program} {T e n z : Nat} (hT : isArr P T e n z = true) (w : World) (g : Nat) (k : IntKind) (i : Int) (h0 : 0 ≤ i) (h1 : i < n) : (Instr.indexAt T (.pointer (some ⟨g, 0, none⟩)) (.int k i)).run P w = .ok (.pointer (some ⟨g, i.toNat * z, none⟩)) w := by
  obtain ⟨hu, hz⟩ := isArr_spec hT
  have hsz := run_size hz w
  unfold Instr.indexAt
  simp [asIntOf, run_underlying hu, Instr.sureAddr, hsz, h0, h1, Sem.run_bind, Result.andThen, Addr.add]
  intro h; exact h.symm
theorem Step.index_arr {P : Program} {C : Ctx} {o : Oper} {E : Env} {t : Nat} {T e T' n : TypeId} {z : Nat} {x y : Operand} {r : Nat} {d : D} {k : IntKind} {i : Int} (ho : o.op = .indexAddr T x y) (hd : o.dst = some t) (ht : t < C.n)
    (hT : isArr P T e n z = true) (hx : E.ev x = .one (.rptr r [] 0 0)) (hr : E.row r = some (T', d)) (hn : d.size = n) (hz : d.z = z) (hz0 : 0 < z) (hy : E.ev y = .one (.d (.int k i))) (h0 : 0 ≤ i) (h1 : i < n) :
    Step P C o E (E.set t (.one (.rptr r [] i.toNat 0))) :=
  .value hd ht fun M a w R => by
    have h := ev_ok R x
    rw [hx] at h
    obtain ⟨g, cap, hp, _, _, he⟩ := h T' d hr
    have he : a.eval x = .pointer (some ⟨g, 0, none⟩) := by rw [he]; simp
    refine ⟨.pointer (some ⟨g, i.toNat * z, none⟩), ?_, fun T2 d2 h2 => ?_⟩
    · unfold execOp
      rw [ho]
      simp only [he, ev_val R hy rfl, Sem.run_bind, run_indexArr hT w g k i h0 h1, Result.andThen, Sem.run_pure]
    · rw [hr] at h2
      injection h2 with h2
      injection h2 with _ h2
      subst h2
      exact ⟨g, cap, hp, by simp only [D.at_]; omega, by simp only [D.at_]; omega, by simp only [D.at_]; rw [hz, Nat.add_zero]⟩
theorem Putd.all {k : IntKind} {xs ys : List Int} (h : ys.length = xs.length) : Putd (.ints k xs) 0 0 (ys.map (.int k)) (.ints k ys) := by
  refine ⟨by simp [D.flat, D.z, h], ?_, by simp [D.size, h], rfl, trivial, rfl⟩
  simp [D.flat, D.z, h]
theorem rd_ints {w : World} {Z : Nat → Prop} {k : IntKind} : ∀ (ys : List Int) (cs : List Value), Rd w Z cs (ys.map (.int k)) → cs = ys.map (Value.int k)
  | [], _, h => by cases h; rfl
  | y :: ys, cs, h => by
    cases h with
    | val hv h2 => simp only [D.val, Option.some.injEq] at hv; subst hv; rw [rd_ints ys _ h2]; rfl
    | sl h1 _ _ _ _ _ _ _ => simp [D.isSl] at h1
theorem own_ints (w : World) (k : IntKind) : ∀ ys : List Int, Own w (ys.map (Value.int k)) (ys.map (D.int k)) []
  | [] => .nil
  | y :: ys => .val rfl (own_ints w k ys)
/-- v[:], another slice, copy: the array's words are the other's. -/
theorem TL.copyArr {P : Program} {C : Ctx} {ops : Array Oper} {o1 o2 o3 : Oper} {l : List Oper} {E : Env} {Q : Env → Prop} {T e n t1 t2 t3 r : Nat} {T' S1 S2 : TypeId} {x y : Operand} {k : IntKind} {xs ys : List Int}
    (g1 : o1.guard = none) (g2 : o2.guard = none) (g3 : o3.guard = none) (ho1 : o1.op = .slice T x none none none) (hd1 : o1.dst = some t1) (ht1 : t1 < C.n) (ho2 : o2.op = .move y) (hd2 : o2.dst = some t2) (ht2 : t2 < C.n)
    (ho3 : o3.op = .call { callee := .builtin .copy, args := #[.tmp t1, .tmp t2], argTypes := #[S1, S2] }) (hd3 : o3.dst = some t3) (ht3 : t3 < C.n) (hT : isArr P T e n 1 = true) (hS : isSlice P S1 e 1 = true) (hne : t1 ≠ t2) (hx : E.ev x = .one (.rptr r [] 0 0)) (hr : E.row r = some (T', .ints k xs)) (hn : xs.length = n)
    (hy : (E.set t1 (.one .und)).ev y = .one (.d (.ints k ys))) (hl : ys.length = xs.length) (hq : 0 < n)
    (h : TL P C ops l (({ ((E.set t1 (.one .und)).set t2 (.one (.d (.ints k ys)))).mapc (PC.killDeep r) with rows := (r, (T', .ints k ys)) :: E.rows } : Env).set t3 (.one .und)) Q) : TL P C ops (o1 :: o2 :: o3 :: l) E Q := by
  intro a w ⟨M, R⟩ QQ hQ
  have hxo := ev_ok R x
  rw [hx] at hxo
  obtain ⟨g, cap, hp, _, _, hev⟩ := hxo T' _ hr
  have hev : a.eval x = .pointer (some ⟨g, 0, none⟩) := by rw [hev]; simp
  obtain ⟨hu, hz⟩ := isArr_spec hT
  have hrun1 : (execOp a.eval o1).run P w = .ok (.value (.slice (some ⟨g, 0, none⟩) n n)) w := by
    unfold execOp
    rw [ho1]
    simp [hev, Instr.sliceAt, run_underlying hu, Instr.sureAddr, Instr.sliceBounds, run_size hz w, Sem.run_bind, Result.andThen]
    exact fun _ => rfl
  have R1 : RelM C M (E.set t1 (.one .und)) (a.put (some t1) (.slice (some ⟨g, 0, none⟩) n n)) w := R.put ht1 trivial
  generalize ha1 : a.put (some t1) (.slice (some ⟨g, 0, none⟩) n n) = a1 at R1
  have hv1 : a1.tmps.getD t1 undef = .slice (some ⟨g, 0, none⟩) n n := by
    rw [← ha1]
    show (a.tmps.setIfInBounds t1 _).getD t1 undef = _
    rw [getD_set, if_pos ⟨rfl, by rw [R.tn]; exact ht1⟩]
  have hyd := ev_d R1 hy
  have R2 : RelM C M ((E.set t1 (.one .und)).set t2 (.one (.d (.ints k ys)))) (a1.put (some t2) (a1.eval y)) w := R1.put ht2 hyd
  generalize ha2 : a1.put (some t2) (a1.eval y) = a2 at R2
  have hv2 : a2.tmps.getD t2 undef = a1.eval y := by
    rw [← ha2]
    show (a1.tmps.setIfInBounds t2 _).getD t2 undef = _
    rw [getD_set, if_pos ⟨rfl, by rw [R1.tn]; exact ht2⟩]
  have hv12 : a2.tmps.getD t1 undef = .slice (some ⟨g, 0, none⟩) n n := by
    rw [← ha2]
    show (a1.tmps.setIfInBounds t2 _).getD t1 undef = _
    rw [getD_set, if_neg (fun h => hne h.1.symm)]
    exact hv1
  obtain ⟨ad, cap2, cs, hc1, _, hc2, hc3, _⟩ := rd_some hyd rfl (by simp only [D.size]; omega)
  have hcs := rd_ints ys cs hc3
  generalize hE2 : ((E.set t1 (.one .und)).set t2 (.one (.d (.ints k ys))) : Env) = E2 at R2 h
  have hr2 : E2.row r = some (T', .ints k xs) := by rw [← hE2]; exact hr
  have hrows : E2.rows = E.rows := by rw [← hE2]; rfl
  obtain ⟨⟨r1, r2, r3⟩, r4, r5⟩ := R2.rows r T' _ hr2
  have hcl : cs.length = n := by rw [hcs, List.length_map, hl, hn]
  obtain ⟨cur, ty, fp', k1, k2, k3, k4, k5, k6⟩ := store_own (q := []) (i := 0) (j := 0) (d1 := .ints k ys) (d' := .ints k ys) r2 r4 hp (own_ints w k ys) (by simp) (by simp) (Putd.all hl) rfl
  simp only [D.at_, D.z, Nat.zero_mul, Nat.zero_add, List.length_map] at k2 k4
  have hrun3 : (execOp a2.eval o3).run P w = .ok (.value (goInt cs.length)) (w.setRow g (cur.toList.take 0 ++ cs ++ cur.toList.drop (0 + cs.length)).toArray) := by
    have hS' := isSlice_spec hS
    have := run_copy_row P w S1 S2 o3.type e g 0 n n ad ys.length cap2 cur ty cs hS'.1 hS'.2 k1 (by rw [hcl, hl, hn]; exact (Nat.min_self n).symm) hc2 (by rw [hcs, List.length_map]; omega) (fun v hv => by rw [hcs] at hv; obtain ⟨q, _, rfl⟩ := List.mem_map.1 hv; rfl)
    unfold execOp
    rw [ho3]
    have e1 : a2.eval (.tmp t1) = .slice (some ⟨g, 0, none⟩) n n := hv12
    have e2 : a2.eval (.tmp t2) = .slice (some ad) ys.length cap2 := hv2.trans hc1
    simp only [resolve, invoke, builtin, Sem.run_bind, Sem.run_pure, Result.andThen, List.map_toArray, List.map_cons, List.map_nil, e1, e2, this]
  simp only [Nat.zero_add] at hrun3
  rw [hcs, List.length_map] at hrun3
  generalize hw' : w.setRow g (cur.toList.take 0 ++ ys.map (Value.int k) ++ cur.toList.drop ys.length).toArray = w' at k4 hrun3
  have hown : M.own g = .row r := r5 g k3
  have hother : ∀ k, k ≠ g → w'.heap[k]? = w.heap[k]? := fun k hk => by rw [← hw']; exact setRow_other w g k _ hk
  have hsame : w'.heap[g]? = some (.cells (cur.toList.take 0 ++ ys.map (Value.int k) ++ cur.toList.drop ys.length).toArray ty (0, 0)) := by rw [← hw']; exact setRow_heap w g cur _ ty (0, 0) k1
  have hfr : Frame_ C w' := ⟨by rw [← hw']; exact R.fr.os, by rw [← hw']; exact R.fr.tape, by rw [← hw']; exact R.fr.output, by rw [← hw', setRow_size]; exact R.fr.size, fun k hk hi => by
    rw [hother k (fun e => by
      subst e
      rcases R.wr k (by rw [hown]; simp) (by rw [hown]; simp) with h | h
      · exact hi h
      · omega)]
    exact R.fr.block k hk hi⟩
  have R3 := R2.upd (f := PC.killDeep r) (w' := w') (v' := M.hdl r) (T' := T') (d' := .ints k ys) (fp' := fp') hr2 hfr (by rw [← hw', setRow_size]; exact Nat.le_refl _) (fun k h0 hs => hother k fun e => by subst e; exact (hs r hown).1 rfl)
    ⟨rfl, k4, fun ad2 nn cc hv => by
      obtain ⟨cs0, fr0, h6⟩ := r3 ad2 nn cc hv
      by_cases e : ad2.block = g
      · rw [e] at h6 ⊢
        rw [k1] at h6
        injection h6 with h6
        injection h6 with e1 e2 e3
        subst e2
        exact ⟨_, _, hsame⟩
      · exact ⟨cs0, fr0, (hother _ e).trans h6⟩⟩ k5 (fun q hq => by
      rcases k6 q hq with h | h
      · exact .inr ⟨r, r5 q h, .inl rfl⟩
      · cases h) (fun y' hy' e => by
      have := R2.pin y'.1 y'.2 hy' T' _ (by rw [e]; exact hr2)
      rw [e] at this
      exact this) (fun c => by
      rcases PC.killDeep_ok r c with h | ⟨h, h'⟩
      · exact .inl h
      · refine .inr ⟨h, ?_⟩
        rcases h' with h' | h'
        · exact .inl h'
        · exact .inr ⟨rfl, hl, rfl, h'⟩)
  rw [hrows] at R3
  refine wpList_plain g1 fun K hK => ?_
  unfold Oper.wp
  rw [hrun1, Oper.upon_value, hd1, ha1]
  refine hK _ _ (wpList_plain g2 fun K hK => ?_)
  have hrun2 : (execOp a1.eval o2).run P w = .ok (.value (a1.eval y)) w := by unfold execOp; rw [ho2]; rfl
  unfold Oper.wp
  rw [hrun2, Oper.upon_value, hd2, ha2]
  refine hK _ _ (wpList_plain g3 fun K hK => ?_)
  unfold Oper.wp
  rw [hrun3, Oper.upon_value, hd3]
  exact hK _ _ (h _ _ ⟨_, R3.put ht3 trivial⟩ QQ hQ)
/-- The zero cells of an array, and where its elements lie. -/
def placesArr (P : Program) (T : TypeId) : Option (List Value × Nat) :=
  match P.info? T, P.underlying T with
  | some it, some (.array _ e) => match it.zero, P.info? e with
    | some z, some i => some (z.cells.toList, i.size)
    | _, _ => none
  | _, _ => none
theorem Step.buildArr {P : Program} {C : Ctx} {o : Oper} {E : Env} {t : Nat} {T : TypeId} {parts : Array (Nat × Operand)} {zs : List Value} {size : Nat} {pss : List (Nat × List PC)} {ps' : List PC} (ho : o.op = .build T parts) (hd : o.dst = some t) (ht : t < C.n)
    (hT : placesArr P T = some (zs, size)) (hfl : All2 (fun x y => x.1 = y.1 ∧ (E.ev x.2).flat = some y.2) parts.toList pss) (hf : (pss.all fun y => y.2.all E.fine) = true) (hz : (zs.all fun v => match PC.ofValue v with | .und => false | _ => true) = true) (hfill : fillP (fun i => some (i * size, size)) (zs.map PC.ofValue) pss = some ps') :
    Step P C o E (E.set t (.agg ps')) :=
  .value hd ht fun M a w R => by
    have hparts : All2 (fun (x : Nat × Value) (y : Nat × List PC) => x.1 = y.1 ∧ All2 (COk M E w) x.2.cells.toList y.2) (parts.map fun (i, x) => (i, a.eval x)).toList pss := by
      rw [Array.toList_map]
      generalize parts.toList = l at hfl
      clear hfill ho
      induction hfl with
      | nil => exact .nil
      | @cons x y l pss h1 _ ih =>
        rw [List.all_cons, Bool.and_eq_true] at hf
        refine .cons ⟨h1.1, ?_⟩ (ih hf.2)
        exact (cells_ok R (ev_ok R x.2) h1.2 hf.1).1
    obtain ⟨cells', h1, h2⟩ := fill_ok (place := fun i => some (i * size, size)) _ _ zs.toArray _ _ (zeros_ok M E w zs hz) hparts hfill
    unfold placesArr at hT
    cases hit : P.info? T with
    | none => simp [hit] at hT
    | some it =>
      cases hu : P.underlying T with
      | none => simp [hit, hu] at hT
      | some d =>
        cases d <;> try (simp [hit, hu] at hT; done)
        case array n e =>
          cases hz2 : it.zero with
          | none => simp [hit, hu, hz2] at hT
          | some z =>
            cases hp : P.info? e with
            | none => simp [hit, hu, hz2, hp] at hT
            | some i =>
              simp only [hit, hu, hz2, hp, Option.some.injEq, Prod.mk.injEq] at hT
              obtain ⟨rfl, rfl⟩ := hT
              refine ⟨.agg cells', ?_, cells', rfl, h2⟩
              unfold execOp
              rw [ho]
              have h1 : Instr.fill (fun j => some (j * i.size, i.size)) z.cells (List.map (fun x => (x.fst, a.eval x.snd)) parts.toList) = some cells' := by
                have h1 := h1
                rw [Array.toList_map] at h1
                simpa using h1
              simp [Instr.build, zeroValue, typeInfo, hit, hz2, run_underlying hu, sizeOf, hp, Sem.run_bind, Result.andThen]
              rw [h1]
              rfl
end Go.Proofs.Ytmdojlglemnijaa.Rf
