/- A logic of our own over the kit's 'wp': ninth part: slices made, literals, slices of slices, bytes as strings, rows that are read from now on. Plain definitions and theorems. -/
import Derived.Test.YtlcmflenbddliaaRf8
namespace Go.Proofs.Ytlcmflenbddliaa.Rf
open Go.RowKit
set_option linter.unusedVariables false
set_option linter.unnecessarySimpa false
set_option linter.unusedSimpArgs false

/-! ### Rows made -/
/-- A new row in a new block. -/
theorem RelM.newRow {C : Ctx} {M : Maps} {E : Env} {a : Act} {w : World} (R : RelM C M E a w) {r : Nat} {e : TypeId} {d : D} {cs : Array Value} {b : List Nat} (hf : E.noref' r = true) (hpin : ∀ x ∈ C.pin, x.1 ≠ r) (hs : d.isSl = true) (hw : d.wf) (hl : d.size ≤ 9223372036854775807)
    (ho : Own w cs.toList d.flat b) (hb : b.Nodup) (hbo : ∀ k ∈ b, (M.own k = .none ∧ C.base ≤ k) ∨ ∃ s, M.own k = .row s ∧ E.row s = none) :
    ∃ M', RelM C M' { E with rows := (r, (e, d)) :: E.rows } a (w.alloc (.cells cs e)) ∧ M'.hdl r = .slice (some ⟨w.heap.size, 0, none⟩) d.size d.size := by
  have hbel : Below w.heap.size w (w.alloc (.cells cs e)) := (Below.refl _ w).alloc (Nat.le_refl _) _
  have R1 := R.grow hbel
  have hcs : cs.size = d.size * d.z := by rw [← D.flat_length hw hs, ← ho.length]; simp
  have hrow : RowOk (w.alloc (.cells cs e)) e (.slice (some ⟨w.heap.size, 0, none⟩) d.size d.size) d (w.heap.size :: (b ++ [])) := by
    refine ⟨hs, .sl hs (heap_last w _) (Nat.le_refl _) hl hcs hw ?_ .nil, fun ad n c h => ?_⟩
    · rw [List.take_of_length_le (by rw [D.flat_length hw hs, ← hcs]; simp)]
      exact ho.keep fun k hk => hbel.block k (ho.lt k hk)
    · injection h with h1 _ _
      injection h1 with h1
      subst h1
      exact ⟨_, _, heap_last w _⟩
  refine ⟨_, R1.addRow hf hpin hrow ?_ ?_, by simp⟩
  · rw [List.append_nil, List.nodup_cons]
    exact ⟨fun h => by have := ho.lt _ h; omega, hb⟩
  · intro k hk
    rw [List.append_nil] at hk
    rcases List.mem_cons.1 hk with rfl | hk
    · exact .inl ⟨own_new R (Nat.le_refl _), .inr R.ba⟩
    · exact (hbo k hk).imp (fun h => ⟨h.1, .inr h.2⟩) id

theorem madeCells_list (zs : Array Value) (m : Nat) (hz : 0 < zs.size) : (madeCells zs (m * zs.size)).toList = (List.replicate m zs.toList).flatten := by
  apply List.ext_getElem?
  intro k
  have hlen : ∀ e ∈ List.replicate m zs.toList, e.length = zs.size := fun e he => by rw [List.eq_of_mem_replicate he]; simp
  have hk : k = k / zs.size * zs.size + k % zs.size := by rw [Nat.mul_comm]; exact (Nat.div_add_mod k zs.size).symm
  have hmod : k % zs.size < zs.size := Nat.mod_lt _ hz
  have h2 := flatten_get zs.size (List.replicate m zs.toList) hlen (k / zs.size) (k % zs.size) hmod
  rw [← hk] at h2
  rw [h2]
  simp only [madeCells, Array.toList_map, Array.toList_range, List.getElem?_map]
  by_cases hlt : k < m * zs.size
  · have : k / zs.size < m := Nat.div_lt_of_lt_mul (by rw [Nat.mul_comm]; exact hlt)
    rw [List.getElem?_range hlt, List.getElem?_replicate, if_pos this]
    simp [getElem!_pos, hmod]
  · have : ¬ k / zs.size < m := fun h => hlt ((Nat.div_lt_iff_lt_mul hz).1 h)
    rw [List.getElem?_eq_none (by simpa using hlt), List.getElem?_replicate, if_neg this]
    rfl
/-- Cells that are zero. -/
inductive ZeroOk : List Value → List D → Prop
  | nil : ZeroOk [] []
  | val {v : Value} {d : D} {vs : List Value} {ds : List D} : d.val = some v → ZeroOk vs ds → ZeroOk (v :: vs) (d :: ds)
  | empty {d : D} {vs : List Value} {ds : List D} : d.isSl = true → d.size = 0 → d.wf → ZeroOk vs ds → ZeroOk (.slice none 0 0 :: vs) (d :: ds)
theorem ZeroOk.own {vs : List Value} {ds : List D} (h : ZeroOk vs ds) (w : World) : Own w vs ds [] := by
  induction h with
  | nil => exact .nil
  | val h _ ih => exact .val h ih
  | empty h1 h2 h3 _ ih => exact .empty h1 h2 h3 ih
theorem ZeroOk.rep {vs : List Value} {ds : List D} (h : ZeroOk vs ds) (w : World) : ∀ n : Nat, Own w (List.replicate n vs).flatten (List.replicate n ds).flatten []
  | 0 => .nil
  | n + 1 => by
    rw [List.replicate_succ, List.replicate_succ, List.flatten_cons, List.flatten_cons]
    exact (h.own w).append (h.rep w n)
theorem Step.make {P : Program} {C : Ctx} {o : Oper} {E : Env} {t : Nat} {T e z by_ : Nat} {x : Operand} {k : IntKind} {n : Int} {zs : List Value} {zd : List D} {d : D} (ho : o.op = .makeSlice T x x) (hd : o.dst = some t) (ht : t < C.n)
    (hT : isElem P T e z by_ = true) (hz0 : 0 < z) (hx : E.ev x = .one (.d (.int k n))) (hn : 0 ≤ n) (hby : by_ * n.toNat ≤ 281474976710656) (h63 : n ≤ 9223372036854775807) (hzs : zeroCells P e = some zs) (hzd : ZeroOk zs zd) (hf : E.noref' t = true) (hpin : ∀ x ∈ C.pin, x.1 ≠ t)
    (hfl : d.flat = (List.replicate n.toNat zd).flatten) (hsz : d.size = n.toNat) (hs : d.isSl = true) (hw : d.wf) :
    Step P C o E ({ E with rows := (t, (e, d)) :: E.rows }.set t (.one (.row t []))) :=
  .change hd ht fun M a w R => by
    obtain ⟨hu, i, zv, hi, hiz, h1, h2, h3⟩ := isElem_spec hT
    have hzv : zv.cells.toList = zs := by simp [zeroCells, hi, hiz] at hzs; exact hzs
    have hb' : (i.bytes : Int) * n ≤ 281474976710656 := by
      rw [h2]
      have : ((by_ * n.toNat : Nat) : Int) ≤ 281474976710656 := by omega
      rw [Int.natCast_mul, Int.toNat_of_nonneg hn] at this
      exact this
    have hr := run_make (P := P) w T e i zv hu hi hiz k k n n hn (Int.le_refl _) hb' h63
    have hcs : (madeCells zv.cells (n.toNat * i.size)).toList = (List.replicate n.toNat zs).flatten := by
      rw [h1, ← h3, madeCells_list _ _ (by omega), hzv]
    obtain ⟨M', R', hM⟩ := R.newRow (r := t) (e := e) (d := d) (cs := madeCells zv.cells (n.toNat * i.size)) (b := []) hf hpin hs hw (by omega) (by rw [hcs, hfl]; exact hzd.rep w _) (by simp) (by simp)
    refine ⟨.slice (some ⟨w.heap.size, 0, none⟩) n.toNat n.toNat, _, M', ?_, R', fun T2 d2 _ => ?_⟩
    · unfold execOp
      rw [ho]
      simp only [ev_val R hx rfl, Sem.run_bind, hr, Result.andThen, Sem.run_pure]
    · simp only [PathTo]
      rw [hM, hsz]

/-! ### Literals -/
theorem fold_set : ∀ (l : List Value) (o j : Nat) (cs : Array Value), o + j + l.length ≤ cs.size → ((l.zipIdx j).foldl (fun cs x => cs.setIfInBounds (o + x.2) x.1) cs).toList = cs.toList.take (o + j) ++ l ++ cs.toList.drop (o + j + l.length)
  | [], o, j, cs, _ => by simp
  | v :: l, o, j, cs, h => by
    simp only [List.length_cons] at h
    rw [List.zipIdx_cons, List.foldl_cons, fold_set l o (j + 1) _ (by simp; omega)]
    have hcl : cs.toList.length = cs.size := by simp
    simp only [Array.toList_setIfInBounds, List.length_cons]
    generalize cs.toList = L at hcl ⊢
    rw [List.take_set, List.drop_set_of_lt (by omega), List.set_eq_take_append_cons_drop, if_pos (by rw [List.length_take]; omega), List.take_take, Nat.min_eq_left (by omega)]
    rw [List.drop_of_length_le (by rw [List.length_take]; omega)]
    simp [Nat.add_assoc, Nat.add_comm 1 l.length]
theorem fold_set' (v : Array Value) (o : Nat) (cs : Array Value) (h : o + v.size ≤ cs.size) : (v.zipIdx.foldl (fun cs x => cs.setIfInBounds (o + x.2) x.1) cs).toList = cs.toList.take o ++ v.toList ++ cs.toList.drop (o + v.size) := by
  have := fold_set v.toList o 0 cs (by simpa using h)
  rw [← Array.foldl_toList, Array.toList_zipIdx]
  simpa using this
theorem fill_all (z : Nat) : ∀ (vs : List Value) (k : Nat) (cs : Array Value), (∀ v ∈ vs, v.cells.size = z) → (k + vs.length) * z ≤ cs.size →
    ∃ cs' : Array Value, Instr.fill (fun i => some (i * z, z)) cs ((vs.zipIdx k).map fun x => (x.2, x.1)) = some cs' ∧ cs'.toList = cs.toList.take (k * z) ++ (vs.map fun v => v.cells.toList).flatten ++ cs.toList.drop ((k + vs.length) * z)
  | [], k, cs, _, _ => ⟨cs, rfl, by simp⟩
  | v :: vs, k, cs, hv, h => by
    have hvz := hv v (by simp)
    have hle : k * z + z ≤ cs.size := by
      rw [← Nat.succ_mul]; exact Nat.le_trans (Nat.mul_le_mul_right _ (by simp only [List.length_cons]; omega)) h
    have hf := fold_set' v.cells (k * z) cs (by omega)
    generalize hcs2 : v.cells.zipIdx.foldl (fun cs x => cs.setIfInBounds (k * z + x.2) x.1) cs = cs2 at hf
    have hsz2 : cs2.size = cs.size := by
      have := congrArg List.length hf
      simp only [List.length_append, List.length_take, List.length_drop, Array.length_toList] at this
      omega
    obtain ⟨cs', h1, h2⟩ := fill_all z vs (k + 1) cs2 (fun u hu => hv u (by simp [hu])) (by rw [hsz2, show k + 1 + vs.length = k + (vs.length + 1) from by omega]; simpa using h)
    refine ⟨cs', ?_, ?_⟩
    · simp only [List.zipIdx_cons, List.map_cons, Instr.fill]
      rw [if_neg (by simp only [hvz, ne_eq, not_true_eq_false, Bool.or_eq_true, decide_eq_true_eq, false_or, decide_not, Bool.not_eq_true', decide_eq_false_iff_not]; omega), hcs2]
      exact h1
    · rw [h2, hf]
      have hcl : cs.toList.length = cs.size := by simp
      have hvl : v.cells.toList.length = z := by simpa using hvz
      have hvs : v.cells.size = z := hvz
      simp only [List.length_cons, List.map_cons, List.flatten_cons]
      have e1 : (k + 1) * z = k * z + z := by rw [Nat.succ_mul]
      have e2 : (k + 1 + vs.length) * z = (k + (vs.length + 1)) * z := by rw [show k + 1 + vs.length = k + (vs.length + 1) from by omega]
      have e3 : k * z + z ≤ (k + (vs.length + 1)) * z := by rw [← Nat.succ_mul]; exact Nat.mul_le_mul_right _ (by omega)
      rw [e1, e2, hvs]
      simp only [List.length_cons] at h
      generalize (k + (vs.length + 1)) * z = X at h e3 ⊢
      generalize cs.toList = L at hcl ⊢
      have t1 : (L.take (k * z) ++ v.cells.toList ++ L.drop (k * z + z)).take (k * z + z) = L.take (k * z) ++ v.cells.toList := by
        rw [List.take_append_of_le_length (by rw [List.length_append, List.length_take]; omega)]
        rw [List.take_of_length_le (by rw [List.length_append, List.length_take]; omega)]
      have t2 : (L.take (k * z) ++ v.cells.toList ++ L.drop (k * z + z)).drop X = L.drop X := by
        rw [List.drop_append, List.drop_of_length_le (by rw [List.length_append, List.length_take]; omega), List.nil_append, List.length_append, List.length_take, List.drop_drop]
        congr 1
        omega
      rw [t1, t2]
      simp

theorem run_buildSlice {P : Program} {T e z by_ : Nat} (hT : isElem P T e z by_ = true) (w : World) {n : Nat} {parts : Array (Nat × Value)} {vs : List Value} (hp : parts.toList = vs.zipIdx.map fun x => (x.2, x.1)) (hn : vs.length = n) (hv : ∀ v ∈ vs, v.cells.size = z) (hb : n * z ≤ 16777216) :
    ∃ cs : Array Value, (Instr.buildSlice T n parts).run P w = .ok (.slice (some ⟨w.heap.size, 0, none⟩) n n) (w.alloc (.cells cs e)) ∧ cs.toList = (vs.map fun v => v.cells.toList).flatten := by
  obtain ⟨hu, i, zv, hi, hiz, h1, h2, h3⟩ := isElem_spec hT
  have hs : (P.info? e).map (·.size) = some z := by rw [hi]; simp [h1]
  obtain ⟨cs, k1, k2⟩ := fill_all z vs 0 ((Array.range (n * z)).map ((if n * z = 0 then #[] else zv.cells)[· % (if n * z = 0 then #[] else zv.cells).size]!)) hv (by simp [hn])
  refine ⟨cs, ?_, ?_⟩
  · have hne : ¬ n * z > 2 ^ 24 := by omega
    by_cases h0 : n * z = 0
    · simp only [h0, if_true] at k1
      simp only [Instr.buildSlice, Sem.run_bind, run_underlying hu, run_size hs, Result.andThen, hp, h0, if_true, Sem.run_pure]
      rw [if_neg (by omega)]
      simp only [Sem.run_bind, Sem.run_pure, Result.andThen]
      rw [k1]
      simp [newRow]
    · simp only [h0, if_false] at k1
      simp only [Instr.buildSlice, Sem.run_bind, run_underlying hu, run_size hs, Result.andThen, hp, h0, hne, if_false, zeroValue, run_typeInfo w hi, hiz, Sem.run_pure]
      rw [k1]
      simp [newRow]
  · rw [k2, Nat.zero_mul, List.take_zero, List.nil_append, Nat.zero_add, hn, List.drop_of_length_le (by simp), List.append_nil]

theorem zipIdx_map {α β : Type} (f : α → β) : ∀ (l : List α) (k : Nat), (l.map f).zipIdx k = (l.zipIdx k).map fun x => (f x.1, x.2)
  | [], k => rfl
  | a :: l, k => by simp [List.zipIdx_cons, zipIdx_map f l (k + 1)]
/-- The parts of a literal, cell by cell. -/
def Flats (E : Env) (xs : List Operand) (pss : List (List PC)) : Prop := All2 (fun x ps => (E.ev x).flat = some ps) xs pss
theorem flats_ok {C : Ctx} {M : Maps} {E : Env} {a : Act} {w : World} (R : RelM C M E a w) {xs : List Operand} {pss : List (List PC)} (h : Flats E xs pss) (hf : pss.flatten.all E.fine = true) {z : Nat} (hz : ∀ ps ∈ pss, ps.length = z) :
    All2 (COk M E w) ((xs.map a.eval).map fun v => v.cells.toList).flatten pss.flatten ∧ ∀ v ∈ xs.map a.eval, v.cells.size = z := by
  induction h with
  | nil => exact ⟨.nil, by simp⟩
  | @cons x ps xs pss h1 _ ih =>
    rw [List.flatten_cons, List.all_append, Bool.and_eq_true] at hf
    obtain ⟨k1, k2⟩ := ih hf.2 (fun q hq => hz q (by simp [hq]))
    obtain ⟨j1, j2⟩ := cells_ok R (ev_ok R x) h1 hf.1
    simp only [List.map_cons, List.flatten_cons]
    refine ⟨j1.append k1, fun v hv => ?_⟩
    rcases List.mem_cons.1 hv with rfl | hv
    · have := j1.length
      rw [hz ps (by simp)] at this
      simpa using this
    · exact k2 v hv
theorem parts_list {parts : Array (Nat × Operand)} {xs : List Operand} (hp : parts.toList = xs.zipIdx.map fun x => (x.2, x.1)) (f : Operand → Value) : (parts.map fun (i, x) => (i, f x)).toList = (xs.map f).zipIdx.map fun x => (x.2, x.1) := by
  rw [zipIdx_map, Array.toList_map, hp]
  simp [List.map_map]
/-- A literal: a new row of one's own. -/
theorem Step.lit {P : Program} {C : Ctx} {o : Oper} {E : Env} {t n : Nat} {T e z by_ : Nat} {parts : Array (Nat × Operand)} {xs : List Operand} {pss : List (List PC)} {es : List D} {ss : List Nat} {d : D} (ho : o.op = .buildSlice T n parts) (hd : o.dst = some t) (ht : t < C.n)
    (hT : isElem P T e z by_ = true) (hp : parts.toList = xs.zipIdx.map fun x => (x.2, x.1)) (hn : xs.length = n) (hfl : Flats E xs pss) (hz : ∀ ps ∈ pss, ps.length = z) (hb : n * z ≤ 16777216) (hn63 : n ≤ 9223372036854775807) (hf : pss.flatten.all E.fine = true) (hm : Moved E pss.flatten es ss)
    (hr : (E.drops ss).noref' t = true) (hts : t ∉ ss) (hpin : ∀ x ∈ C.pin, x.1 ≠ t) (hs : d.isSl = true) (hw : d.wf) (hsz : d.size = n) (hde : d.flat = es) :
    Step P C o E ({ E.drops ss with rows := (t, (e, d)) :: (E.drops ss).rows }.set t (.one (.row t []))) :=
  .change hd ht fun M a w R => by
    obtain ⟨hc, hv⟩ := flats_ok R hfl hf hz
    obtain ⟨bx, hown, hbn, hbs⟩ := hm.own R hc
    obtain ⟨cs, hrun, hcs⟩ := run_buildSlice hT w (parts_list hp a.eval) (by simpa using hn) hv hb
    have R1 := R.weaken (Env.drops_le ss E)
    obtain ⟨M0, R0, g2⟩ := R1.newRow (r := t) (e := e) (d := d) (cs := cs) (b := bx) hr hpin hs hw (by rw [hsz]; exact hn63) (by rw [hcs, hde]; exact hown) hbn (fun k hk => by
      obtain ⟨s, hs, ho⟩ := hbs k hk
      exact .inr ⟨s, ho, by rw [Env.drops_row, if_pos hs]⟩)
    refine ⟨.slice (some ⟨w.heap.size, 0, none⟩) n n, _, M0, ?_, R0, fun T2 d2 _ => ?_⟩
    · unfold execOp
      rw [ho]
      simp only [Sem.run_bind, hrun, Result.andThen, Sem.run_pure]
    · simp only [PathTo]
      rw [g2, hsz]
theorem pure_d {E : Env} {pss : List PC} {xs : List D} (h : pss = xs.map PC.d) {M : Maps} {w : World} {vs : List Value} (hc : All2 (COk M E w) vs pss) : Rd w (fun k => M.own k = .froz) vs xs := by
  subst h
  refine Rd.of_get _ _ (by rw [hc.length]; simp) fun j v d hv hd => ?_
  obtain ⟨v', hv', hok⟩ := hc.get j (.d d) (by rw [List.getElem?_map, hd]; rfl)
  rw [hv] at hv'
  injection hv' with hv'
  subst hv'
  exact hok
/-- A literal that is read alone. -/
theorem Step.lit_d {P : Program} {C : Ctx} {o : Oper} {E : Env} {t n : Nat} {T e z by_ : Nat} {parts : Array (Nat × Operand)} {xs : List Operand} {pss : List (List PC)} {ds : List D} {d : D} (ho : o.op = .buildSlice T n parts) (hd : o.dst = some t) (ht : t < C.n)
    (hT : isElem P T e z by_ = true) (hp : parts.toList = xs.zipIdx.map fun x => (x.2, x.1)) (hn : xs.length = n) (hfl : Flats E xs pss) (hz : ∀ ps ∈ pss, ps.length = z) (hb : n * z ≤ 16777216) (hn63 : n ≤ 9223372036854775807) (hps : pss.flatten = ds.map PC.d)
    (hs : d.isSl = true) (hw : d.wf) (hsz : d.size = n) (hde : d.flat = ds) :
    Step P C o E (E.set t (.one (.d d))) :=
  .change hd ht fun M a w R => by
    obtain ⟨hc, hv⟩ := flats_ok R hfl (by rw [hps, List.all_eq_true]; intro c hc; obtain ⟨x, _, rfl⟩ := List.mem_map.1 hc; rfl) hz
    have hrd := pure_d hps hc
    obtain ⟨cs, hrun, hcs⟩ := run_buildSlice hT w (parts_list hp a.eval) (by simpa using hn) hv hb
    have hbel : Below w.heap.size w (w.alloc (.cells cs e)) := (Below.refl _ w).alloc (Nat.le_refl _) _
    have R1 := R.grow hbel
    obtain ⟨M0, R0, g1, g2⟩ : ∃ M0 : Maps, RelM C M0 E a (w.alloc (.cells cs e)) ∧ M0.own w.heap.size = .froz ∧ ∀ k, M.own k = .froz → M0.own k = .froz :=
      ⟨_, R1.addFroz (fun k => k = w.heap.size) (fun k hk => own_new R (by omega)) (fun k hk => by have := R.ba; omega) (fun k hk => by subst hk; simp), by simp, fun k hk => by simp; exact fun _ => hk⟩
    refine ⟨.slice (some ⟨w.heap.size, 0, none⟩) n n, _, M0, ?_, R0, ?_⟩
    · unfold execOp
      rw [ho]
      simp only [Sem.run_bind, hrun, Result.andThen, Sem.run_pure]
    · have := Rd.sl (w := w.alloc (.cells cs e)) (Z := fun k => M0.own k = .froz) (A := some ⟨w.heap.size, 0, none⟩) (cap := n) (d := d) (cs := cs.toList) (vs := []) (ds := []) hs (by omega) (by omega) hw (fun _ => ⟨_, rfl, g1⟩) (fun j c hj => ⟨_, rfl, by rw [cell_at (heap_last w _)]; simpa using hj⟩)
        (by rw [hcs, hde]; exact hrd.keep (fun k hk => hbel.block k (R.lt k (by rw [hk]; simp))) g2) .nil
      rw [hsz] at this
      exact this

/-! ### A row that is read from now on -/
/-- What the cells of a row r with the data d become. -/
def PC.frz (r : Nat) (d : D) : PC → PC
  | .row r' p => if r = r' then .d (d.at_ p) else .row r' p
  | .rptr r' p i j => if r = r' then .eptr (d.at_ p) i j else .rptr r' p i j
  | c => c
def Env.freeze (E : Env) (r : Nat) (d : D) : Env := { E.mapc (PC.frz r d) with rows := E.rows.filter fun x => x.1 != r }
open Classical in
theorem RelM.freeze {C : Ctx} {M : Maps} {E : Env} {a : Act} {w : World} (R : RelM C M E a w) {r : Nat} {T : TypeId} {d : D} (hr : E.row r = some (T, d)) (hio : ∀ k, ¬ C.IX k) : ∃ M', RelM C M' (E.freeze r d) a w := by
  refine ⟨{ M with own := fun k => if M.own k = .row r then .froz else M.own k }, ?_⟩
  generalize hM : ({ M with own := fun k => if M.own k = .row r then .froz else M.own k } : Maps) = M'
  have hcase : ∀ k, (M.own k ≠ .row r ∧ M'.own k = M.own k) ∨ (M.own k = .row r ∧ M'.own k = .froz) := fun k => by
    by_cases e : M.own k = .row r
    · right; exact ⟨e, by subst hM; simp [e]⟩
    · left; exact ⟨e, by subst hM; simp [e]⟩
  have hkeep : ∀ k, M.own k ≠ .row r → M'.own k = M.own k := fun k h => by
    rcases hcase k with ⟨_, e⟩ | ⟨e, _⟩
    · exact e
    · exact absurd e h
  have hhdl : M'.hdl = M.hdl := by subst hM; rfl
  have hfp : M'.fp = M.fp := by subst hM; rfl
  have hblk : M'.blk = M.blk := by subst hM; rfl
  have hrow : ∀ x, (E.freeze r d).row x = if x = r then none else E.row x := fun x => lk_filter E.rows r x
  have hget : ∀ t, (E.freeze r d).get t = (E.get t).mapc (PC.frz r d) := fun t => Env.get_mapc E (PC.frz r d) rfl t
  have hbox : ∀ b, (E.freeze r d).box b = (E.box b).map fun x => (x.1, x.2.map (PC.frz r d)) := fun b => Env.box_mapc E (PC.frz r d) b
  have hZ : ∀ k, M.own k = .froz → M'.own k = .froz ∧ w.heap[k]? = w.heap[k]? := fun k h => ⟨by rw [hkeep k (by rw [h]; simp)]; exact h, rfl⟩
  have hrf : ∀ k, M.own k = .row r → M'.own k = .froz := fun k h => by
    rcases hcase k with ⟨e, _⟩ | ⟨_, e⟩
    · exact absurd h e
    · exact e
  have hc : ∀ (c : PC) v, COk M E w v c → COk M' (E.freeze r d) w v (c.frz r d) := fun c v h => by
    cases c with
    | row r' p =>
      simp only [PC.frz]
      split
      · rename_i e; subst e
        obtain ⟨b, ho, hb⟩ := row_at R hr (h T d hr)
        exact ho.rd fun k hk => hrf k (hb k hk)
      · rename_i e
        intro T2 d2 h2
        rw [hrow, if_neg (fun e' => e e'.symm)] at h2
        rw [hhdl]; exact h T2 d2 h2
    | rptr r' p i j =>
      simp only [PC.frz]
      split
      · rename_i e; subst e
        obtain ⟨g, cap, k1, k2, k3, k4⟩ := h T d hr
        obtain ⟨b, ho, hb⟩ := row_at R hr k1
        exact ⟨⟨g, 0, none⟩, cap, ho.rd fun k hk => hrf k (hb k hk), k2, k3, by rw [add_plain']; exact k4⟩
      · rename_i e
        intro T2 d2 h2
        rw [hrow, if_neg (fun e' => e e'.symm)] at h2
        rw [hhdl]; exact h T2 d2 h2
    | d x => exact Rd.keep h (fun k hk => (hZ k hk).2) (fun k hk => (hZ k hk).1)
    | nil => exact h
    | und => trivial
    | ptr b off => simp only [PC.frz, COk] at h ⊢; rw [hblk]; exact h
    | eptr x i j =>
      obtain ⟨ad, cap, h1, h2⟩ := h
      exact ⟨ad, cap, Rd.keep h1 (fun k hk => (hZ k hk).2) (fun k hk => (hZ k hk).1), h2⟩
  have hall : ∀ (vs : List Value) (ps : List PC), All2 (COk M E w) vs ps → All2 (COk M' (E.freeze r d) w) vs (ps.map (PC.frz r d)) := fun vs ps h => by
    induction h with
    | nil => exact .nil
    | cons h1 _ ih => exact .cons (hc _ _ h1) ih
  refine { tn := R.tn, df := R.df, fr := R.fr, ba := R.ba, lt := ?_, z0 := fun k hk => (hZ k (R.z0 k hk)).1, zb := ?_, wr := ?_, tm := ?_, rows := ?_, boxes := ?_, pin := ?_, bpin := fun b v hp hn T ps hb => (by rw [hbox] at hb; obtain ⟨⟨T2, ps2⟩, h1, h2⟩ := Option.map_eq_some_iff.1 hb; rw [hblk]; exact R.bpin b v hp hn T2 ps2 h1) }
  · intro k hk
    rcases hcase k with ⟨_, e⟩ | ⟨e, _⟩
    · exact R.lt k (by rw [← e]; exact hk)
    · exact R.lt k (by rw [e]; simp)
  · intro k hk
    rcases hcase k with ⟨_, e⟩ | ⟨e, _⟩
    · exact R.zb k (by rw [← e]; exact hk)
    · rcases R.wr k (by rw [e]; simp) (by rw [e]; simp) with h | h
      · exact absurd h (hio k)
      · exact .inr h
  · intro k hk hk'
    rcases hcase k with ⟨_, e⟩ | ⟨_, e⟩
    · exact R.wr k (by rw [← e]; exact hk) (by rw [← e]; exact hk')
    · exact absurd e hk'
  · intro t
    rw [hget]
    have h := R.tm t
    generalize E.get t = p at h
    cases p with
    | one c => exact hc c _ h
    | agg cs => obtain ⟨arr, e, h⟩ := h; exact ⟨arr, e, hall _ _ h⟩
    | tup vs =>
      obtain ⟨arr, e, h⟩ := h
      refine ⟨arr, e, ?_⟩
      clear e
      generalize arr.toList = l at h
      show All2 _ l (vs.map _)
      induction h with
      | nil => exact .nil
      | @cons v y l vs h1 _ ih =>
        refine .cons ?_ ih
        obtain ⟨b, cs⟩ := y
        match b, cs, h1 with
        | true, cs, ⟨arr', e', h'⟩ => exact ⟨arr', e', hall _ _ h'⟩
        | false, [c], h' => exact hc c _ h'
  · intro x Tx dx hx
    rw [hrow] at hx
    split at hx
    · exact absurd hx (by simp)
    · rename_i e
      obtain ⟨h1, h2, h3⟩ := R.rows x Tx dx hx
      rw [hhdl, hfp]
      exact ⟨h1, h2, fun k hk => by rw [hkeep k (by rw [h3 k hk]; intro h; injection h with h; exact e h)]; exact h3 k hk⟩
  · intro b Tb ps' hb
    rw [hbox] at hb
    obtain ⟨⟨T2, ps⟩, h1, h2⟩ := Option.map_eq_some_iff.1 hb
    injection h2 with e1 e2
    subst e1 e2
    obtain ⟨k1, cs, k2, k3⟩ := R.boxes b _ ps h1
    rw [hblk]
    exact ⟨by rw [hkeep _ (by rw [k1]; simp)]; exact k1, cs, k2, hall _ _ k3⟩
  · intro x v hxv Tx dx hx
    rw [hrow] at hx
    split at hx
    · exact absurd hx (by simp)
    · rw [hhdl]; exact R.pin x v hxv Tx dx hx

/-! ### Slices of slices -/
def D.sub : D → Nat → Nat → D
  | .ints k xs, lo, hi => .ints k ((xs.drop lo).take (hi - lo))
  | .bss xs, lo, hi => .bss ((xs.drop lo).take (hi - lo))
  | .sl z es, lo, hi => .sl z ((es.drop lo).take (hi - lo))
  | d, _, _ => d
theorem D.sub_spec {d : D} {lo hi : Nat} (hs : d.isSl = true) (hw : d.wf) (h1 : lo ≤ hi) (h2 : hi ≤ d.size) : (d.sub lo hi).isSl = true ∧ (d.sub lo hi).wf ∧ (d.sub lo hi).size = hi - lo ∧ (d.sub lo hi).z = d.z ∧ (d.sub lo hi).flat = (d.flat.drop (lo * d.z)).take ((hi - lo) * d.z) := by
  cases d <;> simp [D.isSl] at hs
  case ints k xs =>
    simp only [D.size] at h2
    exact ⟨rfl, trivial, by simp [D.sub, D.size]; omega, rfl, by simp [D.sub, D.flat, D.z, List.map_take, List.map_drop]⟩
  case bss xs =>
    simp only [D.size] at h2
    exact ⟨rfl, trivial, by simp [D.sub, D.size]; omega, rfl, by simp [D.sub, D.flat, D.z, List.map_take, List.map_drop]⟩
  case sl z es =>
    simp only [D.size] at h2
    have hw' : ∀ e ∈ es, e.length = z := hw
    have hd : ∀ e ∈ es.drop lo, e.length = z := fun e he => hw' e (List.mem_of_mem_drop he)
    refine ⟨rfl, fun e he => hw' e (List.mem_of_mem_drop (List.mem_of_mem_take he)), by simp [D.sub, D.size]; omega, rfl, ?_⟩
    simp only [D.sub, D.flat, D.z]
    rw [flatten_drop z es hw' lo, flatten_take z _ hd]
theorem run_slice {P : Program} {T e z : Nat} (hT : isSlice P T e z = true) (w : World) (A : Option Addr) (n cap : Nat) (lo hi : Option Value) (l h : Nat) (hlo : lo = none ∧ l = 0 ∨ ∃ k, lo = some (.int k l)) (hhi : hi = none ∧ h = n ∨ ∃ k, hi = some (.int k h)) (h1 : l ≤ h) (h2 : h ≤ n) (h3 : n ≤ cap) :
    (Instr.sliceAt T (.slice A n cap) lo hi none).run P w = .ok (sliced A l h cap z) w := by
  obtain ⟨hu, hz⟩ := isSlice_spec hT
  have hu' : P.underlying T = some (.slice (P.elem T)) := by rw [hu]; simp [Program.elem, hu]
  have he : P.elem T = e := by simp [Program.elem, hu]
  rw [run_sliceAt_slice (P := P) (w := w) T _ _ _ _ hu']
  rcases hlo with ⟨rfl, rfl⟩ | ⟨k, rfl⟩ <;> rcases hhi with ⟨rfl, rfl⟩ | ⟨k', rfl⟩
  · rw [run_slice_all (P := P) (w := w) (ht := hu'), he, run_size hz]; rfl
  · rw [run_slice_h (P := P) (w := w) (ht := hu') (kh := k') (h := (h : Int)) (h0 := by omega) (h2 := by omega), he, run_size hz]; simp [Result.andThen]
  · rw [run_slice_l (P := P) (w := w) (ht := hu') (kl := k) (l := (l : Int)) (h0 := by omega) (h1 := by omega), he, run_size hz]; simp [Result.andThen]
  · rw [run_slice_lh (P := P) (w := w) (ht := hu') (kl := k) (kh := k') (l := (l : Int)) (h := (h : Int)) (h0 := by omega) (h1 := by omega) (h2 := by omega), he, run_size hz]; simp [Result.andThen]
end Go.Proofs.Ytlcmflenbddliaa.Rf
