/- A logic of our own over the kit's 'wp': functions that answer a pointer to a new variable; numbers of seven bits a byte. Plain definitions and theorems. -/
import Derived.Test.YtmdojlglemnijaaRf27
namespace Go.Proofs.Ytmdojlglemnijaa.Rf
open Go.RowKit
set_option linter.unusedVariables false
set_option linter.unnecessarySimpa false
set_option linter.unusedSimpArgs false
def ReturnsN (w : World) (Z : Nat → Prop) (T : TypeId) (ds : List D) (e : Ending) (w' : World) : Prop :=
  Below w.heap.size w w' ∧ ∃ (g : Nat) (arr : Array Value), e = .returned (.pointer (some ⟨g, 0, none⟩)) ∧ w.heap.size ≤ g ∧ g < w'.heap.size ∧ w'.heap[g]? = some (.cells arr T (0, 0)) ∧ ∃ S : Nat → Prop, (∀ k, S k → w.heap.size ≤ k ∧ k < w'.heap.size ∧ k ≠ g) ∧ Rd w' (fun k => Z k ∨ S k) arr.toList ds
/-- A function that answers a pointer to a new variable, which holds what is read. -/
def NX (P : Program) (f : FuncId) (args : List A) (T : TypeId) (ds : List D) : Prop :=
  ∀ (w : World) (Z : Nat → Prop) (vals : List Value), (∀ k, Z k → k < w.heap.size) → All2 (AOk' w Z) vals args → Calls P f vals.toArray w (ReturnsN w Z T ds)
theorem Step.callN {P : Program} {C : Ctx} {o : Oper} {E : Env} {t f : Nat} {ats : Array TypeId} {g : Operand} {xs : List Operand} {ps : List PV} {args : List A} {T : TypeId} {ds : List D} (ho : o.op = .call { callee := .value g, args := xs.toArray, argTypes := ats }) (hd : o.dst = some t) (ht : t < C.n)
    (hg : E.ev g = .one (.d (.fn f))) (hfn : isFn P f = true) (hev : xs.map E.ev = ps) (hargs : All2 (ArgP E true) ps args) (hnx : NX P f args T ds) (hnb : E.nobox t = true) :
    Step P C o E (({ E with boxes := (t, (T, ds.map .d)) :: E.boxes } : Env).set t (.one (.ptr t 0))) := by
  intro a w ⟨M, R⟩ K Q hK
  have hrun : (execOp a.eval o).run P w = .ok (.enter f (xs.map a.eval).toArray) w := by
    unfold execOp
    rw [ho]
    have hgv : a.eval g = .func (.func f) #[] #[] := ev_val R hg rfl
    simp only [resolve, hgv, Deferred.ofValue, Sem.run_bind, Sem.run_pure, Result.andThen, invoke, List.map_toArray]
    simp [run_callFn hfn]
  unfold Oper.wp
  rw [hrun, Oper.upon_enter]
  have hall : All2 (AOk' w (fun k => M.own k = .froz)) (xs.map a.eval) args := by
    subst hev
    clear hrun ho hnx
    induction xs generalizing args with
    | nil => cases hargs; exact .nil
    | cons x xs ih =>
      cases hargs with
      | cons h1 h2 => exact .cons (aok_mono (fun k hk => by rcases hk with h | ⟨h, _⟩; exact h; cases h) (argP_ok R h1 (ev_ok R x))) (ih h2)
  refine (hnx w _ (xs.map a.eval) (fun k hk => R.lt k (by rw [hk]; simp)) hall).mono fun e w' hret => ?_
  obtain ⟨hbel, gg, arr, rfl, h1, h2, h3, S, hS, h4⟩ := hret
  have R1 := R.grow hbel
  obtain ⟨M1, R2, q1, q2⟩ : ∃ M1, RelM C M1 E a w' ∧ (∀ k, M.own k = .froz ∨ S k → M1.own k = .froz) ∧ M1.own gg = .none := by
    classical
    refine ⟨_, R1.addFroz S (fun k hk => own_new R (hS k hk).1) (fun k hk => Nat.le_trans R.ba (hS k hk).1) (fun k hk => (hS k hk).2.1), fun k hk => ?_, ?_⟩
    · simp only
      split
      · rfl
      · rename_i hn; exact hk.resolve_right hn
    · simp only
      rw [if_neg (fun h => (hS gg h).2.2 rfl)]
      exact own_new R h1
  obtain ⟨M2, R3, hblk⟩ : ∃ M2, RelM C M2 { E with boxes := (t, (T, ds.map .d)) :: E.boxes } a w' ∧ M2.blk t = gg :=
    ⟨_, R2.addBox hnb h3 q2 (Nat.le_trans R.ba h1) (rd_one h4 fun k hk => q1 k hk) (by rw [List.all_eq_true]; intro c hc; obtain ⟨d, _, rfl⟩ := List.mem_map.1 hc; rfl) (fun x _ hx => by omega), by simp⟩
  refine hK _ _ ⟨M2, ?_⟩
  rw [hd]
  refine R3.put ht ?_
  show _ = _
  rw [hblk]
def RetN (E : Env) (s : Nat) (T : TypeId) (ds : List D) : Prop := ∃ b, E.get s = .one (.ptr b 0) ∧ E.box b = some (T, ds.map .d)
def QRetN (s : Nat) (T : TypeId) (ds : List D) : Exit → Env → Prop
  | .normal, E => RetN E s T ds
  | .ret, E => RetN E s T ds
  | _, _ => False
theorem one_rd {M : Maps} {E : Env} {w : World} : ∀ (ds : List D) (vs : List Value), All2 (COk M E w) vs (ds.map .d) → Rd w (fun k => M.own k = .froz) vs ds
  | [], _, h => by cases h; exact .nil
  | d :: ds, _, h => by
    cases h with
    | cons h1 h2 => exact Rd.append (vs := [_]) (ds := [d]) h1 (one_rd ds _ h2)
theorem NX.intro {P : Program} {f : FuncId} {fn : Func} {c : Code} {args : List A} {T : TypeId} {ds : List D} (s : Nat) (hf : P.funcs[f]? = some fn) (hb : fn.body = some c) (n : Nat) (hn : fn.ntmps = n) (ha : args.length ≤ n) (hres : fn.results = #[.tmp s])
    (h : ∀ (w : World) (Z : Nat → Prop), Go.Proofs.Ytmdojlglemnijaa.Rf.T P ⟨w.heap.size, w, Z, fun _ => False, [], n⟩ c (Env.start args) (QRetN s T ds)) : NX P f args T ds := by
  intro w Z vals hz hargs
  have hl : vals.length = args.length := hargs.length
  refine calls_of_wp hf hb ?_
  have hst := start_ok (n := n) hz hargs (by omega)
  have := h w Z _ _ hst
  rw [hn]
  refine wp_mono this fun e a w' ⟨E, hq, M, R⟩ => ?_
  have key : RetN E s T ds → bodyPost P fn (ReturnsN w Z T ds) .ret a w' := fun ⟨b, hg, hbx⟩ => by
    obtain ⟨vs, bcs, k1, k2, k3, k4⟩ := ret_all (P := P) (pss := [(false, [.ptr b 0])]) R (rvs := fn.results.toList) (by rw [hres]; exact .cons (by simp [retPC, hg]) .nil)
    obtain ⟨j1, arr, j2, j3⟩ := R.boxes b T _ hbx
    have hbel : Below w.heap.size w w' := ⟨R.fr.os, R.fr.tape, R.fr.output, R.fr.size, fun k hk => R.fr.block k hk fun h => h⟩
    have hbase : w.heap.size ≤ M.blk b := by
      rcases R.wr (M.blk b) (by rw [j1]; simp) (by rw [j1]; simp) with h | h
      · exact h.elim
      · exact h
    have hv : packed vs = .pointer (some ⟨M.blk b, 0, none⟩) := by
      match bcs, k3, k2, k4 with
      | [(bb, ws)], k3, k2, k4 =>
        simp only [shape, List.map_cons, List.map_nil, List.cons.injEq, Prod.mk.injEq, and_true, List.length_cons, List.length_nil] at k3
        obtain ⟨rfl, hl1⟩ := k3
        match ws, hl1 with
        | [v], _ =>
          cases k2 with
          | @cons v' _ vs _ p1 p2 =>
            cases p2
            have e : [v] = [v'] := by simpa [Packs] using p1
            injection e with e _
            subst e
            cases k4 with
            | cons q1 _ => exact q1
      | [], k3, _, _ => simp [shape] at k3
      | _ :: _ :: _, k3, _, _ => simp [shape] at k3
    refine ⟨R.df, packed vs, results_run k1, hbel, M.blk b, arr, by rw [hv], hbase, R.lt _ (by rw [j1]; simp), j2, fun k => M.own k = .froz ∧ ¬ Z k, fun k hk => ⟨?_, R.lt k (by rw [hk.1]; simp), fun e => by subst e; rw [j1] at hk; cases hk.1⟩, ?_⟩
    · rcases R.zb k hk.1 with h | h
      · exact absurd h hk.2
      · exact h
    · refine (one_rd ds _ j3).keep (fun _ _ => rfl) fun k hk => ?_
      by_cases hzk : Z k
      · exact .inl hzk
      · exact .inr ⟨hk, hzk⟩
  cases e with
  | normal => exact key hq
  | ret => exact key hq
  | _ => exact hq.elim
/-! ### Numbers read seven bits a byte -/
def gvGo (b : List Int) (a : Int) : Nat → Nat → Int → Int × Int × Int
  | 0, _, _ => (0, 0, 2)
  | d + 1, i, n => if (b.length : Int) ≤ a + i then (0, 0, 1) else
      if (0 < i ∧ b.getD (a + i).toNat 0 = 0) ∨ (i = 8 ∧ 128 ≤ b.getD (a + i).toNat 0) then (0, 0, 2) else
        if b.getD (a + i).toNat 0 < 128 then (if n + b.getD (a + i).toNat 0 % 128 * 128 ^ i ≤ 1152921504606846975 then (n + b.getD (a + i).toNat 0 % 128 * 128 ^ i, a + i + 1, 0) else (0, 0, 2)) else gvGo b a d (i + 1) (n + b.getD (a + i).toNat 0 % 128 * 128 ^ i)
def getVar (b : List Int) (a : Int) : Int × Int × Int := if 0 ≤ a ∧ a ≤ (b.length : Int) then gvGo b a 9 0 0 else (0, 0, 1)
theorem gv_mul {x : Int} (h0 : 0 ≤ x) (i : Nat) : 0 ≤ x % 128 * 128 ^ i ∧ x % 128 * 128 ^ i ≤ 127 * 128 ^ i ∧ (1 : Int) ≤ 128 ^ i := by
  have hp : (1 : Int) ≤ 128 ^ i := Int.pow_pos (by decide)
  exact ⟨Int.mul_nonneg (by omega) (by omega), Int.mul_le_mul_of_nonneg_right (by omega) (by omega), hp⟩
theorem pow128 {i : Nat} (h : i ≤ 8) : (128 : Int) ^ i ≤ 72057594037927936 := by
  have : ∀ j : Fin 9, (128 : Int) ^ j.val ≤ 72057594037927936 := by decide +kernel
  exact this ⟨i, by omega⟩
theorem gvGo_bd (b : List Int) (a : Int) (hb : U8s b) : ∀ (d i : Nat) (n : Int), 0 ≤ n → 0 ≤ a → 0 ≤ (gvGo b a d i n).1 ∧ (gvGo b a d i n).1 ≤ 1152921504606846975 ∧ 0 ≤ (gvGo b a d i n).2.1 ∧ (gvGo b a d i n).2.1 ≤ b.length
  | 0, _, _, _, _ => by simp [gvGo]
  | d + 1, i, n, h0, ha => by
    have h1 := getD_u8 hb (a + i).toNat
    have h2 := gv_mul h1.1 i
    unfold gvGo
    split
    · simp
    · split
      · simp
      · split
        · split
          · dsimp only; omega
          · simp
        · exact gvGo_bd b a hb d (i + 1) _ (by omega) ha
theorem getVar_bd {b : List Int} (hb : U8s b) (a : Int) : 0 ≤ (getVar b a).1 ∧ (getVar b a).1 ≤ 1152921504606846975 ∧ 0 ≤ (getVar b a).2.1 ∧ (getVar b a).2.1 ≤ b.length := by
  unfold getVar
  split
  · exact gvGo_bd b a hb 9 0 0 (by omega) (by omega)
  · simp
theorem or_add {n m : Int} {i : Nat} (hi : i ≤ 8) (h0 : 0 ≤ n) (h1 : n < 128 ^ i) (h2 : 0 ≤ m) (h3 : m < 128) : IntKind.i64.wrap (BitVec.ofInt IntKind.i64.bits n ||| BitVec.ofInt IntKind.i64.bits (m * 128 ^ i)).toNat = n + m * 128 ^ i := by
  obtain ⟨n', rfl⟩ : ∃ k : Nat, n = k := ⟨n.toNat, by omega⟩
  obtain ⟨m', rfl⟩ : ∃ k : Nat, m = k := ⟨m.toNat, by omega⟩
  have hp := pow128 hi
  have e128 : (128 : Int) ^ i = ((2 ^ (7 * i) : Nat) : Int) := by rw [Nat.pow_mul]; simp
  have hn : n' < 2 ^ (7 * i) := by rw [e128] at h1; omega
  have hmm : (m' : Int) * 128 ^ i ≤ 127 * 128 ^ i := Int.mul_le_mul_of_nonneg_right (by omega) (by omega)
  have hm : m' * 2 ^ (7 * i) < 2 ^ 64 := by
    have : ((m' * 2 ^ (7 * i) : Nat) : Int) ≤ 127 * 72057594037927936 := by
      rw [Int.natCast_mul, ← e128]; omega
    omega
  have hn64 : n' < 2 ^ 64 := by
    have : ((2 ^ (7 * i) : Nat) : Int) ≤ 72057594037927936 := by rw [← e128]; exact hp
    omega
  have hor : n' ||| (m' * 2 ^ (7 * i)) = n' + m' * 2 ^ (7 * i) := by
    rw [Nat.or_comm, Nat.mul_comm, ← Nat.two_pow_add_eq_or_of_lt hn m', Nat.add_comm]
  rw [e128, ← Int.natCast_mul]
  have key : ∀ q : Nat, q < 2 ^ 64 → (BitVec.ofInt IntKind.i64.bits ((q : Nat) : Int)).toNat = q := fun q hq => by
    rw [BitVec.toNat_ofInt]; show ((q : Int) % ((2 ^ 64 : Nat) : Int)).toNat = q; omega
  have hb1 := key n' hn64
  have hb2 := key (m' * 2 ^ (7 * i)) hm
  rw [BitVec.toNat_or, hb1, hb2, hor]
  have hq : ((n' + m' * 2 ^ (7 * i) : Nat) : Int) ≤ 9223372036854775807 := by
    rw [Int.natCast_add, Int.natCast_mul, ← e128]; omega
  clear hb1 hb2 hor hm hmm key
  generalize m' * 2 ^ (7 * i) = q at hq ⊢
  refine (wrap_ok (by omega) (by omega)).trans (by simp)
theorem and127 {a : Int} (h0 : 0 ≤ a) (h1 : a ≤ 255) : IntKind.u8.wrap (BitVec.ofInt IntKind.u8.bits a &&& BitVec.ofInt IntKind.u8.bits 127).toNat = a % 128 := by
  have key : ∀ n : Fin 256, IntKind.u8.wrap (BitVec.ofInt IntKind.u8.bits ((n.val : Nat) : Int) &&& BitVec.ofInt IntKind.u8.bits 127).toNat = ((n.val : Nat) : Int) % 128 := by decide +kernel
  have := key ⟨a.toNat, by omega⟩
  rwa [show ((a.toNat : Nat) : Int) = a from by omega] at this
theorem shl_var {m : Int} {i : Nat} (hi : i ≤ 8) (h0 : 0 ≤ m) (h1 : m ≤ 127) : IntKind.i64.wrap (m * 2 ^ (min ((7 * (i : Int))).toNat IntKind.i64.bits)) = m * 128 ^ i := by
  have hp := pow128 hi
  have h2 : m * 128 ^ i ≤ 127 * 128 ^ i := Int.mul_le_mul_of_nonneg_right h1 (Int.le_of_lt (Int.pow_pos (by decide)))
  have h3 : 0 ≤ m * 128 ^ i := Int.mul_nonneg h0 (Int.le_of_lt (Int.pow_pos (by decide)))
  have e : (2 : Int) ^ (min ((7 * (i : Int))).toNat IntKind.i64.bits) = 128 ^ i := by
    rw [show (7 * (i : Int)).toNat = 7 * i from by omega, Nat.min_eq_left (by show 7 * i ≤ 64; omega), Int.pow_mul]
    rfl
  rw [e]
  exact wrap_ok (by omega) (by omega)
end Go.Proofs.Ytmdojlglemnijaa.Rf
