/- A logic of our own over the kit's 'wp': tenth part: bytes as a string, slices of slices; what a function is held to; a call. Plain definitions and theorems. -/
import Derived.Test.YtmdojlglemnijaaRf9
namespace Go.Proofs.Ytmdojlglemnijaa.Rf
open Go.RowKit
set_option linter.unusedVariables false
set_option linter.unnecessarySimpa false
set_option linter.unusedSimpArgs false

/-- A bound of a slice expression. -/
inductive Bnd (E : Env) : Option Operand → Nat → Nat → Prop
  | none (n : Nat) : Bnd E none n n
  | some {x : Operand} {k : IntKind} {i : Int} {df : Nat} : E.ev x = .one (.d (.int k i)) → 0 ≤ i → Bnd E (some x) df i.toNat
theorem Step.slice {P : Program} {C : Ctx} {o : Oper} {E : Env} {t : Nat} {T e z : Nat} {x : Operand} {lo hi : Option Operand} {d d' : D} {l h : Nat} (ho : o.op = .slice T x lo hi none) (hd : o.dst = some t) (ht : t < C.n)
    (hT : isSlice P T e z = true) (hx : E.ev x = .one (.d d)) (hs : d.isSl = true) (hz : d.z = z) (hlo : Bnd E lo 0 l) (hhi : Bnd E hi d.size h) (h1 : l ≤ h) (h2 : h ≤ d.size) (hd' : d.sub l h = d') : Step P C o E (E.set t (.one (.d d'))) :=
  .value hd ht fun M a w R => by
    have hr := ev_d R hx
    obtain ⟨A, cap, ys, k1, k2, k3, k4⟩ := rd_open hr hs
    obtain ⟨A', cap', k5, k6, k7⟩ := rd_form hr hs
    rw [k1] at k5
    injection k5 with e1 e2 e3
    subst e1 e3
    have hlo' : (lo.map a.eval) = none ∧ l = 0 ∨ ∃ k, (lo.map a.eval) = some (.int k l) := by
      cases hlo with
      | none => exact .inl ⟨rfl, rfl⟩
      | @some x k i df he h0 => exact .inr ⟨k, by rw [Option.map_some, ev_val R he rfl, Int.toNat_of_nonneg h0]⟩
    have hhi' : (hi.map a.eval) = none ∧ h = d.size ∨ ∃ k, (hi.map a.eval) = some (.int k h) := by
      cases hhi with
      | none => exact .inl ⟨rfl, rfl⟩
      | @some x k i df he h0 => exact .inr ⟨k, by rw [Option.map_some, ev_val R he rfl, Int.toNat_of_nonneg h0]⟩
    have hrun := run_slice hT w A d.size cap _ _ l h hlo' hhi' h1 h2 k7
    refine ⟨sliced A l h cap z, ?_, ?_⟩
    · unfold execOp
      rw [ho]
      simp only [k1, Option.map_none, Sem.run_bind, hrun, Result.andThen, Sem.run_pure]
    · obtain ⟨s1, s2, s3, s4, s5⟩ := D.sub_spec hs k4 h1 h2
      subst hd'
      unfold sliced
      have hcap : h - l ≤ cap - l := by omega
      have hcells : ∀ (A2 : Option Addr), (d.sub l h).size ≠ 0 → (A2 = A.map (·.add (l * z))) → Rd w (fun k => M.own k = .froz) [.slice A2 (h - l) (cap - l)] [d.sub l h] := fun A2 hne hA => by
        obtain ⟨ad, cap2, cs, j1, j2, j3, j4, j5⟩ := rd_some hr hs (by rw [s3] at hne; omega)
        rw [k1] at j1
        injection j1 with j1 _ _
        subst j1
        rw [← s3]
        refine .sl (cs := (cs.drop (l * z)).take ((h - l) * z)) s1 (by rw [s3]; omega) (by rw [s3]; omega) s2 (fun _ => ⟨ad.add (l * z), by rw [hA]; rfl, by rw [add_block]; exact j2⟩) (fun j c hj => ⟨ad.add (l * z), by rw [hA]; rfl, ?_⟩) ?_ .nil
        · rw [List.getElem?_take] at hj
          split at hj
          · rw [List.getElem?_drop] at hj
            rw [add_add']
            exact j3 _ _ hj
          · exact absurd hj (by simp)
        · rw [s5, hz]
          refine Rd.of_get _ _ (by simp [j4.length]) fun j v dd hv hdd => ?_
          rw [List.getElem?_take] at hv hdd
          split at hv
          · rename_i hjj
            rw [if_pos hjj] at hdd
            rw [List.getElem?_drop] at hv hdd
            obtain ⟨v', hv', hok⟩ := j4.get _ dd hdd
            rw [hv] at hv'
            injection hv' with hv'
            subst hv'
            exact hok
          · exact absurd hv (by simp)
      by_cases hne : (d.sub l h).size = 0
      · have e : h - l = (d.sub l h).size := s3.symm
        rw [e]
        refine .sl (cs := []) s1 (by omega) (by omega) s2 (fun h0 => absurd hne h0) (fun j c hj => by simp at hj) ?_ .nil
        have hf : (d.sub l h).flat = [] := List.eq_nil_of_length_eq_zero (by rw [D.flat_length s2 s1, hne, Nat.zero_mul])
        rw [hf]; exact .nil
      · rw [s3] at hne
        by_cases hc : cap = l
        · omega
        · rw [if_neg hc]
          exact hcells _ (by rw [s3]; exact hne) rfl

/-- Bytes as a string. -/
theorem Step.toStr {P : Program} {C : Ctx} {o : Oper} {E : Env} {t : Nat} {ts td e : Nat} {x : Operand} {c : PC} {xs : List Int} (ho : o.op = .convert ts td x) (hd : o.dst = some t) (ht : t < C.n)
    (hs : isSlice P ts e 1 = true) (he : P.underlying e = some (.int .u8)) (htd : P.underlying td = some .string) (hx : E.ev x = .one c) (hc : E.cont c = some (.ints .u8 xs)) : Step P C o E (E.set t (.one (.d (.str (strOfNums xs))))) :=
  .value hd ht fun M a w R => by
    have h := ev_ok R x
    rw [hx] at h
    have hu := (isSlice_spec hs).1
    have hopen : ∃ A cap ys, a.eval x = .slice A xs.length cap ∧ (∀ (j : Nat) c, ys[j]? = some c → ∃ ad, A = some ad ∧ w.cell? (ad.add j) = some c) ∧ Rd w (fun _ => True) ys (xs.map (D.int .u8)) := by
      cases c with
      | d y =>
        simp only [Env.cont] at hc
        split at hc
        · rename_i hsl; injection hc with hc; subst hc
          obtain ⟨A, cap, ys, k1, k2, k3, _⟩ := rd_open h hsl
          exact ⟨A, cap, ys, k1, k2, k3.keep (fun _ _ => rfl) fun _ _ => trivial⟩
        · exact absurd hc (by simp)
      | row r p =>
        simp only [Env.cont] at hc
        obtain ⟨⟨T, d'⟩, h1, h2⟩ := Option.bind_eq_some_iff.1 hc
        dsimp only at h2
        split at h2
        · rename_i hsl
          injection h2 with h2
          obtain ⟨b, hb, _⟩ := row_at R h1 (h T d' h1)
          rw [h2] at hb hsl
          obtain ⟨A, cap, ys, b', k1, k2, k3, _⟩ := own_open hb hsl
          exact ⟨A, cap, ys, k1, k2, k3.rd fun _ _ => trivial⟩
        · exact absurd h2 (by simp)
      | _ => simp [Env.cont] at hc
    obtain ⟨A, cap, ys, k1, k2, k3⟩ := hopen
    have hyl : ys.length = xs.length := by rw [k3.length]; simp
    have hcell : ∀ j, j < xs.length → ys[j]? = some (.int .u8 (xs.getD j 0)) := fun j hj => by
      obtain ⟨v, hv, hok⟩ := k3.get j (.int .u8 (xs.getD j 0)) (by simp [List.getElem?_eq_getElem hj, List.getD_eq_getElem?_getD])
      rw [hv, rd_val hok rfl]
    refine ⟨.string (strOfNums xs), ?_, ok_val M E w rfl⟩
    unfold execOp
    rw [ho]
    have hrun : (convert ts td (a.eval x)).run P w = .ok (.string (strOfNums xs)) w := by
      rw [k1]
      cases hA : A with
      | none =>
        have : xs = [] := by
          cases hxs : xs with
          | nil => rfl
          | cons y l =>
            obtain ⟨ad, h1, _⟩ := k2 0 _ (hcell 0 (by rw [hxs]; simp))
            rw [hA] at h1; cases h1
        subst this
        exact run_convert_bytes_nil w ts e hu he 0 cap td htd
      | some ad =>
        subst hA
        cases hxs : xs with
        | nil => 
          simp [convert, Sem.run_bind, run_underlying hu, run_underlying htd, run_underlying he, Conv.bytesToString, loadCells, loadCellsFrom, strOfNums, Result.andThen]
          try rfl
        | cons y l =>
          have hsp : ad.spot = none := by
            obtain ⟨ad', e1, e2⟩ := k2 0 _ (hcell 0 (by rw [hxs]; simp))
            injection e1 with e1
            subst e1
            have e3 : ad.add 0 = ad := by unfold Addr.add; simp
            rw [e3] at e2
            unfold World.cell? at e2
            split at e2
            · cases hs' : ad.spot with
              | none => rfl
              | some s => rw [hs'] at e2; simp at e2
            · exact absurd e2 (by simp)
          obtain ⟨b, off, sp⟩ := ad
          simp only at hsp
          subst hsp
          rw [← hxs]
          refine run_convert_bytes_arg w ts e hu he b off xs.length cap xs rfl (fun i hi => ?_) td htd
          obtain ⟨ad', e1, e2⟩ := k2 i _ (hcell i hi)
          injection e1 with e1
          subst e1
          have e3 : (⟨b, off, none⟩ : Addr).add i = ⟨b, off + i, none⟩ := by unfold Addr.add; split <;> simp_all
          rw [e3] at e2
          exact e2
    simp only [Sem.run_bind, hrun, Result.andThen, Sem.run_pure]

/-! ### What a function is held to -/
/-- An argument: one cell, or a struct. -/
inductive A where
  | one (d : D)
  | agg (ds : List D)
def AOk' (w : World) (Z : Nat → Prop) (v : Value) : A → Prop
  | .one d => Rd w Z [v] [d]
  | .agg ds => ∃ arr : Array Value, v = .agg arr ∧ Rd w Z arr.toList ds
/-- A cell of a result: read, or one's own. -/
inductive RC where
  | rd (d : D)
  | own (T : TypeId) (d : D)
abbrev Res := List (Bool × List RC)
def RCOk (w : World) (Z : Nat → Prop) (O : Nat → Tag) (j : Nat) (v : Value) : RC → Prop
  | .rd d => Rd w (fun k => Z k ∨ O k = .froz) [v] [d]
  | .own T d => ∃ fp, RowOk w T v d fp ∧ fp.Nodup ∧ ∀ k ∈ fp, O k = .row j
def RCs (w : World) (Z : Nat → Prop) (O : Nat → Tag) : Nat → List Value → List RC → Prop
  | _, [], [] => True
  | j, v :: vs, rc :: rcs => RCOk w Z O j v rc ∧ RCs w Z O (j + 1) vs rcs
  | _, _, _ => False
def Packs (v : Value) (x : Bool × List Value) : Prop := if x.1 then v = .agg x.2.toArray else x.2 = [v]
def shape {α : Type} (l : List (Bool × List α)) : List (Bool × Nat) := l.map fun x => (x.1, x.2.length)
def packed : List Value → Value
  | [v] => v
  | vs => .tuple vs.toArray
def Returns (w : World) (Z : Nat → Prop) (res : Res) (e : Ending) (w' : World) : Prop :=
  Below w.heap.size w w' ∧ ∃ (vs : List Value) (bcs : List (Bool × List Value)) (O : Nat → Tag), e = .returned (packed vs) ∧ (∀ k, O k ≠ .none → w.heap.size ≤ k ∧ k < w'.heap.size) ∧ All2 Packs vs bcs ∧ shape bcs = shape res ∧ RCs w' Z O 0 (bcs.flatMap (·.2)) (res.flatMap (·.2))
/-- A function that writes to nothing that was there. -/
def RO (P : Program) (f : FuncId) (args : List A) (res : Res) : Prop :=
  ∀ (w : World) (Z : Nat → Prop) (vals : List Value), (∀ k, Z k → k < w.heap.size) → All2 (AOk' w Z) vals args → Calls P f vals.toArray w (Returns w Z res)

/-- The row of cell j of what was called for slot t. -/
def rid (t j : Nat) : Nat := t + 1000 * (j + 1)
def RC.pc (t j : Nat) : RC → PC
  | .rd d => .d d
  | .own _ _ => .row (rid t j) []
def pcs (t : Nat) : Nat → List RC → List PC
  | _, [] => []
  | j, rc :: rcs => rc.pc t j :: pcs t (j + 1) rcs
def Env.addRows (E : Env) (t : Nat) : Nat → List RC → Env
  | _, [] => E
  | j, .rd _ :: rcs => E.addRows t (j + 1) rcs
  | j, .own T d :: rcs => ({ E with rows := (rid t j, (T, d)) :: E.rows } : Env).addRows t (j + 1) rcs
def respvs (t : Nat) : Nat → Res → List (Bool × List PC)
  | _, [] => []
  | j, (b, rcs) :: rest => (b, pcs t j rcs) :: respvs t (j + rcs.length) rest
theorem pcs_append (t : Nat) : ∀ (a b : List RC) (j : Nat), pcs t j (a ++ b) = pcs t j a ++ pcs t (j + a.length) b
  | [], b, j => rfl
  | x :: a, b, j => by simp only [List.cons_append, pcs, pcs_append t a b (j + 1), List.length_cons]; rw [Nat.add_assoc, Nat.add_comm 1]
theorem respvs_flat (t : Nat) : ∀ (res : Res) (j : Nat), (respvs t j res).flatMap (·.2) = pcs t j (res.flatMap (·.2))
  | [], j => rfl
  | (b, rcs) :: res, j => by simp only [respvs, List.flatMap_cons, respvs_flat t res, pcs_append]
theorem pcs_length (t : Nat) : ∀ (a : List RC) (j : Nat), (pcs t j a).length = a.length
  | [], j => rfl
  | x :: a, j => by simp [pcs, pcs_length t a]
theorem respvs_shape (t : Nat) : ∀ (res : Res) (j : Nat), shape (respvs t j res) = shape res
  | [], j => rfl
  | (b, rcs) :: res, j => by
    have := respvs_shape t res (j + rcs.length)
    simp only [shape] at this ⊢
    simp only [respvs, List.map_cons, pcs_length, this]
theorem All2.split {α β : Type} {R : α → β → Prop} {as as' : List α} {bs bs' : List β} (hl : as.length = bs.length) (h : All2 R (as ++ as') (bs ++ bs')) : All2 R as bs ∧ All2 R as' bs' := by
  induction bs generalizing as with
  | nil => have : as = [] := List.eq_nil_of_length_eq_zero hl; subst this; exact ⟨.nil, h⟩
  | cons b bs ih =>
    cases as with
    | nil => simp at hl
    | cons a as =>
      rw [List.cons_append, List.cons_append] at h
      cases h with
      | cons h1 h2 => obtain ⟨k1, k2⟩ := ih (by simpa using hl) h2; exact ⟨.cons h1 k1, k2⟩
theorem unflat {R : Value → PC → Prop} : ∀ (bcs : List (Bool × List Value)) (pss : List (Bool × List PC)), shape bcs = shape pss → All2 R (bcs.flatMap (·.2)) (pss.flatMap (·.2)) → All2 (fun x y => x.1 = y.1 ∧ All2 R x.2 y.2) bcs pss
  | [], [], _, _ => .nil
  | [], _ :: _, h, _ => by simp [shape] at h
  | _ :: _, [], h, _ => by simp [shape] at h
  | (b, cs) :: bcs, (b', ps) :: pss, h, H => by
    simp only [shape, List.map_cons, List.cons.injEq, Prod.mk.injEq] at h
    simp only [List.flatMap_cons] at H
    obtain ⟨h1, h2⟩ := H.split h.1.2
    exact .cons ⟨h.1.1, h1⟩ (unflat bcs pss h.2 h2)

end Go.Proofs.Ytmdojlglemnijaa.Rf
