/- Words on lists for the functions that come with each type: sizes, filling, equality. Plain definitions and theorems. -/
import Derived.Test.YtmdojlglemnijaaRf14
namespace Go.Proofs.Ytmdojlglemnijaa.Rf
open Go.RowKit
set_option linter.unusedVariables false
set_option linter.unnecessarySimpa false
set_option linter.unusedSimpArgs false

/-- The length of a slice that is read. -/
theorem TL.bnd {P : Program} {C : Ctx} {ops : Array Oper} {l : List Oper} {E : Env} {Q : Env → Prop} (t : Nat) {d : D} (hx : E.get t = .one (.d d)) (hs : d.isSl = true) (h : d.size ≤ 9223372036854775807 → TL P C ops l E Q) : TL P C ops l E Q := by
  intro a w R
  have ⟨M, R0⟩ := R
  have := R0.tm t
  rw [hx] at this
  obtain ⟨_, _, _, h2, _⟩ := rd_form this hs
  exact h h2 a w R
theorem T.bnd {P : Program} {C : Ctx} {c : Code} {E : Env} {Q : Exit → Env → Prop} (t j : Nat) {d : D} (hx : (E.get t).cells[j]? = some (.d d)) (hs : d.isSl = true) (h : d.size ≤ 9223372036854775807 → T P C c E Q) : T P C c E Q := by
  intro a w R
  have ⟨M, R0⟩ := R
  have ht := R0.tm t
  have key : ∃ v, Rd w (fun k => M.own k = .froz) [v] [d] := by
    cases he : E.get t with
    | one c =>
      rw [he] at hx ht
      cases j with
      | zero => simp only [PV.cells, List.getElem?_cons_zero, Option.some.injEq] at hx; subst hx; exact ⟨_, ht⟩
      | succ j => simp [PV.cells] at hx
    | agg cs =>
      rw [he] at hx ht
      obtain ⟨arr, _, h2⟩ := ht
      obtain ⟨v, _, hv⟩ := h2.get j _ hx
      exact ⟨v, hv⟩
    | tup vs =>
      rw [he] at hx ht
      obtain ⟨arr, _, h2⟩ := ht
      simp only [PV.cells] at hx
      have hm : PC.d d ∈ vs.flatMap (·.2) := List.mem_of_getElem? hx
      obtain ⟨x, hx1, hx2⟩ := List.mem_flatMap.1 hm
      obtain ⟨k, hk⟩ := List.getElem?_of_mem hx1
      obtain ⟨v, _, hv⟩ := h2.get k _ hk
      obtain ⟨b, cs⟩ := x
      cases b with
      | true =>
        obtain ⟨arr', _, h4⟩ := hv
        obtain ⟨k', hk'⟩ := List.getElem?_of_mem hx2
        obtain ⟨v', _, hv'⟩ := h4.get k' _ hk'
        exact ⟨v', hv'⟩
      | false =>
        match cs, hv, hx2 with
        | [c], hv, hx2 => simp only [List.mem_singleton] at hx2; subst hx2; exact ⟨v, hv⟩
  obtain ⟨v, hv⟩ := key
  obtain ⟨_, _, _, h2, _⟩ := rd_form hv hs
  exact h h2 a w R
theorem Step.len' {P : Program} {C : Ctx} {o : Oper} {E : Env} {t : Nat} {T e : TypeId} {z : Nat} {x : Operand} {c : PC} {d : D} (n : Nat) (ho : o.op = .call { callee := .builtin .len, args := #[x], argTypes := #[T] }) (hd : o.dst = some t) (ht : t < C.n)
    (hT : isSlice P T e z = true) (hx : E.ev x = .one c) (hc : E.cont c = some d) (hn : d.size = n) : Step P C o E (E.set t (.one (.d (.int .i64 n)))) := hn ▸ Step.len ho hd ht hT hx hc
theorem Step.to {P : Program} {C : Ctx} {o : Oper} {E E1 E2 : Env} (h : E1 = E2) (s : Step P C o E E1) : Step P C o E E2 := h ▸ s
theorem D.wf_nil (z : Nat) : (D.sl z []).wf := fun e h => by cases h
def zero1 (v : Value) (d : D) : Bool := match v, d with
  | .int k n, .int k' m => decide (k = k') && decide (n = m)
  | .bool b, .bool c => b == c
  | .slice none 0 0, d => d.isSl && d.size == 0
  | _, _ => false
def zeroB : List Value → List D → Bool
  | [], [] => true
  | v :: vs, d :: ds => zero1 v d && zeroB vs ds
  | _, _ => false
theorem wf_of_empty {d : D} (h : d.size = 0) : d.wf := by
  cases d with
  | sl z es => simp only [D.size] at h; have := List.length_eq_zero_iff.1 h; subst this; exact D.wf_nil z
  | _ => trivial
theorem zeroB_ok : ∀ (vs : List Value) (ds : List D), zeroB vs ds = true → ZeroOk vs ds
  | [], [], _ => .nil
  | [], _ :: _, h => by simp [zeroB] at h
  | _ :: _, [], h => by simp [zeroB] at h
  | v :: vs, d :: ds, h => by
    simp only [zeroB, Bool.and_eq_true] at h
    obtain ⟨h1, h2⟩ := h
    have ih := zeroB_ok vs ds h2
    unfold zero1 at h1
    split at h1
    · simp only [Bool.and_eq_true, decide_eq_true_eq] at h1
      obtain ⟨rfl, rfl⟩ := h1
      exact .val rfl ih
    · simp only [beq_iff_eq] at h1
      subst h1
      exact .val rfl ih
    · simp only [Bool.and_eq_true, beq_iff_eq] at h1
      exact .empty h1.1 h1.2 (wf_of_empty h1.2) ih
    · exact absurd h1 (by simp)
theorem wf_map {α : Type} {z : Nat} {enc : α → List D} (h : ∀ x, (enc x).length = z) (xs : List α) : (D.sl z (xs.map enc)).wf := by
  intro e he
  obtain ⟨x, _, rfl⟩ := List.mem_map.1 he
  exact h x
theorem Putd.enc {α : Type} {z i : Nat} {enc : α → List D} (h : ∀ x, (enc x).length = z) {xs : List α} (hi : i < xs.length) (x : α) : Putd (.sl z (xs.map enc)) i 0 (enc x) (.sl z ((xs.set i x).map enc)) := by
  rw [List.map_set]
  exact .elem (wf_map h xs) (by simpa using hi) (h x)
theorem guard_bool {P : Program} {w : World} {op : BinOp} {t : TypeId} {x y : Operand} {b c : Bool} : (eqGuard op t x y (.bool b) (.bool c)).run P w = .ok () w := by
  unfold eqGuard
  split <;> rfl
/-- Bools are compared. -/
theorem Step.bneq {P : Program} {C : Ctx} {o : Oper} {E : Env} {t : Nat} {tx ty : TypeId} {x y : Operand} {b c : Bool} (ho : o.op = .binOp .neq tx x y ty) (hd : o.dst = some t) (ht : t < C.n) (hT : P.underlying tx = some .bool)
    (hx : E.ev x = .one (.d (.bool b))) (hy : E.ev y = .one (.d (.bool c))) : Step P C o E (E.set t (.one (.d (.bool (b != c))))) :=
  .value hd ht fun M a w R => ⟨.bool (b != c), by
    unfold execOp
    rw [ho]
    simp only [Sem.run_bind, Sem.run_pure]
    rw [ev_val R hx rfl, ev_val R hy rfl, guard_bool, Result.andThen, run_neq_bool w tx b c hT]
    rfl, ok_val M E w rfl⟩
theorem Step.beql {P : Program} {C : Ctx} {o : Oper} {E : Env} {t : Nat} {tx ty : TypeId} {x y : Operand} {b c : Bool} (ho : o.op = .binOp .eql tx x y ty) (hd : o.dst = some t) (ht : t < C.n) (hT : P.underlying tx = some .bool)
    (hx : E.ev x = .one (.d (.bool b))) (hy : E.ev y = .one (.d (.bool c))) : Step P C o E (E.set t (.one (.d (.bool (b == c))))) :=
  .value hd ht fun M a w R => ⟨.bool (b == c), by
    unfold execOp
    rw [ho]
    simp only [Sem.run_bind, Sem.run_pure]
    rw [ev_val R hx rfl, ev_val R hy rfl, guard_bool, Result.andThen, run_eql_bool w tx b c hT]
    rfl, ok_val M E w rfl⟩

/-! ### Sizes -/
def szThen (a : Int) (f : Int → Int) : Int := if a < 0 then -1 else f a
def szB (xs : List Int) (l : Int) : Int := if l - (xs.length : Int) < 0 then -1 else l - (xs.length : Int)
def szL {α : Type} (f : α → Int → Int) : List α → Int → Int
  | [], l => l
  | x :: xs, l => if f x l < 0 then -1 else szL f xs (f x l)
def szLs {α : Type} (f : α → Int → Int) (xs : List α) (l : Int) : Int := if l - (xs.length : Int) < 0 then -1 else szL f xs (l - (xs.length : Int))
theorem szThen_le {a l : Int} {f : Int → Int} (h1 : a ≤ l) (h2 : -1 ≤ l) (h : ∀ b, 0 ≤ b → b ≤ l → f b ≤ l) : szThen a f ≤ l := by unfold szThen; split; exact h2; exact h a (by omega) h1
theorem szThen_le' {a l : Int} {f : Int → Int} (h1 : a ≤ l) (h2 : 0 ≤ l) (h : ∀ b, 0 ≤ b → f b ≤ b) : szThen a f ≤ l := by unfold szThen; split; omega; exact Int.le_trans (h a (by omega)) h1
theorem szThen_nn {a : Int} {f : Int → Int} (h : 0 ≤ szThen a f) : 0 ≤ a ∧ 0 ≤ f a := by unfold szThen at h; split at h; omega; exact ⟨by omega, h⟩
theorem szB_le (xs : List Int) {l : Int} (h : 0 ≤ l) : szB xs l ≤ l := by unfold szB; split <;> omega
theorem szL_le {α : Type} {f : α → Int → Int} (hf : ∀ x l, 0 ≤ l → f x l ≤ l) : ∀ (xs : List α) {l : Int}, 0 ≤ l → szL f xs l ≤ l
  | [], l, _ => Int.le_refl _
  | x :: xs, l, h => by
    unfold szL
    split
    · omega
    · have := hf x l h
      have := szL_le hf xs (l := f x l) (by omega)
      omega
theorem szLs_le {α : Type} {f : α → Int → Int} (hf : ∀ x l, 0 ≤ l → f x l ≤ l) (xs : List α) {l : Int} (h : 0 ≤ l) : szLs f xs l ≤ l := by
  unfold szLs
  split
  · omega
  · have := szL_le hf xs (l := l - (xs.length : Int)) (by omega)
    omega
theorem szB_sm {xs : List Int} {l : Int} (h : 0 ≤ szB xs l) (hl : l ≤ 1048576) : xs.length ≤ 1048576 := by unfold szB at h; split at h <;> omega
theorem szL_sm {α : Type} {f : α → Int → Int} {p : α → Prop} (hf : ∀ x l, 0 ≤ l → f x l ≤ l) (hp : ∀ x l, 0 ≤ f x l → 0 ≤ l → l ≤ 1048576 → p x) : ∀ (xs : List α) {l : Int}, 0 ≤ l → l ≤ 1048576 → 0 ≤ szL f xs l → ∀ x ∈ xs, p x
  | [], l, _, _, _, x, hx => by cases hx
  | y :: ys, l, h0, hl, h, x, hx => by
    unfold szL at h
    split at h
    · omega
    · have := hf y l h0
      rcases List.mem_cons.1 hx with rfl | hx
      · exact hp _ l (by omega) h0 hl
      · exact szL_sm hf hp ys (by omega) (by omega) h x hx
theorem szLs_sm {α : Type} {f : α → Int → Int} {p : α → Prop} (hf : ∀ x l, 0 ≤ l → f x l ≤ l) (hp : ∀ x l, 0 ≤ f x l → 0 ≤ l → l ≤ 1048576 → p x) {xs : List α} {l : Int} (h : 0 ≤ szLs f xs l) (hl : l ≤ 1048576) : xs.length ≤ 1048576 ∧ ∀ x ∈ xs, p x := by
  unfold szLs at h
  split at h
  · omega
  · exact ⟨by omega, szL_sm hf hp xs (by omega) (by omega) h⟩
theorem szL_drop {α : Type} {f : α → Int → Int} {dflt : α} : ∀ (xs : List α) (i : Nat) (l : Int), i < xs.length → szL f (xs.drop i) l = if f (xs.getD i dflt) l < 0 then -1 else szL f (xs.drop (i + 1)) (f (xs.getD i dflt) l)
  | x :: xs, 0, l, _ => by simp [szL]
  | x :: xs, i + 1, l, h => by simpa using szL_drop xs i l (by simpa using h)

/-! ### Filling -/
theorem fill_set {α : Type} (xs : List α) (z d : α) (i : Nat) (h : i < xs.length) : (xs.take i ++ List.replicate (xs.length - i) z).set i (xs.getD i d) = xs.take (i + 1) ++ List.replicate (xs.length - (i + 1)) z := by
  have e : xs.length - i = (xs.length - (i + 1)) + 1 := by omega
  rw [List.set_append_right _ _ (by rw [List.length_take]; omega), List.length_take, Nat.min_eq_left (by omega), Nat.sub_self, e, List.replicate_succ, List.set_cons_zero, List.take_succ_eq_append_getElem h, List.getD_eq_getElem?_getD, List.getElem?_eq_getElem h, List.append_assoc]
  rfl
theorem fill_all' {α : Type} (xs : List α) (z : α) (i : Nat) (h : xs.length ≤ i) : xs.take i ++ List.replicate (xs.length - i) z = xs := by
  rw [List.take_of_length_le h, show xs.length - i = 0 from by omega]; simp
theorem mem_getD {α : Type} {xs : List α} {p : α → Prop} {d : α} (h : ∀ x ∈ xs, p x) {i : Nat} (hi : i < xs.length) : p (xs.getD i d) := by
  rw [List.getD_eq_getElem?_getD, List.getElem?_eq_getElem hi]; exact h _ (List.getElem_mem hi)

/-! ### Equality -/
theorem take_step {α : Type} {xs ys : List α} {d : α} {i : Nat} (hl : xs.length = ys.length) (hi : i < xs.length) (h : xs.take i = ys.take i) (he : xs.getD i d = ys.getD i d) : xs.take (i + 1) = ys.take (i + 1) := by
  rw [List.take_succ_eq_append_getElem hi, List.take_succ_eq_append_getElem (by omega), h]
  rw [List.getD_eq_getElem?_getD, List.getD_eq_getElem?_getD, List.getElem?_eq_getElem hi, List.getElem?_eq_getElem (by omega)] at he
  simp only [Option.getD_some] at he
  rw [he]
theorem take_all {α : Type} {xs ys : List α} {i : Nat} (hl : xs.length = ys.length) (hi : xs.length ≤ i) (h : xs.take i = ys.take i) : xs = ys := by
  rwa [List.take_of_length_le hi, List.take_of_length_le (by omega)] at h

/-! ### Bytes -/
def U8s (xs : List Int) : Prop := ∀ x ∈ xs, 0 ≤ x ∧ x ≤ 255
theorem str_eq {xs ys : List Int} (hx : U8s xs) (hy : U8s ys) : ((strOfNums xs).toList == (strOfNums ys).toList) = decide (xs = ys) := by
  have inj : ∀ xs ys : List Int, U8s xs → U8s ys → xs.map (fun n => UInt8.ofNat n.toNat) = ys.map (fun n => UInt8.ofNat n.toNat) → xs = ys := by
    intro xs
    induction xs with
    | nil => intro ys _ _ h; cases ys with | nil => rfl | cons y ys => simp at h
    | cons x xs ih =>
      intro ys hx hy h
      cases ys with
      | nil => simp at h
      | cons y ys =>
        simp only [List.map_cons, List.cons.injEq] at h
        obtain ⟨h1, h2⟩ := h
        have hx0 := hx x (by simp)
        have hy0 := hy y (by simp)
        have h3 := congrArg UInt8.toNat h1
        simp only [UInt8.toNat_ofNat'] at h3
        rw [Nat.mod_eq_of_lt (by omega), Nat.mod_eq_of_lt (by omega)] at h3
        rw [ih ys (fun z hz => hx z (by simp [hz])) (fun z hz => hy z (by simp [hz])) h2]
        congr 1
        omega
  by_cases h : xs = ys
  · subst h; simp
  · rw [decide_eq_false h]
    have hne : (strOfNums xs).toList ≠ (strOfNums ys).toList := fun e => by
      apply h
      apply inj xs ys hx hy
      rw [ByteArray.toList_eq, ByteArray.toList_eq] at e
      simpa [strOfNums] using e
    simpa using hne
end Go.Proofs.Ytmdojlglemnijaa.Rf
