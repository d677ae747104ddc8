/- A logic of our own over the kit's 'wp': a row under another name. Plain definitions and theorems. -/
import Derived.Test.YtmdojlglemnijaaRf23
namespace Go.Proofs.Ytmdojlglemnijaa.Rf
open Go.RowKit
set_option linter.unusedVariables false
set_option linter.unnecessarySimpa false
set_option linter.unusedSimpArgs false
def PC.ren (r s : Nat) : PC → PC
  | .row x p => .row (if x = r then s else x) p
  | .rptr x p i j => .rptr (if x = r then s else x) p i j
  | c => c
def Env.ren (E : Env) (r s : Nat) : Env := { E.mapc (PC.ren r s) with rows := E.rows.map fun x => (if x.1 = r then s else x.1, x.2) }
theorem ren_row {E : Env} {r s x : Nat} {T : TypeId} {d : D} (hs : lk E.rows s = none) (h : (E.ren r s).row x = some (T, d)) : (x = s ∧ E.row r = some (T, d)) ∨ (x ≠ s ∧ x ≠ r ∧ E.row x = some (T, d)) := by
  have key : ∀ l : List (Nat × (TypeId × D)), lk l s = none → lk (l.map fun x => (if x.1 = r then s else x.1, x.2)) x = some (T, d) → (x = s ∧ lk l r = some (T, d)) ∨ (x ≠ s ∧ x ≠ r ∧ lk l x = some (T, d)) := by
    intro l
    induction l with
    | nil => intro _ h; simp [lk] at h
    | cons y l ih =>
      intro h0 h1
      obtain ⟨k, v⟩ := y
      simp only [lk] at h0
      split at h0
      · cases h0
      · rename_i hk
        simp only [List.map_cons, lk] at h1
        by_cases e : k = r
        · rw [if_pos e] at h1
          by_cases e2 : s = x
          · rw [if_pos e2] at h1
            left
            exact ⟨e2.symm, by simp only [lk]; rw [if_pos e]; exact h1⟩
          · rw [if_neg e2] at h1
            rcases ih h0 h1 with ⟨p, _⟩ | ⟨p, q, t⟩
            · exact absurd p.symm e2
            · right
              exact ⟨p, q, by simp only [lk]; rw [if_neg (fun h => q (h.symm.trans e))]; exact t⟩
        · rw [if_neg e] at h1
          by_cases e2 : k = x
          · rw [if_pos e2] at h1
            right
            refine ⟨fun h => hk (e2.trans h), fun h => e (e2.trans h), ?_⟩
            simp only [lk]; rw [if_pos e2]; exact h1
          · rw [if_neg e2] at h1
            rcases ih h0 h1 with ⟨p, t⟩ | ⟨p, q, t⟩
            · left; exact ⟨p, by simp only [lk]; rw [if_neg e]; exact t⟩
            · right; exact ⟨p, q, by simp only [lk]; rw [if_neg e2]; exact t⟩
  exact key E.rows hs h
open Classical in
theorem RelM.ren {C : Ctx} {M : Maps} {E : Env} {a : Act} {w : World} (R : RelM C M E a w) {r s : Nat} (hf : E.noref' s = true) (hpr : ∀ x ∈ C.pin, x.1 ≠ s) : ∃ M', RelM C M' (E.ren r s) a w := by
  simp only [Env.noref', Bool.and_eq_true, List.all_eq_true, Option.isNone_iff_eq_none] at hf
  obtain ⟨⟨f1, f2⟩, f3⟩ := hf
  refine ⟨{ M with hdl := fun x => if x = s then M.hdl r else M.hdl x, fp := fun x => if x = s then M.fp r else M.fp x, own := fun k => if M.own k = .row r then .row s else M.own k }, ?_⟩
  generalize hM : ({ M with hdl := fun x => if x = s then M.hdl r else M.hdl x, fp := fun x => if x = s then M.fp r else M.fp x, own := fun k => if M.own k = .row r then .row s else M.own k } : Maps) = M'
  have hblk : M'.blk = M.blk := by subst hM; rfl
  have hown : ∀ k, M'.own k = if M.own k = .row r then .row s else M.own k := fun k => by subst hM; rfl
  have hfroz : ∀ k, M.own k = .froz → M'.own k = .froz := fun k h => by rw [hown, if_neg (by rw [h]; simp)]; exact h
  have hbox : ∀ t, (E.ren r s).box t = (E.box t).map fun x => (x.1, x.2.map (PC.ren r s)) := fun t => Env.box_mapc E (PC.ren r s) t
  have hget : ∀ t, (E.ren r s).get t = (E.get t).mapc (PC.ren r s) := fun t => Env.get_mapc E (PC.ren r s) rfl t
  have hh : ∀ x, M'.hdl x = if x = s then M.hdl r else M.hdl x := fun x => by subst hM; rfl
  have hp : ∀ x, M'.fp x = if x = s then M.fp r else M.fp x := fun x => by subst hM; rfl
  have hc : ∀ c : PC, c.ment s = false → ∀ v, COk M E w v c → COk M' (E.ren r s) w v (c.ren r s) := fun c hm v h => by
    cases c with
    | d x => exact Rd.keep h (fun _ _ => rfl) hfroz
    | nil => exact h
    | und => trivial
    | ptr b off => simp only [PC.ren, COk] at h ⊢; rw [hblk]; exact h
    | eptr x i j =>
      obtain ⟨ad, cap, h1, h2⟩ := h
      exact ⟨ad, cap, Rd.keep h1 (fun _ _ => rfl) hfroz, h2⟩
    | row x p =>
      have hxs : x ≠ s := by simp only [PC.ment, beq_eq_false_iff_ne] at hm; exact fun e => hm e.symm
      intro T d hT
      by_cases e : x = r
      · simp only [PC.ren, if_pos e] at hT ⊢
        rcases ren_row f3 hT with ⟨_, h2⟩ | ⟨h2, _⟩
        · rw [hh, if_pos rfl]; subst e; exact h T d h2
        · exact absurd rfl h2
      · simp only [PC.ren, if_neg e] at hT ⊢
        rcases ren_row f3 hT with ⟨h1, _⟩ | ⟨_, _, h2⟩
        · exact absurd h1 hxs
        · rw [hh, if_neg hxs]; exact h T d h2
    | rptr x p i j =>
      have hxs : x ≠ s := by simp only [PC.ment, beq_eq_false_iff_ne] at hm; exact fun e => hm e.symm
      intro T d hT
      by_cases e : x = r
      · simp only [PC.ren, if_pos e] at hT ⊢
        rcases ren_row f3 hT with ⟨_, h2⟩ | ⟨h2, _⟩
        · rw [hh, if_pos rfl]; subst e; exact h T d h2
        · exact absurd rfl h2
      · simp only [PC.ren, if_neg e] at hT ⊢
        rcases ren_row f3 hT with ⟨h1, _⟩ | ⟨_, _, h2⟩
        · exact absurd h1 hxs
        · rw [hh, if_neg hxs]; exact h T d h2
  have hall : ∀ (vs : List Value) (ps : List PC), (∀ c ∈ ps, c.ment s = false) → All2 (COk M E w) vs ps → All2 (COk M' (E.ren r s) w) vs (ps.map (PC.ren r s)) := fun vs ps hm h => by
    induction h with
    | nil => exact .nil
    | @cons v c vs ps h1 _ ih => exact .cons (hc c (hm c (by simp)) v h1) (ih fun c' hc' => hm c' (by simp [hc']))
  refine { tn := R.tn, df := R.df, fr := R.fr, ba := R.ba, lt := ?_, z0 := fun k hk => hfroz k (R.z0 k hk), zb := ?_, wr := ?_, tm := ?_, rows := ?_, boxes := ?_, pin := ?_, bpin := ?_ }
  · intro k hk
    refine R.lt k fun h => hk ?_
    rw [hown, if_neg (by rw [h]; simp)]; exact h
  · intro k hk
    refine R.zb k ?_
    rw [hown] at hk
    split at hk
    · cases hk
    · exact hk
  · intro k hk hk'
    refine R.wr k (fun h => hk ?_) (fun h => hk' (hfroz k h))
    rw [hown, if_neg (by rw [h]; simp)]; exact h
  · intro t
    rw [hget]
    have h := R.tm t
    have hm : ∀ c ∈ (E.get t).cells, c.ment s = false := fun c hcm => by
      rcases Env.get_mem hcm with rfl | ⟨x, hx, hcx⟩
      · rfl
      · simpa using f1 x hx c hcx
    generalize E.get t = p at h hm
    cases p with
    | one c => exact hc c (hm c (by simp [PV.cells])) _ h
    | agg cs => obtain ⟨arr, e, h⟩ := h; exact ⟨arr, e, hall _ _ (fun c hcm => hm c (by simpa [PV.cells] using hcm)) h⟩
    | tup vs =>
      obtain ⟨arr, e, h⟩ := h
      refine ⟨arr, e, ?_⟩
      clear e
      generalize arr.toList = l at h
      show All2 _ l (vs.map _)
      have hm' : ∀ y ∈ vs, ∀ c ∈ y.2, c.ment s = false := fun y hy c hcy => hm c (by simp only [PV.cells, List.mem_flatMap]; exact ⟨y, hy, hcy⟩)
      clear hm
      induction h with
      | nil => exact .nil
      | @cons v y l vs h1 _ ih =>
        refine .cons ?_ (ih fun y' hy' => hm' y' (by simp [hy']))
        have hy := hm' y (by simp)
        obtain ⟨b, cs⟩ := y
        match b, cs, h1, hy with
        | true, cs, ⟨arr', e', h'⟩, hy => exact ⟨arr', e', hall _ _ hy h'⟩
        | false, [c], h', hy => exact hc c (hy c (by simp)) _ h'
  · intro x T d hx
    rcases ren_row f3 hx with ⟨rfl, h2⟩ | ⟨h1, h3, h2⟩
    · obtain ⟨k1, k2, k3⟩ := R.rows r T d h2
      rw [hh, hp, if_pos rfl, if_pos rfl]
      exact ⟨k1, k2, fun k hk => by rw [hown, if_pos (k3 k hk)]⟩
    · obtain ⟨k1, k2, k3⟩ := R.rows x T d h2
      rw [hh, hp, if_neg h1, if_neg h1]
      exact ⟨k1, k2, fun k hk => by rw [hown, if_neg (by rw [k3 k hk]; intro h; injection h with h; exact h3 h)]; exact k3 k hk⟩
  · intro b T ps' hb
    rw [hbox] at hb
    obtain ⟨⟨T2, ps⟩, h1, h2⟩ := Option.map_eq_some_iff.1 hb
    injection h2 with e1 e2
    subst e1 e2
    obtain ⟨k1, cs, k2, k3⟩ := R.boxes b _ ps h1
    rw [hblk]
    exact ⟨by rw [hown, if_neg (by rw [k1]; simp)]; exact k1, cs, k2, hall _ _ (fun c hcm => by simpa using f2 (b, _, ps) (lk_mem h1) c hcm) k3⟩
  · intro x v hxv T d hx
    rcases ren_row f3 hx with ⟨rfl, _⟩ | ⟨h1, _, h2⟩
    · exact absurd rfl (hpr (x, v) hxv)
    · rw [hh, if_neg h1]; exact R.pin x v hxv T d h2
  · intro b v hpb hn T ps hb
    rw [hbox] at hb
    obtain ⟨⟨T2, ps2⟩, h1, _⟩ := Option.map_eq_some_iff.1 hb
    rw [hblk]
    exact R.bpin b v hpb hn T2 ps2 h1
theorem TL.ren {P : Program} {C : Ctx} {ops : Array Oper} {l : List Oper} {E : Env} {Q : Env → Prop} (r s : Nat) (hf : E.noref' s = true) (hpr : ∀ x ∈ C.pin, x.1 ≠ s) (h : TL P C ops l (E.ren r s) Q) : TL P C ops l E Q := fun a w ⟨M, R⟩ => by
  obtain ⟨M', R'⟩ := R.ren (r := r) hf hpr
  exact h a w ⟨M', R'⟩
end Go.Proofs.Ytmdojlglemnijaa.Rf
