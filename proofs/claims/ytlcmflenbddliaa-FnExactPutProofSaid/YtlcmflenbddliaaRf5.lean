/- A logic of our own over the kit's 'wp': fifth part: what becomes of a state when memory grows, is handed on, is let go. Plain definitions and theorems. -/
import Derived.Test.YtlcmflenbddliaaRf4
namespace Go.Proofs.Ytlcmflenbddliaa.Rf
open Go.RowKit
set_option linter.unusedVariables false
set_option linter.unnecessarySimpa false
set_option linter.unusedSimpArgs false

theorem Frame_.then_ {C : Ctx} {w w' : World} (h : Frame_ C w) (hb : Below w.heap.size w w') (hB : C.base ≤ w.heap.size) : Frame_ C w' :=
  ⟨hb.os.trans h.os, hb.tape.trans h.tape, hb.output.trans h.output, Nat.le_trans h.size hb.size, fun k hk hi => (hb.block k (by omega)).trans (h.block k hk hi)⟩

/-- The memory grows; what was there stays. -/
theorem RelM.grow {C : Ctx} {M : Maps} {E : Env} {a : Act} {w w' : World} (R : RelM C M E a w) (hb : Below w.heap.size w w') : RelM C M E a w' := by
  have hk : ∀ k, M.own k ≠ .none → w'.heap[k]? = w.heap[k]? := fun k h => hb.block k (R.lt k h)
  have hc : ∀ c : PC, ∀ v, COk M E w v c → COk M E w' v c := fun c v h => h.mono R (fun k h => ⟨h, hk k (by rw [h]; simp)⟩) (fun _ _ _ => rfl)
    (fun r _ T d hT => ⟨hT, rfl, fun k hk' => hk k (by rw [(R.rows r T d hT).2.2 k hk']; simp)⟩)
  refine { R with fr := R.fr.then_ hb R.ba, ba := Nat.le_trans R.ba hb.size, lt := fun k h => Nat.lt_of_lt_of_le (R.lt k h) hb.size, tm := fun t => (R.tm t).mono fun c _ v h => hc c v h, rows := ?_, boxes := ?_ }
  · intro r T d hr
    obtain ⟨⟨h1, h2, h3⟩, h4, h5⟩ := R.rows r T d hr
    refine ⟨⟨h1, h2.keep fun k hk' => hk k (by rw [h5 k hk']; simp), fun ad n c hv => ?_⟩, h4, h5⟩
    obtain ⟨cs, fr, h6⟩ := h3 ad n c hv
    exact ⟨cs, fr, (hb.block _ (Array.getElem?_eq_some_iff.1 h6).1).trans h6⟩
  · intro b T ps h
    obtain ⟨h1, cs, h2, h3⟩ := R.boxes b T ps h
    exact ⟨h1, cs, (hk _ (by rw [h1]; simp)).trans h2, h3.imp fun v c _ h => hc c v h⟩

def PC.isBox (b : Nat) : PC → Bool
  | .ptr b' _ => b == b'
  | _ => false
/-- No slot, no variable points into box b. -/
def Env.nobox (E : Env) (b : Nat) : Bool := (E.tm.all fun x => x.2.cells.all fun c => !c.isBox b) && (E.boxes.all fun x => x.2.2.all fun c => !c.isBox b) && (lk E.boxes b).isNone
def Env.noref' (E : Env) (r : Nat) : Bool := (E.tm.all fun x => x.2.cells.all fun c => !c.ment r) && (E.boxes.all fun x => x.2.2.all fun c => !c.ment r) && (lk E.rows r).isNone
theorem Env.get_mem {E : Env} {t : Nat} {c : PC} (h : c ∈ (E.get t).cells) : c = .und ∨ ∃ x ∈ E.tm, c ∈ x.2.cells := by
  unfold Env.get at h
  cases hl : lk E.tm t with
  | none => rw [hl] at h; simp [PV.cells] at h; exact .inl h
  | some v => rw [hl] at h; exact .inr ⟨(t, v), lk_mem hl, h⟩

theorem RelM.addBox {C : Ctx} {M : Maps} {E : Env} {a : Act} {w : World} (R : RelM C M E a w) {b g : Nat} {T : TypeId} {ps : List PC} {cs : Array Value} (hf : E.nobox b = true) (hg : w.heap[g]? = some (.cells cs T (0, 0))) (ho : M.own g = .none) (hb : C.base ≤ g)
    (hps : All2 (COk M E w) cs.toList ps) (hnp : ps.all (fun c => !c.isBox b) = true) (hbn : ∀ x ∈ C.pin, C.n ≤ x.1 → x.1 ≠ b) :
    RelM C { M with blk := fun x => if x = b then g else M.blk x, own := fun k => if k = g then .box b else M.own k } { E with boxes := (b, (T, ps)) :: E.boxes } a w := by
  simp only [Env.nobox, Bool.and_eq_true, List.all_eq_true, Option.isNone_iff_eq_none] at hf
  obtain ⟨⟨f1, f2⟩, f3⟩ := hf
  generalize hM : ({ M with blk := fun x => if x = b then g else M.blk x, own := fun k => if k = g then .box b else M.own k } : Maps) = M'
  generalize hE : ({ E with boxes := (b, (T, ps)) :: E.boxes } : Env) = E'
  have hown : ∀ k, M.own k ≠ .none → M'.own k = M.own k := fun k h => by subst hM; simp only; rw [if_neg]; rintro rfl; exact h ho
  have hrow : ∀ r, E'.row r = E.row r := fun r => by subst hE; rfl
  have hget : ∀ t, E'.get t = E.get t := fun t => by subst hE; rfl
  have hhdl : M'.hdl = M.hdl := by subst hM; rfl
  have hfp : M'.fp = M.fp := by subst hM; rfl
  have hblk : ∀ x, x ≠ b → M'.blk x = M.blk x := fun x hx => by subst hM; simp [hx]
  have hc : ∀ c : PC, c.isBox b = false → ∀ v, COk M E w v c → COk M' E' w v c := fun c hcb v h => h.mono R (fun k hk => ⟨by rw [hown k (by rw [hk]; simp)]; exact hk, rfl⟩)
    (fun b' off e => by subst e; refine hblk _ ?_; rintro rfl; simp [PC.isBox] at hcb) (fun r _ T d hT => ⟨by rw [← hrow]; exact hT, by rw [hhdl], fun _ _ => rfl⟩)
  have hnew : ∀ k, M'.own k ≠ M.own k → k = g ∧ M'.own k = .box b := fun k h => by
    subst hM; simp only at h ⊢
    by_cases e : k = g
    · exact ⟨e, by rw [if_pos e]⟩
    · rw [if_neg e] at h; exact absurd rfl h
  have hcase : ∀ k, M'.own k = M.own k ∨ (k = g ∧ M'.own k = .box b) := fun k => by
    by_cases e : k = g
    · right; exact ⟨e, by subst hM; simp [e]⟩
    · left; subst hM; simp [e]
  refine { tn := R.tn, df := R.df, fr := R.fr, ba := R.ba, lt := ?_, z0 := ?_, zb := ?_, wr := ?_, tm := ?_, rows := ?_, boxes := ?_, pin := ?_, bpin := fun b' v hp hn T' ps' hb' => (by have hne : b' ≠ b := hbn (b', v) hp hn; rw [hblk b' hne]; refine R.bpin b' v hp hn T' ps' ?_; subst hE; simpa [Env.box, lk, hne.symm] using hb') }
  · intro k hk
    rcases hcase k with e | ⟨rfl, _⟩
    · exact R.lt k (by rw [← e]; exact hk)
    · exact (Array.getElem?_eq_some_iff.1 hg).1
  · intro k hk
    have := R.z0 k hk
    rw [hown k (by rw [this]; simp)]; exact this
  · intro k hk
    rcases hcase k with e | ⟨rfl, e⟩
    · exact R.zb k (by rw [← e]; exact hk)
    · rw [e] at hk; cases hk
  · intro k hk hk'
    rcases hcase k with e | ⟨rfl, _⟩
    · exact R.wr k (by rw [← e]; exact hk) (by rw [← e]; exact hk')
    · exact .inr hb
  · intro t
    rw [hget]
    refine (R.tm t).mono fun c hcm v h => hc c ?_ v h
    rcases Env.get_mem hcm with rfl | ⟨x, hx, hcx⟩
    · rfl
    · simpa using f1 x hx c hcx
  · intro r T d hr
    rw [hrow] at hr
    obtain ⟨h1, h2, h3⟩ := R.rows r T d hr
    rw [hhdl, hfp]
    exact ⟨h1, h2, fun k hk => by rw [hown k (by rw [h3 k hk]; simp)]; exact h3 k hk⟩
  · intro b' T' ps' hb'
    by_cases e : b' = b
    · subst e
      have : (T', ps') = (T, ps) := by
        subst hE; simp [Env.box, lk] at hb'; rw [← hb'.1, ← hb'.2]
      injection this with e1 e2
      subst e1 e2
      refine ⟨by subst hM; simp, cs, by subst hM; simpa using hg, hps.imp fun v c hcm h => hc c ?_ v h⟩
      rw [List.all_eq_true] at hnp
      simpa using hnp c hcm
    · have hb2 : E.box b' = some (T', ps') := by
        subst hE; simp only [Env.box, lk] at hb' ⊢; rw [if_neg (fun h => e h.symm)] at hb'; exact hb'
      obtain ⟨h1, cs', h2, h3⟩ := R.boxes b' T' ps' hb2
      rw [hblk b' e]
      exact ⟨by rw [hown _ (by rw [h1]; simp)]; exact h1, cs', h2, h3.imp fun v c hcm h => hc c (by simpa using f2 (b', T', ps') (lk_mem hb2) c hcm) v h⟩
  · intro r v hrv T d hr
    rw [hrow] at hr
    rw [hhdl]
    exact R.pin r v hrv T d hr

open Classical in
/-- A new row: blocks that nobody owns any more. -/
theorem RelM.addRow {C : Ctx} {M : Maps} {E : Env} {a : Act} {w : World} (R : RelM C M E a w) {r : Nat} {T : TypeId} {d : D} {v : Value} {fp : List Nat} (hf : E.noref' r = true) (hpin : ∀ x ∈ C.pin, x.1 ≠ r) (hrow : RowOk w T v d fp) (hnd : fp.Nodup)
    (hfree : ∀ k ∈ fp, (M.own k = .none ∧ (C.IX k ∨ C.base ≤ k)) ∨ ∃ s, M.own k = .row s ∧ E.row s = none) :
    RelM C { M with hdl := fun x => if x = r then v else M.hdl x, fp := fun x => if x = r then fp else M.fp x, own := fun k => if k ∈ fp then .row r else M.own k } { E with rows := (r, (T, d)) :: E.rows } a w := by
  simp only [Env.noref', Bool.and_eq_true, List.all_eq_true, Option.isNone_iff_eq_none] at hf
  obtain ⟨⟨f1, f2⟩, f3⟩ := hf
  generalize hM : ({ M with hdl := fun x => if x = r then v else M.hdl x, fp := fun x => if x = r then fp else M.fp x, own := fun k => if k ∈ fp then .row r else M.own k } : Maps) = M'
  generalize hE : ({ E with rows := (r, (T, d)) :: E.rows } : Env) = E'
  have hcase : ∀ k, (k ∉ fp ∧ M'.own k = M.own k) ∨ (k ∈ fp ∧ M'.own k = .row r) := fun k => by
    by_cases e : k ∈ fp
    · right; exact ⟨e, by subst hM; simp [e]⟩
    · left; exact ⟨e, by subst hM; simp [e]⟩
  have hkeep : ∀ k, M.own k ≠ .none → (∀ s, M.own k = .row s → (E.row s).isSome = true) → M'.own k = M.own k := fun k h0 h1 => by
    rcases hcase k with ⟨_, e⟩ | ⟨e, _⟩
    · exact e
    · rcases hfree k e with ⟨h, _⟩ | ⟨s, h, h'⟩
      · exact absurd h h0
      · have := h1 s h
        rw [h'] at this; exact absurd this (by simp)
  have hfroz : ∀ k, M.own k = .froz → M'.own k = .froz := fun k h => by rw [hkeep k (by rw [h]; simp) (fun s hs => by rw [h] at hs; cases hs)]; exact h
  have hr' : ∀ x, x ≠ r → E'.row x = E.row x := fun x hx => by subst hE; simp only [Env.row, lk]; rw [if_neg (fun h => hx h.symm)]
  have hget : ∀ t, E'.get t = E.get t := fun t => by subst hE; rfl
  have hbox : ∀ t, E'.box t = E.box t := fun t => by subst hE; rfl
  have hhdl : ∀ x, x ≠ r → M'.hdl x = M.hdl x := fun x hx => by subst hM; simp [hx]
  have hfp : ∀ x, x ≠ r → M'.fp x = M.fp x := fun x hx => by subst hM; simp [hx]
  have hblk : M'.blk = M.blk := by subst hM; rfl
  have hc : ∀ c : PC, c.ment r = false → ∀ v, COk M E w v c → COk M' E' w v c := fun c hcb v h => h.mono R (fun k hk => ⟨hfroz k hk, rfl⟩)
    (fun b' off e => by rw [hblk]) (fun x hx T d hT => by
      have hne : x ≠ r := by rintro rfl; rw [hcb] at hx; cases hx
      exact ⟨by rw [← hr' x hne]; exact hT, hhdl x hne, fun _ _ => rfl⟩)
  refine { tn := R.tn, df := R.df, fr := R.fr, ba := R.ba, lt := ?_, z0 := fun k hk => hfroz k (R.z0 k hk), zb := ?_, wr := ?_, tm := ?_, rows := ?_, boxes := ?_, pin := ?_, bpin := fun b v hp hn T ps hb => by rw [hblk]; rw [hbox] at hb; exact R.bpin b v hp hn T ps hb }
  · intro k hk
    rcases hcase k with ⟨_, e⟩ | ⟨e, _⟩
    · exact R.lt k (by rw [← e]; exact hk)
    · exact hrow.2.1.lt k e
  · intro k hk
    rcases hcase k with ⟨_, e⟩ | ⟨_, e⟩
    · exact R.zb k (by rw [← e]; exact hk)
    · rw [e] at hk; cases hk
  · intro k hk hk'
    rcases hcase k with ⟨_, e⟩ | ⟨e, _⟩
    · exact R.wr k (by rw [← e]; exact hk) (by rw [← e]; exact hk')
    · rcases hfree k e with ⟨_, h⟩ | ⟨s, h, _⟩
      · exact h
      · exact R.wr k (by rw [h]; simp) (by rw [h]; simp)
  · intro t
    rw [hget]
    refine (R.tm t).mono fun c hcm v h => hc c ?_ v h
    rcases Env.get_mem hcm with rfl | ⟨x, hx, hcx⟩
    · rfl
    · simpa using f1 x hx c hcx
  · intro x T' d' hx
    by_cases e : x = r
    · subst e
      have : (T', d') = (T, d) := by subst hE; simp [Env.row, lk] at hx; rw [← hx.1, ← hx.2]
      injection this with e1 e2
      subst e1 e2
      have e1 : M'.hdl x = v := by subst hM; simp
      have e2 : M'.fp x = fp := by subst hM; simp
      rw [e1, e2]
      exact ⟨hrow, hnd, fun k hk => by rcases hcase k with ⟨h, _⟩ | ⟨_, h⟩; exact absurd hk h; exact h⟩
    · rw [hr' x e] at hx
      obtain ⟨h1, h2, h3⟩ := R.rows x T' d' hx
      rw [hhdl x e, hfp x e]
      refine ⟨h1, h2, fun k hk => ?_⟩
      have ho := h3 k hk
      rw [hkeep k (by rw [ho]; simp) (fun s hs => by rw [ho] at hs; injection hs with hs; subst hs; rw [hx]; rfl)]
      exact ho
  · intro b' T' ps' hb'
    rw [hbox] at hb'
    obtain ⟨h1, cs', h2, h3⟩ := R.boxes b' T' ps' hb'
    rw [hblk]
    exact ⟨by rw [hkeep _ (by rw [h1]; simp) (fun s hs => by rw [h1] at hs; cases hs)]; exact h1, cs', h2, h3.imp fun v c hcm h => hc c (by simpa using f2 (b', T', ps') (lk_mem hb') c hcm) v h⟩
  · intro x v' hxv T' d' hx
    have e : x ≠ r := hpin (x, v') hxv
    rw [hr' x e] at hx
    rw [hhdl x e]
    exact R.pin x v' hxv T' d' hx

open Classical in
/-- Blocks that nobody owns are read from now on. -/
theorem RelM.addFroz {C : Ctx} {M : Maps} {E : Env} {a : Act} {w : World} (R : RelM C M E a w) (S : Nat → Prop) (ho : ∀ k, S k → M.own k = .none) (hb : ∀ k, S k → C.base ≤ k) (hl : ∀ k, S k → k < w.heap.size) :
    RelM C { M with own := fun k => if S k then .froz else M.own k } E a w := by
  generalize hM : ({ M with own := fun k => if S k then .froz else M.own k } : Maps) = M'
  have hcase : ∀ k, (¬ S k ∧ M'.own k = M.own k) ∨ (S k ∧ M'.own k = .froz) := fun k => by
    by_cases e : S k
    · right; exact ⟨e, by subst hM; simp [e]⟩
    · left; exact ⟨e, by subst hM; simp [e]⟩
  have hown : ∀ k, M.own k ≠ .none → M'.own k = M.own k := fun k h => by
    rcases hcase k with ⟨_, e⟩ | ⟨e, _⟩
    · exact e
    · exact absurd (ho k e) h
  have hhdl : M'.hdl = M.hdl := by subst hM; rfl
  have hfp : M'.fp = M.fp := by subst hM; rfl
  have hblk : M'.blk = M.blk := by subst hM; rfl
  have hc : ∀ c : PC, ∀ v, COk M E w v c → COk M' E w v c := fun c v h => h.mono R (fun k hk => ⟨by rw [hown k (by rw [hk]; simp)]; exact hk, rfl⟩)
    (fun b' off e => by rw [hblk]) (fun x hx T d hT => ⟨hT, by rw [hhdl], fun _ _ => rfl⟩)
  refine { tn := R.tn, df := R.df, fr := R.fr, ba := R.ba, lt := ?_, z0 := ?_, zb := ?_, wr := ?_, tm := fun t => (R.tm t).mono fun c _ v h => hc c v h, rows := ?_, boxes := ?_, pin := ?_, bpin := by subst hM; exact R.bpin }
  · intro k hk
    rcases hcase k with ⟨_, e⟩ | ⟨e, _⟩
    · exact R.lt k (by rw [← e]; exact hk)
    · exact hl k e
  · intro k hk
    have := R.z0 k hk
    rw [hown k (by rw [this]; simp)]; exact this
  · intro k hk
    rcases hcase k with ⟨_, e⟩ | ⟨e, _⟩
    · exact R.zb k (by rw [← e]; exact hk)
    · exact .inr (hb k e)
  · intro k hk hk'
    rcases hcase k with ⟨_, e⟩ | ⟨_, e⟩
    · exact R.wr k (by rw [← e]; exact hk) (by rw [← e]; exact hk')
    · exact absurd e hk'
  · intro x T' d' hx
    obtain ⟨h1, h2, h3⟩ := R.rows x T' d' hx
    rw [hhdl, hfp]
    exact ⟨h1, h2, fun k hk => by rw [hown k (by rw [h3 k hk]; simp)]; exact h3 k hk⟩
  · intro b' T' ps' hb'
    obtain ⟨h1, cs', h2, h3⟩ := R.boxes b' T' ps' hb'
    rw [hblk]
    exact ⟨by rw [hown _ (by rw [h1]; simp)]; exact h1, cs', h2, h3.imp fun v c hcm h => hc c v h⟩
  · intro x v' hxv T' d' hx
    rw [hhdl]
    exact R.pin x v' hxv T' d' hx

/-- To know less. -/
def PC.le (c' c : PC) : Prop := c' = .und ∨ c' = c
def PV.le : PV → PV → Prop
  | .one c', .one c => c'.le c
  | .agg cs', .agg cs => All2 PC.le cs' cs
  | .tup vs', .tup vs => All2 (fun x y => x.1 = y.1 ∧ All2 PC.le x.2 y.2) vs' vs
  | .one .und, _ => True
  | _, _ => False
theorem All2.refl {α : Type} {R : α → α → Prop} (h : ∀ a, R a a) : ∀ l : List α, All2 R l l
  | [] => .nil
  | a :: l => .cons (h a) (All2.refl h l)
theorem PC.le_refl (c : PC) : c.le c := .inr rfl
theorem PV.le_refl (p : PV) : p.le p := by
  cases p with
  | one c => exact .inr rfl
  | agg cs => exact All2.refl PC.le_refl cs
  | tup vs => exact All2.refl (fun x => ⟨rfl, All2.refl PC.le_refl x.2⟩) vs
theorem PV.und_le (p : PV) : (PV.one .und).le p := by
  cases p with
  | one c => exact .inl rfl
  | agg cs => trivial
  | tup vs => trivial
structure Env.le (E' E : Env) : Prop where
  tm : ∀ t, (E'.get t).le (E.get t)
  rows : ∀ r x, E'.row r = some x → E.row r = some x
  boxes : ∀ b T ps', E'.box b = some (T, ps') → ∃ ps, E.box b = some (T, ps) ∧ All2 PC.le ps' ps
theorem COk.less {M : Maps} {E E' : Env} {w : World} (hr : ∀ r x, E'.row r = some x → E.row r = some x) {v : Value} {c c' : PC} (hl : c'.le c) (h : COk M E w v c) : COk M E' w v c' := by
  rcases hl with rfl | rfl
  · trivial
  · cases c' with
    | row r p => exact fun T d hT => h T d (hr r _ hT)
    | rptr r p i j => exact fun T d hT => h T d (hr r _ hT)
    | _ => exact h
theorem All2.less {M : Maps} {E E' : Env} {w : World} (hr : ∀ r x, E'.row r = some x → E.row r = some x) {ps ps' : List PC} (hl : All2 PC.le ps' ps) : ∀ {vs : List Value}, All2 (COk M E w) vs ps → All2 (COk M E' w) vs ps' := by
  induction hl with
  | nil => intro vs h; cases h; exact .nil
  | cons h1 _ ih => intro vs h; cases h with | cons k1 k2 => exact .cons (k1.less hr h1) (ih k2)
theorem TOk.less {M : Maps} {E E' : Env} {w : World} (hr : ∀ r x, E'.row r = some x → E.row r = some x) {x y : Bool × List PC} (hl : x.1 = y.1 ∧ All2 PC.le x.2 y.2) {v : Value} (h : TOk M E w v y) : TOk M E' w v x := by
  obtain ⟨b, cs⟩ := x
  obtain ⟨b', cs'⟩ := y
  obtain ⟨rfl, hl⟩ := hl
  match b, cs', h with
  | true, cs', ⟨arr, e, h⟩ => exact ⟨arr, e, All2.less hr hl h⟩
  | false, [c], h =>
    cases hl with
    | cons h1 h2 => cases h2; exact COk.less hr h1 h
theorem POk.less {M : Maps} {E E' : Env} {w : World} (hr : ∀ r x, E'.row r = some x → E.row r = some x) {p' p : PV} (hl : p'.le p) {v : Value} (h : POk M E w v p) : POk M E' w v p' := by
  cases p with
  | one c =>
    cases p' with
    | one c' => exact COk.less hr hl h
    | agg cs => exact hl.elim
    | tup vs => exact hl.elim
  | agg cs =>
    cases p' with
    | one c' => cases c' <;> first | trivial | exact hl.elim
    | agg cs' => obtain ⟨arr, e, h⟩ := h; exact ⟨arr, e, All2.less hr hl h⟩
    | tup vs => exact hl.elim
  | tup vs =>
    cases p' with
    | one c' => cases c' <;> first | trivial | exact hl.elim
    | agg cs => exact hl.elim
    | tup vs' =>
      obtain ⟨arr, e, h⟩ := h
      refine ⟨arr, e, ?_⟩
      have hl' : All2 (fun (x y : Bool × List PC) => x.1 = y.1 ∧ All2 PC.le x.2 y.2) vs' vs := hl
      clear hl e
      generalize arr.toList = l at h
      induction hl' generalizing l with
      | nil => cases h; exact .nil
      | cons h1 _ ih => cases h with | cons k1 k2 => exact .cons (k1.less hr h1) (ih _ k2)
theorem RelM.weaken {C : Ctx} {M : Maps} {E E' : Env} {a : Act} {w : World} (R : RelM C M E a w) (h : E'.le E) : RelM C M E' a w := by
  refine { R with tm := fun t => (R.tm t).less h.rows (h.tm t), rows := fun r T d hr => R.rows r T d (h.rows r _ hr), boxes := ?_, pin := fun r v hp T d hr => R.pin r v hp T d (h.rows r _ hr), bpin := fun b v hp hn T ps hb => by obtain ⟨ps0, hb0, _⟩ := h.boxes b T ps hb; exact R.bpin b v hp hn T ps0 hb0 }
  intro b T ps hb
  obtain ⟨ps0, hb0, hle⟩ := h.boxes b T ps hb
  obtain ⟨h1, cs, h2, h3⟩ := R.boxes b T ps0 hb0
  exact ⟨h1, cs, h2, All2.less h.rows hle h3⟩
theorem Rel.weaken {C : Ctx} {E E' : Env} {a : Act} {w : World} (R : Rel C E a w) (h : E'.le E) : Rel C E' a w := let ⟨M, R⟩ := R; ⟨M, R.weaken h⟩

/-! ### Every cell changed by a function -/
theorem All2.map_le {f : PC → PC} (hf : ∀ c, (f c).le c) : ∀ cs : List PC, All2 PC.le (cs.map f) cs
  | [] => .nil
  | c :: cs => .cons (hf c) (All2.map_le hf cs)
def PV.mapc (f : PC → PC) : PV → PV
  | .one c => .one (f c)
  | .agg cs => .agg (cs.map f)
  | .tup vs => .tup (vs.map fun y => (y.1, y.2.map f))
theorem PV.mapc_le {f : PC → PC} (hf : ∀ c, (f c).le c) (p : PV) : (p.mapc f).le p := by
  cases p with
  | one c => exact hf c
  | agg cs => exact All2.map_le hf cs
  | tup vs =>
    show All2 _ _ _
    induction vs with
    | nil => exact .nil
    | cons x vs ih => exact .cons ⟨rfl, All2.map_le hf x.2⟩ ih
/-- Each slot and each variable changed cell by cell. -/
def Env.mapc (E : Env) (f : PC → PC) : Env := { tm := E.tm.map fun x => (x.1, x.2.mapc f), rows := E.rows, boxes := E.boxes.map fun x => (x.1, (x.2.1, x.2.2.map f)) }
theorem Env.get_mapc (E : Env) (f : PC → PC) (hu : f .und = .und) (t : Nat) : (E.mapc f).get t = (E.get t).mapc f := by
  unfold Env.get Env.mapc
  simp only [lk_map]
  cases lk E.tm t with
  | none => simp [PV.mapc, hu]
  | some v => rfl
theorem Env.box_mapc (E : Env) (f : PC → PC) (b : Nat) : (E.mapc f).box b = (E.box b).map fun x => (x.1, x.2.map f) := by
  unfold Env.box Env.mapc
  exact lk_map (fun x : TypeId × List PC => (x.1, x.2.map f)) E.boxes b
theorem Env.mapc_le {f : PC → PC} (hf : ∀ c, (f c).le c) (E : Env) : (E.mapc f).le E := by
  have hu : f .und = .und := by rcases hf .und with h | h <;> exact h
  refine ⟨fun t => by rw [Env.get_mapc E f hu]; exact PV.mapc_le hf _, fun r x h => h, fun b T ps hb => ?_⟩
  rw [Env.box_mapc] at hb
  obtain ⟨⟨T', ps'⟩, h1, h2⟩ := Option.map_eq_some_iff.1 hb
  injection h2 with e1 e2
  subst e1 e2
  exact ⟨ps', h1, All2.map_le hf ps'⟩
theorem lk_filter {α : Type} (l : List (Nat × α)) (r t : Nat) : lk (l.filter fun x => x.1 != r) t = if t = r then none else lk l t := by
  induction l with
  | nil => simp [lk]
  | cons x l ih =>
    obtain ⟨k, v⟩ := x
    simp only [List.filter_cons]
    by_cases h : k = r
    · subst h
      simp only [bne_self_eq_false, Bool.false_eq_true, if_false, ih, lk]
      split
      · rfl
      · rename_i h; rw [if_neg (fun e => h e.symm)]
    · simp only [bne_iff_ne, ne_eq, h, not_false_eq_true, if_true, lk, ih]
      by_cases h2 : k = t
      · subst h2; rw [if_pos rfl, if_neg h, if_pos rfl]
      · rw [if_neg h2, if_neg h2]
/-- The row r is let go. -/
def Env.drop (E : Env) (r : Nat) : Env := { E.mapc (PC.kill r) with rows := E.rows.filter fun x => x.1 != r }
theorem PC.kill_le (r : Nat) (c : PC) : (c.kill r).le c := by
  unfold PC.kill
  split
  · exact .inl rfl
  · exact .inr rfl
theorem Env.drop_le (E : Env) (r : Nat) : (E.drop r).le E := by
  have h := Env.mapc_le (PC.kill_le r) E
  refine ⟨h.tm, fun x y hx => ?_, h.boxes⟩
  have : lk (E.rows.filter fun x => x.1 != r) x = some y := hx
  rw [lk_filter] at this
  split at this
  · exact absurd this (by simp)
  · exact this
theorem Env.drop_row (E : Env) (r : Nat) : (E.drop r).row r = none := by
  show lk (E.rows.filter fun x => x.1 != r) r = none
  rw [lk_filter, if_pos rfl]
theorem Env.drop_row' (E : Env) {r x : Nat} (h : x ≠ r) : (E.drop r).row x = E.row x := by
  show lk (E.rows.filter fun x => x.1 != r) x = _
  rw [lk_filter, if_neg h]; rfl

open Classical in
/-- A row is written, or made longer, or moved. -/
theorem RelM.upd {C : Ctx} {M : Maps} {E : Env} {a : Act} {w w' : World} (R : RelM C M E a w) {f : PC → PC} {r : Nat} {T T' : TypeId} {d d' : D} {v' : Value} {fp' : List Nat} (hr : E.row r = some (T, d)) (hfr : Frame_ C w') (hsz : w.heap.size ≤ w'.heap.size)
    (hk : ∀ k, M.own k ≠ .none → (∀ s, M.own k = .row s → s ≠ r ∧ (E.row s).isSome = true) → w'.heap[k]? = w.heap[k]?) (hrow : RowOk w' T' v' d' fp') (hnd : fp'.Nodup)
    (hfree : ∀ k ∈ fp', (M.own k = .none ∧ C.base ≤ k) ∨ ∃ s, M.own k = .row s ∧ (s = r ∨ E.row s = none)) (hpin : ∀ x ∈ C.pin, x.1 = r → v' = x.2)
    (hf : ∀ c, f c = .und ∨ (f c = c ∧ (c.ment r = false ∨ (v' = M.hdl r ∧ d'.size = d.size ∧ d'.z = d.z ∧ (c = .row r [] ∨ ∃ i j, c = .rptr r [] i j))))) :
    RelM C { M with hdl := fun x => if x = r then v' else M.hdl x, fp := fun x => if x = r then fp' else M.fp x, own := fun k => if k ∈ fp' then .row r else M.own k } { E.mapc f with rows := (r, (T', d')) :: E.rows } a w' := by
  generalize hM : ({ M with hdl := fun x => if x = r then v' else M.hdl x, fp := fun x => if x = r then fp' else M.fp x, own := fun k => if k ∈ fp' then .row r else M.own k } : Maps) = M'
  generalize hE : ({ E.mapc f with rows := (r, (T', d')) :: E.rows } : Env) = E'
  have hcase : ∀ k, (k ∉ fp' ∧ M'.own k = M.own k) ∨ (k ∈ fp' ∧ M'.own k = .row r) := fun k => by
    by_cases e : k ∈ fp'
    · right; exact ⟨e, by subst hM; simp [e]⟩
    · left; exact ⟨e, by subst hM; simp [e]⟩
  have hkeep : ∀ k, M.own k ≠ .none → (∀ s, M.own k = .row s → s ≠ r ∧ (E.row s).isSome = true) → M'.own k = M.own k := fun k h0 h1 => by
    rcases hcase k with ⟨_, e⟩ | ⟨e, _⟩
    · exact e
    · rcases hfree k e with ⟨h, _⟩ | ⟨s, h, h'⟩
      · exact absurd h h0
      · obtain ⟨k1, k2⟩ := h1 s h
        rcases h' with h' | h'
        · exact absurd h' k1
        · rw [h'] at k2; exact absurd k2 (by simp)
  have hr' : ∀ x, x ≠ r → E'.row x = E.row x := fun x hx => by subst hE; simp only [Env.row, lk, Env.mapc]; rw [if_neg (fun h => hx h.symm)]
  have hrr : E'.row r = some (T', d') := by subst hE; simp [Env.row, lk]
  have hu : f .und = .und := by rcases hf .und with h | ⟨h, _⟩ <;> exact h
  have hget : ∀ t, E'.get t = (E.get t).mapc f := fun t => by subst hE; exact Env.get_mapc E f hu t
  have hbox : ∀ t, E'.box t = (E.box t).map fun x => (x.1, x.2.map f) := fun t => by subst hE; exact Env.box_mapc E f t
  have hhdl : ∀ x, x ≠ r → M'.hdl x = M.hdl x := fun x hx => by subst hM; simp [hx]
  have hhr : M'.hdl r = v' := by subst hM; simp
  have hfp : ∀ x, x ≠ r → M'.fp x = M.fp x := fun x hx => by subst hM; simp [hx]
  have hfpr : M'.fp r = fp' := by subst hM; simp
  have hblk : M'.blk = M.blk := by subst hM; rfl
  have hfroz : ∀ k, M.own k = .froz → M'.own k = .froz ∧ w'.heap[k]? = w.heap[k]? := fun k h =>
    ⟨by rw [hkeep k (by rw [h]; simp) (fun s hs => by rw [h] at hs; cases hs)]; exact h, hk k (by rw [h]; simp) (fun s hs => by rw [h] at hs; cases hs)⟩
  have hlive : ∀ s, s ≠ r → ∀ T d, E.row s = some (T, d) → ∀ k ∈ M.fp s, M'.own k = .row s ∧ w'.heap[k]? = w.heap[k]? := fun s hs T d hT k hkf => by
    have ho := (R.rows s T d hT).2.2 k hkf
    have hc : ∀ s', M.own k = .row s' → s' ≠ r ∧ (E.row s').isSome = true := fun s' e => by rw [ho] at e; injection e with e; subst e; exact ⟨hs, by rw [hT]; rfl⟩
    exact ⟨by rw [hkeep k (by rw [ho]; simp) hc]; exact ho, hk k (by rw [ho]; simp) hc⟩
  have hbx : ∀ b T ps, E.box b = some (T, ps) → M'.own (M.blk b) = .box b ∧ w'.heap[M.blk b]? = w.heap[M.blk b]? := fun b T ps hb => by
    have ho := (R.boxes b T ps hb).1
    have hc : ∀ s', M.own (M.blk b) = .row s' → s' ≠ r ∧ (E.row s').isSome = true := fun s' e => by rw [ho] at e; cases e
    exact ⟨by rw [hkeep _ (by rw [ho]; simp) hc]; exact ho, hk _ (by rw [ho]; simp) hc⟩
  have hc : ∀ c : PC, ∀ v, COk M E w v c → COk M' E' w' v (f c) := fun c v h => by
    rcases hf c with e | ⟨e, e2⟩
    · rw [e]; trivial
    · rw [e]
      rcases e2 with e2 | ⟨e3, e4, e5, e6⟩
      · exact h.mono R hfroz (fun _ _ _ => by rw [hblk]) (fun x hx T d hT => by
          have hne : x ≠ r := by rintro rfl; rw [e2] at hx; cases hx
          have hT' : E.row x = some (T, d) := by rw [← hr' x hne]; exact hT
          exact ⟨hT', hhdl x hne, fun k hk => (hlive x hne T d hT' k hk).2⟩)
      · rcases e6 with rfl | ⟨i, j, rfl⟩
        · intro T2 d2 _
          have := h T d hr
          simp only [PathTo] at this ⊢
          rw [hhr, e3]; exact this
        · intro T2 d2 h2
          rw [hrr] at h2
          injection h2 with h2
          injection h2 with _ h2
          subst h2
          obtain ⟨g, cap, k1, k2, k3, k4⟩ := h T d hr
          refine ⟨g, cap, ?_, by simp only [D.at_] at k2 ⊢; rw [e4]; exact k2, by simp only [D.at_] at k3 ⊢; rw [e5]; exact k3, by simp only [D.at_] at k4 ⊢; rw [e5]; exact k4⟩
          simp only [PathTo, D.at_] at k1 ⊢
          rw [hhr, e3, e4]; exact k1
  have hall : ∀ (vs : List Value) (ps : List PC), All2 (COk M E w) vs ps → All2 (COk M' E' w') vs (ps.map f) := fun vs ps h => by
    induction h with
    | nil => exact .nil
    | cons h1 _ ih => exact .cons (hc _ _ h1) ih
  refine { tn := R.tn, df := R.df, fr := hfr, ba := Nat.le_trans R.ba hsz, lt := ?_, z0 := fun k hk => (hfroz k (R.z0 k hk)).1, zb := ?_, wr := ?_, tm := ?_, rows := ?_, boxes := ?_, pin := ?_, bpin := fun b v hp hn T ps hb => (by rw [hbox] at hb; obtain ⟨⟨T2, ps2⟩, h1, h2⟩ := Option.map_eq_some_iff.1 hb; rw [hblk]; exact R.bpin b v hp hn T2 ps2 h1) }
  · intro k hk
    rcases hcase k with ⟨_, e⟩ | ⟨e, _⟩
    · exact Nat.lt_of_lt_of_le (R.lt k (by rw [← e]; exact hk)) hsz
    · exact hrow.2.1.lt k e
  · intro k hk
    rcases hcase k with ⟨_, e⟩ | ⟨_, e⟩
    · exact R.zb k (by rw [← e]; exact hk)
    · rw [e] at hk; cases hk
  · intro k hk hk'
    rcases hcase k with ⟨_, e⟩ | ⟨e, _⟩
    · exact R.wr k (by rw [← e]; exact hk) (by rw [← e]; exact hk')
    · rcases hfree k e with ⟨_, h⟩ | ⟨s, h, _⟩
      · exact .inr h
      · exact R.wr k (by rw [h]; simp) (by rw [h]; simp)
  · intro t
    rw [hget]
    have h := R.tm t
    generalize E.get t = p at h
    cases p with
    | one c => exact hc c _ h
    | agg cs => obtain ⟨arr, e, h⟩ := h; exact ⟨arr, e, hall _ _ h⟩
    | tup vs =>
      obtain ⟨arr, e, h⟩ := h
      refine ⟨arr, e, ?_⟩
      clear e
      generalize arr.toList = l at h
      show All2 _ l (vs.map _)
      induction h with
      | nil => exact .nil
      | @cons v y l vs h1 _ ih =>
        refine .cons ?_ ih
        obtain ⟨b, cs⟩ := y
        match b, cs, h1 with
        | true, cs, ⟨arr', e', h'⟩ => exact ⟨arr', e', hall _ _ h'⟩
        | false, [c], h' => exact hc c _ h'
  · intro x Tx dx hx
    by_cases e : x = r
    · subst e
      rw [hrr] at hx
      injection hx with hx
      injection hx with e1 e2
      subst e1 e2
      rw [hhr, hfpr]
      exact ⟨hrow, hnd, fun k hk => by rcases hcase k with ⟨h, _⟩ | ⟨_, h⟩; exact absurd hk h; exact h⟩
    · rw [hr' x e] at hx
      obtain ⟨⟨h1, h2, h3⟩, h4, h5⟩ := R.rows x Tx dx hx
      have hl := hlive x e Tx dx hx
      rw [hhdl x e, hfp x e]
      refine ⟨⟨h1, h2.keep fun k hk => (hl k hk).2, fun ad n c hv => ?_⟩, h4, fun k hk => (hl k hk).1⟩
      obtain ⟨cs, fr, h6⟩ := h3 ad n c hv
      have hmem : ad.block ∈ M.fp x := by
        rw [hv] at h2
        generalize M.fp x = q at h2
        cases h2 with
        | val hv' _ => cases dx <;> simp [D.val] at hv'
        | sl _ _ _ _ _ _ _ _ => simp
      exact ⟨cs, fr, ((hl _ hmem).2).trans h6⟩
  · intro b Tb ps' hb
    rw [hbox] at hb
    obtain ⟨⟨T2, ps⟩, h1, h2⟩ := Option.map_eq_some_iff.1 hb
    injection h2 with e1 e2
    subst e1 e2
    obtain ⟨k1, cs, k2, k3⟩ := R.boxes b _ ps h1
    obtain ⟨k4, k5⟩ := hbx b _ ps h1
    rw [hblk]
    exact ⟨k4, cs, k5.trans k2, hall _ _ k3⟩
  · intro x v hxv Tx dx hx
    by_cases e : x = r
    · subst e; rw [hhr]; exact hpin (x, v) hxv rfl
    · rw [hr' x e] at hx
      rw [hhdl x e]
      exact R.pin x v hxv Tx dx hx

end Go.Proofs.Ytlcmflenbddliaa.Rf
