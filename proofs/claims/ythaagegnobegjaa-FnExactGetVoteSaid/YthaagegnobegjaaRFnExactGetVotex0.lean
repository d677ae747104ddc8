/- The functions that FnExactGetVote calls, each held to what it answers. Printed by a program of this session; Lean checks it. -/
import Derived.Test.YthaagegnobegjaaProg
import Derived.Test.YthaagegnobegjaaRf28
namespace Go.Proofs.Ythaagegnobegjaa.Rf
open Go.RowKit
set_option linter.unusedVariables false
set_option linter.unnecessarySimpa false
set_option linter.unusedSimpArgs false
set_option maxRecDepth 100000
set_option maxHeartbeats 4000000
@[ext] structure SLimits where
  f0 : Int
  f1 : Int
  f2 : Int
  f3 : Int
  f4 : Int
  deriving Inhabited, DecidableEq
def SLimits.cells (x : SLimits) : List D := [(.int .i64 x.f0), (.int .i64 x.f1), (.int .i64 x.f2), (.int .i64 x.f3), (.int .i64 x.f4)]
theorem SLimits.len (x : SLimits) : x.cells.length = 5 := rfl
def SLimits.sz (x : SLimits) (l : Int) : Int := l
def SLimits.sm (x : SLimits) : Prop := True
def SLimits.ok (x : SLimits) : Prop := (I64 x.f0) ∧ (I64 x.f1) ∧ (I64 x.f2) ∧ (I64 x.f3) ∧ (I64 x.f4)
theorem SLimits.sz_le (x : SLimits) {l : Int} (h : 0 ≤ l) : x.sz l ≤ l := by
  unfold SLimits.sz
  exact Int.le_refl _
theorem SLimits.sz_sm (x : SLimits) {l : Int} (h0 : 0 ≤ l) (hl : l ≤ 1048576) (h : 0 ≤ x.sz l) : x.sm := by
  unfold SLimits.sz at h
  exact trivial
def SLimits.cm (x : SLimits) : Int := 0
def SLimits.hm (a b : SLimits) (k : Int) : Prop := True
theorem SLimits.cm_nn (x : SLimits) : 0 ≤ x.cm := by
  unfold SLimits.cm
  omega
theorem SLimits.cm_le {x : SLimits} (h : x.sm) : x.cm ≤ 0 := by
  unfold SLimits.cm
  omega
def SLimits.ce (x : SLimits) : Int := 1 + 1 + 1 + 1 + 1
def SLimits.me (x : SLimits) (k : Int) : SLimits := ⟨k, k + 1, (k + 1) + 1, ((k + 1) + 1) + 1, (((k + 1) + 1) + 1) + 1⟩
theorem SLimits.ce_nn (x : SLimits) : 0 ≤ x.ce := by
  unfold SLimits.ce
  omega
theorem SLimits.ce_le {x : SLimits} (h : x.sm) : x.ce ≤ 5 := by
  unfold SLimits.ce
  omega
theorem SLimits.cL_le {xs : List SLimits} (h : xs.length ≤ 1048576 ∧ ∀ y ∈ xs, SLimits.sm y) : cntL SLimits.ce xs ≤ 5242880 := by
  have h1 := cntL_le (cnt := SLimits.ce) (n := 5) xs fun x hx => SLimits.ce_le (h.2 x hx)
  have h2 := h.1
  omega
@[ext] structure SVote where
  f0 : Int
  f1 : Int
  f2 : List Int
  f3 : Int
  f4 : List Int
  deriving Inhabited, DecidableEq
def SVote.cells (x : SVote) : List D := [(.int .i64 x.f0), (.int .i64 x.f1), (.ints .u8 x.f2), (.int .i64 x.f3), (.ints .u8 x.f4)]
theorem SVote.len (x : SVote) : x.cells.length = 5 := rfl
def SVote.sz (x : SVote) (l : Int) : Int := szThen (szB x.f2 l) fun l0 => szThen (szB x.f4 l0) fun l1 => l1
def SVote.sm (x : SVote) : Prop := (x.f2.length ≤ 1048576) ∧ (x.f4.length ≤ 1048576)
def SVote.ok (x : SVote) : Prop := (I64 x.f0) ∧ (I64 x.f1) ∧ (U8s x.f2) ∧ (I64 x.f3) ∧ (U8s x.f4)
theorem SVote.sz_le (x : SVote) {l : Int} (h : 0 ≤ l) : x.sz l ≤ l := by
  unfold SVote.sz
  exact szThen_le' (szB_le _ h) h fun l0 h0 => szThen_le' (szB_le _ h0) h0 fun l1 h1 => Int.le_refl _
theorem SVote.sz_sm (x : SVote) {l : Int} (h0 : 0 ≤ l) (hl : l ≤ 1048576) (h : 0 ≤ x.sz l) : x.sm := by
  unfold SVote.sz at h
  have ⟨p0, h⟩ := szThen_nn h
  have e0 : (szB x.f2 l) ≤ l := szB_le _ h0
  have s0 := szB_sm p0 hl
  have c0 := Int.le_trans e0 hl
  have ⟨p1, h⟩ := szThen_nn h
  have e1 : (szB x.f4 (szB x.f2 l)) ≤ (szB x.f2 l) := szB_le _ p0
  have s1 := szB_sm p1 c0
  have c1 := Int.le_trans e1 c0
  exact ⟨s0, s1⟩
def SVote.cm (x : SVote) : Int := (x.f2.length : Int) + (x.f4.length : Int)
def SVote.hm (a b : SVote) (k : Int) : Prop := (b.f2 = mkB a.f2 k) ∧ (b.f4 = mkB a.f4 (k + (a.f2.length : Int)))
theorem SVote.cm_nn (x : SVote) : 0 ≤ x.cm := by
  unfold SVote.cm
  omega
theorem SVote.cm_le {x : SVote} (h : x.sm) : x.cm ≤ 2097152 := by
  unfold SVote.cm
  obtain ⟨p2, p4⟩ := h
  have e2 := p2
  have e4 := p4
  omega
theorem SVote.sm_df : (default : SVote).sm := by (repeat' (first | exact Nat.zero_le _ | (intro y hy; exact absurd hy (List.not_mem_nil)) | apply And.intro))
def SVote.ce (x : SVote) : Int := 1 + 1 + (x.f2.length : Int) + 1 + (x.f4.length : Int)
def SVote.me (x : SVote) (k : Int) : SVote := ⟨k, k + 1, mkB x.f2 ((k + 1) + 1), ((k + 1) + 1) + (x.f2.length : Int), mkB x.f4 ((((k + 1) + 1) + (x.f2.length : Int)) + 1)⟩
theorem SVote.ce_nn (x : SVote) : 0 ≤ x.ce := by
  unfold SVote.ce
  omega
theorem SVote.ce_le {x : SVote} (h : x.sm) : x.ce ≤ 2097155 := by
  unfold SVote.ce
  obtain ⟨p2, p4⟩ := h
  have e2 := p2
  have e4 := p4
  omega
theorem SVote.cL_le {xs : List SVote} (h : xs.length ≤ 1048576 ∧ ∀ y ∈ xs, SVote.sm y) : cntL SVote.ce xs ≤ 2199026401280 := by
  have h1 := cntL_le (cnt := SVote.ce) (n := 2097155) xs fun x hx => SVote.ce_le (h.2 x hx)
  have h2 := h.1
  omega
def limOk (l : SLimits) : Bool := decide (1 ≤ l.f0 ∧ l.f0 ≤ 10) && decide (0 ≤ l.f1 ∧ l.f1 ≤ 40) && decide (0 ≤ l.f2 ∧ l.f2 ≤ 8) && decide (1 ≤ l.f3 ∧ l.f3 ≤ 4000) && decide (3 ≤ l.f4 ∧ l.f4 ≤ 5)
theorem limOk_n {l : SLimits} (h : limOk l = true) : 1 ≤ l.f0 ∧ l.f0 ≤ 10 := by simp [limOk] at h; omega
@[ext] structure SRS where
  f0 : Int
  f1 : Int
  deriving Inhabited, DecidableEq
theorem gv_cut {b : List Int} {a : Int} {i : Nat} (hi : i < 9) : ∃ d, 9 - i = d + 1 ∧ 9 - (i + 1) = d := ⟨8 - i, by omega, by omega⟩
theorem gvGo_short {b : List Int} {a n : Int} {i : Nat} (hi : i < 9) (h : (b.length : Int) ≤ a + i) : gvGo b a (9 - i) i n = (0, 0, 1) := by
  obtain ⟨d, e, _⟩ := gv_cut (b := b) (a := a) hi; rw [e, gvGo, if_pos h]
theorem gvGo_var {b : List Int} {a n : Int} {i : Nat} (hi : i < 9) (h : ¬ (b.length : Int) ≤ a + i) (h2 : (0 < i ∧ b.getD (a + i).toNat 0 = 0) ∨ (i = 8 ∧ 128 ≤ b.getD (a + i).toNat 0)) : gvGo b a (9 - i) i n = (0, 0, 2) := by
  obtain ⟨d, e, _⟩ := gv_cut (b := b) (a := a) hi; rw [e, gvGo, if_neg h, if_pos h2]
theorem gvGo_done {b : List Int} {a n : Int} {i : Nat} (hi : i < 9) (h : ¬ (b.length : Int) ≤ a + i) (h2 : ¬ ((0 < i ∧ b.getD (a + i).toNat 0 = 0) ∨ (i = 8 ∧ 128 ≤ b.getD (a + i).toNat 0))) (h3 : b.getD (a + i).toNat 0 < 128) (h4 : n + b.getD (a + i).toNat 0 % 128 * 128 ^ i ≤ 1152921504606846975) : gvGo b a (9 - i) i n = (n + b.getD (a + i).toNat 0 % 128 * 128 ^ i, a + i + 1, 0) := by
  obtain ⟨d, e, _⟩ := gv_cut (b := b) (a := a) hi; rw [e, gvGo, if_neg h, if_neg h2, if_pos h3, if_pos h4]
theorem gvGo_big {b : List Int} {a n : Int} {i : Nat} (hi : i < 9) (h : ¬ (b.length : Int) ≤ a + i) (h2 : ¬ ((0 < i ∧ b.getD (a + i).toNat 0 = 0) ∨ (i = 8 ∧ 128 ≤ b.getD (a + i).toNat 0))) (h3 : b.getD (a + i).toNat 0 < 128) (h4 : ¬ n + b.getD (a + i).toNat 0 % 128 * 128 ^ i ≤ 1152921504606846975) : gvGo b a (9 - i) i n = (0, 0, 2) := by
  obtain ⟨d, e, _⟩ := gv_cut (b := b) (a := a) hi; rw [e, gvGo, if_neg h, if_neg h2, if_pos h3, if_neg h4]
theorem gvGo_next {b : List Int} {a n : Int} {i : Nat} (hi : i < 9) (h : ¬ (b.length : Int) ≤ a + i) (h2 : ¬ ((0 < i ∧ b.getD (a + i).toNat 0 = 0) ∨ (i = 8 ∧ 128 ≤ b.getD (a + i).toNat 0))) (h3 : ¬ b.getD (a + i).toNat 0 < 128) : gvGo b a (9 - i) i n = gvGo b a (9 - (i + 1)) (i + 1) (n + b.getD (a + i).toNat 0 % 128 * 128 ^ i) := by
  obtain ⟨d, e, e2⟩ := gv_cut (b := b) (a := a) hi; rw [e, e2, gvGo, if_neg h, if_neg h2, if_neg h3]
theorem gvGo_end {b : List Int} {a n : Int} {i : Nat} (hi : ¬ i < 9) : gvGo b a (9 - i) i n = (0, 0, 2) := by rw [show 9 - i = 0 from by omega]; rfl
theorem getVar_in {b : List Int} {a : Int} (h : 0 ≤ a ∧ a ≤ (b.length : Int)) : getVar b a = gvGo b a 9 0 0 := if_pos h
theorem getVar_out {b : List Int} {a : Int} (h : ¬ (0 ≤ a ∧ a ≤ (b.length : Int))) : getVar b a = (0, 0, 1) := if_neg h
def getRaw (b : List Int) (a n : Int) : List Int × Int × Int := if 0 ≤ a ∧ a ≤ (b.length : Int) ∧ 0 ≤ n ∧ n ≤ (b.length : Int) - a then ((b.drop a.toNat).take ((a + n).toNat - a.toNat), a + n, 0) else ([], 0, 1)
theorem getRaw_bd (b : List Int) (a n : Int) : (getRaw b a n).1.length ≤ b.length ∧ 0 ≤ (getRaw b a n).2.1 ∧ (getRaw b a n).2.1 ≤ b.length ∧ (n ≤ 0 → (getRaw b a n).1.length = 0) ∧ (0 ≤ n → ((getRaw b a n).1.length : Int) ≤ n) := by
  unfold getRaw
  split
  · simp only [List.length_take, List.length_drop]; omega
  · simp
theorem getRaw_u8 {b : List Int} (h : U8s b) (a n : Int) : U8s (getRaw b a n).1 := by
  unfold getRaw
  split
  · exact fun x hx => h x (List.mem_of_mem_drop (List.mem_of_mem_take hx))
  · exact fun x hx => by cases hx
def getText (b : List Int) (a m : Int) : List Int × Int × Int := if (getVar b a).2.2 = 0 then (if m < (getVar b a).1 then ([], 0, 3) else getRaw b (getVar b a).2.1 (getVar b a).1) else ([], 0, (getVar b a).2.2)
theorem getText_bd (b : List Int) (a m : Int) : (getText b a m).1.length ≤ b.length ∧ 0 ≤ (getText b a m).2.1 ∧ (getText b a m).2.1 ≤ b.length := by
  unfold getText
  split
  · split
    · simp
    · have := getRaw_bd b (getVar b a).2.1 (getVar b a).1; omega
  · simp
def rs0 (l : SLimits) (a : Int) : SRS := ⟨a, if limOk l = true then 0 else 5⟩
theorem rs0_ok {l : SLimits} {a : Int} (h : limOk l = true) : rs0 l a = ⟨a, 0⟩ := by rw [rs0, if_pos h]
theorem rs0_no {l : SLimits} {a : Int} (h : limOk l = false) : rs0 l a = ⟨a, 5⟩ := by rw [rs0, h]; rfl
def rdMust (s : SRS) (k : Bool) (c : Int) : SRS := if s.f1 = 0 ∧ k = false then ⟨s.f0, c⟩ else s
def rdNum (b : List Int) (s : SRS) : SRS × Int := if s.f1 = 0 then (⟨(getVar b s.f0).2.1, (getVar b s.f0).2.2⟩, (getVar b s.f0).1) else (s, 0)
def rdRaw (b : List Int) (s : SRS) (n : Int) : SRS × List Int := if s.f1 = 0 then (⟨(getRaw b s.f0 n).2.1, (getRaw b s.f0 n).2.2⟩, (getRaw b s.f0 n).1) else (s, [])
def rdText (b : List Int) (s : SRS) (m : Int) : SRS × List Int := if s.f1 = 0 then (⟨(getText b s.f0 m).2.1, (getText b s.f0 m).2.2⟩, (getText b s.f0 m).1) else (s, [])
def rdBelow (b : List Int) (s : SRS) (n c : Int) : SRS × Int := (rdMust (rdNum b s).1 (decide ((rdNum b s).2 < n)) c, (rdNum b s).2)
theorem rdMust_er {s : SRS} {k : Bool} {c : Int} (h : ¬ s.f1 = 0) : rdMust s k c = s := by rw [rdMust, if_neg (fun x => h x.1)]
theorem rdMust_hit {s : SRS} {k : Bool} {c : Int} (h : s.f1 = 0) (hk : k = false) : rdMust s k c = ⟨s.f0, c⟩ := by rw [rdMust, if_pos ⟨h, hk⟩]
theorem rdMust_ok {s : SRS} {k : Bool} {c : Int} (hk : k = true) : rdMust s k c = s := by subst hk; rw [rdMust, if_neg (fun x => by cases x.2)]
theorem rdNum_er {b : List Int} {s : SRS} (h : ¬ s.f1 = 0) : rdNum b s = (s, 0) := if_neg h
theorem rdRaw_er {b : List Int} {s : SRS} {n : Int} (h : ¬ s.f1 = 0) : rdRaw b s n = (s, []) := if_neg h
theorem rdText_er {b : List Int} {s : SRS} {n : Int} (h : ¬ s.f1 = 0) : rdText b s n = (s, []) := if_neg h
theorem rdBelow_er {b : List Int} {s : SRS} {n c : Int} (h : ¬ s.f1 = 0) : rdBelow b s n c = (s, 0) := by unfold rdBelow; rw [rdNum_er h]; rw [rdMust_er h]
theorem rdNum_bd {b : List Int} (hb : U8s b) (s : SRS) : 0 ≤ (rdNum b s).2 ∧ (rdNum b s).2 ≤ 1152921504606846975 := by
  unfold rdNum
  split
  · have := getVar_bd hb s.f0; dsimp only; omega
  · simp
theorem rdRaw_len (b : List Int) (s : SRS) (n : Int) : (rdRaw b s n).2.length ≤ b.length ∧ (0 ≤ n → ((rdRaw b s n).2.length : Int) ≤ n) := by
  unfold rdRaw
  split
  · have := getRaw_bd b s.f0 n; exact ⟨this.1, this.2.2.2.2⟩
  · simp
theorem rdText_len (b : List Int) (s : SRS) (n : Int) : (rdText b s n).2.length ≤ b.length := by
  unfold rdText
  split
  · exact (getText_bd b s.f0 n).1
  · simp
def getOut {α : Type} (r : SRS × α) (d : α) : α × Int × Int := if r.1.f1 = 0 then (r.2, r.1.f0, 0) else (d, 0, r.1.f1)
theorem getOut_yes {α : Type} {r : SRS × α} {d : α} (h : ¬ r.1.f1 ≠ 0) : getOut r d = (r.2, r.1.f0, 0) := if_pos (Decidable.not_not.1 h)
theorem getOut_no {α : Type} {r : SRS × α} {d : α} (h : r.1.f1 ≠ 0) : getOut r d = (d, 0, r.1.f1) := if_neg h
theorem getOut_pr {α : Type} {p : α → Prop} {r : SRS × α} {d : α} (h1 : p r.2) (h2 : p d) : p (getOut r d).1 := by unfold getOut; split <;> assumption
theorem getOut_nr {α : Type} {r : SRS × α} {d : α} {s : SRS} (h : r.1 = s) (h5 : s.f1 = 5) : getOut r d = (d, 0, 5) := by rw [getOut_no (by rw [h, h5]; decide), h, h5]
def rdVote (l : SLimits) (b : List Int) (s : SRS) : SRS × SVote :=
  let r1 := rdNum b s
  let r2 := rdNum b r1.1
  let r3 := rdRaw b r2.1 32
  let r4 := rdBelow b r3.1 l.f0 5
  let r5 := rdRaw b r4.1 32
  (r5.1, ⟨r1.2, r2.2, r3.2, r4.2, r5.2⟩)
def getVote (l : SLimits) (b : List Int) (a : Int) : SVote × Int × Int := getOut (rdVote l b (rs0 l a)) default
theorem rdVote_er {l : SLimits} {b : List Int} {s : SRS} (h : ¬ s.f1 = 0) : (rdVote l b s).1 = s := by
  simp only [rdVote, rdNum_er h, rdRaw_er h, rdBelow_er h]
theorem rdVote_sm {l : SLimits} {b : List Int} {s : SRS} (h : b.length ≤ 1048576) : (rdVote l b s).2.sm := ⟨Nat.le_trans (rdRaw_len _ _ _).1 h, Nat.le_trans (rdRaw_len _ _ _).1 h⟩
theorem getVote_sm {l : SLimits} {b : List Int} (a : Int) (h : b.length ≤ 1048576) : (getVote l b a).1.sm := getOut_pr (p := SVote.sm) (rdVote_sm h) SVote.sm_df

theorem ok_laws_toLimits (a : SLimits) : RO Try.prog 26 [.agg a.cells] [(true, [.rd (.int .i64 a.f0), .rd (.int .i64 a.f1), .rd (.int .i64 a.f2), .rd (.int .i64 a.f3), .rd (.int .i64 a.f4)])] := by
 refine RO.intro Try.func26 rfl 20 rfl (le_ok rfl) fun w Z => ?_
 refine T.seq ?_
 refine T.region ?_
 refine TL.cons rfl (Step.box (p := (.agg [.d (.int .i64 a.f0), .d (.int .i64 a.f1), .d (.int .i64 a.f2), .d (.int .i64 a.f3), .d (.int .i64 a.f4)])) (ps := [.d (.int .i64 a.f0), .d (.int .i64 a.f1), .d (.int .i64 a.f2), .d (.int .i64 a.f3), .d (.int .i64 a.f4)]) rfl rfl (lt_ok rfl) rfl rfl rfl rfl rfl) ?_
 refine TL.cons rfl (Step.alloc (cs := [.int .i64 0, .int .i64 0, .int .i64 0, .int .i64 0, .int .i64 0]) (ps := [.d (.int .i64 0), .d (.int .i64 0), .d (.int .i64 0), .d (.int .i64 0), .d (.int .i64 0)]) rfl rfl (lt_ok rfl) (by kernel_rfl) rfl rfl rfl rfl) ?_
 refine TL.nil ?_
 refine T.seq ?_
 refine T.region ?_
 refine TL.cons rfl (Step.alloc (cs := [.int .i64 0, .int .i64 0, .int .i64 0, .int .i64 0, .int .i64 0]) (ps := [.d (.int .i64 0), .d (.int .i64 0), .d (.int .i64 0), .d (.int .i64 0), .d (.int .i64 0)]) rfl rfl (lt_ok rfl) (by kernel_rfl) rfl rfl rfl rfl) ?_
 refine TL.nil ?_
 refine T.seq ?_
 refine T.region ?_
 refine TL.cons rfl (Step.fieldAddr (q := 0) (off := 0) (n := 1) (one := true) rfl rfl (lt_ok rfl) (by kernel_rfl) (Nat.succ_ne_zero _) rfl) ?_
 refine TL.cons rfl (Step.load_box (c := .d (.int .i64 a.f0)) rfl rfl (lt_ok rfl) (by kernel_rfl) rfl rfl rfl) ?_
 refine TL.cons rfl (Step.fieldAddr (q := 0) (off := 0) (n := 1) (one := true) rfl rfl (lt_ok rfl) (by kernel_rfl) (Nat.succ_ne_zero _) rfl) ?_
 refine TL.cons rfl (Step.store_box (n := 1) (p := (.one (.d (.int .i64 a.f0)))) (qs := [.d (.int .i64 a.f0)]) (ps' := [.d (.int .i64 a.f0), .d (.int .i64 0), .d (.int .i64 0), .d (.int .i64 0), .d (.int .i64 0)]) rfl rfl (by kernel_rfl) rfl rfl rfl rfl rfl rfl (le_ok rfl) rfl) ?_
 refine TL.nil ?_
 refine T.seq ?_
 refine T.region ?_
 refine TL.cons rfl (Step.fieldAddr (q := 0) (off := 1) (n := 1) (one := true) rfl rfl (lt_ok rfl) (by kernel_rfl) (Nat.succ_ne_zero _) rfl) ?_
 refine TL.cons rfl (Step.load_box (c := .d (.int .i64 a.f1)) rfl rfl (lt_ok rfl) (by kernel_rfl) rfl rfl rfl) ?_
 refine TL.cons rfl (Step.fieldAddr (q := 0) (off := 1) (n := 1) (one := true) rfl rfl (lt_ok rfl) (by kernel_rfl) (Nat.succ_ne_zero _) rfl) ?_
 refine TL.cons rfl (Step.store_box (n := 1) (p := (.one (.d (.int .i64 a.f1)))) (qs := [.d (.int .i64 a.f1)]) (ps' := [.d (.int .i64 a.f0), .d (.int .i64 a.f1), .d (.int .i64 0), .d (.int .i64 0), .d (.int .i64 0)]) rfl rfl (by kernel_rfl) rfl rfl rfl rfl rfl rfl (le_ok rfl) rfl) ?_
 refine TL.nil ?_
 refine T.seq ?_
 refine T.region ?_
 refine TL.cons rfl (Step.fieldAddr (q := 0) (off := 2) (n := 1) (one := true) rfl rfl (lt_ok rfl) (by kernel_rfl) (Nat.succ_ne_zero _) rfl) ?_
 refine TL.cons rfl (Step.load_box (c := .d (.int .i64 a.f2)) rfl rfl (lt_ok rfl) (by kernel_rfl) rfl rfl rfl) ?_
 refine TL.cons rfl (Step.fieldAddr (q := 0) (off := 2) (n := 1) (one := true) rfl rfl (lt_ok rfl) (by kernel_rfl) (Nat.succ_ne_zero _) rfl) ?_
 refine TL.cons rfl (Step.store_box (n := 1) (p := (.one (.d (.int .i64 a.f2)))) (qs := [.d (.int .i64 a.f2)]) (ps' := [.d (.int .i64 a.f0), .d (.int .i64 a.f1), .d (.int .i64 a.f2), .d (.int .i64 0), .d (.int .i64 0)]) rfl rfl (by kernel_rfl) rfl rfl rfl rfl rfl rfl (le_ok rfl) rfl) ?_
 refine TL.nil ?_
 refine T.seq ?_
 refine T.region ?_
 refine TL.cons rfl (Step.fieldAddr (q := 0) (off := 3) (n := 1) (one := true) rfl rfl (lt_ok rfl) (by kernel_rfl) (Nat.succ_ne_zero _) rfl) ?_
 refine TL.cons rfl (Step.load_box (c := .d (.int .i64 a.f3)) rfl rfl (lt_ok rfl) (by kernel_rfl) rfl rfl rfl) ?_
 refine TL.cons rfl (Step.fieldAddr (q := 0) (off := 3) (n := 1) (one := true) rfl rfl (lt_ok rfl) (by kernel_rfl) (Nat.succ_ne_zero _) rfl) ?_
 refine TL.cons rfl (Step.store_box (n := 1) (p := (.one (.d (.int .i64 a.f3)))) (qs := [.d (.int .i64 a.f3)]) (ps' := [.d (.int .i64 a.f0), .d (.int .i64 a.f1), .d (.int .i64 a.f2), .d (.int .i64 a.f3), .d (.int .i64 0)]) rfl rfl (by kernel_rfl) rfl rfl rfl rfl rfl rfl (le_ok rfl) rfl) ?_
 refine TL.nil ?_
 refine T.seq ?_
 refine T.region ?_
 refine TL.cons rfl (Step.fieldAddr (q := 0) (off := 4) (n := 1) (one := true) rfl rfl (lt_ok rfl) (by kernel_rfl) (Nat.succ_ne_zero _) rfl) ?_
 refine TL.cons rfl (Step.load_box (c := .d (.int .i64 a.f4)) rfl rfl (lt_ok rfl) (by kernel_rfl) rfl rfl rfl) ?_
 refine TL.cons rfl (Step.fieldAddr (q := 0) (off := 4) (n := 1) (one := true) rfl rfl (lt_ok rfl) (by kernel_rfl) (Nat.succ_ne_zero _) rfl) ?_
 refine TL.cons rfl (Step.store_box (n := 1) (p := (.one (.d (.int .i64 a.f4)))) (qs := [.d (.int .i64 a.f4)]) (ps' := [.d (.int .i64 a.f0), .d (.int .i64 a.f1), .d (.int .i64 a.f2), .d (.int .i64 a.f3), .d (.int .i64 a.f4)]) rfl rfl (by kernel_rfl) rfl rfl rfl rfl rfl rfl (le_ok rfl) rfl) ?_
 refine TL.nil ?_
 refine T.seq ?_
 refine T.region ?_
 refine TL.cons rfl (Step.load_box_agg (n := 5) (qs := [.d (.int .i64 a.f0), .d (.int .i64 a.f1), .d (.int .i64 a.f2), .d (.int .i64 a.f3), .d (.int .i64 a.f4)]) rfl rfl (lt_ok rfl) (by kernel_rfl) rfl rfl rfl rfl) ?_
 refine TL.cons rfl (Step.store_box (n := 5) (p := (.agg [.d (.int .i64 a.f0), .d (.int .i64 a.f1), .d (.int .i64 a.f2), .d (.int .i64 a.f3), .d (.int .i64 a.f4)])) (qs := [.d (.int .i64 a.f0), .d (.int .i64 a.f1), .d (.int .i64 a.f2), .d (.int .i64 a.f3), .d (.int .i64 a.f4)]) (ps' := [.d (.int .i64 a.f0), .d (.int .i64 a.f1), .d (.int .i64 a.f2), .d (.int .i64 a.f3), .d (.int .i64 a.f4)]) rfl rfl (by kernel_rfl) rfl rfl rfl rfl rfl rfl (le_ok rfl) rfl) ?_
 refine TL.nil ?_
 refine T.ret ?_
 exact ⟨[(true, [.d (.int .i64 a.f0), .d (.int .i64 a.f1), .d (.int .i64 a.f2), .d (.int .i64 a.f3), .d (.int .i64 a.f4)])], (.cons rfl .nil), rfl, [], (RetC.rd' (by rfl) (RetC.rd' (by rfl) (RetC.rd' (by rfl) (RetC.rd' (by rfl) (RetC.rd' (by rfl) .nil)))))⟩
theorem ok_laws_eqByteS (a : List Int) (b : List Int) : RO Try.prog 29 [.one (.ints .u8 a), .one (.ints .u8 b)] [(false, [.rd (.bool (decide (a = b)))])] := by
 refine RO.intro Try.func29 rfl 26 rfl (le_ok rfl) fun w Z => ?_
 refine T.bnd 0 0 rfl rfl fun hb_0_0 => ?_
 simp only [D.size, List.length_map] at hb_0_0
 refine T.bnd 1 0 rfl rfl fun hb_1_0 => ?_
 simp only [D.size, List.length_map] at hb_1_0
 refine T.seq ?_
 refine T.region ?_
 refine TL.cons rfl (Step.assign (p := (.one (.d (.bool false)))) rfl rfl (lt_ok rfl) rfl) ?_
 refine TL.nil ?_
 refine T.seq ?_
 refine T.seq ?_
 refine T.region ?_
 refine TL.cons rfl (Step.move (p := (.one (.d (.ints .u8 a)))) rfl rfl (lt_ok rfl) rfl) ?_
 refine TL.cons rfl (Step.len (e := 5) (z := 1) (d := (.ints .u8 a)) rfl rfl (lt_ok rfl) (by kernel_rfl) rfl rfl) ?_
 refine TL.cons rfl (Step.move (p := (.one (.d (.ints .u8 b)))) rfl rfl (lt_ok rfl) rfl) ?_
 refine TL.cons rfl (Step.len (e := 5) (z := 1) (d := (.ints .u8 b)) rfl rfl (lt_ok rfl) (by kernel_rfl) rfl rfl) ?_
 refine TL.cons rfl (Step.bin rfl rfl (lt_ok rfl) rfl rfl (Bin.neq (k := .i64) (a := (a.length : Int)) (b := (b.length : Int)))) ?_
 refine TL.nil ?_
 refine T.cond (b := decide ((a.length : Int) ≠ (b.length : Int))) rfl (fun h1 => ?_) (fun h1 => ?_)
 ·
  replace h1 := of_decide_eq_true h1
  refine T.seq ?_
  refine T.region ?_
  refine TL.cons rfl (Step.assign (p := (.one (.d (.bool false)))) rfl rfl (lt_ok rfl) rfl) ?_
  refine TL.nil ?_
  refine T.ret ?_
  exact ⟨[(false, [.d (.bool false)])], (.cons rfl .nil), rfl, [], (RetC.rd' (by (congr 1; symm; first | (apply decide_eq_false; rintro rfl; first | exact absurd rfl ‹¬ _ = _› | exact absurd rfl (of_decide_eq_false (by assumption)) | contradiction | simp_all) | (apply decide_eq_true; exact take_all hx2 (by omega) hx3))) .nil)⟩
 ·
  replace h1 := of_decide_eq_false h1
  refine T.skip ?_
  refine T.seq ?_
  refine T.seq ?_
  refine T.region ?_
  refine TL.cons rfl (Step.assign (p := (.one (.d (.int .i64 0)))) rfl rfl (lt_ok rfl) rfl) ?_
  refine TL.nil ?_
  refine T.block ?_
  refine T.loop (ι := Nat) (fun xx_ => { tm := [(0, (.one (.d (.ints .u8 a)))), (1, (.one (.d (.ints .u8 b)))), (5, (.one (.d (.int .i64 (xx_ : Int)))))], rows := [], boxes := [] }) (fun xx_ => xx_ ≤ a.length ∧ a.length = b.length ∧ a.take xx_ = b.take xx_) (fun xx_ => a.length - xx_) 0 ?_ ?_ ?_
  · exact Env.le_mk ⟨rfl, rfl, by first | rfl | (simp; done) | (congr 3; omega), trivial⟩ trivial trivial
  · (refine ⟨Nat.zero_le _, by omega, by simp⟩)
  ·
   intro i hx
   try dsimp only at hx ⊢
   obtain ⟨hx1, hx2, hx3⟩ := hx
   refine T.seq ?_
   refine T.seq ?_
   refine T.region ?_
   refine TL.cons rfl (Step.move (p := (.one (.d (.int .i64 (i : Int))))) rfl rfl (lt_ok rfl) rfl) ?_
   refine TL.cons rfl (Step.move (p := (.one (.d (.ints .u8 a)))) rfl rfl (lt_ok rfl) rfl) ?_
   refine TL.cons rfl (Step.len (e := 5) (z := 1) (d := (.ints .u8 a)) rfl rfl (lt_ok rfl) (by kernel_rfl) rfl rfl) ?_
   refine TL.cons rfl (Step.bin rfl rfl (lt_ok rfl) rfl rfl (Bin.lss (k := .i64) (a := (i : Int)) (b := (a.length : Int)))) ?_
   refine TL.nil ?_
   refine T.cond (b := decide ((i : Int) < (a.length : Int))) rfl (fun h2 => ?_) (fun h2 => ?_)
   ·
    replace h2 := of_decide_eq_true h2
    refine T.skip ?_
    refine T.seq ?_
    refine T.block ?_
    refine T.seq ?_
    refine T.draw [⟨17, (.one (.d (.ints .u8 a))), []⟩, ⟨18, (.one (.d (.int .i64 (i : Int)))), []⟩, ⟨19, (.one (.eptr (.ints .u8 a) i 0)), []⟩, ⟨20, (.one (.d (.int .u8 (a.getD i 0)))), []⟩, ⟨21, (.one (.d (.ints .u8 b))), []⟩, ⟨22, (.one (.d (.int .i64 (i : Int)))), []⟩, ⟨23, (.one (.eptr (.ints .u8 b) i 0)), []⟩, ⟨24, (.one (.d (.int .u8 (b.getD i 0)))), []⟩, ⟨25, (.one (.d (.bool (decide ((a.getD i 0) ≠ (b.getD i 0)))))), []⟩] (by kernel_rfl) (by kernel_rfl) ?_ ?_
    ·
     refine .cons (fun E hA_ => by have g0 := hA_.get 0 (by decide); exact OpStep.plain rfl (Step.move (p := (.one (.d (.ints .u8 a)))) (t := 17) rfl rfl (by exact lt_ok rfl) (show Env.ev E (.tmp 0) = _ from g0.trans rfl))) ?_
     refine .cons (fun E hA_ => by have g5 := hA_.get 5 (by decide); exact OpStep.plain rfl (Step.move (p := (.one (.d (.int .i64 (i : Int))))) (t := 18) rfl rfl (by exact lt_ok rfl) (show Env.ev E (.tmp 5) = _ from g5.trans rfl))) ?_
     refine .cons (fun E hA_ => by have g17 := hA_.get 17 (by decide); have g18 := hA_.get 18 (by decide); exact OpStep.plain rfl (Step.index (e := 5) (z := 1) (i := (i : Int)) (t := 19) rfl rfl (by exact lt_ok rfl) (by kernel_rfl) (show Env.ev E (.tmp 17) = _ from g17.trans rfl) rfl rfl (lt_ok rfl) (show Env.ev E (.tmp 18) = _ from g18.trans rfl) (by first | omega | (simp; omega)) (by simp only [D.size]; first | omega | (simp; omega)))) ?_
     refine .cons (fun E hA_ => by have g19 := hA_.get 19 (by decide); exact OpStep.plain rfl (Step.load (e := (.int .u8 (a.getD i 0))) (t := 20) rfl rfl (by exact lt_ok rfl) (by kernel_rfl) (show Env.ev E (.tmp 19) = _ from g19.trans rfl) rfl)) ?_
     refine .cons (fun E hA_ => by have g1 := hA_.get 1 (by decide); exact OpStep.plain rfl (Step.move (p := (.one (.d (.ints .u8 b)))) (t := 21) rfl rfl (by exact lt_ok rfl) (show Env.ev E (.tmp 1) = _ from g1.trans rfl))) ?_
     refine .cons (fun E hA_ => by have g5 := hA_.get 5 (by decide); exact OpStep.plain rfl (Step.move (p := (.one (.d (.int .i64 (i : Int))))) (t := 22) rfl rfl (by exact lt_ok rfl) (show Env.ev E (.tmp 5) = _ from g5.trans rfl))) ?_
     refine .cons (fun E hA_ => by have g21 := hA_.get 21 (by decide); have g22 := hA_.get 22 (by decide); exact OpStep.plain rfl (Step.index (e := 5) (z := 1) (i := (i : Int)) (t := 23) rfl rfl (by exact lt_ok rfl) (by kernel_rfl) (show Env.ev E (.tmp 21) = _ from g21.trans rfl) rfl rfl (lt_ok rfl) (show Env.ev E (.tmp 22) = _ from g22.trans rfl) (by first | omega | (simp; omega)) (by simp only [D.size]; first | omega | (simp; omega)))) ?_
     refine .cons (fun E hA_ => by have g23 := hA_.get 23 (by decide); exact OpStep.plain rfl (Step.load (e := (.int .u8 (b.getD i 0))) (t := 24) rfl rfl (by exact lt_ok rfl) (by kernel_rfl) (show Env.ev E (.tmp 23) = _ from g23.trans rfl) rfl)) ?_
     refine .cons (fun E hA_ => by have g20 := hA_.get 20 (by decide); have g24 := hA_.get 24 (by decide); exact OpStep.plain rfl (Step.bin (t := 25) rfl rfl (by exact lt_ok rfl) (show Env.ev E (.tmp 20) = _ from g20.trans rfl) (show Env.ev E (.tmp 24) = _ from g24.trans rfl) (Bin.neq (k := .u8) (a := (a.getD i 0)) (b := (b.getD i 0))))) ?_
     exact .nil _ _
    refine TL.nil ?_
    refine T.cond (b := decide ((a.getD i 0) ≠ (b.getD i 0))) rfl (fun h3 => ?_) (fun h3 => ?_)
    ·
     replace h3 := of_decide_eq_true h3
     refine T.seq ?_
     refine T.region ?_
     refine TL.cons rfl (Step.assign (p := (.one (.d (.bool false)))) rfl rfl (lt_ok rfl) rfl) ?_
     refine TL.nil ?_
     refine T.ret ?_
     exact ⟨[(false, [.d (.bool false)])], (.cons rfl .nil), rfl, [], (RetC.rd' (by (congr 1; symm; first | (apply decide_eq_false; rintro rfl; first | exact absurd rfl ‹¬ _ = _› | exact absurd rfl (of_decide_eq_false (by assumption)) | contradiction | simp_all) | (apply decide_eq_true; exact take_all hx2 (by omega) hx3))) .nil)⟩
    ·
     replace h3 := of_decide_eq_false h3
     refine T.skip ?_
     refine T.region ?_
     refine TL.cons rfl (Step.move (p := (.one (.d (.int .i64 (i : Int))))) rfl rfl (lt_ok rfl) rfl) ?_
     refine TL.cons rfl (Step.bin (r := .int .i64 ((i : Int) + 1)) rfl rfl (lt_ok rfl) rfl rfl (Bin.add (a := (i : Int)) (b := 1) (by first | exact wrap_ok (by first | omega | (simp; omega)) (by first | omega | (simp; omega)) | rfl))) ?_
     refine TL.cons rfl (Step.assign (p := (.one (.d (.int .i64 ((i : Int) + 1))))) rfl rfl (lt_ok rfl) rfl) ?_
     refine TL.nil ?_
     exact ⟨i + 1, by (refine ⟨by omega, hx2, take_step (d := 0) hx2 (by omega) hx3 (by first | assumption | exact Decidable.not_not.1 (by assumption) | omega)⟩), by omega, Env.le_mk ⟨rfl, rfl, by first | rfl | (simp; done) | (congr 3; omega), trivial⟩ trivial trivial⟩
   ·
    replace h2 := of_decide_eq_false h2
    refine T.exit ?_
    refine T.seq ?_
    refine T.region ?_
    refine TL.cons rfl (Step.assign (p := (.one (.d (.bool true)))) rfl rfl (lt_ok rfl) rfl) ?_
    refine TL.nil ?_
    refine T.ret ?_
    exact ⟨[(false, [.d (.bool true)])], (.cons rfl .nil), rfl, [], (RetC.rd' (by (congr 1; symm; first | (apply decide_eq_false; rintro rfl; first | exact absurd rfl ‹¬ _ = _› | exact absurd rfl (of_decide_eq_false (by assumption)) | contradiction | simp_all) | (apply decide_eq_true; exact take_all hx2 (by omega) hx3))) .nil)⟩
theorem ok_laws_markByteS (a : List Int) (k : Int) (h0_ : 0 ≤ k) (h1_ : k + (a.length : Int) ≤ 4611686018427387904) : MK Try.prog 32 [.one (.mk (.ints .u8 a) (.ints .u8 (mkB a k))), .one (.rd (.int .i64 k))] [(false, [.rd (.int .i64 (k + (a.length : Int)))])] := by
 refine MK.intro Try.func32 rfl 20 rfl (le_ok rfl) (le_ok rfl) rfl fun w Z IX pin Ts hp => ?_
 refine T.bndRow 900 rfl fun hb_900 => ?_
 simp only [D.size, List.length_map] at hb_900
 refine T.seq ?_
 refine T.region ?_
 refine TL.cons rfl (Step.assign (p := (.one (.d (.int .i64 0)))) rfl rfl (lt_ok rfl) rfl) ?_
 refine TL.nil ?_
 refine T.seq ?_
 refine T.seq ?_
 refine T.region ?_
 refine TL.cons rfl (Step.assign (p := (.one (.d (.int .i64 0)))) rfl rfl (lt_ok rfl) rfl) ?_
 refine TL.nil ?_
 refine T.block ?_
 refine T.loop (ι := Nat) (fun xx_ => { tm := [(0, (.one (.row 900 []))), (4, (.one (.d (.int .i64 0)))), (5, (.one (.d (.int .i64 (xx_ : Int))))), (1, (.one (.d (.int .i64 (k + (xx_ : Int))))))], rows := [(900, ((Ts 0), (.ints .u8 (upTo (fun _ => 1) (fun _ k => k % 256) a k xx_))))], boxes := [] }) (fun xx_ => xx_ ≤ a.length) (fun xx_ => a.length - xx_) 0 ?_ ?_ ?_
 · exact Env.le_mk ⟨rfl, rfl, by first | exact congrArg (fun x => some (Ts 0, D.ints .u8 x)) (upTo_set (df := 0) (by omega) (by simp only [cntL_one_take a i (by omega)])) | exact congrArg (fun x => some (Ts 0, D.ints .u8 x)) (upTo_zero _ _).symm | rfl | (refine congrArg (fun n => PV.one (.d (.int .i64 n))) ?_; first | omega | (simp; done) | (simp [cntL]; done)), by first | exact congrArg (fun x => some (Ts 0, D.ints .u8 x)) (upTo_set (df := 0) (by omega) (by simp only [cntL_one_take a i (by omega)])) | exact congrArg (fun x => some (Ts 0, D.ints .u8 x)) (upTo_zero _ _).symm | rfl | (refine congrArg (fun n => PV.one (.d (.int .i64 n))) ?_; first | omega | (simp; done) | (simp [cntL]; done)), trivial⟩ ⟨by first | exact congrArg (fun x => some (Ts 0, D.ints .u8 x)) (upTo_set (df := 0) (by omega) (by simp only [cntL_one_take a i (by omega)])) | exact congrArg (fun x => some (Ts 0, D.ints .u8 x)) (upTo_zero _ _).symm | rfl | (refine congrArg (fun n => PV.one (.d (.int .i64 n))) ?_; first | omega | (simp; done) | (simp [cntL]; done)), trivial⟩ trivial
 · exact Nat.zero_le _
 ·
  intro i hx
  try dsimp only at hx ⊢
  refine T.seq ?_
  refine T.seq ?_
  refine T.region ?_
  refine TL.cons rfl (Step.move (p := (.one (.d (.int .i64 (i : Int))))) rfl rfl (lt_ok rfl) rfl) ?_
  refine TL.cons rfl (Step.move (p := (.one (.row 900 []))) rfl rfl (lt_ok rfl) rfl) ?_
  refine TL.cons rfl (Step.len' (e := 5) (z := 1) (d := (.ints .u8 (upTo (fun _ => 1) (fun _ k => k % 256) a k i))) (n := a.length) rfl rfl (lt_ok rfl) (by kernel_rfl) rfl rfl (by simp [D.size, upTo_length])) ?_
  refine TL.cons rfl (Step.bin rfl rfl (lt_ok rfl) rfl rfl (Bin.lss (k := .i64) (a := (i : Int)) (b := (a.length : Int)))) ?_
  refine TL.nil ?_
  refine T.cond (b := decide ((i : Int) < (a.length : Int))) rfl (fun h1 => ?_) (fun h1 => ?_)
  ·
   replace h1 := of_decide_eq_true h1
   refine T.skip ?_
   refine T.seq ?_
   refine T.block ?_
   refine T.seq ?_
   refine T.region ?_
   refine TL.cons rfl (Step.move (p := (.one (.row 900 []))) rfl rfl (lt_ok rfl) rfl) ?_
   refine TL.cons rfl (Step.move (p := (.one (.d (.int .i64 (i : Int))))) rfl rfl (lt_ok rfl) rfl) ?_
   refine TL.cons rfl (Step.move (p := (.one (.d (.int .i64 (k + (i : Int)))))) rfl rfl (lt_ok rfl) rfl) ?_
   refine TL.cons rfl (Step.conv (c := ((k + (i : Int)) % 256)) rfl rfl (lt_ok rfl) (by kernel_rfl) (by kernel_rfl) rfl (wrap_byte _)) ?_
   refine TL.cons rfl (Step.index_row (d := (.ints .u8 (upTo (fun _ => 1) (fun _ k => k % 256) a k i))) (e := 5) (z := 1) (i := (i : Int)) rfl rfl (lt_ok rfl) (by kernel_rfl) rfl rfl rfl rfl (lt_ok rfl) rfl (by first | omega | (simp; omega)) (by simp only [D.at_, D.cell, D.size, List.length_set, List.length_map, upTo_length]; first | omega | (simp; omega))) ?_
   refine TL.cons rfl (Step.store_row (n := 1) (p := (.one (.d (.int .u8 ((k + (i : Int)) % 256))))) (ps := [.d (.int .u8 ((k + (i : Int)) % 256))]) (es := [(.int .u8 ((k + (i : Int)) % 256))]) (ss := []) (d1 := (.ints .u8 ((upTo (fun _ => 1) (fun _ k => k % 256) a k i).set i ((k + (i : Int)) % 256)))) (d' := (.ints .u8 ((upTo (fun _ => 1) (fun _ k => k % 256) a k i).set i ((k + (i : Int)) % 256)))) rfl rfl (by kernel_rfl) rfl rfl rfl rfl rfl rfl (.val rfl .nil) (by simp) (Putd.one rfl trivial rfl (by simp only [D.at_, D.size, List.length_set, upTo_length]; first | omega | (simp; omega)) (lt_ok rfl)) rfl) ?_
   refine TL.nil ?_
   refine T.region ?_
   refine TL.cons rfl (Step.move (p := (.one (.d (.int .i64 (k + (i : Int)))))) rfl rfl (lt_ok rfl) rfl) ?_
   refine TL.cons rfl (Step.bin (r := .int .i64 ((k + (i : Int)) + 1)) rfl rfl (lt_ok rfl) rfl rfl (Bin.add (a := (k + (i : Int))) (b := 1) (by first | exact wrap_ok (by first | omega | (simp; omega)) (by first | omega | (simp; omega)) | rfl))) ?_
   refine TL.cons rfl (Step.assign (p := (.one (.d (.int .i64 ((k + (i : Int)) + 1))))) rfl rfl (lt_ok rfl) rfl) ?_
   refine TL.nil ?_
   refine T.region ?_
   refine TL.cons rfl (Step.move (p := (.one (.d (.int .i64 (i : Int))))) rfl rfl (lt_ok rfl) rfl) ?_
   refine TL.cons rfl (Step.bin (r := .int .i64 ((i : Int) + 1)) rfl rfl (lt_ok rfl) rfl rfl (Bin.add (a := (i : Int)) (b := 1) (by first | exact wrap_ok (by first | omega | (simp; omega)) (by first | omega | (simp; omega)) | rfl))) ?_
   refine TL.cons rfl (Step.assign (p := (.one (.d (.int .i64 ((i : Int) + 1))))) rfl rfl (lt_ok rfl) rfl) ?_
   refine TL.nil ?_
   exact ⟨i + 1, by omega, by first | omega | (dsimp only; omega), Env.le_mk ⟨rfl, rfl, by first | exact congrArg (fun x => some (Ts 0, D.ints .u8 x)) (upTo_set (df := 0) (by omega) (by simp only [cntL_one_take a i (by omega)])) | exact congrArg (fun x => some (Ts 0, D.ints .u8 x)) (upTo_zero _ _).symm | rfl | (refine congrArg (fun n => PV.one (.d (.int .i64 n))) ?_; first | omega | (simp; done) | (simp [cntL]; done)), by first | exact congrArg (fun x => some (Ts 0, D.ints .u8 x)) (upTo_set (df := 0) (by omega) (by simp only [cntL_one_take a i (by omega)])) | exact congrArg (fun x => some (Ts 0, D.ints .u8 x)) (upTo_zero _ _).symm | rfl | (refine congrArg (fun n => PV.one (.d (.int .i64 n))) ?_; first | omega | (simp; done) | (simp [cntL]; done)), trivial⟩ ⟨by first | exact congrArg (fun x => some (Ts 0, D.ints .u8 x)) (upTo_set (df := 0) (by omega) (by simp only [cntL_one_take a i (by omega)])) | exact congrArg (fun x => some (Ts 0, D.ints .u8 x)) (upTo_zero _ _).symm | rfl | (refine congrArg (fun n => PV.one (.d (.int .i64 n))) ?_; first | omega | (simp; done) | (simp [cntL]; done)), trivial⟩ trivial⟩
  ·
   replace h1 := of_decide_eq_false h1
   refine T.exit ?_
   refine T.seq ?_
   refine T.region ?_
   refine TL.cons rfl (Step.move (p := (.one (.d (.int .i64 (k + (i : Int)))))) rfl rfl (lt_ok rfl) rfl) ?_
   refine TL.cons rfl (Step.assign (p := (.one (.d (.int .i64 (k + (i : Int)))))) rfl rfl (lt_ok rfl) rfl) ?_
   refine TL.nil ?_
   refine T.ret ?_
   exact ⟨⟨⟨[(false, [.d (.int .i64 (k + (i : Int)))])], (.cons rfl .nil), rfl, [], (RetC.rd' (by (congr 1; omega)) .nil)⟩, rfl⟩, (.mk' (by exact congrArg (fun x => some (Ts 0, D.ints .u8 x)) (upTo_all (by omega))) (.rd .nil'))⟩
theorem ok_laws_eqVote (a : SVote) (b : SVote) : RO Try.prog 44 [.agg a.cells, .agg b.cells] [(false, [.rd (.bool (decide (a = b)))])] := by
 refine RO.intro Try.func44 rfl 32 rfl (le_ok rfl) fun w Z => ?_
 refine T.seq ?_
 refine T.region ?_
 refine TL.cons rfl (Step.box (p := (.agg [.d (.int .i64 a.f0), .d (.int .i64 a.f1), .d (.ints .u8 a.f2), .d (.int .i64 a.f3), .d (.ints .u8 a.f4)])) (ps := [.d (.int .i64 a.f0), .d (.int .i64 a.f1), .d (.ints .u8 a.f2), .d (.int .i64 a.f3), .d (.ints .u8 a.f4)]) rfl rfl (lt_ok rfl) rfl rfl rfl rfl rfl) ?_
 refine TL.cons rfl (Step.box (p := (.agg [.d (.int .i64 b.f0), .d (.int .i64 b.f1), .d (.ints .u8 b.f2), .d (.int .i64 b.f3), .d (.ints .u8 b.f4)])) (ps := [.d (.int .i64 b.f0), .d (.int .i64 b.f1), .d (.ints .u8 b.f2), .d (.int .i64 b.f3), .d (.ints .u8 b.f4)]) rfl rfl (lt_ok rfl) rfl rfl rfl rfl rfl) ?_
 refine TL.cons rfl (Step.assign (p := (.one (.d (.bool false)))) rfl rfl (lt_ok rfl) rfl) ?_
 refine TL.nil ?_
 refine T.seq ?_
 refine T.seq ?_
 refine T.region ?_
 refine TL.cons rfl (Step.fieldAddr (q := 0) (off := 0) (n := 1) (one := true) rfl rfl (lt_ok rfl) (by kernel_rfl) (Nat.succ_ne_zero _) rfl) ?_
 refine TL.cons rfl (Step.load_box (c := .d (.int .i64 a.f0)) rfl rfl (lt_ok rfl) (by kernel_rfl) rfl rfl rfl) ?_
 refine TL.cons rfl (Step.fieldAddr (q := 0) (off := 0) (n := 1) (one := true) rfl rfl (lt_ok rfl) (by kernel_rfl) (Nat.succ_ne_zero _) rfl) ?_
 refine TL.cons rfl (Step.load_box (c := .d (.int .i64 b.f0)) rfl rfl (lt_ok rfl) (by kernel_rfl) rfl rfl rfl) ?_
 refine TL.cons rfl (Step.bin rfl rfl (lt_ok rfl) rfl rfl (Bin.neq (k := .i64) (a := a.f0) (b := b.f0))) ?_
 refine TL.nil ?_
 refine T.cond (b := decide (a.f0 ≠ b.f0)) rfl (fun h1 => ?_) (fun h1 => ?_)
 ·
  replace h1 := of_decide_eq_true h1
  refine T.seq ?_
  refine T.region ?_
  refine TL.cons rfl (Step.assign (p := (.one (.d (.bool false)))) rfl rfl (lt_ok rfl) rfl) ?_
  refine TL.nil ?_
  refine T.ret ?_
  exact ⟨[(false, [.d (.bool false)])], (.cons rfl .nil), rfl, [], (RetC.rd' (by (congr 1; symm; first | (apply decide_eq_false; rintro rfl; first | exact absurd rfl ‹¬ _ = _› | contradiction) | (apply decide_eq_true; apply SVote.ext <;> first | assumption | exact Decidable.not_not.1 (by assumption)))) .nil)⟩
 ·
  replace h1 := of_decide_eq_false h1
  refine T.skip ?_
  refine T.seq ?_
  refine T.seq ?_
  refine T.region ?_
  refine TL.cons rfl (Step.fieldAddr (q := 0) (off := 1) (n := 1) (one := true) rfl rfl (lt_ok rfl) (by kernel_rfl) (Nat.succ_ne_zero _) rfl) ?_
  refine TL.cons rfl (Step.load_box (c := .d (.int .i64 a.f1)) rfl rfl (lt_ok rfl) (by kernel_rfl) rfl rfl rfl) ?_
  refine TL.cons rfl (Step.fieldAddr (q := 0) (off := 1) (n := 1) (one := true) rfl rfl (lt_ok rfl) (by kernel_rfl) (Nat.succ_ne_zero _) rfl) ?_
  refine TL.cons rfl (Step.load_box (c := .d (.int .i64 b.f1)) rfl rfl (lt_ok rfl) (by kernel_rfl) rfl rfl rfl) ?_
  refine TL.cons rfl (Step.bin rfl rfl (lt_ok rfl) rfl rfl (Bin.neq (k := .i64) (a := a.f1) (b := b.f1))) ?_
  refine TL.nil ?_
  refine T.cond (b := decide (a.f1 ≠ b.f1)) rfl (fun h2 => ?_) (fun h2 => ?_)
  ·
   replace h2 := of_decide_eq_true h2
   refine T.seq ?_
   refine T.region ?_
   refine TL.cons rfl (Step.assign (p := (.one (.d (.bool false)))) rfl rfl (lt_ok rfl) rfl) ?_
   refine TL.nil ?_
   refine T.ret ?_
   exact ⟨[(false, [.d (.bool false)])], (.cons rfl .nil), rfl, [], (RetC.rd' (by (congr 1; symm; first | (apply decide_eq_false; rintro rfl; first | exact absurd rfl ‹¬ _ = _› | contradiction) | (apply decide_eq_true; apply SVote.ext <;> first | assumption | exact Decidable.not_not.1 (by assumption)))) .nil)⟩
  ·
   replace h2 := of_decide_eq_false h2
   refine T.skip ?_
   refine T.seq ?_
   refine T.seq ?_
   refine T.region ?_
   refine TL.cons rfl (Step.fieldAddr (q := 0) (off := 2) (n := 1) (one := true) rfl rfl (lt_ok rfl) (by kernel_rfl) (Nat.succ_ne_zero _) rfl) ?_
   refine TL.cons rfl (Step.load_box (c := .d (.ints .u8 a.f2)) rfl rfl (lt_ok rfl) (by kernel_rfl) rfl rfl rfl) ?_
   refine TL.cons rfl (Step.fieldAddr (q := 0) (off := 2) (n := 1) (one := true) rfl rfl (lt_ok rfl) (by kernel_rfl) (Nat.succ_ne_zero _) rfl) ?_
   refine TL.cons rfl (Step.load_box (c := .d (.ints .u8 b.f2)) rfl rfl (lt_ok rfl) (by kernel_rfl) rfl rfl rfl) ?_
   refine TL.cons rfl (Step.call (f := 29) (xs := [.tmp 16, .tmp 18]) (ps := [(.one (.d (.ints .u8 a.f2))), (.one (.d (.ints .u8 b.f2)))]) false (g := .func 29) rfl rfl (lt_ok rfl) rfl (by kernel_rfl) rfl (.cons (.one (.d _)) (.cons (.one (.d _)) .nil)) (ok_laws_eqByteS a.f2 b.f2) (.inr rfl) rfl (by simp) rfl) ?_
   refine TL.cons rfl (Step.not (b := (decide (a.f2 = b.f2))) rfl rfl (lt_ok rfl) rfl) ?_
   refine TL.nil ?_
   refine T.cond (b := !(decide (a.f2 = b.f2))) rfl (fun h3 => ?_) (fun h3 => ?_)
   ·
    replace h3 : (decide (a.f2 = b.f2)) = false := by simpa only [Bool.not_eq_true', Bool.not_eq_false'] using h3
    replace h3 := of_decide_eq_false h3
    refine T.seq ?_
    refine T.region ?_
    refine TL.cons rfl (Step.assign (p := (.one (.d (.bool false)))) rfl rfl (lt_ok rfl) rfl) ?_
    refine TL.nil ?_
    refine T.ret ?_
    exact ⟨[(false, [.d (.bool false)])], (.cons rfl .nil), rfl, [], (RetC.rd' (by (congr 1; symm; first | (apply decide_eq_false; rintro rfl; first | exact absurd rfl ‹¬ _ = _› | contradiction) | (apply decide_eq_true; apply SVote.ext <;> first | assumption | exact Decidable.not_not.1 (by assumption)))) .nil)⟩
   ·
    replace h3 : (decide (a.f2 = b.f2)) = true := by simpa only [Bool.not_eq_true', Bool.not_eq_false'] using h3
    replace h3 := of_decide_eq_true h3
    refine T.skip ?_
    refine T.seq ?_
    refine T.seq ?_
    refine T.region ?_
    refine TL.cons rfl (Step.fieldAddr (q := 0) (off := 3) (n := 1) (one := true) rfl rfl (lt_ok rfl) (by kernel_rfl) (Nat.succ_ne_zero _) rfl) ?_
    refine TL.cons rfl (Step.load_box (c := .d (.int .i64 a.f3)) rfl rfl (lt_ok rfl) (by kernel_rfl) rfl rfl rfl) ?_
    refine TL.cons rfl (Step.fieldAddr (q := 0) (off := 3) (n := 1) (one := true) rfl rfl (lt_ok rfl) (by kernel_rfl) (Nat.succ_ne_zero _) rfl) ?_
    refine TL.cons rfl (Step.load_box (c := .d (.int .i64 b.f3)) rfl rfl (lt_ok rfl) (by kernel_rfl) rfl rfl rfl) ?_
    refine TL.cons rfl (Step.bin rfl rfl (lt_ok rfl) rfl rfl (Bin.neq (k := .i64) (a := a.f3) (b := b.f3))) ?_
    refine TL.nil ?_
    refine T.cond (b := decide (a.f3 ≠ b.f3)) rfl (fun h4 => ?_) (fun h4 => ?_)
    ·
     replace h4 := of_decide_eq_true h4
     refine T.seq ?_
     refine T.region ?_
     refine TL.cons rfl (Step.assign (p := (.one (.d (.bool false)))) rfl rfl (lt_ok rfl) rfl) ?_
     refine TL.nil ?_
     refine T.ret ?_
     exact ⟨[(false, [.d (.bool false)])], (.cons rfl .nil), rfl, [], (RetC.rd' (by (congr 1; symm; first | (apply decide_eq_false; rintro rfl; first | exact absurd rfl ‹¬ _ = _› | contradiction) | (apply decide_eq_true; apply SVote.ext <;> first | assumption | exact Decidable.not_not.1 (by assumption)))) .nil)⟩
    ·
     replace h4 := of_decide_eq_false h4
     refine T.skip ?_
     refine T.seq ?_
     refine T.seq ?_
     refine T.region ?_
     refine TL.cons rfl (Step.fieldAddr (q := 0) (off := 4) (n := 1) (one := true) rfl rfl (lt_ok rfl) (by kernel_rfl) (Nat.succ_ne_zero _) rfl) ?_
     refine TL.cons rfl (Step.load_box (c := .d (.ints .u8 a.f4)) rfl rfl (lt_ok rfl) (by kernel_rfl) rfl rfl rfl) ?_
     refine TL.cons rfl (Step.fieldAddr (q := 0) (off := 4) (n := 1) (one := true) rfl rfl (lt_ok rfl) (by kernel_rfl) (Nat.succ_ne_zero _) rfl) ?_
     refine TL.cons rfl (Step.load_box (c := .d (.ints .u8 b.f4)) rfl rfl (lt_ok rfl) (by kernel_rfl) rfl rfl rfl) ?_
     refine TL.cons rfl (Step.call (f := 29) (xs := [.tmp 27, .tmp 29]) (ps := [(.one (.d (.ints .u8 a.f4))), (.one (.d (.ints .u8 b.f4)))]) false (g := .func 29) rfl rfl (lt_ok rfl) rfl (by kernel_rfl) rfl (.cons (.one (.d _)) (.cons (.one (.d _)) .nil)) (ok_laws_eqByteS a.f4 b.f4) (.inr rfl) rfl (by simp) rfl) ?_
     refine TL.cons rfl (Step.not (b := (decide (a.f4 = b.f4))) rfl rfl (lt_ok rfl) rfl) ?_
     refine TL.nil ?_
     refine T.cond (b := !(decide (a.f4 = b.f4))) rfl (fun h5 => ?_) (fun h5 => ?_)
     ·
      replace h5 : (decide (a.f4 = b.f4)) = false := by simpa only [Bool.not_eq_true', Bool.not_eq_false'] using h5
      replace h5 := of_decide_eq_false h5
      refine T.seq ?_
      refine T.region ?_
      refine TL.cons rfl (Step.assign (p := (.one (.d (.bool false)))) rfl rfl (lt_ok rfl) rfl) ?_
      refine TL.nil ?_
      refine T.ret ?_
      exact ⟨[(false, [.d (.bool false)])], (.cons rfl .nil), rfl, [], (RetC.rd' (by (congr 1; symm; first | (apply decide_eq_false; rintro rfl; first | exact absurd rfl ‹¬ _ = _› | contradiction) | (apply decide_eq_true; apply SVote.ext <;> first | assumption | exact Decidable.not_not.1 (by assumption)))) .nil)⟩
     ·
      replace h5 : (decide (a.f4 = b.f4)) = true := by simpa only [Bool.not_eq_true', Bool.not_eq_false'] using h5
      replace h5 := of_decide_eq_true h5
      refine T.skip ?_
      refine T.seq ?_
      refine T.region ?_
      refine TL.cons rfl (Step.assign (p := (.one (.d (.bool true)))) rfl rfl (lt_ok rfl) rfl) ?_
      refine TL.nil ?_
      refine T.ret ?_
      exact ⟨[(false, [.d (.bool true)])], (.cons rfl .nil), rfl, [], (RetC.rd' (by (congr 1; symm; first | (apply decide_eq_false; rintro rfl; first | exact absurd rfl ‹¬ _ = _› | contradiction) | (apply decide_eq_true; apply SVote.ext <;> first | assumption | exact Decidable.not_not.1 (by assumption)))) .nil)⟩
theorem ok_laws_markVote (a : SVote) (k : Int) (h0_ : 0 ≤ k) (h1_ : k + a.cm ≤ 4611686018427387904) : MK Try.prog 45 [.agg [.rd (.int .i64 a.f0), .rd (.int .i64 a.f1), .mk (.ints .u8 a.f2) (.ints .u8 (mkB a.f2 k)), .rd (.int .i64 a.f3), .mk (.ints .u8 a.f4) (.ints .u8 (mkB a.f4 (k + (a.f2.length : Int))))], .one (.rd (.int .i64 k))] [(false, [.rd (.int .i64 (k + a.cm))])] := by
 refine MK.intro Try.func45 rfl 14 rfl (le_ok rfl) (le_ok rfl) rfl fun w Z IX pin Ts hp => ?_
 simp only [SVote.cm] at h1_
 refine T.seq ?_
 refine T.region ?_
 refine TL.cons rfl (Step.box (p := (.agg [.d (.int .i64 a.f0), .d (.int .i64 a.f1), .row 902 [], .d (.int .i64 a.f3), .row 904 []])) (ps := [.d (.int .i64 a.f0), .d (.int .i64 a.f1), .row 902 [], .d (.int .i64 a.f3), .row 904 []]) rfl rfl (lt_ok rfl) rfl rfl rfl rfl rfl) ?_
 refine TL.cons rfl (Step.assign (p := (.one (.d (.int .i64 0)))) rfl rfl (lt_ok rfl) rfl) ?_
 refine TL.nil ?_
 refine T.seq ?_
 refine T.region ?_
 refine TL.cons rfl (Step.fieldAddr (q := 0) (off := 2) (n := 1) (one := true) rfl rfl (lt_ok rfl) (by kernel_rfl) (Nat.succ_ne_zero _) rfl) ?_
 refine TL.cons rfl (Step.load_box (c := .row 902 []) rfl rfl (lt_ok rfl) (by kernel_rfl) rfl rfl rfl) ?_
 refine TL.cons rfl (Step.move (p := (.one (.d (.int .i64 k)))) rfl rfl (lt_ok rfl) rfl) ?_
 refine TL.cons rfl (Step.callM (f := 32) (xs := [.tmp 6, .tmp 7]) (ps := [(.one (.row 902 [])), (.one (.d (.int .i64 k)))]) (args := [.one (.mk (.ints .u8 a.f2) (.ints .u8 (mkB a.f2 k))), .one (.rd (.int .i64 k))]) (js := [(902, (.ints .u8 (mkB a.f2 k)))]) (x := (.int .i64 (k + (a.f2.length : Int)))) (g := .func 32) rfl rfl (lt_ok rfl) rfl (by kernel_rfl) rfl rfl (.row (T := (Ts 2)) (d := (.ints .u8 a.f2)) (e' := (.ints .u8 (mkB a.f2 k))) (d' := (.ints .u8 (mkB a.f2 k))) rfl rfl rfl rfl rfl (by simp [D.size, mkL_length]) rfl rfl (.d .nil)) (ok_laws_markByteS a.f2 k (by omega) (by first | omega | (have := (by assumption); omega))) rfl) ?_
 refine TL.cons rfl (Step.assign (p := (.one (.d (.int .i64 (k + (a.f2.length : Int)))))) rfl rfl (lt_ok rfl) rfl) ?_
 refine TL.nil ?_
 refine T.seq ?_
 refine T.region ?_
 refine TL.cons rfl (Step.fieldAddr (q := 0) (off := 4) (n := 1) (one := true) rfl rfl (lt_ok rfl) (by kernel_rfl) (Nat.succ_ne_zero _) rfl) ?_
 refine TL.cons rfl (Step.load_box (c := .row 904 []) rfl rfl (lt_ok rfl) (by kernel_rfl) rfl rfl rfl) ?_
 refine TL.cons rfl (Step.move (p := (.one (.d (.int .i64 (k + (a.f2.length : Int)))))) rfl rfl (lt_ok rfl) rfl) ?_
 refine TL.cons rfl (Step.callM (f := 32) (xs := [.tmp 10, .tmp 11]) (ps := [(.one (.row 904 [])), (.one (.d (.int .i64 (k + (a.f2.length : Int)))))]) (args := [.one (.mk (.ints .u8 a.f4) (.ints .u8 (mkB a.f4 (k + (a.f2.length : Int))))), .one (.rd (.int .i64 (k + (a.f2.length : Int))))]) (js := [(904, (.ints .u8 (mkB a.f4 (k + (a.f2.length : Int)))))]) (x := (.int .i64 ((k + (a.f2.length : Int)) + (a.f4.length : Int)))) (g := .func 32) rfl rfl (lt_ok rfl) rfl (by kernel_rfl) rfl rfl (.row (T := (Ts 4)) (d := (.ints .u8 a.f4)) (e' := (.ints .u8 (mkB a.f4 (k + (a.f2.length : Int))))) (d' := (.ints .u8 (mkB a.f4 (k + (a.f2.length : Int))))) rfl rfl rfl rfl rfl (by simp [D.size, mkL_length]) rfl rfl (.d .nil)) (ok_laws_markByteS a.f4 (k + (a.f2.length : Int)) (by omega) (by first | omega | (have := (by assumption); omega))) rfl) ?_
 refine TL.cons rfl (Step.assign (p := (.one (.d (.int .i64 ((k + (a.f2.length : Int)) + (a.f4.length : Int)))))) rfl rfl (lt_ok rfl) rfl) ?_
 refine TL.nil ?_
 refine T.seq ?_
 refine T.region ?_
 refine TL.cons rfl (Step.move (p := (.one (.d (.int .i64 ((k + (a.f2.length : Int)) + (a.f4.length : Int)))))) rfl rfl (lt_ok rfl) rfl) ?_
 refine TL.cons rfl (Step.assign (p := (.one (.d (.int .i64 ((k + (a.f2.length : Int)) + (a.f4.length : Int)))))) rfl rfl (lt_ok rfl) rfl) ?_
 refine TL.nil ?_
 refine T.ret ?_
 exact ⟨⟨⟨[(false, [.d (.int .i64 ((k + (a.f2.length : Int)) + (a.f4.length : Int)))])], (.cons rfl .nil), rfl, [], (RetC.rd' (by first | rfl | (congr 1; simp only [SVote.cm]; omega)) .nil)⟩, rfl⟩, (.rd (.rd (.mk' (by rfl) (.rd (.mk' (by rfl) (.rd .nil'))))))⟩
theorem ok_laws_toByteS (a : List Int) (h0_ : a.length ≤ 1048576) : RO Try.prog 49 [.one (.ints .u8 a)] [(false, [.own 5 (.ints .u8 a)])] := by
 refine RO.intro Try.func49 rfl 22 rfl (le_ok rfl) fun w Z => ?_
 refine T.bnd 0 0 rfl rfl fun hb_0_0 => ?_
 simp only [D.size, List.length_map] at hb_0_0
 have h0b := h0_
 refine T.seq ?_
 refine T.region ?_
 refine TL.cons rfl (Step.assign (p := (.one (.nil))) rfl rfl (lt_ok rfl) rfl) ?_
 refine TL.nil ?_
 refine T.seq ?_
 refine T.region ?_
 refine TL.cons rfl (Step.move (p := (.one (.d (.ints .u8 a)))) rfl rfl (lt_ok rfl) rfl) ?_
 refine TL.cons rfl (Step.len (e := 5) (z := 1) (d := (.ints .u8 a)) rfl rfl (lt_ok rfl) (by kernel_rfl) rfl rfl) ?_
 refine TL.cons rfl (Step.make (e := 5) (z := 1) (by_ := 1) (n := (a.length : Int)) (zs := [.int .u8 0]) (zd := [.int .u8 0]) (d := (.ints .u8 (List.replicate a.length 0))) rfl rfl (lt_ok rfl) (by kernel_rfl) (lt_ok rfl) rfl (by first | omega | (simp; omega)) (by first | omega | (simp; omega)) (by first | omega | (simp; omega)) (by kernel_rfl) (.val rfl .nil) rfl (by simp) (by simp [D.flat, List.flatten_replicate_singleton]) (by simp [D.size]) rfl trivial) ?_
 refine TL.cons rfl (Step.assign (p := (.one (.row 7 []))) rfl rfl (lt_ok rfl) rfl) ?_
 refine TL.nil ?_
 refine T.seq ?_
 refine T.seq ?_
 refine T.region ?_
 refine TL.cons rfl (Step.assign (p := (.one (.d (.int .i64 0)))) rfl rfl (lt_ok rfl) rfl) ?_
 refine TL.nil ?_
 refine T.block ?_
 refine T.loop (ι := Nat) (fun xx_ => { tm := [(0, (.one (.d (.ints .u8 a)))), (2, (.one (.nil))), (3, (.one (.row 7 []))), (4, (.one (.d (.int .i64 (xx_ : Int)))))], rows := [(7, (5, (.ints .u8 (a.take xx_ ++ List.replicate (a.length - xx_) 0 : List Int))))], boxes := [] }) (fun xx_ => xx_ ≤ a.length) (fun xx_ => a.length - xx_) 0 ?_ ?_ ?_
 · exact Env.le_mk ⟨rfl, rfl, rfl, by first | rfl | exact congrArg (fun x => some (5, ((.ints .u8 x) : D))) (fill_set a 0 0 i (by omega)), trivial⟩ ⟨by first | rfl | exact congrArg (fun x => some (5, ((.ints .u8 x) : D))) (fill_set a 0 0 i (by omega)), trivial⟩ trivial
 · exact Nat.zero_le _
 ·
  intro i hx
  try dsimp only at hx ⊢
  refine T.seq ?_
  refine T.seq ?_
  refine T.region ?_
  refine TL.cons rfl (Step.move (p := (.one (.d (.int .i64 (i : Int))))) rfl rfl (lt_ok rfl) rfl) ?_
  refine TL.cons rfl (Step.move (p := (.one (.d (.ints .u8 a)))) rfl rfl (lt_ok rfl) rfl) ?_
  refine TL.cons rfl (Step.len (e := 5) (z := 1) (d := (.ints .u8 a)) rfl rfl (lt_ok rfl) (by kernel_rfl) rfl rfl) ?_
  refine TL.cons rfl (Step.bin rfl rfl (lt_ok rfl) rfl rfl (Bin.lss (k := .i64) (a := (i : Int)) (b := (a.length : Int)))) ?_
  refine TL.nil ?_
  refine T.cond (b := decide ((i : Int) < (a.length : Int))) rfl (fun h1 => ?_) (fun h1 => ?_)
  ·
   replace h1 := of_decide_eq_true h1
   refine T.skip ?_
   refine T.seq ?_
   refine T.block ?_
   refine T.region ?_
   refine TL.cons rfl (Step.move (p := (.one (.row 7 []))) rfl rfl (lt_ok rfl) rfl) ?_
   refine TL.cons rfl (Step.move (p := (.one (.d (.int .i64 (i : Int))))) rfl rfl (lt_ok rfl) rfl) ?_
   refine TL.cons rfl (Step.move (p := (.one (.d (.ints .u8 a)))) rfl rfl (lt_ok rfl) rfl) ?_
   refine TL.cons rfl (Step.move (p := (.one (.d (.int .i64 (i : Int))))) rfl rfl (lt_ok rfl) rfl) ?_
   refine TL.cons rfl (Step.index (e := 5) (z := 1) (i := (i : Int)) rfl rfl (lt_ok rfl) (by kernel_rfl) rfl rfl rfl (lt_ok rfl) rfl (by first | omega | (simp; omega)) (by simp only [D.size]; first | omega | (simp; omega))) ?_
   refine TL.cons rfl (Step.load (e := (.int .u8 (a.getD i 0))) rfl rfl (lt_ok rfl) (by kernel_rfl) rfl rfl) ?_
   refine TL.cons rfl (Step.index_row (e := 5) (z := 1) (i := (i : Int)) rfl rfl (lt_ok rfl) (by kernel_rfl) rfl rfl rfl rfl (lt_ok rfl) rfl (by first | omega | (simp; omega)) (by simp only [D.at_, D.cell, D.size]; first | omega | (simp; omega))) ?_
   refine TL.cons rfl (Step.store_row (n := 1) (p := (.one (.d (.int .u8 (a.getD i 0))))) (ps := [.d (.int .u8 (a.getD i 0))]) (es := [(.int .u8 (a.getD i 0))]) (ss := []) (d1 := (.ints .u8 ((a.take i ++ List.replicate (a.length - i) 0 : List Int).set i (a.getD i 0)))) (d' := (.ints .u8 ((a.take i ++ List.replicate (a.length - i) 0 : List Int).set i (a.getD i 0)))) rfl rfl (by kernel_rfl) rfl rfl rfl rfl rfl rfl (.val rfl .nil) (by simp) (Putd.one rfl trivial rfl (by simp only [D.at_, D.size, List.length_set, upTo_length]; first | omega | (simp; omega)) (lt_ok rfl)) rfl) ?_
   refine TL.nil ?_
   refine T.region ?_
   refine TL.cons rfl (Step.move (p := (.one (.d (.int .i64 (i : Int))))) rfl rfl (lt_ok rfl) rfl) ?_
   refine TL.cons rfl (Step.bin (r := .int .i64 ((i : Int) + 1)) rfl rfl (lt_ok rfl) rfl rfl (Bin.add (a := (i : Int)) (b := 1) (by first | exact wrap_ok (by first | omega | (simp; omega)) (by first | omega | (simp; omega)) | rfl))) ?_
   refine TL.cons rfl (Step.assign (p := (.one (.d (.int .i64 ((i : Int) + 1))))) rfl rfl (lt_ok rfl) rfl) ?_
   refine TL.nil ?_
   exact ⟨i + 1, by omega, by omega, Env.le_mk ⟨rfl, rfl, rfl, by first | rfl | exact congrArg (fun x => some (5, ((.ints .u8 x) : D))) (fill_set a 0 0 i (by omega)), trivial⟩ ⟨by first | rfl | exact congrArg (fun x => some (5, ((.ints .u8 x) : D))) (fill_set a 0 0 i (by omega)), trivial⟩ trivial⟩
  ·
   replace h1 := of_decide_eq_false h1
   refine T.exit ?_
   refine T.seq ?_
   refine T.region ?_
   refine TL.cons rfl (Step.move (p := (.one (.row 7 []))) rfl rfl (lt_ok rfl) rfl) ?_
   refine TL.cons rfl (Step.assign (p := (.one (.row 7 []))) rfl rfl (lt_ok rfl) rfl) ?_
   refine TL.nil ?_
   refine T.ret ?_
   exact ⟨[(false, [.row 7 []])], (.cons rfl .nil), rfl, [7], (RetC.own' rfl (by first | rfl | (congr 1; rw [fill_all' _ _ _ (by omega)]) | (rw [fill_all' _ _ _ (by omega)])) rfl .nil)⟩
theorem ok_spec_l01In (n : Int) (lo : Int) (hi : Int) : RO Try.prog 138 [.one (.int .i64 n), .one (.int .i64 lo), .one (.int .i64 hi)] [(false, [.rd (.bool (decide (lo ≤ n ∧ n ≤ hi)))])] := by
 refine RO.intro Try.func138 rfl 15 rfl (le_ok rfl) fun w Z => ?_
 refine T.seq ?_
 refine T.region ?_
 refine TL.cons rfl (Step.assign (p := (.one (.d (.bool false)))) rfl rfl (lt_ok rfl) rfl) ?_
 refine TL.nil ?_
 refine T.seq ?_
 refine T.region ?_
 refine TL.cons rfl (Step.move (p := (.one (.d (.int .i64 n)))) rfl rfl (lt_ok rfl) rfl) ?_
 refine TL.cons rfl (Step.move (p := (.one (.d (.int .i64 lo)))) rfl rfl (lt_ok rfl) rfl) ?_
 refine TL.cons rfl (Step.bin rfl rfl (lt_ok rfl) rfl rfl (Bin.geq (k := .i64) (a := n) (b := lo))) ?_
 refine TL.cons rfl (Step.move (p := (.one (.d (.bool (decide (lo ≤ n)))))) rfl rfl (lt_ok rfl) rfl) ?_
 rcases Bool.eq_false_or_eq_true (decide (lo ≤ n)) with hb1 | hb1
 ·
  refine TL.known 10 hb1 rfl ?_
  refine TL.gyes 10 rfl rfl (lt_ok rfl) rfl (Step.move (p := (.one (.d (.int .i64 n)))) rfl rfl (lt_ok rfl) rfl) ?_
  refine TL.gyes 10 rfl rfl (lt_ok rfl) rfl (Step.move (p := (.one (.d (.int .i64 hi)))) rfl rfl (lt_ok rfl) rfl) ?_
  refine TL.gyes 10 rfl rfl (lt_ok rfl) rfl (Step.bin rfl rfl (lt_ok rfl) rfl rfl (Bin.leq (k := .i64) (a := n) (b := hi))) ?_
  refine TL.cons rfl (Step.pick (b := true) (p := (.one (.d (.bool (decide (n ≤ hi)))))) rfl rfl (lt_ok rfl) rfl rfl) ?_
  refine TL.cons rfl (Step.assign (p := (.one (.d (.bool (decide (n ≤ hi)))))) rfl rfl (lt_ok rfl) rfl) ?_
  refine TL.nil ?_
  refine T.ret ?_
  exact ⟨[(false, [.d (.bool (decide (n ≤ hi)))])], (.cons rfl .nil), rfl, [], (RetC.rd' (by first | (congr 1; simp_all; done) | (congr 1; simp_all; omega)) .nil)⟩
 ·
  refine TL.known 10 hb1 rfl ?_
  refine TL.goff 10 rfl rfl (lt_ok rfl) rfl rfl rfl (lt_ok rfl) ?_
  refine TL.goff 10 rfl rfl (lt_ok rfl) rfl rfl rfl (lt_ok rfl) ?_
  refine TL.goff 10 rfl rfl (lt_ok rfl) rfl rfl rfl (lt_ok rfl) ?_
  refine TL.cons rfl (Step.pick (b := false) (p := (.one (.d (.bool false)))) rfl rfl (lt_ok rfl) rfl rfl) ?_
  refine TL.cons rfl (Step.assign (p := (.one (.d (.bool false)))) rfl rfl (lt_ok rfl) rfl) ?_
  refine TL.nil ?_
  refine T.ret ?_
  exact ⟨[(false, [.d (.bool false)])], (.cons rfl .nil), rfl, [], (RetC.rd' (by first | (congr 1; simp_all; done) | (congr 1; simp_all; omega)) .nil)⟩
theorem ok_spec_l02Signers (n : Int) : RO Try.prog 141 [.one (.int .i64 n)] [(false, [.rd (.bool (decide (1 ≤ n ∧ n ≤ 10)))])] := by
 refine RO.intro Try.func141 rfl 5 rfl (le_ok rfl) fun w Z => ?_
 refine T.seq ?_
 refine T.region ?_
 refine TL.cons rfl (Step.assign (p := (.one (.d (.bool false)))) rfl rfl (lt_ok rfl) rfl) ?_
 refine TL.nil ?_
 refine T.seq ?_
 refine T.region ?_
 refine TL.cons rfl (Step.move (p := (.one (.d (.int .i64 n)))) rfl rfl (lt_ok rfl) rfl) ?_
 refine TL.cons rfl (Step.call (f := 138) (xs := [.tmp 3, .const (.int .i64 1), .const (.int .i64 10)]) (ps := [(.one (.d (.int .i64 n))), (.one (.d (.int .i64 1))), (.one (.d (.int .i64 10)))]) false (g := .func 138) rfl rfl (lt_ok rfl) rfl (by kernel_rfl) rfl (.cons (.one (.d _)) (.cons (.one (.d _)) (.cons (.one (.d _)) .nil))) (ok_spec_l01In n 1 10) (.inr rfl) rfl (by simp) rfl) ?_
 refine TL.cons rfl (Step.assign (p := (.one (.d (.bool (decide (1 ≤ n ∧ n ≤ 10)))))) rfl rfl (lt_ok rfl) rfl) ?_
 refine TL.nil ?_
 refine T.ret ?_
 exact ⟨[(false, [.d (.bool (decide (1 ≤ n ∧ n ≤ 10)))])], (.cons rfl .nil), rfl, [], (RetC.rd' (by rfl) .nil)⟩
theorem ok_spec_LimitsOk (l : SLimits) : RO Try.prog 94 [.agg l.cells] [(false, [.rd (.bool (limOk l))])] := by
 refine RO.intro Try.func94 rfl 26 rfl (le_ok rfl) fun w Z => ?_
 refine T.seq ?_
 refine T.region ?_
 refine TL.cons rfl (Step.box (p := (.agg [.d (.int .i64 l.f0), .d (.int .i64 l.f1), .d (.int .i64 l.f2), .d (.int .i64 l.f3), .d (.int .i64 l.f4)])) (ps := [.d (.int .i64 l.f0), .d (.int .i64 l.f1), .d (.int .i64 l.f2), .d (.int .i64 l.f3), .d (.int .i64 l.f4)]) rfl rfl (lt_ok rfl) rfl rfl rfl rfl rfl) ?_
 refine TL.cons rfl (Step.assign (p := (.one (.d (.bool false)))) rfl rfl (lt_ok rfl) rfl) ?_
 refine TL.nil ?_
 refine T.seq ?_
 refine T.region ?_
 refine TL.cons rfl (Step.fieldAddr (q := 0) (off := 0) (n := 1) (one := true) rfl rfl (lt_ok rfl) (by kernel_rfl) (Nat.succ_ne_zero _) rfl) ?_
 refine TL.cons rfl (Step.load_box (c := .d (.int .i64 l.f0)) rfl rfl (lt_ok rfl) (by kernel_rfl) rfl rfl rfl) ?_
 refine TL.cons rfl (Step.call (f := 141) (xs := [.tmp 4]) (ps := [(.one (.d (.int .i64 l.f0)))]) false (g := .func 141) rfl rfl (lt_ok rfl) rfl (by kernel_rfl) rfl (.cons (.one (.d _)) .nil) (ok_spec_l02Signers l.f0) (.inr rfl) rfl (by simp) rfl) ?_
 refine TL.cons rfl (Step.move (p := (.one (.d (.bool (decide (1 ≤ l.f0 ∧ l.f0 ≤ 10)))))) rfl rfl (lt_ok rfl) rfl) ?_
 rcases Bool.eq_false_or_eq_true (decide (1 ≤ l.f0 ∧ l.f0 ≤ 10)) with hb1 | hb1
 ·
  refine TL.known 6 hb1 rfl ?_
  refine TL.gyes 6 rfl rfl (lt_ok rfl) rfl (Step.fieldAddr (q := 0) (off := 1) (n := 1) (one := true) rfl rfl (lt_ok rfl) (by kernel_rfl) (Nat.succ_ne_zero _) rfl) ?_
  refine TL.gyes 6 rfl rfl (lt_ok rfl) rfl (Step.load_box (c := .d (.int .i64 l.f1)) rfl rfl (lt_ok rfl) (by kernel_rfl) rfl rfl rfl) ?_
  refine TL.gyes 6 rfl rfl (lt_ok rfl) rfl (Step.call (f := 138) (xs := [.tmp 8, .const (.int .i64 0), .const (.int .i64 40)]) (ps := [(.one (.d (.int .i64 l.f1))), (.one (.d (.int .i64 0))), (.one (.d (.int .i64 40)))]) false (g := .func 138) rfl rfl (lt_ok rfl) rfl (by kernel_rfl) rfl (.cons (.one (.d _)) (.cons (.one (.d _)) (.cons (.one (.d _)) .nil))) (ok_spec_l01In l.f1 0 40) (.inr rfl) rfl (by simp) rfl) ?_
  refine TL.cons rfl (Step.pick (b := true) (p := (.one (.d (.bool (decide (0 ≤ l.f1 ∧ l.f1 ≤ 40)))))) rfl rfl (lt_ok rfl) rfl rfl) ?_
  refine TL.cons rfl (Step.move (p := (.one (.d (.bool (decide (0 ≤ l.f1 ∧ l.f1 ≤ 40)))))) rfl rfl (lt_ok rfl) rfl) ?_
  rcases Bool.eq_false_or_eq_true (decide (0 ≤ l.f1 ∧ l.f1 ≤ 40)) with hb2 | hb2
  ·
   refine TL.known 11 hb2 rfl ?_
   refine TL.gyes 11 rfl rfl (lt_ok rfl) rfl (Step.fieldAddr (q := 0) (off := 2) (n := 1) (one := true) rfl rfl (lt_ok rfl) (by kernel_rfl) (Nat.succ_ne_zero _) rfl) ?_
   refine TL.gyes 11 rfl rfl (lt_ok rfl) rfl (Step.load_box (c := .d (.int .i64 l.f2)) rfl rfl (lt_ok rfl) (by kernel_rfl) rfl rfl rfl) ?_
   refine TL.gyes 11 rfl rfl (lt_ok rfl) rfl (Step.call (f := 138) (xs := [.tmp 13, .const (.int .i64 0), .const (.int .i64 8)]) (ps := [(.one (.d (.int .i64 l.f2))), (.one (.d (.int .i64 0))), (.one (.d (.int .i64 8)))]) false (g := .func 138) rfl rfl (lt_ok rfl) rfl (by kernel_rfl) rfl (.cons (.one (.d _)) (.cons (.one (.d _)) (.cons (.one (.d _)) .nil))) (ok_spec_l01In l.f2 0 8) (.inr rfl) rfl (by simp) rfl) ?_
   refine TL.cons rfl (Step.pick (b := true) (p := (.one (.d (.bool (decide (0 ≤ l.f2 ∧ l.f2 ≤ 8)))))) rfl rfl (lt_ok rfl) rfl rfl) ?_
   refine TL.cons rfl (Step.move (p := (.one (.d (.bool (decide (0 ≤ l.f2 ∧ l.f2 ≤ 8)))))) rfl rfl (lt_ok rfl) rfl) ?_
   rcases Bool.eq_false_or_eq_true (decide (0 ≤ l.f2 ∧ l.f2 ≤ 8)) with hb3 | hb3
   ·
    refine TL.known 16 hb3 rfl ?_
    refine TL.gyes 16 rfl rfl (lt_ok rfl) rfl (Step.fieldAddr (q := 0) (off := 3) (n := 1) (one := true) rfl rfl (lt_ok rfl) (by kernel_rfl) (Nat.succ_ne_zero _) rfl) ?_
    refine TL.gyes 16 rfl rfl (lt_ok rfl) rfl (Step.load_box (c := .d (.int .i64 l.f3)) rfl rfl (lt_ok rfl) (by kernel_rfl) rfl rfl rfl) ?_
    refine TL.gyes 16 rfl rfl (lt_ok rfl) rfl (Step.call (f := 138) (xs := [.tmp 18, .const (.int .i64 1), .const (.int .i64 4000)]) (ps := [(.one (.d (.int .i64 l.f3))), (.one (.d (.int .i64 1))), (.one (.d (.int .i64 4000)))]) false (g := .func 138) rfl rfl (lt_ok rfl) rfl (by kernel_rfl) rfl (.cons (.one (.d _)) (.cons (.one (.d _)) (.cons (.one (.d _)) .nil))) (ok_spec_l01In l.f3 1 4000) (.inr rfl) rfl (by simp) rfl) ?_
    refine TL.cons rfl (Step.pick (b := true) (p := (.one (.d (.bool (decide (1 ≤ l.f3 ∧ l.f3 ≤ 4000)))))) rfl rfl (lt_ok rfl) rfl rfl) ?_
    refine TL.cons rfl (Step.move (p := (.one (.d (.bool (decide (1 ≤ l.f3 ∧ l.f3 ≤ 4000)))))) rfl rfl (lt_ok rfl) rfl) ?_
    rcases Bool.eq_false_or_eq_true (decide (1 ≤ l.f3 ∧ l.f3 ≤ 4000)) with hb4 | hb4
    ·
     refine TL.known 21 hb4 rfl ?_
     refine TL.gyes 21 rfl rfl (lt_ok rfl) rfl (Step.fieldAddr (q := 0) (off := 4) (n := 1) (one := true) rfl rfl (lt_ok rfl) (by kernel_rfl) (Nat.succ_ne_zero _) rfl) ?_
     refine TL.gyes 21 rfl rfl (lt_ok rfl) rfl (Step.load_box (c := .d (.int .i64 l.f4)) rfl rfl (lt_ok rfl) (by kernel_rfl) rfl rfl rfl) ?_
     refine TL.gyes 21 rfl rfl (lt_ok rfl) rfl (Step.call (f := 138) (xs := [.tmp 23, .const (.int .i64 3), .const (.int .i64 5)]) (ps := [(.one (.d (.int .i64 l.f4))), (.one (.d (.int .i64 3))), (.one (.d (.int .i64 5)))]) false (g := .func 138) rfl rfl (lt_ok rfl) rfl (by kernel_rfl) rfl (.cons (.one (.d _)) (.cons (.one (.d _)) (.cons (.one (.d _)) .nil))) (ok_spec_l01In l.f4 3 5) (.inr rfl) rfl (by simp) rfl) ?_
     refine TL.cons rfl (Step.pick (b := true) (p := (.one (.d (.bool (decide (3 ≤ l.f4 ∧ l.f4 ≤ 5)))))) rfl rfl (lt_ok rfl) rfl rfl) ?_
     refine TL.cons rfl (Step.assign (p := (.one (.d (.bool (decide (3 ≤ l.f4 ∧ l.f4 ≤ 5)))))) rfl rfl (lt_ok rfl) rfl) ?_
     refine TL.nil ?_
     refine T.ret ?_
     exact ⟨[(false, [.d (.bool (decide (3 ≤ l.f4 ∧ l.f4 ≤ 5)))])], (.cons rfl .nil), rfl, [], (RetC.rd' (by first | rfl | (congr 1; symm; simp only [limOk, *, Bool.and_true, Bool.true_and, Bool.and_false, Bool.false_and, decide_true, decide_false, and_true, true_and, and_self, and_false, false_and, Bool.and_self, not_true, not_false, Bool.not_true, Bool.not_false, ge_iff_le, gt_iff_lt, if_true, if_false, Bool.false_eq_true, ite_true, ite_false, reduceIte]; done) | (congr 1; symm; simp_all [limOk]; done) | (congr 1; symm; simp_all [limOk]; omega)) .nil)⟩
    ·
     refine TL.known 21 hb4 rfl ?_
     refine TL.goff 21 rfl rfl (lt_ok rfl) rfl rfl rfl (lt_ok rfl) ?_
     refine TL.goff 21 rfl rfl (lt_ok rfl) rfl rfl rfl (lt_ok rfl) ?_
     refine TL.goff 21 rfl rfl (lt_ok rfl) rfl rfl rfl (lt_ok rfl) ?_
     refine TL.cons rfl (Step.pick (b := false) (p := (.one (.d (.bool false)))) rfl rfl (lt_ok rfl) rfl rfl) ?_
     refine TL.cons rfl (Step.assign (p := (.one (.d (.bool false)))) rfl rfl (lt_ok rfl) rfl) ?_
     refine TL.nil ?_
     refine T.ret ?_
     exact ⟨[(false, [.d (.bool false)])], (.cons rfl .nil), rfl, [], (RetC.rd' (by first | rfl | (congr 1; symm; simp only [limOk, *, Bool.and_true, Bool.true_and, Bool.and_false, Bool.false_and, decide_true, decide_false, and_true, true_and, and_self, and_false, false_and, Bool.and_self, not_true, not_false, Bool.not_true, Bool.not_false, ge_iff_le, gt_iff_lt, if_true, if_false, Bool.false_eq_true, ite_true, ite_false, reduceIte]; done) | (congr 1; symm; simp_all [limOk]; done) | (congr 1; symm; simp_all [limOk]; omega)) .nil)⟩
   ·
    refine TL.known 16 hb3 rfl ?_
    refine TL.goff 16 rfl rfl (lt_ok rfl) rfl rfl rfl (lt_ok rfl) ?_
    refine TL.goff 16 rfl rfl (lt_ok rfl) rfl rfl rfl (lt_ok rfl) ?_
    refine TL.goff 16 rfl rfl (lt_ok rfl) rfl rfl rfl (lt_ok rfl) ?_
    refine TL.cons rfl (Step.pick (b := false) (p := (.one (.d (.bool false)))) rfl rfl (lt_ok rfl) rfl rfl) ?_
    refine TL.cons rfl (Step.move (p := (.one (.d (.bool false)))) rfl rfl (lt_ok rfl) rfl) ?_
    refine TL.goff 21 rfl rfl (lt_ok rfl) rfl rfl rfl (lt_ok rfl) ?_
    refine TL.goff 21 rfl rfl (lt_ok rfl) rfl rfl rfl (lt_ok rfl) ?_
    refine TL.goff 21 rfl rfl (lt_ok rfl) rfl rfl rfl (lt_ok rfl) ?_
    refine TL.cons rfl (Step.pick (b := false) (p := (.one (.d (.bool false)))) rfl rfl (lt_ok rfl) rfl rfl) ?_
    refine TL.cons rfl (Step.assign (p := (.one (.d (.bool false)))) rfl rfl (lt_ok rfl) rfl) ?_
    refine TL.nil ?_
    refine T.ret ?_
    exact ⟨[(false, [.d (.bool false)])], (.cons rfl .nil), rfl, [], (RetC.rd' (by first | rfl | (congr 1; symm; simp only [limOk, *, Bool.and_true, Bool.true_and, Bool.and_false, Bool.false_and, decide_true, decide_false, and_true, true_and, and_self, and_false, false_and, Bool.and_self, not_true, not_false, Bool.not_true, Bool.not_false, ge_iff_le, gt_iff_lt, if_true, if_false, Bool.false_eq_true, ite_true, ite_false, reduceIte]; done) | (congr 1; symm; simp_all [limOk]; done) | (congr 1; symm; simp_all [limOk]; omega)) .nil)⟩
  ·
   refine TL.known 11 hb2 rfl ?_
   refine TL.goff 11 rfl rfl (lt_ok rfl) rfl rfl rfl (lt_ok rfl) ?_
   refine TL.goff 11 rfl rfl (lt_ok rfl) rfl rfl rfl (lt_ok rfl) ?_
   refine TL.goff 11 rfl rfl (lt_ok rfl) rfl rfl rfl (lt_ok rfl) ?_
   refine TL.cons rfl (Step.pick (b := false) (p := (.one (.d (.bool false)))) rfl rfl (lt_ok rfl) rfl rfl) ?_
   refine TL.cons rfl (Step.move (p := (.one (.d (.bool false)))) rfl rfl (lt_ok rfl) rfl) ?_
   refine TL.goff 16 rfl rfl (lt_ok rfl) rfl rfl rfl (lt_ok rfl) ?_
   refine TL.goff 16 rfl rfl (lt_ok rfl) rfl rfl rfl (lt_ok rfl) ?_
   refine TL.goff 16 rfl rfl (lt_ok rfl) rfl rfl rfl (lt_ok rfl) ?_
   refine TL.cons rfl (Step.pick (b := false) (p := (.one (.d (.bool false)))) rfl rfl (lt_ok rfl) rfl rfl) ?_
   refine TL.cons rfl (Step.move (p := (.one (.d (.bool false)))) rfl rfl (lt_ok rfl) rfl) ?_
   refine TL.goff 21 rfl rfl (lt_ok rfl) rfl rfl rfl (lt_ok rfl) ?_
   refine TL.goff 21 rfl rfl (lt_ok rfl) rfl rfl rfl (lt_ok rfl) ?_
   refine TL.goff 21 rfl rfl (lt_ok rfl) rfl rfl rfl (lt_ok rfl) ?_
   refine TL.cons rfl (Step.pick (b := false) (p := (.one (.d (.bool false)))) rfl rfl (lt_ok rfl) rfl rfl) ?_
   refine TL.cons rfl (Step.assign (p := (.one (.d (.bool false)))) rfl rfl (lt_ok rfl) rfl) ?_
   refine TL.nil ?_
   refine T.ret ?_
   exact ⟨[(false, [.d (.bool false)])], (.cons rfl .nil), rfl, [], (RetC.rd' (by first | rfl | (congr 1; symm; simp only [limOk, *, Bool.and_true, Bool.true_and, Bool.and_false, Bool.false_and, decide_true, decide_false, and_true, true_and, and_self, and_false, false_and, Bool.and_self, not_true, not_false, Bool.not_true, Bool.not_false, ge_iff_le, gt_iff_lt, if_true, if_false, Bool.false_eq_true, ite_true, ite_false, reduceIte]; done) | (congr 1; symm; simp_all [limOk]; done) | (congr 1; symm; simp_all [limOk]; omega)) .nil)⟩
 ·
  refine TL.known 6 hb1 rfl ?_
  refine TL.goff 6 rfl rfl (lt_ok rfl) rfl rfl rfl (lt_ok rfl) ?_
  refine TL.goff 6 rfl rfl (lt_ok rfl) rfl rfl rfl (lt_ok rfl) ?_
  refine TL.goff 6 rfl rfl (lt_ok rfl) rfl rfl rfl (lt_ok rfl) ?_
  refine TL.cons rfl (Step.pick (b := false) (p := (.one (.d (.bool false)))) rfl rfl (lt_ok rfl) rfl rfl) ?_
  refine TL.cons rfl (Step.move (p := (.one (.d (.bool false)))) rfl rfl (lt_ok rfl) rfl) ?_
  refine TL.goff 11 rfl rfl (lt_ok rfl) rfl rfl rfl (lt_ok rfl) ?_
  refine TL.goff 11 rfl rfl (lt_ok rfl) rfl rfl rfl (lt_ok rfl) ?_
  refine TL.goff 11 rfl rfl (lt_ok rfl) rfl rfl rfl (lt_ok rfl) ?_
  refine TL.cons rfl (Step.pick (b := false) (p := (.one (.d (.bool false)))) rfl rfl (lt_ok rfl) rfl rfl) ?_
  refine TL.cons rfl (Step.move (p := (.one (.d (.bool false)))) rfl rfl (lt_ok rfl) rfl) ?_
  refine TL.goff 16 rfl rfl (lt_ok rfl) rfl rfl rfl (lt_ok rfl) ?_
  refine TL.goff 16 rfl rfl (lt_ok rfl) rfl rfl rfl (lt_ok rfl) ?_
  refine TL.goff 16 rfl rfl (lt_ok rfl) rfl rfl rfl (lt_ok rfl) ?_
  refine TL.cons rfl (Step.pick (b := false) (p := (.one (.d (.bool false)))) rfl rfl (lt_ok rfl) rfl rfl) ?_
  refine TL.cons rfl (Step.move (p := (.one (.d (.bool false)))) rfl rfl (lt_ok rfl) rfl) ?_
  refine TL.goff 21 rfl rfl (lt_ok rfl) rfl rfl rfl (lt_ok rfl) ?_
  refine TL.goff 21 rfl rfl (lt_ok rfl) rfl rfl rfl (lt_ok rfl) ?_
  refine TL.goff 21 rfl rfl (lt_ok rfl) rfl rfl rfl (lt_ok rfl) ?_
  refine TL.cons rfl (Step.pick (b := false) (p := (.one (.d (.bool false)))) rfl rfl (lt_ok rfl) rfl rfl) ?_
  refine TL.cons rfl (Step.assign (p := (.one (.d (.bool false)))) rfl rfl (lt_ok rfl) rfl) ?_
  refine TL.nil ?_
  refine T.ret ?_
  exact ⟨[(false, [.d (.bool false)])], (.cons rfl .nil), rfl, [], (RetC.rd' (by first | rfl | (congr 1; symm; simp only [limOk, *, Bool.and_true, Bool.true_and, Bool.and_false, Bool.false_and, decide_true, decide_false, and_true, true_and, and_self, and_false, false_and, Bool.and_self, not_true, not_false, Bool.not_true, Bool.not_false, ge_iff_le, gt_iff_lt, if_true, if_false, Bool.false_eq_true, ite_true, ite_false, reduceIte]; done) | (congr 1; symm; simp_all [limOk]; done) | (congr 1; symm; simp_all [limOk]; omega)) .nil)⟩
theorem ok_spec_l11New (l : SLimits) (b : List Int) (a : Int)  : NX Try.prog 120 [.agg l.cells, .one (.ints .u8 b), .one (.int .i64 a)] 150 [(.ints .u8 b), (.int .i64 (rs0 l a).f0), (.int .i64 (rs0 l a).f1)] := by
 refine NX.intro 6 Try.func120 rfl 19 rfl (le_ok rfl) rfl fun w Z => ?_
 refine T.seq ?_
 refine T.region ?_
 refine TL.cons rfl (Step.box (p := (.agg [.d (.int .i64 l.f0), .d (.int .i64 l.f1), .d (.int .i64 l.f2), .d (.int .i64 l.f3), .d (.int .i64 l.f4)])) (ps := [.d (.int .i64 l.f0), .d (.int .i64 l.f1), .d (.int .i64 l.f2), .d (.int .i64 l.f3), .d (.int .i64 l.f4)]) rfl rfl (lt_ok rfl) rfl rfl rfl rfl rfl) ?_
 refine TL.cons rfl (Step.assign (p := (.one (.und))) rfl rfl (lt_ok rfl) rfl) ?_
 refine TL.nil ?_
 refine T.seq ?_
 refine T.region ?_
 refine TL.cons rfl (Step.move (p := (.one (.d (.ints .u8 b)))) rfl rfl (lt_ok rfl) rfl) ?_
 refine TL.cons rfl (Step.move (p := (.one (.d (.int .i64 a)))) rfl rfl (lt_ok rfl) rfl) ?_
 refine TL.cons rfl (Step.build (zs := [.slice none 0 0, .int .i64 0, .int .i64 0]) (places := [(0, 1), (1, 1), (2, 1)]) (pss := [(0, [.d (.ints .u8 b)]), (1, [.d (.int .i64 a)])]) (ps' := [.d (.ints .u8 b), .d (.int .i64 a), .d (.int .i64 0)]) rfl rfl (lt_ok rfl) (by kernel_rfl) (.cons ⟨rfl, rfl⟩ (.cons ⟨rfl, rfl⟩ .nil)) rfl rfl rfl) ?_
 refine TL.cons rfl (Step.box (p := (.agg [.d (.ints .u8 b), .d (.int .i64 a), .d (.int .i64 0)])) (ps := [.d (.ints .u8 b), .d (.int .i64 a), .d (.int .i64 0)]) rfl rfl (lt_ok rfl) rfl rfl rfl rfl rfl) ?_
 refine TL.cons rfl (Step.assign (p := (.one (.ptr 11 0))) rfl rfl (lt_ok rfl) rfl) ?_
 refine TL.nil ?_
 refine T.seq ?_
 refine T.seq ?_
 refine T.region ?_
 refine TL.cons rfl (Step.load_box_agg (n := 5) (qs := [.d (.int .i64 l.f0), .d (.int .i64 l.f1), .d (.int .i64 l.f2), .d (.int .i64 l.f3), .d (.int .i64 l.f4)]) rfl rfl (lt_ok rfl) (by kernel_rfl) rfl rfl rfl rfl) ?_
 refine TL.cons rfl (Step.call (f := 94) (xs := [.tmp 12]) (ps := [(.agg [.d (.int .i64 l.f0), .d (.int .i64 l.f1), .d (.int .i64 l.f2), .d (.int .i64 l.f3), .d (.int .i64 l.f4)])]) false (g := .func 94) rfl rfl (lt_ok rfl) rfl (by kernel_rfl) rfl (.cons (.agg (.cons (.d _) (.cons (.d _) (.cons (.d _) (.cons (.d _) (.cons (.d _) .nil)))))) .nil) (ok_spec_LimitsOk l) (.inr rfl) rfl (by simp) rfl) ?_
 refine TL.cons rfl (Step.not (b := (limOk l)) rfl rfl (lt_ok rfl) rfl) ?_
 refine TL.nil ?_
 refine T.cond (b := !(limOk l)) rfl (fun h1 => ?_) (fun h1 => ?_)
 ·
  replace h1 : (limOk l) = false := by simpa only [Bool.not_eq_true', Bool.not_eq_false'] using h1
  refine T.region ?_
  refine TL.cons rfl (Step.move (p := (.one (.ptr 11 0))) rfl rfl (lt_ok rfl) rfl) ?_
  refine TL.cons rfl (Step.nilCheck rfl rfl (lt_ok rfl) rfl) ?_
  refine TL.cons rfl (Step.fieldAddr (q := 0) (off := 2) (n := 1) (one := true) rfl rfl (lt_ok rfl) (by kernel_rfl) (Nat.succ_ne_zero _) rfl) ?_
  refine TL.cons rfl (Step.store_box (n := 1) (p := (.one (.d (.int .i64 5)))) (qs := [.d (.int .i64 5)]) (ps' := [.d (.ints .u8 b), .d (.int .i64 a), .d (.int .i64 5)]) rfl rfl (by kernel_rfl) rfl rfl rfl rfl rfl rfl (le_ok rfl) rfl) ?_
  refine TL.nil ?_
  refine T.seq ?_
  refine T.region ?_
  refine TL.cons rfl (Step.move (p := (.one (.ptr 11 0))) rfl rfl (lt_ok rfl) rfl) ?_
  refine TL.cons rfl (Step.assign (p := (.one (.ptr 11 0))) rfl rfl (lt_ok rfl) rfl) ?_
  refine TL.nil ?_
  refine T.ret ?_
  exact ⟨11, rfl, by first | (rw [rs0_ok (by assumption)]; rfl) | (rw [rs0_no (by first | assumption | simp [*])]; rfl)⟩
 ·
  replace h1 : (limOk l) = true := by simpa only [Bool.not_eq_true', Bool.not_eq_false'] using h1
  refine T.skip ?_
  refine T.seq ?_
  refine T.region ?_
  refine TL.cons rfl (Step.move (p := (.one (.ptr 11 0))) rfl rfl (lt_ok rfl) rfl) ?_
  refine TL.cons rfl (Step.assign (p := (.one (.ptr 11 0))) rfl rfl (lt_ok rfl) rfl) ?_
  refine TL.nil ?_
  refine T.ret ?_
  exact ⟨11, rfl, by first | (rw [rs0_ok (by assumption)]; rfl) | (rw [rs0_no (by first | assumption | simp [*])]; rfl)⟩
theorem ok_spec_GetVar (b : List Int) (a : Int) (h0_ : U8s b) (h1_ : b.length ≤ 1099511627776) : RO Try.prog 165 [.one (.ints .u8 b), .one (.int .i64 a)] [(false, [.rd (.int .i64 (getVar b a).1)]), (false, [.rd (.int .i64 (getVar b a).2.1)]), (false, [.rd (.int .i64 (getVar b a).2.2)])] := by
 refine RO.intro Try.func165 rfl 67 rfl (le_ok rfl) fun w Z => ?_
 refine T.bnd 0 0 rfl rfl fun hb_0_0 => ?_
 simp only [D.size, List.length_map] at hb_0_0
 refine T.seq ?_
 refine T.region ?_
 refine TL.cons rfl (Step.assign (p := (.one (.d (.int .i64 0)))) rfl rfl (lt_ok rfl) rfl) ?_
 refine TL.cons rfl (Step.assign (p := (.one (.d (.int .i64 0)))) rfl rfl (lt_ok rfl) rfl) ?_
 refine TL.cons rfl (Step.assign (p := (.one (.d (.int .i64 0)))) rfl rfl (lt_ok rfl) rfl) ?_
 refine TL.nil ?_
 refine T.seq ?_
 refine T.seq ?_
 refine T.region ?_
 refine TL.cons rfl (Step.move (p := (.one (.d (.int .i64 a)))) rfl rfl (lt_ok rfl) rfl) ?_
 refine TL.cons rfl (Step.bin rfl rfl (lt_ok rfl) rfl rfl (Bin.lss (k := .i64) (a := a) (b := 0))) ?_
 refine TL.cons rfl (Step.move (p := (.one (.d (.bool (decide (a < 0)))))) rfl rfl (lt_ok rfl) rfl) ?_
 rcases Bool.eq_false_or_eq_true (decide (a < 0)) with hb1 | hb1
 ·
  refine TL.known 13 hb1 rfl ?_
  have hb1' := hb1
  replace hb1' := of_decide_eq_true hb1'
  refine TL.goff 13 rfl rfl (lt_ok rfl) rfl rfl rfl (lt_ok rfl) ?_
  refine TL.goff 13 rfl rfl (lt_ok rfl) rfl rfl rfl (lt_ok rfl) ?_
  refine TL.goff 13 rfl rfl (lt_ok rfl) rfl rfl rfl (lt_ok rfl) ?_
  refine TL.goff 13 rfl rfl (lt_ok rfl) rfl rfl rfl (lt_ok rfl) ?_
  refine TL.cons rfl (Step.pick (b := true) (p := (.one (.d (.bool true)))) rfl rfl (lt_ok rfl) rfl rfl) ?_
  refine TL.nil ?_
  refine T.cond (b := true) rfl (fun h2_ => ?_) (fun h2_ => absurd h2_ (by simp))
  refine T.seq ?_
  refine T.region ?_
  refine TL.cons rfl (Step.assign (p := (.one (.d (.int .i64 0)))) rfl rfl (lt_ok rfl) rfl) ?_
  refine TL.cons rfl (Step.assign (p := (.one (.d (.int .i64 0)))) rfl rfl (lt_ok rfl) rfl) ?_
  refine TL.cons rfl (Step.assign (p := (.one (.d (.int .i64 1)))) rfl rfl (lt_ok rfl) rfl) ?_
  refine TL.nil ?_
  refine T.ret ?_
  exact ⟨[(false, [.d (.int .i64 0)]), (false, [.d (.int .i64 0)]), (false, [.d (.int .i64 1)])], (.cons rfl (.cons rfl (.cons rfl .nil))), rfl, [], (RetC.rd' (by (congr 1; first | (rw [getVar_out (by omega)]; done) | (rw [getVar_in (by omega), ← hx4]; first | (rw [gvGo_short (by omega) (by omega)]; done) | (rw [gvGo_var (by omega) (by omega) (by omega)]; done) | (rw [gvGo_done (by omega) (by omega) (by omega) (by omega) (by omega)]; done) | (rw [gvGo_big (by omega) (by omega) (by omega) (by omega) (by omega)]; done) | (rw [gvGo_end (by omega)]; done)))) (RetC.rd' (by (congr 1; first | (rw [getVar_out (by omega)]; done) | (rw [getVar_in (by omega), ← hx4]; first | (rw [gvGo_short (by omega) (by omega)]; done) | (rw [gvGo_var (by omega) (by omega) (by omega)]; done) | (rw [gvGo_done (by omega) (by omega) (by omega) (by omega) (by omega)]; done) | (rw [gvGo_big (by omega) (by omega) (by omega) (by omega) (by omega)]; done) | (rw [gvGo_end (by omega)]; done)))) (RetC.rd' (by (congr 1; first | (rw [getVar_out (by omega)]; done) | (rw [getVar_in (by omega), ← hx4]; first | (rw [gvGo_short (by omega) (by omega)]; done) | (rw [gvGo_var (by omega) (by omega) (by omega)]; done) | (rw [gvGo_done (by omega) (by omega) (by omega) (by omega) (by omega)]; done) | (rw [gvGo_big (by omega) (by omega) (by omega) (by omega) (by omega)]; done) | (rw [gvGo_end (by omega)]; done)))) .nil)))⟩
 ·
  refine TL.known 13 hb1 rfl ?_
  have hb1' := hb1
  replace hb1' := of_decide_eq_false hb1'
  refine TL.gyes 13 rfl rfl (lt_ok rfl) rfl (Step.move (p := (.one (.d (.int .i64 a)))) rfl rfl (lt_ok rfl) rfl) ?_
  refine TL.gyes 13 rfl rfl (lt_ok rfl) rfl (Step.move (p := (.one (.d (.ints .u8 b)))) rfl rfl (lt_ok rfl) rfl) ?_
  refine TL.gyes 13 rfl rfl (lt_ok rfl) rfl (Step.len (e := 5) (z := 1) (d := (.ints .u8 b)) rfl rfl (lt_ok rfl) (by kernel_rfl) rfl rfl) ?_
  refine TL.gyes 13 rfl rfl (lt_ok rfl) rfl (Step.bin rfl rfl (lt_ok rfl) rfl rfl (Bin.gtr (k := .i64) (a := a) (b := (b.length : Int)))) ?_
  refine TL.cons rfl (Step.pick (b := false) (p := (.one (.d (.bool (decide ((b.length : Int) < a)))))) rfl rfl (lt_ok rfl) rfl rfl) ?_
  refine TL.nil ?_
  refine T.cond (b := decide ((b.length : Int) < a)) rfl (fun h3 => ?_) (fun h3 => ?_)
  ·
   replace h3 := of_decide_eq_true h3
   refine T.seq ?_
   refine T.region ?_
   refine TL.cons rfl (Step.assign (p := (.one (.d (.int .i64 0)))) rfl rfl (lt_ok rfl) rfl) ?_
   refine TL.cons rfl (Step.assign (p := (.one (.d (.int .i64 0)))) rfl rfl (lt_ok rfl) rfl) ?_
   refine TL.cons rfl (Step.assign (p := (.one (.d (.int .i64 1)))) rfl rfl (lt_ok rfl) rfl) ?_
   refine TL.nil ?_
   refine T.ret ?_
   exact ⟨[(false, [.d (.int .i64 0)]), (false, [.d (.int .i64 0)]), (false, [.d (.int .i64 1)])], (.cons rfl (.cons rfl (.cons rfl .nil))), rfl, [], (RetC.rd' (by (congr 1; first | (rw [getVar_out (by omega)]; done) | (rw [getVar_in (by omega), ← hx4]; first | (rw [gvGo_short (by omega) (by omega)]; done) | (rw [gvGo_var (by omega) (by omega) (by omega)]; done) | (rw [gvGo_done (by omega) (by omega) (by omega) (by omega) (by omega)]; done) | (rw [gvGo_big (by omega) (by omega) (by omega) (by omega) (by omega)]; done) | (rw [gvGo_end (by omega)]; done)))) (RetC.rd' (by (congr 1; first | (rw [getVar_out (by omega)]; done) | (rw [getVar_in (by omega), ← hx4]; first | (rw [gvGo_short (by omega) (by omega)]; done) | (rw [gvGo_var (by omega) (by omega) (by omega)]; done) | (rw [gvGo_done (by omega) (by omega) (by omega) (by omega) (by omega)]; done) | (rw [gvGo_big (by omega) (by omega) (by omega) (by omega) (by omega)]; done) | (rw [gvGo_end (by omega)]; done)))) (RetC.rd' (by (congr 1; first | (rw [getVar_out (by omega)]; done) | (rw [getVar_in (by omega), ← hx4]; first | (rw [gvGo_short (by omega) (by omega)]; done) | (rw [gvGo_var (by omega) (by omega) (by omega)]; done) | (rw [gvGo_done (by omega) (by omega) (by omega) (by omega) (by omega)]; done) | (rw [gvGo_big (by omega) (by omega) (by omega) (by omega) (by omega)]; done) | (rw [gvGo_end (by omega)]; done)))) .nil)))⟩
  ·
   replace h3 := of_decide_eq_false h3
   refine T.skip ?_
   refine T.seq ?_
   refine T.region ?_
   refine TL.cons rfl (Step.assign (p := (.one (.d (.int .i64 0)))) rfl rfl (lt_ok rfl) rfl) ?_
   refine TL.nil ?_
   refine T.seq ?_
   refine T.region ?_
   refine TL.cons rfl (Step.assign (p := (.one (.d (.int .i64 1)))) rfl rfl (lt_ok rfl) rfl) ?_
   refine TL.nil ?_
   refine T.seq ?_
   refine T.seq ?_
   refine T.region ?_
   refine TL.cons rfl (Step.assign (p := (.one (.d (.int .i64 0)))) rfl rfl (lt_ok rfl) rfl) ?_
   refine TL.nil ?_
   refine T.block ?_
   refine T.loop (ι := Nat × Int) (fun xx_ => { tm := [(0, (.one (.d (.ints .u8 b)))), (1, (.one (.d (.int .i64 a)))), (9, (.one (.d (.int .i64 ((xx_.1) : Int))))), (7, (.one (.d (.int .i64 (xx_.2))))), (8, (.one (.d (.int .i64 (128 ^ (xx_.1))))))], rows := [], boxes := [] }) (fun xx_ => (xx_.1) ≤ 9 ∧ 0 ≤ (xx_.2) ∧ (xx_.2) < 128 ^ (xx_.1) ∧ gvGo b a (9 - (xx_.1)) (xx_.1) (xx_.2) = gvGo b a 9 0 0) (fun xx_ => 9 - (xx_.1)) (0, 0) ?_ ?_ ?_
   · exact Env.le_mk ⟨rfl, rfl, by first | rfl | (refine congrArg (fun n => PV.one (.d (.int .i64 n))) ?_; first | rfl | omega | (simp; done)), by first | rfl | (refine congrArg (fun n => PV.one (.d (.int .i64 n))) ?_; first | rfl | omega | (simp; done)), by first | rfl | (refine congrArg (fun n => PV.one (.d (.int .i64 n))) ?_; first | rfl | omega | (simp; done)), trivial⟩ trivial trivial
   · (dsimp only; refine ⟨by omega, by omega, by simp, rfl⟩)
   ·
    intro xx_ hx
    obtain ⟨i, n⟩ := xx_
    try dsimp only at hx ⊢
    obtain ⟨hx1, hx2, hx3, hx4⟩ := hx
    have hu_ := getD_u8 h0_ (a + (i : Int)).toNat
    have hm_ := gv_mul hu_.1 i
    refine T.seq ?_
    refine T.seq ?_
    refine T.region ?_
    refine TL.cons rfl (Step.move (p := (.one (.d (.int .i64 (i : Int))))) rfl rfl (lt_ok rfl) rfl) ?_
    refine TL.cons rfl (Step.bin rfl rfl (lt_ok rfl) rfl rfl (Bin.lss (k := .i64) (a := (i : Int)) (b := 9))) ?_
    refine TL.nil ?_
    refine T.cond (b := decide ((i : Int) < 9)) rfl (fun h4 => ?_) (fun h4 => ?_)
    ·
     replace h4 := of_decide_eq_true h4
     have hp_ := pow128 (i := i) (by omega)
     refine T.skip ?_
     refine T.seq ?_
     refine T.block ?_
     refine T.seq ?_
     refine T.seq ?_
     refine T.region ?_
     refine TL.cons rfl (Step.move (p := (.one (.d (.int .i64 a)))) rfl rfl (lt_ok rfl) rfl) ?_
     refine TL.cons rfl (Step.move (p := (.one (.d (.int .i64 (i : Int))))) rfl rfl (lt_ok rfl) rfl) ?_
     refine TL.cons rfl (Step.bin (r := .int .i64 (a + (i : Int))) rfl rfl (lt_ok rfl) rfl rfl (Bin.add (a := a) (b := (i : Int)) (by first | exact wrap_ok (by first | omega | (simp; omega)) (by first | omega | (simp; omega)) | rfl))) ?_
     refine TL.cons rfl (Step.move (p := (.one (.d (.ints .u8 b)))) rfl rfl (lt_ok rfl) rfl) ?_
     refine TL.cons rfl (Step.len (e := 5) (z := 1) (d := (.ints .u8 b)) rfl rfl (lt_ok rfl) (by kernel_rfl) rfl rfl) ?_
     refine TL.cons rfl (Step.bin rfl rfl (lt_ok rfl) rfl rfl (Bin.geq (k := .i64) (a := (a + (i : Int))) (b := (b.length : Int)))) ?_
     refine TL.nil ?_
     refine T.cond (b := decide ((b.length : Int) ≤ (a + (i : Int)))) rfl (fun h5 => ?_) (fun h5 => ?_)
     ·
      replace h5 := of_decide_eq_true h5
      refine T.seq ?_
      refine T.region ?_
      refine TL.cons rfl (Step.assign (p := (.one (.d (.int .i64 0)))) rfl rfl (lt_ok rfl) rfl) ?_
      refine TL.cons rfl (Step.assign (p := (.one (.d (.int .i64 0)))) rfl rfl (lt_ok rfl) rfl) ?_
      refine TL.cons rfl (Step.assign (p := (.one (.d (.int .i64 1)))) rfl rfl (lt_ok rfl) rfl) ?_
      refine TL.nil ?_
      refine T.ret ?_
      exact ⟨[(false, [.d (.int .i64 0)]), (false, [.d (.int .i64 0)]), (false, [.d (.int .i64 1)])], (.cons rfl (.cons rfl (.cons rfl .nil))), rfl, [], (RetC.rd' (by (congr 1; first | (rw [getVar_out (by omega)]; done) | (rw [getVar_in (by omega), ← hx4]; first | (rw [gvGo_short (by omega) (by omega)]; done) | (rw [gvGo_var (by omega) (by omega) (by omega)]; done) | (rw [gvGo_done (by omega) (by omega) (by omega) (by omega) (by omega)]; done) | (rw [gvGo_big (by omega) (by omega) (by omega) (by omega) (by omega)]; done) | (rw [gvGo_end (by omega)]; done)))) (RetC.rd' (by (congr 1; first | (rw [getVar_out (by omega)]; done) | (rw [getVar_in (by omega), ← hx4]; first | (rw [gvGo_short (by omega) (by omega)]; done) | (rw [gvGo_var (by omega) (by omega) (by omega)]; done) | (rw [gvGo_done (by omega) (by omega) (by omega) (by omega) (by omega)]; done) | (rw [gvGo_big (by omega) (by omega) (by omega) (by omega) (by omega)]; done) | (rw [gvGo_end (by omega)]; done)))) (RetC.rd' (by (congr 1; first | (rw [getVar_out (by omega)]; done) | (rw [getVar_in (by omega), ← hx4]; first | (rw [gvGo_short (by omega) (by omega)]; done) | (rw [gvGo_var (by omega) (by omega) (by omega)]; done) | (rw [gvGo_done (by omega) (by omega) (by omega) (by omega) (by omega)]; done) | (rw [gvGo_big (by omega) (by omega) (by omega) (by omega) (by omega)]; done) | (rw [gvGo_end (by omega)]; done)))) .nil)))⟩
     ·
      replace h5 := of_decide_eq_false h5
      refine T.skip ?_
      refine T.seq ?_
      refine T.region ?_
      refine TL.cons rfl (Step.move (p := (.one (.d (.ints .u8 b)))) rfl rfl (lt_ok rfl) rfl) ?_
      refine TL.cons rfl (Step.move (p := (.one (.d (.int .i64 a)))) rfl rfl (lt_ok rfl) rfl) ?_
      refine TL.cons rfl (Step.move (p := (.one (.d (.int .i64 (i : Int))))) rfl rfl (lt_ok rfl) rfl) ?_
      refine TL.cons rfl (Step.bin (r := .int .i64 (a + (i : Int))) rfl rfl (lt_ok rfl) rfl rfl (Bin.add (a := a) (b := (i : Int)) (by first | exact wrap_ok (by first | omega | (simp; omega)) (by first | omega | (simp; omega)) | rfl))) ?_
      refine TL.cons rfl (Step.index (e := 5) (z := 1) (i := (a + (i : Int))) rfl rfl (lt_ok rfl) (by kernel_rfl) rfl rfl rfl (lt_ok rfl) rfl (by first | omega | (simp; omega)) (by simp only [D.size]; first | omega | (simp; omega))) ?_
      refine TL.cons rfl (Step.load (e := (.int .u8 (b.getD (a + (i : Int)).toNat 0))) rfl rfl (lt_ok rfl) (by kernel_rfl) rfl rfl) ?_
      refine TL.cons rfl (Step.conv (c := (b.getD (a + (i : Int)).toNat 0)) rfl rfl (lt_ok rfl) (by kernel_rfl) (by kernel_rfl) rfl (wrap_ok (by first | omega | (simp; omega)) (by first | omega | (simp; omega)))) ?_
      refine TL.cons rfl (Step.assign (p := (.one (.d (.int .i64 (b.getD (a + (i : Int)).toNat 0))))) rfl rfl (lt_ok rfl) rfl) ?_
      refine TL.nil ?_
      refine T.seq ?_
      refine T.seq ?_
      refine T.region ?_
      refine TL.cons rfl (Step.move (p := (.one (.d (.int .i64 (i : Int))))) rfl rfl (lt_ok rfl) rfl) ?_
      refine TL.cons rfl (Step.bin rfl rfl (lt_ok rfl) rfl rfl (Bin.gtr (k := .i64) (a := (i : Int)) (b := 0))) ?_
      refine TL.cons rfl (Step.move (p := (.one (.d (.bool (decide (0 < (i : Int))))))) rfl rfl (lt_ok rfl) rfl) ?_
      rcases Bool.eq_false_or_eq_true (decide (0 < (i : Int))) with hb6 | hb6
      ·
       refine TL.known 38 hb6 rfl ?_
       have hb6' := hb6
       replace hb6' := of_decide_eq_true hb6'
       refine TL.gyes 38 rfl rfl (lt_ok rfl) rfl (Step.move (p := (.one (.d (.int .i64 (b.getD (a + (i : Int)).toNat 0))))) rfl rfl (lt_ok rfl) rfl) ?_
       refine TL.gyes 38 rfl rfl (lt_ok rfl) rfl (Step.bin rfl rfl (lt_ok rfl) rfl rfl (Bin.eql (k := .i64) (a := (b.getD (a + (i : Int)).toNat 0)) (b := 0))) ?_
       refine TL.cons rfl (Step.pick (b := true) (p := (.one (.d (.bool (decide ((b.getD (a + (i : Int)).toNat 0) = 0)))))) rfl rfl (lt_ok rfl) rfl rfl) ?_
       refine TL.cons rfl (Step.move (p := (.one (.d (.bool (decide ((b.getD (a + (i : Int)).toNat 0) = 0)))))) rfl rfl (lt_ok rfl) rfl) ?_
       rcases Bool.eq_false_or_eq_true (decide ((b.getD (a + (i : Int)).toNat 0) = 0)) with hb7 | hb7
       ·
        refine TL.known 42 hb7 rfl ?_
        have hb7' := hb7
        replace hb7' := of_decide_eq_true hb7'
        refine TL.goff 42 rfl rfl (lt_ok rfl) rfl rfl rfl (lt_ok rfl) ?_
        refine TL.goff 42 rfl rfl (lt_ok rfl) rfl rfl rfl (lt_ok rfl) ?_
        refine TL.goff 42 rfl rfl (lt_ok rfl) rfl rfl rfl (lt_ok rfl) ?_
        refine TL.goffU 45 rfl rfl (lt_ok rfl) rfl rfl (lt_ok rfl) ?_
        refine TL.goffU 45 rfl rfl (lt_ok rfl) rfl rfl (lt_ok rfl) ?_
        refine TL.goff 42 rfl rfl (lt_ok rfl) rfl rfl rfl (lt_ok rfl) ?_
        refine TL.cons rfl (Step.pick (b := true) (p := (.one (.d (.bool true)))) rfl rfl (lt_ok rfl) rfl rfl) ?_
        refine TL.nil ?_
        refine T.cond (b := true) rfl (fun h8_ => ?_) (fun h8_ => absurd h8_ (by simp))
        refine T.seq ?_
        refine T.region ?_
        refine TL.cons rfl (Step.assign (p := (.one (.d (.int .i64 0)))) rfl rfl (lt_ok rfl) rfl) ?_
        refine TL.cons rfl (Step.assign (p := (.one (.d (.int .i64 0)))) rfl rfl (lt_ok rfl) rfl) ?_
        refine TL.cons rfl (Step.assign (p := (.one (.d (.int .i64 2)))) rfl rfl (lt_ok rfl) rfl) ?_
        refine TL.nil ?_
        refine T.ret ?_
        exact ⟨[(false, [.d (.int .i64 0)]), (false, [.d (.int .i64 0)]), (false, [.d (.int .i64 2)])], (.cons rfl (.cons rfl (.cons rfl .nil))), rfl, [], (RetC.rd' (by (congr 1; first | (rw [getVar_out (by omega)]; done) | (rw [getVar_in (by omega), ← hx4]; first | (rw [gvGo_short (by omega) (by omega)]; done) | (rw [gvGo_var (by omega) (by omega) (by omega)]; done) | (rw [gvGo_done (by omega) (by omega) (by omega) (by omega) (by omega)]; done) | (rw [gvGo_big (by omega) (by omega) (by omega) (by omega) (by omega)]; done) | (rw [gvGo_end (by omega)]; done)))) (RetC.rd' (by (congr 1; first | (rw [getVar_out (by omega)]; done) | (rw [getVar_in (by omega), ← hx4]; first | (rw [gvGo_short (by omega) (by omega)]; done) | (rw [gvGo_var (by omega) (by omega) (by omega)]; done) | (rw [gvGo_done (by omega) (by omega) (by omega) (by omega) (by omega)]; done) | (rw [gvGo_big (by omega) (by omega) (by omega) (by omega) (by omega)]; done) | (rw [gvGo_end (by omega)]; done)))) (RetC.rd' (by (congr 1; first | (rw [getVar_out (by omega)]; done) | (rw [getVar_in (by omega), ← hx4]; first | (rw [gvGo_short (by omega) (by omega)]; done) | (rw [gvGo_var (by omega) (by omega) (by omega)]; done) | (rw [gvGo_done (by omega) (by omega) (by omega) (by omega) (by omega)]; done) | (rw [gvGo_big (by omega) (by omega) (by omega) (by omega) (by omega)]; done) | (rw [gvGo_end (by omega)]; done)))) .nil)))⟩
       ·
        refine TL.known 42 hb7 rfl ?_
        have hb7' := hb7
        replace hb7' := of_decide_eq_false hb7'
        refine TL.gyes 42 rfl rfl (lt_ok rfl) rfl (Step.move (p := (.one (.d (.int .i64 (i : Int))))) rfl rfl (lt_ok rfl) rfl) ?_
        refine TL.gyes 42 rfl rfl (lt_ok rfl) rfl (Step.bin rfl rfl (lt_ok rfl) rfl rfl (Bin.eql (k := .i64) (a := (i : Int)) (b := 8))) ?_
        refine TL.gyes 42 rfl rfl (lt_ok rfl) rfl (Step.move (p := (.one (.d (.bool (decide ((i : Int) = 8)))))) rfl rfl (lt_ok rfl) rfl) ?_
        rcases Bool.eq_false_or_eq_true (decide ((i : Int) = 8)) with hb9 | hb9
        ·
         refine TL.known 45 hb9 rfl ?_
         have hb9' := hb9
         replace hb9' := of_decide_eq_true hb9'
         refine TL.gyes 45 rfl rfl (lt_ok rfl) rfl (Step.move (p := (.one (.d (.int .i64 (b.getD (a + (i : Int)).toNat 0))))) rfl rfl (lt_ok rfl) rfl) ?_
         refine TL.gyes 45 rfl rfl (lt_ok rfl) rfl (Step.bin rfl rfl (lt_ok rfl) rfl rfl (Bin.geq (k := .i64) (a := (b.getD (a + (i : Int)).toNat 0)) (b := 128))) ?_
         refine TL.gyes 42 rfl rfl (lt_ok rfl) rfl (Step.pick (b := true) (p := (.one (.d (.bool (decide (128 ≤ (b.getD (a + (i : Int)).toNat 0))))))) rfl rfl (lt_ok rfl) rfl rfl) ?_
         refine TL.cons rfl (Step.pick (b := false) (p := (.one (.d (.bool (decide (128 ≤ (b.getD (a + (i : Int)).toNat 0))))))) rfl rfl (lt_ok rfl) rfl rfl) ?_
         refine TL.nil ?_
         refine T.cond (b := decide (128 ≤ (b.getD (a + (i : Int)).toNat 0))) rfl (fun h10 => ?_) (fun h10 => ?_)
         ·
          replace h10 := of_decide_eq_true h10
          refine T.seq ?_
          refine T.region ?_
          refine TL.cons rfl (Step.assign (p := (.one (.d (.int .i64 0)))) rfl rfl (lt_ok rfl) rfl) ?_
          refine TL.cons rfl (Step.assign (p := (.one (.d (.int .i64 0)))) rfl rfl (lt_ok rfl) rfl) ?_
          refine TL.cons rfl (Step.assign (p := (.one (.d (.int .i64 2)))) rfl rfl (lt_ok rfl) rfl) ?_
          refine TL.nil ?_
          refine T.ret ?_
          exact ⟨[(false, [.d (.int .i64 0)]), (false, [.d (.int .i64 0)]), (false, [.d (.int .i64 2)])], (.cons rfl (.cons rfl (.cons rfl .nil))), rfl, [], (RetC.rd' (by (congr 1; first | (rw [getVar_out (by omega)]; done) | (rw [getVar_in (by omega), ← hx4]; first | (rw [gvGo_short (by omega) (by omega)]; done) | (rw [gvGo_var (by omega) (by omega) (by omega)]; done) | (rw [gvGo_done (by omega) (by omega) (by omega) (by omega) (by omega)]; done) | (rw [gvGo_big (by omega) (by omega) (by omega) (by omega) (by omega)]; done) | (rw [gvGo_end (by omega)]; done)))) (RetC.rd' (by (congr 1; first | (rw [getVar_out (by omega)]; done) | (rw [getVar_in (by omega), ← hx4]; first | (rw [gvGo_short (by omega) (by omega)]; done) | (rw [gvGo_var (by omega) (by omega) (by omega)]; done) | (rw [gvGo_done (by omega) (by omega) (by omega) (by omega) (by omega)]; done) | (rw [gvGo_big (by omega) (by omega) (by omega) (by omega) (by omega)]; done) | (rw [gvGo_end (by omega)]; done)))) (RetC.rd' (by (congr 1; first | (rw [getVar_out (by omega)]; done) | (rw [getVar_in (by omega), ← hx4]; first | (rw [gvGo_short (by omega) (by omega)]; done) | (rw [gvGo_var (by omega) (by omega) (by omega)]; done) | (rw [gvGo_done (by omega) (by omega) (by omega) (by omega) (by omega)]; done) | (rw [gvGo_big (by omega) (by omega) (by omega) (by omega) (by omega)]; done) | (rw [gvGo_end (by omega)]; done)))) .nil)))⟩
         ·
          replace h10 := of_decide_eq_false h10
          refine T.skip ?_
          refine T.seq ?_
          refine T.region ?_
          refine TL.cons rfl (Step.move (p := (.one (.d (.int .i64 n)))) rfl rfl (lt_ok rfl) rfl) ?_
          refine TL.cons rfl (Step.move (p := (.one (.d (.int .i64 (b.getD (a + (i : Int)).toNat 0))))) rfl rfl (lt_ok rfl) rfl) ?_
          refine TL.cons rfl (Step.bin (r := .int .i64 ((b.getD (a + (i : Int)).toNat 0) % 128)) rfl rfl (lt_ok rfl) rfl rfl (Bin.rem (k := .i64) (a := (b.getD (a + (i : Int)).toNat 0)) (b := 128) (by decide) (Int.tmod_eq_emod_of_nonneg (by first | omega | (simp; omega))))) ?_
          refine TL.cons rfl (Step.move (p := (.one (.d (.int .i64 (128 ^ i))))) rfl rfl (lt_ok rfl) rfl) ?_
          refine TL.cons rfl (Step.bin (r := .int .i64 (((b.getD (a + (i : Int)).toNat 0) % 128) * (128 ^ i))) rfl rfl (lt_ok rfl) rfl rfl (Bin.mul (a := ((b.getD (a + (i : Int)).toNat 0) % 128)) (b := (128 ^ i)) (by first | exact wrap_ok (by first | omega | (simp; omega)) (by first | omega | (simp; omega)) | rfl))) ?_
          refine TL.cons rfl (Step.bin (r := .int .i64 (n + (((b.getD (a + (i : Int)).toNat 0) % 128) * (128 ^ i)))) rfl rfl (lt_ok rfl) rfl rfl (Bin.add (a := n) (b := (((b.getD (a + (i : Int)).toNat 0) % 128) * (128 ^ i))) (by first | exact wrap_ok (by first | omega | (simp; omega)) (by first | omega | (simp; omega)) | rfl))) ?_
          refine TL.cons rfl (Step.assign (p := (.one (.d (.int .i64 (n + (((b.getD (a + (i : Int)).toNat 0) % 128) * (128 ^ i))))))) rfl rfl (lt_ok rfl) rfl) ?_
          refine TL.nil ?_
          refine T.seq ?_
          refine T.seq ?_
          refine T.region ?_
          refine TL.cons rfl (Step.move (p := (.one (.d (.int .i64 (b.getD (a + (i : Int)).toNat 0))))) rfl rfl (lt_ok rfl) rfl) ?_
          refine TL.cons rfl (Step.bin rfl rfl (lt_ok rfl) rfl rfl (Bin.lss (k := .i64) (a := (b.getD (a + (i : Int)).toNat 0)) (b := 128))) ?_
          refine TL.nil ?_
          refine T.cond (b := decide ((b.getD (a + (i : Int)).toNat 0) < 128)) rfl (fun h11 => ?_) (fun h11 => ?_)
          ·
           replace h11 := of_decide_eq_true h11
           refine T.seq ?_
           refine T.seq ?_
           refine T.region ?_
           refine TL.cons rfl (Step.move (p := (.one (.d (.int .i64 (n + (((b.getD (a + (i : Int)).toNat 0) % 128) * (128 ^ i))))))) rfl rfl (lt_ok rfl) rfl) ?_
           refine TL.cons rfl (Step.bin rfl rfl (lt_ok rfl) rfl rfl (Bin.gtr (k := .i64) (a := (n + (((b.getD (a + (i : Int)).toNat 0) % 128) * (128 ^ i)))) (b := 1152921504606846975))) ?_
           refine TL.nil ?_
           refine T.cond (b := decide (1152921504606846975 < (n + (((b.getD (a + (i : Int)).toNat 0) % 128) * (128 ^ i))))) rfl (fun h12 => ?_) (fun h12 => ?_)
           ·
            replace h12 := of_decide_eq_true h12
            refine T.seq ?_
            refine T.region ?_
            refine TL.cons rfl (Step.assign (p := (.one (.d (.int .i64 0)))) rfl rfl (lt_ok rfl) rfl) ?_
            refine TL.cons rfl (Step.assign (p := (.one (.d (.int .i64 0)))) rfl rfl (lt_ok rfl) rfl) ?_
            refine TL.cons rfl (Step.assign (p := (.one (.d (.int .i64 2)))) rfl rfl (lt_ok rfl) rfl) ?_
            refine TL.nil ?_
            refine T.ret ?_
            exact ⟨[(false, [.d (.int .i64 0)]), (false, [.d (.int .i64 0)]), (false, [.d (.int .i64 2)])], (.cons rfl (.cons rfl (.cons rfl .nil))), rfl, [], (RetC.rd' (by (congr 1; first | (rw [getVar_out (by omega)]; done) | (rw [getVar_in (by omega), ← hx4]; first | (rw [gvGo_short (by omega) (by omega)]; done) | (rw [gvGo_var (by omega) (by omega) (by omega)]; done) | (rw [gvGo_done (by omega) (by omega) (by omega) (by omega) (by omega)]; done) | (rw [gvGo_big (by omega) (by omega) (by omega) (by omega) (by omega)]; done) | (rw [gvGo_end (by omega)]; done)))) (RetC.rd' (by (congr 1; first | (rw [getVar_out (by omega)]; done) | (rw [getVar_in (by omega), ← hx4]; first | (rw [gvGo_short (by omega) (by omega)]; done) | (rw [gvGo_var (by omega) (by omega) (by omega)]; done) | (rw [gvGo_done (by omega) (by omega) (by omega) (by omega) (by omega)]; done) | (rw [gvGo_big (by omega) (by omega) (by omega) (by omega) (by omega)]; done) | (rw [gvGo_end (by omega)]; done)))) (RetC.rd' (by (congr 1; first | (rw [getVar_out (by omega)]; done) | (rw [getVar_in (by omega), ← hx4]; first | (rw [gvGo_short (by omega) (by omega)]; done) | (rw [gvGo_var (by omega) (by omega) (by omega)]; done) | (rw [gvGo_done (by omega) (by omega) (by omega) (by omega) (by omega)]; done) | (rw [gvGo_big (by omega) (by omega) (by omega) (by omega) (by omega)]; done) | (rw [gvGo_end (by omega)]; done)))) .nil)))⟩
           ·
            replace h12 := of_decide_eq_false h12
            refine T.skip ?_
            refine T.seq ?_
            refine T.region ?_
            refine TL.cons rfl (Step.move (p := (.one (.d (.int .i64 (n + (((b.getD (a + (i : Int)).toNat 0) % 128) * (128 ^ i))))))) rfl rfl (lt_ok rfl) rfl) ?_
            refine TL.cons rfl (Step.move (p := (.one (.d (.int .i64 a)))) rfl rfl (lt_ok rfl) rfl) ?_
            refine TL.cons rfl (Step.move (p := (.one (.d (.int .i64 (i : Int))))) rfl rfl (lt_ok rfl) rfl) ?_
            refine TL.cons rfl (Step.bin (r := .int .i64 (a + (i : Int))) rfl rfl (lt_ok rfl) rfl rfl (Bin.add (a := a) (b := (i : Int)) (by first | exact wrap_ok (by first | omega | (simp; omega)) (by first | omega | (simp; omega)) | rfl))) ?_
            refine TL.cons rfl (Step.bin (r := .int .i64 ((a + (i : Int)) + 1)) rfl rfl (lt_ok rfl) rfl rfl (Bin.add (a := (a + (i : Int))) (b := 1) (by first | exact wrap_ok (by first | omega | (simp; omega)) (by first | omega | (simp; omega)) | rfl))) ?_
            refine TL.cons rfl (Step.assign (p := (.one (.d (.int .i64 (n + (((b.getD (a + (i : Int)).toNat 0) % 128) * (128 ^ i))))))) rfl rfl (lt_ok rfl) rfl) ?_
            refine TL.cons rfl (Step.assign (p := (.one (.d (.int .i64 ((a + (i : Int)) + 1))))) rfl rfl (lt_ok rfl) rfl) ?_
            refine TL.cons rfl (Step.assign (p := (.one (.d (.int .i64 0)))) rfl rfl (lt_ok rfl) rfl) ?_
            refine TL.nil ?_
            refine T.ret ?_
            exact ⟨[(false, [.d (.int .i64 (n + (((b.getD (a + (i : Int)).toNat 0) % 128) * (128 ^ i))))]), (false, [.d (.int .i64 ((a + (i : Int)) + 1))]), (false, [.d (.int .i64 0)])], (.cons rfl (.cons rfl (.cons rfl .nil))), rfl, [], (RetC.rd' (by (congr 1; first | (rw [getVar_out (by omega)]; done) | (rw [getVar_in (by omega), ← hx4]; first | (rw [gvGo_short (by omega) (by omega)]; done) | (rw [gvGo_var (by omega) (by omega) (by omega)]; done) | (rw [gvGo_done (by omega) (by omega) (by omega) (by omega) (by omega)]; done) | (rw [gvGo_big (by omega) (by omega) (by omega) (by omega) (by omega)]; done) | (rw [gvGo_end (by omega)]; done)))) (RetC.rd' (by (congr 1; first | (rw [getVar_out (by omega)]; done) | (rw [getVar_in (by omega), ← hx4]; first | (rw [gvGo_short (by omega) (by omega)]; done) | (rw [gvGo_var (by omega) (by omega) (by omega)]; done) | (rw [gvGo_done (by omega) (by omega) (by omega) (by omega) (by omega)]; done) | (rw [gvGo_big (by omega) (by omega) (by omega) (by omega) (by omega)]; done) | (rw [gvGo_end (by omega)]; done)))) (RetC.rd' (by (congr 1; first | (rw [getVar_out (by omega)]; done) | (rw [getVar_in (by omega), ← hx4]; first | (rw [gvGo_short (by omega) (by omega)]; done) | (rw [gvGo_var (by omega) (by omega) (by omega)]; done) | (rw [gvGo_done (by omega) (by omega) (by omega) (by omega) (by omega)]; done) | (rw [gvGo_big (by omega) (by omega) (by omega) (by omega) (by omega)]; done) | (rw [gvGo_end (by omega)]; done)))) .nil)))⟩
          ·
           replace h11 := of_decide_eq_false h11
           refine T.skip ?_
           refine T.region ?_
           refine TL.cons rfl (Step.move (p := (.one (.d (.int .i64 (128 ^ i))))) rfl rfl (lt_ok rfl) rfl) ?_
           refine TL.cons rfl (Step.bin (r := .int .i64 (128 ^ (i + 1))) rfl rfl (lt_ok rfl) rfl rfl (Bin.mul (a := (128 ^ i)) (b := 128) (by have h7_ := pow128 (i := i + 1) (by omega); rw [← Int.pow_succ]; exact wrap_ok (by omega) (by omega)))) ?_
           refine TL.cons rfl (Step.assign (p := (.one (.d (.int .i64 (128 ^ (i + 1)))))) rfl rfl (lt_ok rfl) rfl) ?_
           refine TL.nil ?_
           refine T.region ?_
           refine TL.cons rfl (Step.move (p := (.one (.d (.int .i64 (i : Int))))) rfl rfl (lt_ok rfl) rfl) ?_
           refine TL.cons rfl (Step.bin (r := .int .i64 ((i : Int) + 1)) rfl rfl (lt_ok rfl) rfl rfl (Bin.add (a := (i : Int)) (b := 1) (by first | exact wrap_ok (by first | omega | (simp; omega)) (by first | omega | (simp; omega)) | rfl))) ?_
           refine TL.cons rfl (Step.assign (p := (.one (.d (.int .i64 ((i : Int) + 1))))) rfl rfl (lt_ok rfl) rfl) ?_
           refine TL.nil ?_
           exact ⟨(i + 1, n + (((b.getD (a + (i : Int)).toNat 0) % 128) * (128 ^ i))), by (try dsimp only); (refine ⟨by omega, by omega, by rw [Int.pow_succ]; omega, ?_⟩; exact (gvGo_next (n := n) (by omega) (by omega) (by omega) (by omega)).symm.trans hx4), by (dsimp only; omega), Env.le_mk ⟨rfl, rfl, by first | rfl | (refine congrArg (fun n => PV.one (.d (.int .i64 n))) ?_; first | rfl | omega | (simp; done)), by first | rfl | (refine congrArg (fun n => PV.one (.d (.int .i64 n))) ?_; first | rfl | omega | (simp; done)), by first | rfl | (refine congrArg (fun n => PV.one (.d (.int .i64 n))) ?_; first | rfl | omega | (simp; done)), trivial⟩ trivial trivial⟩
        ·
         refine TL.known 45 hb9 rfl ?_
         have hb9' := hb9
         replace hb9' := of_decide_eq_false hb9'
         refine TL.goff 45 rfl rfl (lt_ok rfl) rfl rfl rfl (lt_ok rfl) ?_
         refine TL.goff 45 rfl rfl (lt_ok rfl) rfl rfl rfl (lt_ok rfl) ?_
         refine TL.gyes 42 rfl rfl (lt_ok rfl) rfl (Step.pick (b := false) (p := (.one (.d (.bool false)))) rfl rfl (lt_ok rfl) rfl rfl) ?_
         refine TL.cons rfl (Step.pick (b := false) (p := (.one (.d (.bool false)))) rfl rfl (lt_ok rfl) rfl rfl) ?_
         refine TL.nil ?_
         refine T.cond (b := false) rfl (fun h13_ => absurd h13_ (by simp)) (fun h13_ => ?_)
         refine T.skip ?_
         refine T.seq ?_
         refine T.region ?_
         refine TL.cons rfl (Step.move (p := (.one (.d (.int .i64 n)))) rfl rfl (lt_ok rfl) rfl) ?_
         refine TL.cons rfl (Step.move (p := (.one (.d (.int .i64 (b.getD (a + (i : Int)).toNat 0))))) rfl rfl (lt_ok rfl) rfl) ?_
         refine TL.cons rfl (Step.bin (r := .int .i64 ((b.getD (a + (i : Int)).toNat 0) % 128)) rfl rfl (lt_ok rfl) rfl rfl (Bin.rem (k := .i64) (a := (b.getD (a + (i : Int)).toNat 0)) (b := 128) (by decide) (Int.tmod_eq_emod_of_nonneg (by first | omega | (simp; omega))))) ?_
         refine TL.cons rfl (Step.move (p := (.one (.d (.int .i64 (128 ^ i))))) rfl rfl (lt_ok rfl) rfl) ?_
         refine TL.cons rfl (Step.bin (r := .int .i64 (((b.getD (a + (i : Int)).toNat 0) % 128) * (128 ^ i))) rfl rfl (lt_ok rfl) rfl rfl (Bin.mul (a := ((b.getD (a + (i : Int)).toNat 0) % 128)) (b := (128 ^ i)) (by first | exact wrap_ok (by first | omega | (simp; omega)) (by first | omega | (simp; omega)) | rfl))) ?_
         refine TL.cons rfl (Step.bin (r := .int .i64 (n + (((b.getD (a + (i : Int)).toNat 0) % 128) * (128 ^ i)))) rfl rfl (lt_ok rfl) rfl rfl (Bin.add (a := n) (b := (((b.getD (a + (i : Int)).toNat 0) % 128) * (128 ^ i))) (by first | exact wrap_ok (by first | omega | (simp; omega)) (by first | omega | (simp; omega)) | rfl))) ?_
         refine TL.cons rfl (Step.assign (p := (.one (.d (.int .i64 (n + (((b.getD (a + (i : Int)).toNat 0) % 128) * (128 ^ i))))))) rfl rfl (lt_ok rfl) rfl) ?_
         refine TL.nil ?_
         refine T.seq ?_
         refine T.seq ?_
         refine T.region ?_
         refine TL.cons rfl (Step.move (p := (.one (.d (.int .i64 (b.getD (a + (i : Int)).toNat 0))))) rfl rfl (lt_ok rfl) rfl) ?_
         refine TL.cons rfl (Step.bin rfl rfl (lt_ok rfl) rfl rfl (Bin.lss (k := .i64) (a := (b.getD (a + (i : Int)).toNat 0)) (b := 128))) ?_
         refine TL.nil ?_
         refine T.cond (b := decide ((b.getD (a + (i : Int)).toNat 0) < 128)) rfl (fun h14 => ?_) (fun h14 => ?_)
         ·
          replace h14 := of_decide_eq_true h14
          refine T.seq ?_
          refine T.seq ?_
          refine T.region ?_
          refine TL.cons rfl (Step.move (p := (.one (.d (.int .i64 (n + (((b.getD (a + (i : Int)).toNat 0) % 128) * (128 ^ i))))))) rfl rfl (lt_ok rfl) rfl) ?_
          refine TL.cons rfl (Step.bin rfl rfl (lt_ok rfl) rfl rfl (Bin.gtr (k := .i64) (a := (n + (((b.getD (a + (i : Int)).toNat 0) % 128) * (128 ^ i)))) (b := 1152921504606846975))) ?_
          refine TL.nil ?_
          refine T.cond (b := decide (1152921504606846975 < (n + (((b.getD (a + (i : Int)).toNat 0) % 128) * (128 ^ i))))) rfl (fun h15 => ?_) (fun h15 => ?_)
          ·
           replace h15 := of_decide_eq_true h15
           refine T.seq ?_
           refine T.region ?_
           refine TL.cons rfl (Step.assign (p := (.one (.d (.int .i64 0)))) rfl rfl (lt_ok rfl) rfl) ?_
           refine TL.cons rfl (Step.assign (p := (.one (.d (.int .i64 0)))) rfl rfl (lt_ok rfl) rfl) ?_
           refine TL.cons rfl (Step.assign (p := (.one (.d (.int .i64 2)))) rfl rfl (lt_ok rfl) rfl) ?_
           refine TL.nil ?_
           refine T.ret ?_
           exact ⟨[(false, [.d (.int .i64 0)]), (false, [.d (.int .i64 0)]), (false, [.d (.int .i64 2)])], (.cons rfl (.cons rfl (.cons rfl .nil))), rfl, [], (RetC.rd' (by (congr 1; first | (rw [getVar_out (by omega)]; done) | (rw [getVar_in (by omega), ← hx4]; first | (rw [gvGo_short (by omega) (by omega)]; done) | (rw [gvGo_var (by omega) (by omega) (by omega)]; done) | (rw [gvGo_done (by omega) (by omega) (by omega) (by omega) (by omega)]; done) | (rw [gvGo_big (by omega) (by omega) (by omega) (by omega) (by omega)]; done) | (rw [gvGo_end (by omega)]; done)))) (RetC.rd' (by (congr 1; first | (rw [getVar_out (by omega)]; done) | (rw [getVar_in (by omega), ← hx4]; first | (rw [gvGo_short (by omega) (by omega)]; done) | (rw [gvGo_var (by omega) (by omega) (by omega)]; done) | (rw [gvGo_done (by omega) (by omega) (by omega) (by omega) (by omega)]; done) | (rw [gvGo_big (by omega) (by omega) (by omega) (by omega) (by omega)]; done) | (rw [gvGo_end (by omega)]; done)))) (RetC.rd' (by (congr 1; first | (rw [getVar_out (by omega)]; done) | (rw [getVar_in (by omega), ← hx4]; first | (rw [gvGo_short (by omega) (by omega)]; done) | (rw [gvGo_var (by omega) (by omega) (by omega)]; done) | (rw [gvGo_done (by omega) (by omega) (by omega) (by omega) (by omega)]; done) | (rw [gvGo_big (by omega) (by omega) (by omega) (by omega) (by omega)]; done) | (rw [gvGo_end (by omega)]; done)))) .nil)))⟩
          ·
           replace h15 := of_decide_eq_false h15
           refine T.skip ?_
           refine T.seq ?_
           refine T.region ?_
           refine TL.cons rfl (Step.move (p := (.one (.d (.int .i64 (n + (((b.getD (a + (i : Int)).toNat 0) % 128) * (128 ^ i))))))) rfl rfl (lt_ok rfl) rfl) ?_
           refine TL.cons rfl (Step.move (p := (.one (.d (.int .i64 a)))) rfl rfl (lt_ok rfl) rfl) ?_
           refine TL.cons rfl (Step.move (p := (.one (.d (.int .i64 (i : Int))))) rfl rfl (lt_ok rfl) rfl) ?_
           refine TL.cons rfl (Step.bin (r := .int .i64 (a + (i : Int))) rfl rfl (lt_ok rfl) rfl rfl (Bin.add (a := a) (b := (i : Int)) (by first | exact wrap_ok (by first | omega | (simp; omega)) (by first | omega | (simp; omega)) | rfl))) ?_
           refine TL.cons rfl (Step.bin (r := .int .i64 ((a + (i : Int)) + 1)) rfl rfl (lt_ok rfl) rfl rfl (Bin.add (a := (a + (i : Int))) (b := 1) (by first | exact wrap_ok (by first | omega | (simp; omega)) (by first | omega | (simp; omega)) | rfl))) ?_
           refine TL.cons rfl (Step.assign (p := (.one (.d (.int .i64 (n + (((b.getD (a + (i : Int)).toNat 0) % 128) * (128 ^ i))))))) rfl rfl (lt_ok rfl) rfl) ?_
           refine TL.cons rfl (Step.assign (p := (.one (.d (.int .i64 ((a + (i : Int)) + 1))))) rfl rfl (lt_ok rfl) rfl) ?_
           refine TL.cons rfl (Step.assign (p := (.one (.d (.int .i64 0)))) rfl rfl (lt_ok rfl) rfl) ?_
           refine TL.nil ?_
           refine T.ret ?_
           exact ⟨[(false, [.d (.int .i64 (n + (((b.getD (a + (i : Int)).toNat 0) % 128) * (128 ^ i))))]), (false, [.d (.int .i64 ((a + (i : Int)) + 1))]), (false, [.d (.int .i64 0)])], (.cons rfl (.cons rfl (.cons rfl .nil))), rfl, [], (RetC.rd' (by (congr 1; first | (rw [getVar_out (by omega)]; done) | (rw [getVar_in (by omega), ← hx4]; first | (rw [gvGo_short (by omega) (by omega)]; done) | (rw [gvGo_var (by omega) (by omega) (by omega)]; done) | (rw [gvGo_done (by omega) (by omega) (by omega) (by omega) (by omega)]; done) | (rw [gvGo_big (by omega) (by omega) (by omega) (by omega) (by omega)]; done) | (rw [gvGo_end (by omega)]; done)))) (RetC.rd' (by (congr 1; first | (rw [getVar_out (by omega)]; done) | (rw [getVar_in (by omega), ← hx4]; first | (rw [gvGo_short (by omega) (by omega)]; done) | (rw [gvGo_var (by omega) (by omega) (by omega)]; done) | (rw [gvGo_done (by omega) (by omega) (by omega) (by omega) (by omega)]; done) | (rw [gvGo_big (by omega) (by omega) (by omega) (by omega) (by omega)]; done) | (rw [gvGo_end (by omega)]; done)))) (RetC.rd' (by (congr 1; first | (rw [getVar_out (by omega)]; done) | (rw [getVar_in (by omega), ← hx4]; first | (rw [gvGo_short (by omega) (by omega)]; done) | (rw [gvGo_var (by omega) (by omega) (by omega)]; done) | (rw [gvGo_done (by omega) (by omega) (by omega) (by omega) (by omega)]; done) | (rw [gvGo_big (by omega) (by omega) (by omega) (by omega) (by omega)]; done) | (rw [gvGo_end (by omega)]; done)))) .nil)))⟩
         ·
          replace h14 := of_decide_eq_false h14
          refine T.skip ?_
          refine T.region ?_
          refine TL.cons rfl (Step.move (p := (.one (.d (.int .i64 (128 ^ i))))) rfl rfl (lt_ok rfl) rfl) ?_
          refine TL.cons rfl (Step.bin (r := .int .i64 (128 ^ (i + 1))) rfl rfl (lt_ok rfl) rfl rfl (Bin.mul (a := (128 ^ i)) (b := 128) (by have h7_ := pow128 (i := i + 1) (by omega); rw [← Int.pow_succ]; exact wrap_ok (by omega) (by omega)))) ?_
          refine TL.cons rfl (Step.assign (p := (.one (.d (.int .i64 (128 ^ (i + 1)))))) rfl rfl (lt_ok rfl) rfl) ?_
          refine TL.nil ?_
          refine T.region ?_
          refine TL.cons rfl (Step.move (p := (.one (.d (.int .i64 (i : Int))))) rfl rfl (lt_ok rfl) rfl) ?_
          refine TL.cons rfl (Step.bin (r := .int .i64 ((i : Int) + 1)) rfl rfl (lt_ok rfl) rfl rfl (Bin.add (a := (i : Int)) (b := 1) (by first | exact wrap_ok (by first | omega | (simp; omega)) (by first | omega | (simp; omega)) | rfl))) ?_
          refine TL.cons rfl (Step.assign (p := (.one (.d (.int .i64 ((i : Int) + 1))))) rfl rfl (lt_ok rfl) rfl) ?_
          refine TL.nil ?_
          exact ⟨(i + 1, n + (((b.getD (a + (i : Int)).toNat 0) % 128) * (128 ^ i))), by (try dsimp only); (refine ⟨by omega, by omega, by rw [Int.pow_succ]; omega, ?_⟩; exact (gvGo_next (n := n) (by omega) (by omega) (by omega) (by omega)).symm.trans hx4), by (dsimp only; omega), Env.le_mk ⟨rfl, rfl, by first | rfl | (refine congrArg (fun n => PV.one (.d (.int .i64 n))) ?_; first | rfl | omega | (simp; done)), by first | rfl | (refine congrArg (fun n => PV.one (.d (.int .i64 n))) ?_; first | rfl | omega | (simp; done)), by first | rfl | (refine congrArg (fun n => PV.one (.d (.int .i64 n))) ?_; first | rfl | omega | (simp; done)), trivial⟩ trivial trivial⟩
      ·
       refine TL.known 38 hb6 rfl ?_
       have hb6' := hb6
       replace hb6' := of_decide_eq_false hb6'
       refine TL.goff 38 rfl rfl (lt_ok rfl) rfl rfl rfl (lt_ok rfl) ?_
       refine TL.goff 38 rfl rfl (lt_ok rfl) rfl rfl rfl (lt_ok rfl) ?_
       refine TL.cons rfl (Step.pick (b := false) (p := (.one (.d (.bool false)))) rfl rfl (lt_ok rfl) rfl rfl) ?_
       refine TL.cons rfl (Step.move (p := (.one (.d (.bool false)))) rfl rfl (lt_ok rfl) rfl) ?_
       refine TL.gyes 42 rfl rfl (lt_ok rfl) rfl (Step.move (p := (.one (.d (.int .i64 (i : Int))))) rfl rfl (lt_ok rfl) rfl) ?_
       refine TL.gyes 42 rfl rfl (lt_ok rfl) rfl (Step.bin rfl rfl (lt_ok rfl) rfl rfl (Bin.eql (k := .i64) (a := (i : Int)) (b := 8))) ?_
       refine TL.gyes 42 rfl rfl (lt_ok rfl) rfl (Step.move (p := (.one (.d (.bool (decide ((i : Int) = 8)))))) rfl rfl (lt_ok rfl) rfl) ?_
       rcases Bool.eq_false_or_eq_true (decide ((i : Int) = 8)) with hb16 | hb16
       ·
        refine TL.known 45 hb16 rfl ?_
        have hb16' := hb16
        replace hb16' := of_decide_eq_true hb16'
        refine TL.gyes 45 rfl rfl (lt_ok rfl) rfl (Step.move (p := (.one (.d (.int .i64 (b.getD (a + (i : Int)).toNat 0))))) rfl rfl (lt_ok rfl) rfl) ?_
        refine TL.gyes 45 rfl rfl (lt_ok rfl) rfl (Step.bin rfl rfl (lt_ok rfl) rfl rfl (Bin.geq (k := .i64) (a := (b.getD (a + (i : Int)).toNat 0)) (b := 128))) ?_
        refine TL.gyes 42 rfl rfl (lt_ok rfl) rfl (Step.pick (b := true) (p := (.one (.d (.bool (decide (128 ≤ (b.getD (a + (i : Int)).toNat 0))))))) rfl rfl (lt_ok rfl) rfl rfl) ?_
        refine TL.cons rfl (Step.pick (b := false) (p := (.one (.d (.bool (decide (128 ≤ (b.getD (a + (i : Int)).toNat 0))))))) rfl rfl (lt_ok rfl) rfl rfl) ?_
        refine TL.nil ?_
        refine T.cond (b := decide (128 ≤ (b.getD (a + (i : Int)).toNat 0))) rfl (fun h17 => ?_) (fun h17 => ?_)
        ·
         replace h17 := of_decide_eq_true h17
         refine T.seq ?_
         refine T.region ?_
         refine TL.cons rfl (Step.assign (p := (.one (.d (.int .i64 0)))) rfl rfl (lt_ok rfl) rfl) ?_
         refine TL.cons rfl (Step.assign (p := (.one (.d (.int .i64 0)))) rfl rfl (lt_ok rfl) rfl) ?_
         refine TL.cons rfl (Step.assign (p := (.one (.d (.int .i64 2)))) rfl rfl (lt_ok rfl) rfl) ?_
         refine TL.nil ?_
         refine T.ret ?_
         exact ⟨[(false, [.d (.int .i64 0)]), (false, [.d (.int .i64 0)]), (false, [.d (.int .i64 2)])], (.cons rfl (.cons rfl (.cons rfl .nil))), rfl, [], (RetC.rd' (by (congr 1; first | (rw [getVar_out (by omega)]; done) | (rw [getVar_in (by omega), ← hx4]; first | (rw [gvGo_short (by omega) (by omega)]; done) | (rw [gvGo_var (by omega) (by omega) (by omega)]; done) | (rw [gvGo_done (by omega) (by omega) (by omega) (by omega) (by omega)]; done) | (rw [gvGo_big (by omega) (by omega) (by omega) (by omega) (by omega)]; done) | (rw [gvGo_end (by omega)]; done)))) (RetC.rd' (by (congr 1; first | (rw [getVar_out (by omega)]; done) | (rw [getVar_in (by omega), ← hx4]; first | (rw [gvGo_short (by omega) (by omega)]; done) | (rw [gvGo_var (by omega) (by omega) (by omega)]; done) | (rw [gvGo_done (by omega) (by omega) (by omega) (by omega) (by omega)]; done) | (rw [gvGo_big (by omega) (by omega) (by omega) (by omega) (by omega)]; done) | (rw [gvGo_end (by omega)]; done)))) (RetC.rd' (by (congr 1; first | (rw [getVar_out (by omega)]; done) | (rw [getVar_in (by omega), ← hx4]; first | (rw [gvGo_short (by omega) (by omega)]; done) | (rw [gvGo_var (by omega) (by omega) (by omega)]; done) | (rw [gvGo_done (by omega) (by omega) (by omega) (by omega) (by omega)]; done) | (rw [gvGo_big (by omega) (by omega) (by omega) (by omega) (by omega)]; done) | (rw [gvGo_end (by omega)]; done)))) .nil)))⟩
        ·
         replace h17 := of_decide_eq_false h17
         refine T.skip ?_
         refine T.seq ?_
         refine T.region ?_
         refine TL.cons rfl (Step.move (p := (.one (.d (.int .i64 n)))) rfl rfl (lt_ok rfl) rfl) ?_
         refine TL.cons rfl (Step.move (p := (.one (.d (.int .i64 (b.getD (a + (i : Int)).toNat 0))))) rfl rfl (lt_ok rfl) rfl) ?_
         refine TL.cons rfl (Step.bin (r := .int .i64 ((b.getD (a + (i : Int)).toNat 0) % 128)) rfl rfl (lt_ok rfl) rfl rfl (Bin.rem (k := .i64) (a := (b.getD (a + (i : Int)).toNat 0)) (b := 128) (by decide) (Int.tmod_eq_emod_of_nonneg (by first | omega | (simp; omega))))) ?_
         refine TL.cons rfl (Step.move (p := (.one (.d (.int .i64 (128 ^ i))))) rfl rfl (lt_ok rfl) rfl) ?_
         refine TL.cons rfl (Step.bin (r := .int .i64 (((b.getD (a + (i : Int)).toNat 0) % 128) * (128 ^ i))) rfl rfl (lt_ok rfl) rfl rfl (Bin.mul (a := ((b.getD (a + (i : Int)).toNat 0) % 128)) (b := (128 ^ i)) (by first | exact wrap_ok (by first | omega | (simp; omega)) (by first | omega | (simp; omega)) | rfl))) ?_
         refine TL.cons rfl (Step.bin (r := .int .i64 (n + (((b.getD (a + (i : Int)).toNat 0) % 128) * (128 ^ i)))) rfl rfl (lt_ok rfl) rfl rfl (Bin.add (a := n) (b := (((b.getD (a + (i : Int)).toNat 0) % 128) * (128 ^ i))) (by first | exact wrap_ok (by first | omega | (simp; omega)) (by first | omega | (simp; omega)) | rfl))) ?_
         refine TL.cons rfl (Step.assign (p := (.one (.d (.int .i64 (n + (((b.getD (a + (i : Int)).toNat 0) % 128) * (128 ^ i))))))) rfl rfl (lt_ok rfl) rfl) ?_
         refine TL.nil ?_
         refine T.seq ?_
         refine T.seq ?_
         refine T.region ?_
         refine TL.cons rfl (Step.move (p := (.one (.d (.int .i64 (b.getD (a + (i : Int)).toNat 0))))) rfl rfl (lt_ok rfl) rfl) ?_
         refine TL.cons rfl (Step.bin rfl rfl (lt_ok rfl) rfl rfl (Bin.lss (k := .i64) (a := (b.getD (a + (i : Int)).toNat 0)) (b := 128))) ?_
         refine TL.nil ?_
         refine T.cond (b := decide ((b.getD (a + (i : Int)).toNat 0) < 128)) rfl (fun h18 => ?_) (fun h18 => ?_)
         ·
          replace h18 := of_decide_eq_true h18
          refine T.seq ?_
          refine T.seq ?_
          refine T.region ?_
          refine TL.cons rfl (Step.move (p := (.one (.d (.int .i64 (n + (((b.getD (a + (i : Int)).toNat 0) % 128) * (128 ^ i))))))) rfl rfl (lt_ok rfl) rfl) ?_
          refine TL.cons rfl (Step.bin rfl rfl (lt_ok rfl) rfl rfl (Bin.gtr (k := .i64) (a := (n + (((b.getD (a + (i : Int)).toNat 0) % 128) * (128 ^ i)))) (b := 1152921504606846975))) ?_
          refine TL.nil ?_
          refine T.cond (b := decide (1152921504606846975 < (n + (((b.getD (a + (i : Int)).toNat 0) % 128) * (128 ^ i))))) rfl (fun h19 => ?_) (fun h19 => ?_)
          ·
           replace h19 := of_decide_eq_true h19
           refine T.seq ?_
           refine T.region ?_
           refine TL.cons rfl (Step.assign (p := (.one (.d (.int .i64 0)))) rfl rfl (lt_ok rfl) rfl) ?_
           refine TL.cons rfl (Step.assign (p := (.one (.d (.int .i64 0)))) rfl rfl (lt_ok rfl) rfl) ?_
           refine TL.cons rfl (Step.assign (p := (.one (.d (.int .i64 2)))) rfl rfl (lt_ok rfl) rfl) ?_
           refine TL.nil ?_
           refine T.ret ?_
           exact ⟨[(false, [.d (.int .i64 0)]), (false, [.d (.int .i64 0)]), (false, [.d (.int .i64 2)])], (.cons rfl (.cons rfl (.cons rfl .nil))), rfl, [], (RetC.rd' (by (congr 1; first | (rw [getVar_out (by omega)]; done) | (rw [getVar_in (by omega), ← hx4]; first | (rw [gvGo_short (by omega) (by omega)]; done) | (rw [gvGo_var (by omega) (by omega) (by omega)]; done) | (rw [gvGo_done (by omega) (by omega) (by omega) (by omega) (by omega)]; done) | (rw [gvGo_big (by omega) (by omega) (by omega) (by omega) (by omega)]; done) | (rw [gvGo_end (by omega)]; done)))) (RetC.rd' (by (congr 1; first | (rw [getVar_out (by omega)]; done) | (rw [getVar_in (by omega), ← hx4]; first | (rw [gvGo_short (by omega) (by omega)]; done) | (rw [gvGo_var (by omega) (by omega) (by omega)]; done) | (rw [gvGo_done (by omega) (by omega) (by omega) (by omega) (by omega)]; done) | (rw [gvGo_big (by omega) (by omega) (by omega) (by omega) (by omega)]; done) | (rw [gvGo_end (by omega)]; done)))) (RetC.rd' (by (congr 1; first | (rw [getVar_out (by omega)]; done) | (rw [getVar_in (by omega), ← hx4]; first | (rw [gvGo_short (by omega) (by omega)]; done) | (rw [gvGo_var (by omega) (by omega) (by omega)]; done) | (rw [gvGo_done (by omega) (by omega) (by omega) (by omega) (by omega)]; done) | (rw [gvGo_big (by omega) (by omega) (by omega) (by omega) (by omega)]; done) | (rw [gvGo_end (by omega)]; done)))) .nil)))⟩
          ·
           replace h19 := of_decide_eq_false h19
           refine T.skip ?_
           refine T.seq ?_
           refine T.region ?_
           refine TL.cons rfl (Step.move (p := (.one (.d (.int .i64 (n + (((b.getD (a + (i : Int)).toNat 0) % 128) * (128 ^ i))))))) rfl rfl (lt_ok rfl) rfl) ?_
           refine TL.cons rfl (Step.move (p := (.one (.d (.int .i64 a)))) rfl rfl (lt_ok rfl) rfl) ?_
           refine TL.cons rfl (Step.move (p := (.one (.d (.int .i64 (i : Int))))) rfl rfl (lt_ok rfl) rfl) ?_
           refine TL.cons rfl (Step.bin (r := .int .i64 (a + (i : Int))) rfl rfl (lt_ok rfl) rfl rfl (Bin.add (a := a) (b := (i : Int)) (by first | exact wrap_ok (by first | omega | (simp; omega)) (by first | omega | (simp; omega)) | rfl))) ?_
           refine TL.cons rfl (Step.bin (r := .int .i64 ((a + (i : Int)) + 1)) rfl rfl (lt_ok rfl) rfl rfl (Bin.add (a := (a + (i : Int))) (b := 1) (by first | exact wrap_ok (by first | omega | (simp; omega)) (by first | omega | (simp; omega)) | rfl))) ?_
           refine TL.cons rfl (Step.assign (p := (.one (.d (.int .i64 (n + (((b.getD (a + (i : Int)).toNat 0) % 128) * (128 ^ i))))))) rfl rfl (lt_ok rfl) rfl) ?_
           refine TL.cons rfl (Step.assign (p := (.one (.d (.int .i64 ((a + (i : Int)) + 1))))) rfl rfl (lt_ok rfl) rfl) ?_
           refine TL.cons rfl (Step.assign (p := (.one (.d (.int .i64 0)))) rfl rfl (lt_ok rfl) rfl) ?_
           refine TL.nil ?_
           refine T.ret ?_
           exact ⟨[(false, [.d (.int .i64 (n + (((b.getD (a + (i : Int)).toNat 0) % 128) * (128 ^ i))))]), (false, [.d (.int .i64 ((a + (i : Int)) + 1))]), (false, [.d (.int .i64 0)])], (.cons rfl (.cons rfl (.cons rfl .nil))), rfl, [], (RetC.rd' (by (congr 1; first | (rw [getVar_out (by omega)]; done) | (rw [getVar_in (by omega), ← hx4]; first | (rw [gvGo_short (by omega) (by omega)]; done) | (rw [gvGo_var (by omega) (by omega) (by omega)]; done) | (rw [gvGo_done (by omega) (by omega) (by omega) (by omega) (by omega)]; done) | (rw [gvGo_big (by omega) (by omega) (by omega) (by omega) (by omega)]; done) | (rw [gvGo_end (by omega)]; done)))) (RetC.rd' (by (congr 1; first | (rw [getVar_out (by omega)]; done) | (rw [getVar_in (by omega), ← hx4]; first | (rw [gvGo_short (by omega) (by omega)]; done) | (rw [gvGo_var (by omega) (by omega) (by omega)]; done) | (rw [gvGo_done (by omega) (by omega) (by omega) (by omega) (by omega)]; done) | (rw [gvGo_big (by omega) (by omega) (by omega) (by omega) (by omega)]; done) | (rw [gvGo_end (by omega)]; done)))) (RetC.rd' (by (congr 1; first | (rw [getVar_out (by omega)]; done) | (rw [getVar_in (by omega), ← hx4]; first | (rw [gvGo_short (by omega) (by omega)]; done) | (rw [gvGo_var (by omega) (by omega) (by omega)]; done) | (rw [gvGo_done (by omega) (by omega) (by omega) (by omega) (by omega)]; done) | (rw [gvGo_big (by omega) (by omega) (by omega) (by omega) (by omega)]; done) | (rw [gvGo_end (by omega)]; done)))) .nil)))⟩
         ·
          replace h18 := of_decide_eq_false h18
          refine T.skip ?_
          refine T.region ?_
          refine TL.cons rfl (Step.move (p := (.one (.d (.int .i64 (128 ^ i))))) rfl rfl (lt_ok rfl) rfl) ?_
          refine TL.cons rfl (Step.bin (r := .int .i64 (128 ^ (i + 1))) rfl rfl (lt_ok rfl) rfl rfl (Bin.mul (a := (128 ^ i)) (b := 128) (by have h7_ := pow128 (i := i + 1) (by omega); rw [← Int.pow_succ]; exact wrap_ok (by omega) (by omega)))) ?_
          refine TL.cons rfl (Step.assign (p := (.one (.d (.int .i64 (128 ^ (i + 1)))))) rfl rfl (lt_ok rfl) rfl) ?_
          refine TL.nil ?_
          refine T.region ?_
          refine TL.cons rfl (Step.move (p := (.one (.d (.int .i64 (i : Int))))) rfl rfl (lt_ok rfl) rfl) ?_
          refine TL.cons rfl (Step.bin (r := .int .i64 ((i : Int) + 1)) rfl rfl (lt_ok rfl) rfl rfl (Bin.add (a := (i : Int)) (b := 1) (by first | exact wrap_ok (by first | omega | (simp; omega)) (by first | omega | (simp; omega)) | rfl))) ?_
          refine TL.cons rfl (Step.assign (p := (.one (.d (.int .i64 ((i : Int) + 1))))) rfl rfl (lt_ok rfl) rfl) ?_
          refine TL.nil ?_
          exact ⟨(i + 1, n + (((b.getD (a + (i : Int)).toNat 0) % 128) * (128 ^ i))), by (try dsimp only); (refine ⟨by omega, by omega, by rw [Int.pow_succ]; omega, ?_⟩; exact (gvGo_next (n := n) (by omega) (by omega) (by omega) (by omega)).symm.trans hx4), by (dsimp only; omega), Env.le_mk ⟨rfl, rfl, by first | rfl | (refine congrArg (fun n => PV.one (.d (.int .i64 n))) ?_; first | rfl | omega | (simp; done)), by first | rfl | (refine congrArg (fun n => PV.one (.d (.int .i64 n))) ?_; first | rfl | omega | (simp; done)), by first | rfl | (refine congrArg (fun n => PV.one (.d (.int .i64 n))) ?_; first | rfl | omega | (simp; done)), trivial⟩ trivial trivial⟩
       ·
        refine TL.known 45 hb16 rfl ?_
        have hb16' := hb16
        replace hb16' := of_decide_eq_false hb16'
        refine TL.goff 45 rfl rfl (lt_ok rfl) rfl rfl rfl (lt_ok rfl) ?_
        refine TL.goff 45 rfl rfl (lt_ok rfl) rfl rfl rfl (lt_ok rfl) ?_
        refine TL.gyes 42 rfl rfl (lt_ok rfl) rfl (Step.pick (b := false) (p := (.one (.d (.bool false)))) rfl rfl (lt_ok rfl) rfl rfl) ?_
        refine TL.cons rfl (Step.pick (b := false) (p := (.one (.d (.bool false)))) rfl rfl (lt_ok rfl) rfl rfl) ?_
        refine TL.nil ?_
        refine T.cond (b := false) rfl (fun h20_ => absurd h20_ (by simp)) (fun h20_ => ?_)
        refine T.skip ?_
        refine T.seq ?_
        refine T.region ?_
        refine TL.cons rfl (Step.move (p := (.one (.d (.int .i64 n)))) rfl rfl (lt_ok rfl) rfl) ?_
        refine TL.cons rfl (Step.move (p := (.one (.d (.int .i64 (b.getD (a + (i : Int)).toNat 0))))) rfl rfl (lt_ok rfl) rfl) ?_
        refine TL.cons rfl (Step.bin (r := .int .i64 ((b.getD (a + (i : Int)).toNat 0) % 128)) rfl rfl (lt_ok rfl) rfl rfl (Bin.rem (k := .i64) (a := (b.getD (a + (i : Int)).toNat 0)) (b := 128) (by decide) (Int.tmod_eq_emod_of_nonneg (by first | omega | (simp; omega))))) ?_
        refine TL.cons rfl (Step.move (p := (.one (.d (.int .i64 (128 ^ i))))) rfl rfl (lt_ok rfl) rfl) ?_
        refine TL.cons rfl (Step.bin (r := .int .i64 (((b.getD (a + (i : Int)).toNat 0) % 128) * (128 ^ i))) rfl rfl (lt_ok rfl) rfl rfl (Bin.mul (a := ((b.getD (a + (i : Int)).toNat 0) % 128)) (b := (128 ^ i)) (by first | exact wrap_ok (by first | omega | (simp; omega)) (by first | omega | (simp; omega)) | rfl))) ?_
        refine TL.cons rfl (Step.bin (r := .int .i64 (n + (((b.getD (a + (i : Int)).toNat 0) % 128) * (128 ^ i)))) rfl rfl (lt_ok rfl) rfl rfl (Bin.add (a := n) (b := (((b.getD (a + (i : Int)).toNat 0) % 128) * (128 ^ i))) (by first | exact wrap_ok (by first | omega | (simp; omega)) (by first | omega | (simp; omega)) | rfl))) ?_
        refine TL.cons rfl (Step.assign (p := (.one (.d (.int .i64 (n + (((b.getD (a + (i : Int)).toNat 0) % 128) * (128 ^ i))))))) rfl rfl (lt_ok rfl) rfl) ?_
        refine TL.nil ?_
        refine T.seq ?_
        refine T.seq ?_
        refine T.region ?_
        refine TL.cons rfl (Step.move (p := (.one (.d (.int .i64 (b.getD (a + (i : Int)).toNat 0))))) rfl rfl (lt_ok rfl) rfl) ?_
        refine TL.cons rfl (Step.bin rfl rfl (lt_ok rfl) rfl rfl (Bin.lss (k := .i64) (a := (b.getD (a + (i : Int)).toNat 0)) (b := 128))) ?_
        refine TL.nil ?_
        refine T.cond (b := decide ((b.getD (a + (i : Int)).toNat 0) < 128)) rfl (fun h21 => ?_) (fun h21 => ?_)
        ·
         replace h21 := of_decide_eq_true h21
         refine T.seq ?_
         refine T.seq ?_
         refine T.region ?_
         refine TL.cons rfl (Step.move (p := (.one (.d (.int .i64 (n + (((b.getD (a + (i : Int)).toNat 0) % 128) * (128 ^ i))))))) rfl rfl (lt_ok rfl) rfl) ?_
         refine TL.cons rfl (Step.bin rfl rfl (lt_ok rfl) rfl rfl (Bin.gtr (k := .i64) (a := (n + (((b.getD (a + (i : Int)).toNat 0) % 128) * (128 ^ i)))) (b := 1152921504606846975))) ?_
         refine TL.nil ?_
         refine T.cond (b := decide (1152921504606846975 < (n + (((b.getD (a + (i : Int)).toNat 0) % 128) * (128 ^ i))))) rfl (fun h22 => ?_) (fun h22 => ?_)
         ·
          replace h22 := of_decide_eq_true h22
          refine T.seq ?_
          refine T.region ?_
          refine TL.cons rfl (Step.assign (p := (.one (.d (.int .i64 0)))) rfl rfl (lt_ok rfl) rfl) ?_
          refine TL.cons rfl (Step.assign (p := (.one (.d (.int .i64 0)))) rfl rfl (lt_ok rfl) rfl) ?_
          refine TL.cons rfl (Step.assign (p := (.one (.d (.int .i64 2)))) rfl rfl (lt_ok rfl) rfl) ?_
          refine TL.nil ?_
          refine T.ret ?_
          exact ⟨[(false, [.d (.int .i64 0)]), (false, [.d (.int .i64 0)]), (false, [.d (.int .i64 2)])], (.cons rfl (.cons rfl (.cons rfl .nil))), rfl, [], (RetC.rd' (by (congr 1; first | (rw [getVar_out (by omega)]; done) | (rw [getVar_in (by omega), ← hx4]; first | (rw [gvGo_short (by omega) (by omega)]; done) | (rw [gvGo_var (by omega) (by omega) (by omega)]; done) | (rw [gvGo_done (by omega) (by omega) (by omega) (by omega) (by omega)]; done) | (rw [gvGo_big (by omega) (by omega) (by omega) (by omega) (by omega)]; done) | (rw [gvGo_end (by omega)]; done)))) (RetC.rd' (by (congr 1; first | (rw [getVar_out (by omega)]; done) | (rw [getVar_in (by omega), ← hx4]; first | (rw [gvGo_short (by omega) (by omega)]; done) | (rw [gvGo_var (by omega) (by omega) (by omega)]; done) | (rw [gvGo_done (by omega) (by omega) (by omega) (by omega) (by omega)]; done) | (rw [gvGo_big (by omega) (by omega) (by omega) (by omega) (by omega)]; done) | (rw [gvGo_end (by omega)]; done)))) (RetC.rd' (by (congr 1; first | (rw [getVar_out (by omega)]; done) | (rw [getVar_in (by omega), ← hx4]; first | (rw [gvGo_short (by omega) (by omega)]; done) | (rw [gvGo_var (by omega) (by omega) (by omega)]; done) | (rw [gvGo_done (by omega) (by omega) (by omega) (by omega) (by omega)]; done) | (rw [gvGo_big (by omega) (by omega) (by omega) (by omega) (by omega)]; done) | (rw [gvGo_end (by omega)]; done)))) .nil)))⟩
         ·
          replace h22 := of_decide_eq_false h22
          refine T.skip ?_
          refine T.seq ?_
          refine T.region ?_
          refine TL.cons rfl (Step.move (p := (.one (.d (.int .i64 (n + (((b.getD (a + (i : Int)).toNat 0) % 128) * (128 ^ i))))))) rfl rfl (lt_ok rfl) rfl) ?_
          refine TL.cons rfl (Step.move (p := (.one (.d (.int .i64 a)))) rfl rfl (lt_ok rfl) rfl) ?_
          refine TL.cons rfl (Step.move (p := (.one (.d (.int .i64 (i : Int))))) rfl rfl (lt_ok rfl) rfl) ?_
          refine TL.cons rfl (Step.bin (r := .int .i64 (a + (i : Int))) rfl rfl (lt_ok rfl) rfl rfl (Bin.add (a := a) (b := (i : Int)) (by first | exact wrap_ok (by first | omega | (simp; omega)) (by first | omega | (simp; omega)) | rfl))) ?_
          refine TL.cons rfl (Step.bin (r := .int .i64 ((a + (i : Int)) + 1)) rfl rfl (lt_ok rfl) rfl rfl (Bin.add (a := (a + (i : Int))) (b := 1) (by first | exact wrap_ok (by first | omega | (simp; omega)) (by first | omega | (simp; omega)) | rfl))) ?_
          refine TL.cons rfl (Step.assign (p := (.one (.d (.int .i64 (n + (((b.getD (a + (i : Int)).toNat 0) % 128) * (128 ^ i))))))) rfl rfl (lt_ok rfl) rfl) ?_
          refine TL.cons rfl (Step.assign (p := (.one (.d (.int .i64 ((a + (i : Int)) + 1))))) rfl rfl (lt_ok rfl) rfl) ?_
          refine TL.cons rfl (Step.assign (p := (.one (.d (.int .i64 0)))) rfl rfl (lt_ok rfl) rfl) ?_
          refine TL.nil ?_
          refine T.ret ?_
          exact ⟨[(false, [.d (.int .i64 (n + (((b.getD (a + (i : Int)).toNat 0) % 128) * (128 ^ i))))]), (false, [.d (.int .i64 ((a + (i : Int)) + 1))]), (false, [.d (.int .i64 0)])], (.cons rfl (.cons rfl (.cons rfl .nil))), rfl, [], (RetC.rd' (by (congr 1; first | (rw [getVar_out (by omega)]; done) | (rw [getVar_in (by omega), ← hx4]; first | (rw [gvGo_short (by omega) (by omega)]; done) | (rw [gvGo_var (by omega) (by omega) (by omega)]; done) | (rw [gvGo_done (by omega) (by omega) (by omega) (by omega) (by omega)]; done) | (rw [gvGo_big (by omega) (by omega) (by omega) (by omega) (by omega)]; done) | (rw [gvGo_end (by omega)]; done)))) (RetC.rd' (by (congr 1; first | (rw [getVar_out (by omega)]; done) | (rw [getVar_in (by omega), ← hx4]; first | (rw [gvGo_short (by omega) (by omega)]; done) | (rw [gvGo_var (by omega) (by omega) (by omega)]; done) | (rw [gvGo_done (by omega) (by omega) (by omega) (by omega) (by omega)]; done) | (rw [gvGo_big (by omega) (by omega) (by omega) (by omega) (by omega)]; done) | (rw [gvGo_end (by omega)]; done)))) (RetC.rd' (by (congr 1; first | (rw [getVar_out (by omega)]; done) | (rw [getVar_in (by omega), ← hx4]; first | (rw [gvGo_short (by omega) (by omega)]; done) | (rw [gvGo_var (by omega) (by omega) (by omega)]; done) | (rw [gvGo_done (by omega) (by omega) (by omega) (by omega) (by omega)]; done) | (rw [gvGo_big (by omega) (by omega) (by omega) (by omega) (by omega)]; done) | (rw [gvGo_end (by omega)]; done)))) .nil)))⟩
        ·
         replace h21 := of_decide_eq_false h21
         refine T.skip ?_
         refine T.region ?_
         refine TL.cons rfl (Step.move (p := (.one (.d (.int .i64 (128 ^ i))))) rfl rfl (lt_ok rfl) rfl) ?_
         refine TL.cons rfl (Step.bin (r := .int .i64 (128 ^ (i + 1))) rfl rfl (lt_ok rfl) rfl rfl (Bin.mul (a := (128 ^ i)) (b := 128) (by have h7_ := pow128 (i := i + 1) (by omega); rw [← Int.pow_succ]; exact wrap_ok (by omega) (by omega)))) ?_
         refine TL.cons rfl (Step.assign (p := (.one (.d (.int .i64 (128 ^ (i + 1)))))) rfl rfl (lt_ok rfl) rfl) ?_
         refine TL.nil ?_
         refine T.region ?_
         refine TL.cons rfl (Step.move (p := (.one (.d (.int .i64 (i : Int))))) rfl rfl (lt_ok rfl) rfl) ?_
         refine TL.cons rfl (Step.bin (r := .int .i64 ((i : Int) + 1)) rfl rfl (lt_ok rfl) rfl rfl (Bin.add (a := (i : Int)) (b := 1) (by first | exact wrap_ok (by first | omega | (simp; omega)) (by first | omega | (simp; omega)) | rfl))) ?_
         refine TL.cons rfl (Step.assign (p := (.one (.d (.int .i64 ((i : Int) + 1))))) rfl rfl (lt_ok rfl) rfl) ?_
         refine TL.nil ?_
         exact ⟨(i + 1, n + (((b.getD (a + (i : Int)).toNat 0) % 128) * (128 ^ i))), by (try dsimp only); (refine ⟨by omega, by omega, by rw [Int.pow_succ]; omega, ?_⟩; exact (gvGo_next (n := n) (by omega) (by omega) (by omega) (by omega)).symm.trans hx4), by (dsimp only; omega), Env.le_mk ⟨rfl, rfl, by first | rfl | (refine congrArg (fun n => PV.one (.d (.int .i64 n))) ?_; first | rfl | omega | (simp; done)), by first | rfl | (refine congrArg (fun n => PV.one (.d (.int .i64 n))) ?_; first | rfl | omega | (simp; done)), by first | rfl | (refine congrArg (fun n => PV.one (.d (.int .i64 n))) ?_; first | rfl | omega | (simp; done)), trivial⟩ trivial trivial⟩
    ·
     replace h4 := of_decide_eq_false h4
     refine T.exit ?_
     refine T.seq ?_
     refine T.region ?_
     refine TL.cons rfl (Step.assign (p := (.one (.d (.int .i64 0)))) rfl rfl (lt_ok rfl) rfl) ?_
     refine TL.cons rfl (Step.assign (p := (.one (.d (.int .i64 0)))) rfl rfl (lt_ok rfl) rfl) ?_
     refine TL.cons rfl (Step.assign (p := (.one (.d (.int .i64 2)))) rfl rfl (lt_ok rfl) rfl) ?_
     refine TL.nil ?_
     refine T.ret ?_
     exact ⟨[(false, [.d (.int .i64 0)]), (false, [.d (.int .i64 0)]), (false, [.d (.int .i64 2)])], (.cons rfl (.cons rfl (.cons rfl .nil))), rfl, [], (RetC.rd' (by (congr 1; first | (rw [getVar_out (by omega)]; done) | (rw [getVar_in (by omega), ← hx4]; first | (rw [gvGo_short (by omega) (by omega)]; done) | (rw [gvGo_var (by omega) (by omega) (by omega)]; done) | (rw [gvGo_done (by omega) (by omega) (by omega) (by omega) (by omega)]; done) | (rw [gvGo_big (by omega) (by omega) (by omega) (by omega) (by omega)]; done) | (rw [gvGo_end (by omega)]; done)))) (RetC.rd' (by (congr 1; first | (rw [getVar_out (by omega)]; done) | (rw [getVar_in (by omega), ← hx4]; first | (rw [gvGo_short (by omega) (by omega)]; done) | (rw [gvGo_var (by omega) (by omega) (by omega)]; done) | (rw [gvGo_done (by omega) (by omega) (by omega) (by omega) (by omega)]; done) | (rw [gvGo_big (by omega) (by omega) (by omega) (by omega) (by omega)]; done) | (rw [gvGo_end (by omega)]; done)))) (RetC.rd' (by (congr 1; first | (rw [getVar_out (by omega)]; done) | (rw [getVar_in (by omega), ← hx4]; first | (rw [gvGo_short (by omega) (by omega)]; done) | (rw [gvGo_var (by omega) (by omega) (by omega)]; done) | (rw [gvGo_done (by omega) (by omega) (by omega) (by omega) (by omega)]; done) | (rw [gvGo_big (by omega) (by omega) (by omega) (by omega) (by omega)]; done) | (rw [gvGo_end (by omega)]; done)))) .nil)))⟩
theorem ok_spec_l11Var (b : List Int) (s : SRS) (h0_ : U8s b) (h1_ : b.length ≤ 1048576) : BX Try.prog 121 [.bx] 150 [.rd (.ints .u8 b), .rd (.int .i64 s.f0), .rd (.int .i64 s.f1)] [.rd (.ints .u8 b), .rd (.int .i64 (rdNum b s).1.f0), .rd (.int .i64 (rdNum b s).1.f1)] [(false, [.rd (.int .i64 (rdNum b s).2)])] := by
 refine BX.intro Try.func121 rfl 33 rfl (le_ok rfl) (le_ok rfl) fun w Z IX pin hp => ?_
 refine T.seq ?_
 refine T.region ?_
 refine TL.cons rfl (Step.assign (p := (.one (.d (.int .i64 0)))) rfl rfl (lt_ok rfl) rfl) ?_
 refine TL.nil ?_
 refine T.seq ?_
 refine T.seq ?_
 refine T.region ?_
 refine TL.cons rfl (Step.move (p := (.one (.ptr 800 0))) rfl rfl (lt_ok rfl) rfl) ?_
 refine TL.cons rfl (Step.nilCheck rfl rfl (lt_ok rfl) rfl) ?_
 refine TL.cons rfl (Step.fieldAddr (q := 0) (off := 2) (n := 1) (one := true) rfl rfl (lt_ok rfl) (by kernel_rfl) (Nat.succ_ne_zero _) rfl) ?_
 refine TL.cons rfl (Step.load_box (c := .d (.int .i64 s.f1)) rfl rfl (lt_ok rfl) (by kernel_rfl) rfl rfl rfl) ?_
 refine TL.cons rfl (Step.bin rfl rfl (lt_ok rfl) rfl rfl (Bin.neq (k := .i64) (a := s.f1) (b := 0))) ?_
 refine TL.nil ?_
 refine T.cond (b := decide (s.f1 ≠ 0)) rfl (fun h1 => ?_) (fun h1 => ?_)
 ·
  replace h1 := of_decide_eq_true h1
  refine T.seq ?_
  refine T.region ?_
  refine TL.cons rfl (Step.assign (p := (.one (.d (.int .i64 0)))) rfl rfl (lt_ok rfl) rfl) ?_
  refine TL.nil ?_
  refine T.ret ?_
  exact ⟨[.d (.ints .u8 b), .d (.int .i64 s.f0), .d (.int .i64 s.f1)], [(false, [.d (.int .i64 0)])], rfl, rfl, (.cons rfl .nil), rfl, [], (RetC.rd' (by first | rfl | (congr 1; unfold rdNum; first | (rw [if_pos (by omega)]; done) | (rw [if_neg (by omega)]; done)) | (simp only [D.size]; unfold rdNum; rw [if_neg (by omega)]; rfl)) (RetC.rd' (by first | rfl | (congr 1; unfold rdNum; first | (rw [if_pos (by omega)]; done) | (rw [if_neg (by omega)]; done)) | (simp only [D.size]; unfold rdNum; rw [if_neg (by omega)]; rfl)) (RetC.rd' (by first | rfl | (congr 1; unfold rdNum; first | (rw [if_pos (by omega)]; done) | (rw [if_neg (by omega)]; done)) | (simp only [D.size]; unfold rdNum; rw [if_neg (by omega)]; rfl)) (RetC.rd' (by first | rfl | (congr 1; unfold rdNum; first | (rw [if_pos (by omega)]; done) | (rw [if_neg (by omega)]; done)) | (simp only [D.size]; unfold rdNum; rw [if_neg (by omega)]; rfl)) .nil))))⟩
 ·
  replace h1 := of_decide_eq_false h1
  refine T.skip ?_
  refine T.seq ?_
  have nn2 := @getVar_bd b (by assumption) s.f0
  refine T.draw [⟨12, (.one (.ptr 800 0)), []⟩, ⟨13, (.one (.ptr 800 0)), []⟩, ⟨14, (.one (.ptr 800 0)), []⟩, ⟨15, (.one (.d (.ints .u8 b))), []⟩, ⟨16, (.one (.ptr 800 0)), []⟩, ⟨17, (.one (.ptr 800 0)), []⟩, ⟨18, (.one (.ptr 800 1)), []⟩, ⟨19, (.one (.d (.int .i64 s.f0))), []⟩, ⟨20, (.tup [(false, [.d (.int .i64 (getVar b s.f0).1)]), (false, [.d (.int .i64 (getVar b s.f0).2.1)]), (false, [.d (.int .i64 (getVar b s.f0).2.2)])]), []⟩, ⟨11, (.tup [(false, [.d (.int .i64 (getVar b s.f0).1)]), (false, [.d (.int .i64 (getVar b s.f0).2.1)]), (false, [.d (.int .i64 (getVar b s.f0).2.2)])]), []⟩, ⟨21, (.one (.d (.int .i64 (getVar b s.f0).1))), []⟩, ⟨22, (.one (.d (.int .i64 (getVar b s.f0).2.1))), []⟩, ⟨23, (.one (.d (.int .i64 (getVar b s.f0).2.2))), []⟩, ⟨3, (.one (.d (.int .i64 (getVar b s.f0).1))), []⟩, ⟨4, (.one (.d (.int .i64 (getVar b s.f0).2.1))), []⟩, ⟨5, (.one (.d (.int .i64 (getVar b s.f0).2.2))), []⟩] (by kernel_rfl) (by kernel_rfl) ?_ ?_
  ·
   refine .cons (fun E hA_ => by have g0 := hA_.get 0 (by decide); exact OpStep.plain rfl (Step.move (p := (.one (.ptr 800 0))) (t := 12) rfl rfl (by exact lt_ok rfl) (show Env.ev E (.tmp 0) = _ from g0.trans rfl))) ?_
   refine .cons (fun E hA_ => by have g12 := hA_.get 12 (by decide); exact OpStep.plain rfl (Step.nilCheck (t := 13) rfl rfl (by exact lt_ok rfl) (show Env.ev E (.tmp 12) = _ from g12.trans rfl))) ?_
   refine .cons (fun E hA_ => by have g13 := hA_.get 13 (by decide); exact OpStep.plain rfl (Step.fieldAddr (q := 0) (off := 0) (n := 1) (one := true) (t := 14) rfl rfl (by exact lt_ok rfl) (by kernel_rfl) (Nat.succ_ne_zero _) (show Env.ev E (.tmp 13) = _ from g13.trans rfl))) ?_
   refine .cons (fun E hA_ => by have g14 := hA_.get 14 (by decide); exact OpStep.plain rfl (Step.load_box (c := .d (.ints .u8 b)) (t := 15) rfl rfl (by exact lt_ok rfl) (by kernel_rfl) (show Env.ev E (.tmp 14) = _ from g14.trans rfl) (by exact hA_.box rfl) rfl)) ?_
   refine .cons (fun E hA_ => by have g0 := hA_.get 0 (by decide); exact OpStep.plain rfl (Step.move (p := (.one (.ptr 800 0))) (t := 16) rfl rfl (by exact lt_ok rfl) (show Env.ev E (.tmp 0) = _ from g0.trans rfl))) ?_
   refine .cons (fun E hA_ => by have g16 := hA_.get 16 (by decide); exact OpStep.plain rfl (Step.nilCheck (t := 17) rfl rfl (by exact lt_ok rfl) (show Env.ev E (.tmp 16) = _ from g16.trans rfl))) ?_
   refine .cons (fun E hA_ => by have g17 := hA_.get 17 (by decide); exact OpStep.plain rfl (Step.fieldAddr (q := 0) (off := 1) (n := 1) (one := true) (t := 18) rfl rfl (by exact lt_ok rfl) (by kernel_rfl) (Nat.succ_ne_zero _) (show Env.ev E (.tmp 17) = _ from g17.trans rfl))) ?_
   refine .cons (fun E hA_ => by have g18 := hA_.get 18 (by decide); exact OpStep.plain rfl (Step.load_box (c := .d (.int .i64 s.f0)) (t := 19) rfl rfl (by exact lt_ok rfl) (by kernel_rfl) (show Env.ev E (.tmp 18) = _ from g18.trans rfl) (by exact hA_.box rfl) rfl)) ?_
   refine .cons (fun E hA_ => by have g15 := hA_.get 15 (by decide); have g19 := hA_.get 19 (by decide); exact OpStep.plain rfl (Step.call (f := 165) (xs := [.tmp 15, .tmp 19]) (ps := [(.one (.d (.ints .u8 b))), (.one (.d (.int .i64 s.f0)))]) false (g := .func 165) (t := 20) rfl rfl (by exact lt_ok rfl) rfl (by kernel_rfl) (evs_cons (show Env.ev E (.tmp 15) = _ from g15.trans rfl) (evs_cons (show Env.ev E (.tmp 19) = _ from g19.trans rfl) (rfl))) (.cons (.one (.d _)) (.cons (.one (.d _)) .nil)) (ok_spec_GetVar b s.f0 (by assumption) (by first | omega | assumption | (simp only [List.length_append] at *; omega))) (.inr rfl) (At.freshRows hA_ rfl) (fun x hx => by have := hp x hx; omega) rfl)) ?_
   refine .cons (fun E hA_ => by have g20 := hA_.get 20 (by decide); exact OpStep.plain rfl (Step.move (p := (.tup [(false, [.d (.int .i64 (getVar b s.f0).1)]), (false, [.d (.int .i64 (getVar b s.f0).2.1)]), (false, [.d (.int .i64 (getVar b s.f0).2.2)])])) (t := 11) rfl rfl (by exact lt_ok rfl) (show Env.ev E (.tmp 20) = _ from g20.trans rfl))) ?_
   refine .cons (fun E hA_ => by have g11 := hA_.get 11 (by decide); exact OpStep.plain rfl (Step.extract (p := (.one (.d (.int .i64 (getVar b s.f0).1)))) (t := 21) rfl rfl (by exact lt_ok rfl) (show Env.ev E (.tmp 11) = _ from g11.trans rfl) rfl)) ?_
   refine .cons (fun E hA_ => by have g11 := hA_.get 11 (by decide); exact OpStep.plain rfl (Step.extract (p := (.one (.d (.int .i64 (getVar b s.f0).2.1)))) (t := 22) rfl rfl (by exact lt_ok rfl) (show Env.ev E (.tmp 11) = _ from g11.trans rfl) rfl)) ?_
   refine .cons (fun E hA_ => by have g11 := hA_.get 11 (by decide); exact OpStep.plain rfl (Step.extract (p := (.one (.d (.int .i64 (getVar b s.f0).2.2)))) (t := 23) rfl rfl (by exact lt_ok rfl) (show Env.ev E (.tmp 11) = _ from g11.trans rfl) rfl)) ?_
   refine .cons (fun E hA_ => by have g21 := hA_.get 21 (by decide); exact OpStep.plain rfl (Step.assign (p := (.one (.d (.int .i64 (getVar b s.f0).1)))) (t := 3) rfl rfl (by exact lt_ok rfl) (show Env.ev E (.tmp 21) = _ from g21.trans rfl))) ?_
   refine .cons (fun E hA_ => by have g22 := hA_.get 22 (by decide); exact OpStep.plain rfl (Step.assign (p := (.one (.d (.int .i64 (getVar b s.f0).2.1)))) (t := 4) rfl rfl (by exact lt_ok rfl) (show Env.ev E (.tmp 22) = _ from g22.trans rfl))) ?_
   refine .cons (fun E hA_ => by have g23 := hA_.get 23 (by decide); exact OpStep.plain rfl (Step.assign (p := (.one (.d (.int .i64 (getVar b s.f0).2.2)))) (t := 5) rfl rfl (by exact lt_ok rfl) (show Env.ev E (.tmp 23) = _ from g23.trans rfl))) ?_
   exact .nil _ _
  refine TL.nil ?_
  refine T.seq ?_
  refine T.region ?_
  refine TL.cons rfl (Step.move (p := (.one (.ptr 800 0))) rfl rfl (lt_ok rfl) rfl) ?_
  refine TL.cons rfl (Step.move (p := (.one (.d (.int .i64 (getVar b s.f0).2.2)))) rfl rfl (lt_ok rfl) rfl) ?_
  refine TL.cons rfl (Step.nilCheck rfl rfl (lt_ok rfl) rfl) ?_
  refine TL.cons rfl (Step.fieldAddr (q := 0) (off := 2) (n := 1) (one := true) rfl rfl (lt_ok rfl) (by kernel_rfl) (Nat.succ_ne_zero _) rfl) ?_
  refine TL.cons rfl (Step.store_box (n := 1) (p := (.one (.d (.int .i64 (getVar b s.f0).2.2)))) (qs := [.d (.int .i64 (getVar b s.f0).2.2)]) (ps' := [.d (.ints .u8 b), .d (.int .i64 s.f0), .d (.int .i64 (getVar b s.f0).2.2)]) rfl rfl (by kernel_rfl) rfl rfl rfl rfl rfl rfl (le_ok rfl) rfl) ?_
  refine TL.nil ?_
  refine T.seq ?_
  refine T.region ?_
  refine TL.cons rfl (Step.move (p := (.one (.ptr 800 0))) rfl rfl (lt_ok rfl) rfl) ?_
  refine TL.cons rfl (Step.move (p := (.one (.d (.int .i64 (getVar b s.f0).2.1)))) rfl rfl (lt_ok rfl) rfl) ?_
  refine TL.cons rfl (Step.nilCheck rfl rfl (lt_ok rfl) rfl) ?_
  refine TL.cons rfl (Step.fieldAddr (q := 0) (off := 1) (n := 1) (one := true) rfl rfl (lt_ok rfl) (by kernel_rfl) (Nat.succ_ne_zero _) rfl) ?_
  refine TL.cons rfl (Step.store_box (n := 1) (p := (.one (.d (.int .i64 (getVar b s.f0).2.1)))) (qs := [.d (.int .i64 (getVar b s.f0).2.1)]) (ps' := [.d (.ints .u8 b), .d (.int .i64 (getVar b s.f0).2.1), .d (.int .i64 (getVar b s.f0).2.2)]) rfl rfl (by kernel_rfl) rfl rfl rfl rfl rfl rfl (le_ok rfl) rfl) ?_
  refine TL.nil ?_
  refine T.seq ?_
  refine T.region ?_
  refine TL.cons rfl (Step.move (p := (.one (.d (.int .i64 (getVar b s.f0).1)))) rfl rfl (lt_ok rfl) rfl) ?_
  refine TL.cons rfl (Step.assign (p := (.one (.d (.int .i64 (getVar b s.f0).1)))) rfl rfl (lt_ok rfl) rfl) ?_
  refine TL.nil ?_
  refine T.ret ?_
  exact ⟨[.d (.ints .u8 b), .d (.int .i64 (getVar b s.f0).2.1), .d (.int .i64 (getVar b s.f0).2.2)], [(false, [.d (.int .i64 (getVar b s.f0).1)])], rfl, rfl, (.cons rfl .nil), rfl, [], (RetC.rd' (by first | rfl | (congr 1; unfold rdNum; first | (rw [if_pos (by omega)]; done) | (rw [if_neg (by omega)]; done)) | (simp only [D.size]; unfold rdNum; rw [if_neg (by omega)]; rfl)) (RetC.rd' (by first | rfl | (congr 1; unfold rdNum; first | (rw [if_pos (by omega)]; done) | (rw [if_neg (by omega)]; done)) | (simp only [D.size]; unfold rdNum; rw [if_neg (by omega)]; rfl)) (RetC.rd' (by first | rfl | (congr 1; unfold rdNum; first | (rw [if_pos (by omega)]; done) | (rw [if_neg (by omega)]; done)) | (simp only [D.size]; unfold rdNum; rw [if_neg (by omega)]; rfl)) (RetC.rd' (by first | rfl | (congr 1; unfold rdNum; first | (rw [if_pos (by omega)]; done) | (rw [if_neg (by omega)]; done)) | (simp only [D.size]; unfold rdNum; rw [if_neg (by omega)]; rfl)) .nil))))⟩
theorem ok_spec_l01Copy (a : List Int) (h0_ : a.length ≤ 17592186044416) : RO Try.prog 79 [.one (.ints .u8 a)] [(false, [.own 5 (.ints .u8 a)])] := by
 refine RO.intro Try.func79 rfl 6 rfl (le_ok rfl) fun w Z => ?_
 refine T.bnd 0 0 rfl rfl fun hb_0_0 => ?_
 simp only [D.size, List.length_map] at hb_0_0
 refine T.seq ?_
 refine T.region ?_
 refine TL.cons rfl (Step.assign (p := (.one (.nil))) rfl rfl (lt_ok rfl) rfl) ?_
 refine TL.nil ?_
 refine T.seq ?_
 refine T.region ?_
 refine TL.cons rfl (Step.lit (e := 5) (z := 1) (by_ := 1) (xs := []) (pss := []) (es := []) (ss := []) (d := (.ints .u8 [])) rfl rfl (lt_ok rfl) (by kernel_rfl) rfl rfl .nil (by simp) (le_ok rfl) (le_ok rfl) rfl .nil rfl (by simp) (by simp) rfl trivial rfl rfl) ?_
 refine TL.cons rfl (Step.move (p := (.one (.d (.ints .u8 a)))) rfl rfl (lt_ok rfl) rfl) ?_
 refine TL.cons rfl (Step.append (e := 5) (z := 1) (by_ := 1) (d := (.ints .u8 [])) (dy := (.ints .u8 a)) (d' := (.ints .u8 ([] ++ a))) (ss := []) rfl rfl (lt_ok rfl) (by kernel_rfl) rfl rfl rfl (lt_ok rfl) rfl (.froz rfl (by simp [D.flat, D.val])) (by simp) rfl (by simp only [D.size, List.length_map]; first | omega | (simp; omega) | (simp only [List.length_append] at *; omega)) (by simp only [D.size, List.length_map]; first | omega | (simp; omega) | (simp only [List.length_append] at *; omega)) (by simp)) ?_
 refine TL.cons rfl (Step.assign (p := (.one (.row 3 []))) rfl rfl (lt_ok rfl) rfl) ?_
 refine TL.nil ?_
 refine T.ret ?_
 exact ⟨[(false, [.row 3 []])], (.cons rfl .nil), rfl, [3], (RetC.own' rfl (by rfl) rfl .nil)⟩
theorem ok_spec_GetRaw (b : List Int) (a : Int) (n : Int) (h0_ : b.length ≤ 1099511627776) : RO Try.prog 166 [.one (.ints .u8 b), .one (.int .i64 a), .one (.int .i64 n)] [(false, [.own 5 (.ints .u8 (getRaw b a n).1)]), (false, [.rd (.int .i64 (getRaw b a n).2.1)]), (false, [.rd (.int .i64 (getRaw b a n).2.2)])] := by
 refine RO.intro Try.func166 rfl 39 rfl (le_ok rfl) fun w Z => ?_
 refine T.bnd 0 0 rfl rfl fun hb_0_0 => ?_
 simp only [D.size, List.length_map] at hb_0_0
 refine T.seq ?_
 refine T.region ?_
 refine TL.cons rfl (Step.assign (p := (.one (.nil))) rfl rfl (lt_ok rfl) rfl) ?_
 refine TL.cons rfl (Step.assign (p := (.one (.d (.int .i64 0)))) rfl rfl (lt_ok rfl) rfl) ?_
 refine TL.cons rfl (Step.assign (p := (.one (.d (.int .i64 0)))) rfl rfl (lt_ok rfl) rfl) ?_
 refine TL.nil ?_
 refine T.seq ?_
 refine T.seq ?_
 refine T.region ?_
 refine TL.cons rfl (Step.move (p := (.one (.d (.int .i64 a)))) rfl rfl (lt_ok rfl) rfl) ?_
 refine TL.cons rfl (Step.bin rfl rfl (lt_ok rfl) rfl rfl (Bin.lss (k := .i64) (a := a) (b := 0))) ?_
 refine TL.cons rfl (Step.move (p := (.one (.d (.bool (decide (a < 0)))))) rfl rfl (lt_ok rfl) rfl) ?_
 rcases Bool.eq_false_or_eq_true (decide (a < 0)) with hb1 | hb1
 ·
  refine TL.known 11 hb1 rfl ?_
  have hb1' := hb1
  replace hb1' := of_decide_eq_true hb1'
  refine TL.goff 11 rfl rfl (lt_ok rfl) rfl rfl rfl (lt_ok rfl) ?_
  refine TL.goff 11 rfl rfl (lt_ok rfl) rfl rfl rfl (lt_ok rfl) ?_
  refine TL.cons rfl (Step.pick (b := true) (p := (.one (.d (.bool true)))) rfl rfl (lt_ok rfl) rfl rfl) ?_
  refine TL.cons rfl (Step.move (p := (.one (.d (.bool true)))) rfl rfl (lt_ok rfl) rfl) ?_
  refine TL.goff 15 rfl rfl (lt_ok rfl) rfl rfl rfl (lt_ok rfl) ?_
  refine TL.goff 15 rfl rfl (lt_ok rfl) rfl rfl rfl (lt_ok rfl) ?_
  refine TL.goff 15 rfl rfl (lt_ok rfl) rfl rfl rfl (lt_ok rfl) ?_
  refine TL.goff 15 rfl rfl (lt_ok rfl) rfl rfl rfl (lt_ok rfl) ?_
  refine TL.cons rfl (Step.pick (b := true) (p := (.one (.d (.bool true)))) rfl rfl (lt_ok rfl) rfl rfl) ?_
  refine TL.cons rfl (Step.move (p := (.one (.d (.bool true)))) rfl rfl (lt_ok rfl) rfl) ?_
  refine TL.goff 21 rfl rfl (lt_ok rfl) rfl rfl rfl (lt_ok rfl) ?_
  refine TL.goff 21 rfl rfl (lt_ok rfl) rfl rfl rfl (lt_ok rfl) ?_
  refine TL.goff 21 rfl rfl (lt_ok rfl) rfl rfl rfl (lt_ok rfl) ?_
  refine TL.goff 21 rfl rfl (lt_ok rfl) rfl rfl rfl (lt_ok rfl) ?_
  refine TL.goff 21 rfl rfl (lt_ok rfl) rfl rfl rfl (lt_ok rfl) ?_
  refine TL.goff 21 rfl rfl (lt_ok rfl) rfl rfl rfl (lt_ok rfl) ?_
  refine TL.cons rfl (Step.pick (b := true) (p := (.one (.d (.bool true)))) rfl rfl (lt_ok rfl) rfl rfl) ?_
  refine TL.nil ?_
  refine T.cond (b := true) rfl (fun h2_ => ?_) (fun h2_ => absurd h2_ (by simp))
  refine T.seq ?_
  refine T.region ?_
  refine TL.cons rfl (Step.assign (p := (.one (.nil))) rfl rfl (lt_ok rfl) rfl) ?_
  refine TL.cons rfl (Step.assign (p := (.one (.d (.int .i64 0)))) rfl rfl (lt_ok rfl) rfl) ?_
  refine TL.cons rfl (Step.assign (p := (.one (.d (.int .i64 1)))) rfl rfl (lt_ok rfl) rfl) ?_
  refine TL.nil ?_
  refine T.ret ?_
  exact ⟨[(false, [.nil]), (false, [.d (.int .i64 0)]), (false, [.d (.int .i64 1)])], (.cons rfl (.cons rfl (.cons rfl .nil))), rfl, [], (RetC.nilown' rfl (by first | (congr 1; unfold getRaw; first | (rw [if_pos (by omega)]; done) | (rw [if_neg (by omega)]; done)) | (simp only [D.size]; unfold getRaw; rw [if_neg (by omega)]; rfl)) (by first | exact trivial | exact D.wf_nil _) (RetC.rd' (by first | (congr 1; unfold getRaw; first | (rw [if_pos (by omega)]; done) | (rw [if_neg (by omega)]; done)) | (simp only [D.size]; unfold getRaw; rw [if_neg (by omega)]; rfl)) (RetC.rd' (by first | (congr 1; unfold getRaw; first | (rw [if_pos (by omega)]; done) | (rw [if_neg (by omega)]; done)) | (simp only [D.size]; unfold getRaw; rw [if_neg (by omega)]; rfl)) .nil)))⟩
 ·
  refine TL.known 11 hb1 rfl ?_
  have hb1' := hb1
  replace hb1' := of_decide_eq_false hb1'
  refine TL.gyes 11 rfl rfl (lt_ok rfl) rfl (Step.move (p := (.one (.d (.int .i64 n)))) rfl rfl (lt_ok rfl) rfl) ?_
  refine TL.gyes 11 rfl rfl (lt_ok rfl) rfl (Step.bin rfl rfl (lt_ok rfl) rfl rfl (Bin.lss (k := .i64) (a := n) (b := 0))) ?_
  refine TL.cons rfl (Step.pick (b := false) (p := (.one (.d (.bool (decide (n < 0)))))) rfl rfl (lt_ok rfl) rfl rfl) ?_
  refine TL.cons rfl (Step.move (p := (.one (.d (.bool (decide (n < 0)))))) rfl rfl (lt_ok rfl) rfl) ?_
  rcases Bool.eq_false_or_eq_true (decide (n < 0)) with hb3 | hb3
  ·
   refine TL.known 15 hb3 rfl ?_
   have hb3' := hb3
   replace hb3' := of_decide_eq_true hb3'
   refine TL.goff 15 rfl rfl (lt_ok rfl) rfl rfl rfl (lt_ok rfl) ?_
   refine TL.goff 15 rfl rfl (lt_ok rfl) rfl rfl rfl (lt_ok rfl) ?_
   refine TL.goff 15 rfl rfl (lt_ok rfl) rfl rfl rfl (lt_ok rfl) ?_
   refine TL.goff 15 rfl rfl (lt_ok rfl) rfl rfl rfl (lt_ok rfl) ?_
   refine TL.cons rfl (Step.pick (b := true) (p := (.one (.d (.bool true)))) rfl rfl (lt_ok rfl) rfl rfl) ?_
   refine TL.cons rfl (Step.move (p := (.one (.d (.bool true)))) rfl rfl (lt_ok rfl) rfl) ?_
   refine TL.goff 21 rfl rfl (lt_ok rfl) rfl rfl rfl (lt_ok rfl) ?_
   refine TL.goff 21 rfl rfl (lt_ok rfl) rfl rfl rfl (lt_ok rfl) ?_
   refine TL.goff 21 rfl rfl (lt_ok rfl) rfl rfl rfl (lt_ok rfl) ?_
   refine TL.goff 21 rfl rfl (lt_ok rfl) rfl rfl rfl (lt_ok rfl) ?_
   refine TL.goff 21 rfl rfl (lt_ok rfl) rfl rfl rfl (lt_ok rfl) ?_
   refine TL.goff 21 rfl rfl (lt_ok rfl) rfl rfl rfl (lt_ok rfl) ?_
   refine TL.cons rfl (Step.pick (b := true) (p := (.one (.d (.bool true)))) rfl rfl (lt_ok rfl) rfl rfl) ?_
   refine TL.nil ?_
   refine T.cond (b := true) rfl (fun h4_ => ?_) (fun h4_ => absurd h4_ (by simp))
   refine T.seq ?_
   refine T.region ?_
   refine TL.cons rfl (Step.assign (p := (.one (.nil))) rfl rfl (lt_ok rfl) rfl) ?_
   refine TL.cons rfl (Step.assign (p := (.one (.d (.int .i64 0)))) rfl rfl (lt_ok rfl) rfl) ?_
   refine TL.cons rfl (Step.assign (p := (.one (.d (.int .i64 1)))) rfl rfl (lt_ok rfl) rfl) ?_
   refine TL.nil ?_
   refine T.ret ?_
   exact ⟨[(false, [.nil]), (false, [.d (.int .i64 0)]), (false, [.d (.int .i64 1)])], (.cons rfl (.cons rfl (.cons rfl .nil))), rfl, [], (RetC.nilown' rfl (by first | (congr 1; unfold getRaw; first | (rw [if_pos (by omega)]; done) | (rw [if_neg (by omega)]; done)) | (simp only [D.size]; unfold getRaw; rw [if_neg (by omega)]; rfl)) (by first | exact trivial | exact D.wf_nil _) (RetC.rd' (by first | (congr 1; unfold getRaw; first | (rw [if_pos (by omega)]; done) | (rw [if_neg (by omega)]; done)) | (simp only [D.size]; unfold getRaw; rw [if_neg (by omega)]; rfl)) (RetC.rd' (by first | (congr 1; unfold getRaw; first | (rw [if_pos (by omega)]; done) | (rw [if_neg (by omega)]; done)) | (simp only [D.size]; unfold getRaw; rw [if_neg (by omega)]; rfl)) .nil)))⟩
  ·
   refine TL.known 15 hb3 rfl ?_
   have hb3' := hb3
   replace hb3' := of_decide_eq_false hb3'
   refine TL.gyes 15 rfl rfl (lt_ok rfl) rfl (Step.move (p := (.one (.d (.int .i64 a)))) rfl rfl (lt_ok rfl) rfl) ?_
   refine TL.gyes 15 rfl rfl (lt_ok rfl) rfl (Step.move (p := (.one (.d (.ints .u8 b)))) rfl rfl (lt_ok rfl) rfl) ?_
   refine TL.gyes 15 rfl rfl (lt_ok rfl) rfl (Step.len (e := 5) (z := 1) (d := (.ints .u8 b)) rfl rfl (lt_ok rfl) (by kernel_rfl) rfl rfl) ?_
   refine TL.gyes 15 rfl rfl (lt_ok rfl) rfl (Step.bin rfl rfl (lt_ok rfl) rfl rfl (Bin.gtr (k := .i64) (a := a) (b := (b.length : Int)))) ?_
   refine TL.cons rfl (Step.pick (b := false) (p := (.one (.d (.bool (decide ((b.length : Int) < a)))))) rfl rfl (lt_ok rfl) rfl rfl) ?_
   refine TL.cons rfl (Step.move (p := (.one (.d (.bool (decide ((b.length : Int) < a)))))) rfl rfl (lt_ok rfl) rfl) ?_
   rcases Bool.eq_false_or_eq_true (decide ((b.length : Int) < a)) with hb5 | hb5
   ·
    refine TL.known 21 hb5 rfl ?_
    have hb5' := hb5
    replace hb5' := of_decide_eq_true hb5'
    refine TL.goff 21 rfl rfl (lt_ok rfl) rfl rfl rfl (lt_ok rfl) ?_
    refine TL.goff 21 rfl rfl (lt_ok rfl) rfl rfl rfl (lt_ok rfl) ?_
    refine TL.goff 21 rfl rfl (lt_ok rfl) rfl rfl rfl (lt_ok rfl) ?_
    refine TL.goff 21 rfl rfl (lt_ok rfl) rfl rfl rfl (lt_ok rfl) ?_
    refine TL.goff 21 rfl rfl (lt_ok rfl) rfl rfl rfl (lt_ok rfl) ?_
    refine TL.goff 21 rfl rfl (lt_ok rfl) rfl rfl rfl (lt_ok rfl) ?_
    refine TL.cons rfl (Step.pick (b := true) (p := (.one (.d (.bool true)))) rfl rfl (lt_ok rfl) rfl rfl) ?_
    refine TL.nil ?_
    refine T.cond (b := true) rfl (fun h6_ => ?_) (fun h6_ => absurd h6_ (by simp))
    refine T.seq ?_
    refine T.region ?_
    refine TL.cons rfl (Step.assign (p := (.one (.nil))) rfl rfl (lt_ok rfl) rfl) ?_
    refine TL.cons rfl (Step.assign (p := (.one (.d (.int .i64 0)))) rfl rfl (lt_ok rfl) rfl) ?_
    refine TL.cons rfl (Step.assign (p := (.one (.d (.int .i64 1)))) rfl rfl (lt_ok rfl) rfl) ?_
    refine TL.nil ?_
    refine T.ret ?_
    exact ⟨[(false, [.nil]), (false, [.d (.int .i64 0)]), (false, [.d (.int .i64 1)])], (.cons rfl (.cons rfl (.cons rfl .nil))), rfl, [], (RetC.nilown' rfl (by first | (congr 1; unfold getRaw; first | (rw [if_pos (by omega)]; done) | (rw [if_neg (by omega)]; done)) | (simp only [D.size]; unfold getRaw; rw [if_neg (by omega)]; rfl)) (by first | exact trivial | exact D.wf_nil _) (RetC.rd' (by first | (congr 1; unfold getRaw; first | (rw [if_pos (by omega)]; done) | (rw [if_neg (by omega)]; done)) | (simp only [D.size]; unfold getRaw; rw [if_neg (by omega)]; rfl)) (RetC.rd' (by first | (congr 1; unfold getRaw; first | (rw [if_pos (by omega)]; done) | (rw [if_neg (by omega)]; done)) | (simp only [D.size]; unfold getRaw; rw [if_neg (by omega)]; rfl)) .nil)))⟩
   ·
    refine TL.known 21 hb5 rfl ?_
    have hb5' := hb5
    replace hb5' := of_decide_eq_false hb5'
    refine TL.gyes 21 rfl rfl (lt_ok rfl) rfl (Step.move (p := (.one (.d (.int .i64 n)))) rfl rfl (lt_ok rfl) rfl) ?_
    refine TL.gyes 21 rfl rfl (lt_ok rfl) rfl (Step.move (p := (.one (.d (.ints .u8 b)))) rfl rfl (lt_ok rfl) rfl) ?_
    refine TL.gyes 21 rfl rfl (lt_ok rfl) rfl (Step.len (e := 5) (z := 1) (d := (.ints .u8 b)) rfl rfl (lt_ok rfl) (by kernel_rfl) rfl rfl) ?_
    refine TL.gyes 21 rfl rfl (lt_ok rfl) rfl (Step.move (p := (.one (.d (.int .i64 a)))) rfl rfl (lt_ok rfl) rfl) ?_
    refine TL.gyes 21 rfl rfl (lt_ok rfl) rfl (Step.bin (r := .int .i64 ((b.length : Int) - a)) rfl rfl (lt_ok rfl) rfl rfl (Bin.sub (a := (b.length : Int)) (b := a) (by first | exact wrap_ok (by first | omega | (simp only [List.length_take, List.length_drop]; omega) | (simp; omega)) (by first | omega | (simp only [List.length_take, List.length_drop]; omega) | (simp; omega)) | rfl))) ?_
    refine TL.gyes 21 rfl rfl (lt_ok rfl) rfl (Step.bin rfl rfl (lt_ok rfl) rfl rfl (Bin.gtr (k := .i64) (a := n) (b := ((b.length : Int) - a)))) ?_
    refine TL.cons rfl (Step.pick (b := false) (p := (.one (.d (.bool (decide (((b.length : Int) - a) < n)))))) rfl rfl (lt_ok rfl) rfl rfl) ?_
    refine TL.nil ?_
    refine T.cond (b := decide (((b.length : Int) - a) < n)) rfl (fun h7 => ?_) (fun h7 => ?_)
    ·
     replace h7 := of_decide_eq_true h7
     refine T.seq ?_
     refine T.region ?_
     refine TL.cons rfl (Step.assign (p := (.one (.nil))) rfl rfl (lt_ok rfl) rfl) ?_
     refine TL.cons rfl (Step.assign (p := (.one (.d (.int .i64 0)))) rfl rfl (lt_ok rfl) rfl) ?_
     refine TL.cons rfl (Step.assign (p := (.one (.d (.int .i64 1)))) rfl rfl (lt_ok rfl) rfl) ?_
     refine TL.nil ?_
     refine T.ret ?_
     exact ⟨[(false, [.nil]), (false, [.d (.int .i64 0)]), (false, [.d (.int .i64 1)])], (.cons rfl (.cons rfl (.cons rfl .nil))), rfl, [], (RetC.nilown' rfl (by first | (congr 1; unfold getRaw; first | (rw [if_pos (by omega)]; done) | (rw [if_neg (by omega)]; done)) | (simp only [D.size]; unfold getRaw; rw [if_neg (by omega)]; rfl)) (by first | exact trivial | exact D.wf_nil _) (RetC.rd' (by first | (congr 1; unfold getRaw; first | (rw [if_pos (by omega)]; done) | (rw [if_neg (by omega)]; done)) | (simp only [D.size]; unfold getRaw; rw [if_neg (by omega)]; rfl)) (RetC.rd' (by first | (congr 1; unfold getRaw; first | (rw [if_pos (by omega)]; done) | (rw [if_neg (by omega)]; done)) | (simp only [D.size]; unfold getRaw; rw [if_neg (by omega)]; rfl)) .nil)))⟩
    ·
     replace h7 := of_decide_eq_false h7
     refine T.skip ?_
     refine T.seq ?_
     refine T.region ?_
     refine TL.cons rfl (Step.move (p := (.one (.d (.ints .u8 b)))) rfl rfl (lt_ok rfl) rfl) ?_
     refine TL.cons rfl (Step.move (p := (.one (.d (.int .i64 a)))) rfl rfl (lt_ok rfl) rfl) ?_
     refine TL.cons rfl (Step.move (p := (.one (.d (.int .i64 a)))) rfl rfl (lt_ok rfl) rfl) ?_
     refine TL.cons rfl (Step.move (p := (.one (.d (.int .i64 n)))) rfl rfl (lt_ok rfl) rfl) ?_
     refine TL.cons rfl (Step.bin (r := .int .i64 (a + n)) rfl rfl (lt_ok rfl) rfl rfl (Bin.add (a := a) (b := n) (by first | exact wrap_ok (by first | omega | (simp only [List.length_take, List.length_drop]; omega) | (simp; omega)) (by first | omega | (simp only [List.length_take, List.length_drop]; omega) | (simp; omega)) | rfl))) ?_
     refine TL.cons rfl (Step.slice (e := 5) (z := 1) (l := (a).toNat) (h := (a + n).toNat) rfl rfl (lt_ok rfl) (by kernel_rfl) rfl rfl rfl ((.some (i := a) rfl (by first | omega | (simp only [List.length_take, List.length_drop]; omega) | (simp; omega)))) ((.some (i := (a + n)) rfl (by first | omega | (simp only [List.length_take, List.length_drop]; omega) | (simp; omega)))) (by first | omega | (simp only [List.length_take, List.length_drop]; omega) | (simp; omega)) (by simp only [D.size]; first | omega | (simp only [List.length_take, List.length_drop]; omega) | (simp; omega)) rfl) ?_
     refine TL.cons rfl (Step.call (f := 79) (xs := [.tmp 34]) (ps := [(.one (.d (.ints .u8 ((b.drop (a).toNat).take ((a + n).toNat - (a).toNat)))))]) false (g := .func 79) rfl rfl (lt_ok rfl) rfl (by kernel_rfl) rfl (.cons (.one (.d _)) .nil) (ok_spec_l01Copy ((b.drop (a).toNat).take ((a + n).toNat - (a).toNat)) (by first | omega | assumption | (simp only [List.length_take, List.length_drop]; omega))) (.inr rfl) rfl (by simp) rfl) ?_
     refine TL.cons rfl (Step.move (p := (.one (.d (.int .i64 a)))) rfl rfl (lt_ok rfl) rfl) ?_
     refine TL.cons rfl (Step.move (p := (.one (.d (.int .i64 n)))) rfl rfl (lt_ok rfl) rfl) ?_
     refine TL.cons rfl (Step.bin (r := .int .i64 (a + n)) rfl rfl (lt_ok rfl) rfl rfl (Bin.add (a := a) (b := n) (by first | exact wrap_ok (by first | omega | (simp only [List.length_take, List.length_drop]; omega) | (simp; omega)) (by first | omega | (simp only [List.length_take, List.length_drop]; omega) | (simp; omega)) | rfl))) ?_
     refine TL.cons rfl (Step.assign (p := (.one (.row 1035 []))) rfl rfl (lt_ok rfl) rfl) ?_
     refine TL.cons rfl (Step.assign (p := (.one (.d (.int .i64 (a + n))))) rfl rfl (lt_ok rfl) rfl) ?_
     refine TL.cons rfl (Step.assign (p := (.one (.d (.int .i64 0)))) rfl rfl (lt_ok rfl) rfl) ?_
     refine TL.nil ?_
     refine T.ret ?_
     exact ⟨[(false, [.row 1035 []]), (false, [.d (.int .i64 (a + n))]), (false, [.d (.int .i64 0)])], (.cons rfl (.cons rfl (.cons rfl .nil))), rfl, [1035], (RetC.own' rfl (by first | (congr 1; unfold getRaw; first | (rw [if_pos (by omega)]; done) | (rw [if_neg (by omega)]; done)) | (simp only [D.size]; unfold getRaw; rw [if_neg (by omega)]; rfl)) rfl (RetC.rd' (by first | (congr 1; unfold getRaw; first | (rw [if_pos (by omega)]; done) | (rw [if_neg (by omega)]; done)) | (simp only [D.size]; unfold getRaw; rw [if_neg (by omega)]; rfl)) (RetC.rd' (by first | (congr 1; unfold getRaw; first | (rw [if_pos (by omega)]; done) | (rw [if_neg (by omega)]; done)) | (simp only [D.size]; unfold getRaw; rw [if_neg (by omega)]; rfl)) .nil)))⟩
theorem ok_spec_l11Raw (b : List Int) (s : SRS) (h0_ : U8s b) (h1_ : b.length ≤ 1048576) : BX Try.prog 122 [.bx] 150 [.rd (.ints .u8 b), .rd (.int .i64 s.f0), .rd (.int .i64 s.f1)] [.rd (.ints .u8 b), .rd (.int .i64 (rdRaw b s 32).1.f0), .rd (.int .i64 (rdRaw b s 32).1.f1)] [(false, [.own 5 (.ints .u8 (rdRaw b s 32).2)])] := by
 refine BX.intro Try.func122 rfl 33 rfl (le_ok rfl) (le_ok rfl) fun w Z IX pin hp => ?_
 refine T.seq ?_
 refine T.region ?_
 refine TL.cons rfl (Step.assign (p := (.one (.nil))) rfl rfl (lt_ok rfl) rfl) ?_
 refine TL.nil ?_
 refine T.seq ?_
 refine T.seq ?_
 refine T.region ?_
 refine TL.cons rfl (Step.move (p := (.one (.ptr 800 0))) rfl rfl (lt_ok rfl) rfl) ?_
 refine TL.cons rfl (Step.nilCheck rfl rfl (lt_ok rfl) rfl) ?_
 refine TL.cons rfl (Step.fieldAddr (q := 0) (off := 2) (n := 1) (one := true) rfl rfl (lt_ok rfl) (by kernel_rfl) (Nat.succ_ne_zero _) rfl) ?_
 refine TL.cons rfl (Step.load_box (c := .d (.int .i64 s.f1)) rfl rfl (lt_ok rfl) (by kernel_rfl) rfl rfl rfl) ?_
 refine TL.cons rfl (Step.bin rfl rfl (lt_ok rfl) rfl rfl (Bin.neq (k := .i64) (a := s.f1) (b := 0))) ?_
 refine TL.nil ?_
 refine T.cond (b := decide (s.f1 ≠ 0)) rfl (fun h1 => ?_) (fun h1 => ?_)
 ·
  replace h1 := of_decide_eq_true h1
  refine T.seq ?_
  refine T.region ?_
  refine TL.cons rfl (Step.assign (p := (.one (.nil))) rfl rfl (lt_ok rfl) rfl) ?_
  refine TL.nil ?_
  refine T.ret ?_
  exact ⟨[.d (.ints .u8 b), .d (.int .i64 s.f0), .d (.int .i64 s.f1)], [(false, [.nil])], rfl, rfl, (.cons rfl .nil), rfl, [], (RetC.rd' (by first | rfl | (congr 1; unfold rdRaw; first | (rw [if_pos (by omega)]; done) | (rw [if_neg (by omega)]; done)) | (simp only [D.size]; unfold rdRaw; rw [if_neg (by omega)]; rfl)) (RetC.rd' (by first | rfl | (congr 1; unfold rdRaw; first | (rw [if_pos (by omega)]; done) | (rw [if_neg (by omega)]; done)) | (simp only [D.size]; unfold rdRaw; rw [if_neg (by omega)]; rfl)) (RetC.rd' (by first | rfl | (congr 1; unfold rdRaw; first | (rw [if_pos (by omega)]; done) | (rw [if_neg (by omega)]; done)) | (simp only [D.size]; unfold rdRaw; rw [if_neg (by omega)]; rfl)) (RetC.nilown' rfl (by first | rfl | (congr 1; unfold rdRaw; first | (rw [if_pos (by omega)]; done) | (rw [if_neg (by omega)]; done)) | (simp only [D.size]; unfold rdRaw; rw [if_neg (by omega)]; rfl)) (by first | exact trivial | exact D.wf_nil _) .nil))))⟩
 ·
  replace h1 := of_decide_eq_false h1
  refine T.skip ?_
  refine T.seq ?_
  have nn2 := getRaw_bd b s.f0 32
  refine T.draw [⟨12, (.one (.ptr 800 0)), []⟩, ⟨13, (.one (.ptr 800 0)), []⟩, ⟨14, (.one (.ptr 800 0)), []⟩, ⟨15, (.one (.d (.ints .u8 b))), []⟩, ⟨16, (.one (.ptr 800 0)), []⟩, ⟨17, (.one (.ptr 800 0)), []⟩, ⟨18, (.one (.ptr 800 1)), []⟩, ⟨19, (.one (.d (.int .i64 s.f0))), []⟩, ⟨20, (.tup [(false, [.row 1020 []]), (false, [.d (.int .i64 (getRaw b s.f0 32).2.1)]), (false, [.d (.int .i64 (getRaw b s.f0 32).2.2)])]), [(1020, (5, (.ints .u8 (getRaw b s.f0 32).1)))]⟩, ⟨11, (.tup [(false, [.row 1020 []]), (false, [.d (.int .i64 (getRaw b s.f0 32).2.1)]), (false, [.d (.int .i64 (getRaw b s.f0 32).2.2)])]), []⟩, ⟨21, (.one (.row 1020 [])), []⟩, ⟨22, (.one (.d (.int .i64 (getRaw b s.f0 32).2.1))), []⟩, ⟨23, (.one (.d (.int .i64 (getRaw b s.f0 32).2.2))), []⟩, ⟨3, (.one (.row 1020 [])), []⟩, ⟨4, (.one (.d (.int .i64 (getRaw b s.f0 32).2.1))), []⟩, ⟨5, (.one (.d (.int .i64 (getRaw b s.f0 32).2.2))), []⟩] (by kernel_rfl) (by kernel_rfl) ?_ ?_
  ·
   refine .cons (fun E hA_ => by have g0 := hA_.get 0 (by decide); exact OpStep.plain rfl (Step.move (p := (.one (.ptr 800 0))) (t := 12) rfl rfl (by exact lt_ok rfl) (show Env.ev E (.tmp 0) = _ from g0.trans rfl))) ?_
   refine .cons (fun E hA_ => by have g12 := hA_.get 12 (by decide); exact OpStep.plain rfl (Step.nilCheck (t := 13) rfl rfl (by exact lt_ok rfl) (show Env.ev E (.tmp 12) = _ from g12.trans rfl))) ?_
   refine .cons (fun E hA_ => by have g13 := hA_.get 13 (by decide); exact OpStep.plain rfl (Step.fieldAddr (q := 0) (off := 0) (n := 1) (one := true) (t := 14) rfl rfl (by exact lt_ok rfl) (by kernel_rfl) (Nat.succ_ne_zero _) (show Env.ev E (.tmp 13) = _ from g13.trans rfl))) ?_
   refine .cons (fun E hA_ => by have g14 := hA_.get 14 (by decide); exact OpStep.plain rfl (Step.load_box (c := .d (.ints .u8 b)) (t := 15) rfl rfl (by exact lt_ok rfl) (by kernel_rfl) (show Env.ev E (.tmp 14) = _ from g14.trans rfl) (by exact hA_.box rfl) rfl)) ?_
   refine .cons (fun E hA_ => by have g0 := hA_.get 0 (by decide); exact OpStep.plain rfl (Step.move (p := (.one (.ptr 800 0))) (t := 16) rfl rfl (by exact lt_ok rfl) (show Env.ev E (.tmp 0) = _ from g0.trans rfl))) ?_
   refine .cons (fun E hA_ => by have g16 := hA_.get 16 (by decide); exact OpStep.plain rfl (Step.nilCheck (t := 17) rfl rfl (by exact lt_ok rfl) (show Env.ev E (.tmp 16) = _ from g16.trans rfl))) ?_
   refine .cons (fun E hA_ => by have g17 := hA_.get 17 (by decide); exact OpStep.plain rfl (Step.fieldAddr (q := 0) (off := 1) (n := 1) (one := true) (t := 18) rfl rfl (by exact lt_ok rfl) (by kernel_rfl) (Nat.succ_ne_zero _) (show Env.ev E (.tmp 17) = _ from g17.trans rfl))) ?_
   refine .cons (fun E hA_ => by have g18 := hA_.get 18 (by decide); exact OpStep.plain rfl (Step.load_box (c := .d (.int .i64 s.f0)) (t := 19) rfl rfl (by exact lt_ok rfl) (by kernel_rfl) (show Env.ev E (.tmp 18) = _ from g18.trans rfl) (by exact hA_.box rfl) rfl)) ?_
   refine .cons (fun E hA_ => by have g15 := hA_.get 15 (by decide); have g19 := hA_.get 19 (by decide); exact OpStep.plain rfl (Step.call (f := 166) (xs := [.tmp 15, .tmp 19, .const (.int .i64 32)]) (ps := [(.one (.d (.ints .u8 b))), (.one (.d (.int .i64 s.f0))), (.one (.d (.int .i64 32)))]) false (g := .func 166) (t := 20) rfl rfl (by exact lt_ok rfl) rfl (by kernel_rfl) (evs_cons (show Env.ev E (.tmp 15) = _ from g15.trans rfl) (evs_cons (show Env.ev E (.tmp 19) = _ from g19.trans rfl) (evs_cons rfl (rfl)))) (.cons (.one (.d _)) (.cons (.one (.d _)) (.cons (.one (.d _)) .nil))) (ok_spec_GetRaw b s.f0 32 (by first | omega | assumption | (simp only [List.length_append] at *; omega))) (.inr rfl) (At.freshRows hA_ rfl) (fun x hx => by have := hp x hx; omega) rfl)) ?_
   refine .cons (fun E hA_ => by have g20 := hA_.get 20 (by decide); exact OpStep.plain rfl (Step.move (p := (.tup [(false, [.row 1020 []]), (false, [.d (.int .i64 (getRaw b s.f0 32).2.1)]), (false, [.d (.int .i64 (getRaw b s.f0 32).2.2)])])) (t := 11) rfl rfl (by exact lt_ok rfl) (show Env.ev E (.tmp 20) = _ from g20.trans rfl))) ?_
   refine .cons (fun E hA_ => by have g11 := hA_.get 11 (by decide); exact OpStep.plain rfl (Step.extract (p := (.one (.row 1020 []))) (t := 21) rfl rfl (by exact lt_ok rfl) (show Env.ev E (.tmp 11) = _ from g11.trans rfl) rfl)) ?_
   refine .cons (fun E hA_ => by have g11 := hA_.get 11 (by decide); exact OpStep.plain rfl (Step.extract (p := (.one (.d (.int .i64 (getRaw b s.f0 32).2.1)))) (t := 22) rfl rfl (by exact lt_ok rfl) (show Env.ev E (.tmp 11) = _ from g11.trans rfl) rfl)) ?_
   refine .cons (fun E hA_ => by have g11 := hA_.get 11 (by decide); exact OpStep.plain rfl (Step.extract (p := (.one (.d (.int .i64 (getRaw b s.f0 32).2.2)))) (t := 23) rfl rfl (by exact lt_ok rfl) (show Env.ev E (.tmp 11) = _ from g11.trans rfl) rfl)) ?_
   refine .cons (fun E hA_ => by have g21 := hA_.get 21 (by decide); exact OpStep.plain rfl (Step.assign (p := (.one (.row 1020 []))) (t := 3) rfl rfl (by exact lt_ok rfl) (show Env.ev E (.tmp 21) = _ from g21.trans rfl))) ?_
   refine .cons (fun E hA_ => by have g22 := hA_.get 22 (by decide); exact OpStep.plain rfl (Step.assign (p := (.one (.d (.int .i64 (getRaw b s.f0 32).2.1)))) (t := 4) rfl rfl (by exact lt_ok rfl) (show Env.ev E (.tmp 22) = _ from g22.trans rfl))) ?_
   refine .cons (fun E hA_ => by have g23 := hA_.get 23 (by decide); exact OpStep.plain rfl (Step.assign (p := (.one (.d (.int .i64 (getRaw b s.f0 32).2.2)))) (t := 5) rfl rfl (by exact lt_ok rfl) (show Env.ev E (.tmp 23) = _ from g23.trans rfl))) ?_
   exact .nil _ _
  refine TL.nil ?_
  refine T.seq ?_
  refine T.region ?_
  refine TL.cons rfl (Step.move (p := (.one (.ptr 800 0))) rfl rfl (lt_ok rfl) rfl) ?_
  refine TL.cons rfl (Step.move (p := (.one (.d (.int .i64 (getRaw b s.f0 32).2.2)))) rfl rfl (lt_ok rfl) rfl) ?_
  refine TL.cons rfl (Step.nilCheck rfl rfl (lt_ok rfl) rfl) ?_
  refine TL.cons rfl (Step.fieldAddr (q := 0) (off := 2) (n := 1) (one := true) rfl rfl (lt_ok rfl) (by kernel_rfl) (Nat.succ_ne_zero _) rfl) ?_
  refine TL.cons rfl (Step.store_box (n := 1) (p := (.one (.d (.int .i64 (getRaw b s.f0 32).2.2)))) (qs := [.d (.int .i64 (getRaw b s.f0 32).2.2)]) (ps' := [.d (.ints .u8 b), .d (.int .i64 s.f0), .d (.int .i64 (getRaw b s.f0 32).2.2)]) rfl rfl (by kernel_rfl) rfl rfl rfl rfl rfl rfl (le_ok rfl) rfl) ?_
  refine TL.nil ?_
  refine T.seq ?_
  refine T.region ?_
  refine TL.cons rfl (Step.move (p := (.one (.ptr 800 0))) rfl rfl (lt_ok rfl) rfl) ?_
  refine TL.cons rfl (Step.move (p := (.one (.d (.int .i64 (getRaw b s.f0 32).2.1)))) rfl rfl (lt_ok rfl) rfl) ?_
  refine TL.cons rfl (Step.nilCheck rfl rfl (lt_ok rfl) rfl) ?_
  refine TL.cons rfl (Step.fieldAddr (q := 0) (off := 1) (n := 1) (one := true) rfl rfl (lt_ok rfl) (by kernel_rfl) (Nat.succ_ne_zero _) rfl) ?_
  refine TL.cons rfl (Step.store_box (n := 1) (p := (.one (.d (.int .i64 (getRaw b s.f0 32).2.1)))) (qs := [.d (.int .i64 (getRaw b s.f0 32).2.1)]) (ps' := [.d (.ints .u8 b), .d (.int .i64 (getRaw b s.f0 32).2.1), .d (.int .i64 (getRaw b s.f0 32).2.2)]) rfl rfl (by kernel_rfl) rfl rfl rfl rfl rfl rfl (le_ok rfl) rfl) ?_
  refine TL.nil ?_
  refine T.seq ?_
  refine T.region ?_
  refine TL.cons rfl (Step.move (p := (.one (.row 1020 []))) rfl rfl (lt_ok rfl) rfl) ?_
  refine TL.cons rfl (Step.assign (p := (.one (.row 1020 []))) rfl rfl (lt_ok rfl) rfl) ?_
  refine TL.nil ?_
  refine T.ret ?_
  exact ⟨[.d (.ints .u8 b), .d (.int .i64 (getRaw b s.f0 32).2.1), .d (.int .i64 (getRaw b s.f0 32).2.2)], [(false, [.row 1020 []])], rfl, rfl, (.cons rfl .nil), rfl, [1020], (RetC.rd' (by first | rfl | (congr 1; unfold rdRaw; first | (rw [if_pos (by omega)]; done) | (rw [if_neg (by omega)]; done)) | (simp only [D.size]; unfold rdRaw; rw [if_neg (by omega)]; rfl)) (RetC.rd' (by first | rfl | (congr 1; unfold rdRaw; first | (rw [if_pos (by omega)]; done) | (rw [if_neg (by omega)]; done)) | (simp only [D.size]; unfold rdRaw; rw [if_neg (by omega)]; rfl)) (RetC.rd' (by first | rfl | (congr 1; unfold rdRaw; first | (rw [if_pos (by omega)]; done) | (rw [if_neg (by omega)]; done)) | (simp only [D.size]; unfold rdRaw; rw [if_neg (by omega)]; rfl)) (RetC.own' rfl (by first | rfl | (congr 1; unfold rdRaw; first | (rw [if_pos (by omega)]; done) | (rw [if_neg (by omega)]; done)) | (simp only [D.size]; unfold rdRaw; rw [if_neg (by omega)]; rfl)) rfl .nil))))⟩
theorem ok_spec_l11Fail (k : Bool) (b : List Int) (s : SRS) (bad : Bool) (c : Int) (h0_ : U8s b) (h1_ : b.length ≤ 1048576) (h2_ : bad = !k) : BX Try.prog 123 [.bx, .rd (.one (.bool bad)), .rd (.one (.int .i64 c))] 150 [.rd (.ints .u8 b), .rd (.int .i64 s.f0), .rd (.int .i64 s.f1)] [.rd (.ints .u8 b), .rd (.int .i64 (rdMust s k c).f0), .rd (.int .i64 (rdMust s k c).f1)] [] := by
 refine BX.intro Try.func123 rfl 18 rfl (le_ok rfl) (le_ok rfl) fun w Z IX pin hp => ?_
 have hk_ : k = !bad := by rw [h2_, Bool.not_not]
 clear h2_
 refine T.seq ?_
 refine T.region ?_
 refine TL.cons rfl (Step.move (p := (.one (.ptr 800 0))) rfl rfl (lt_ok rfl) rfl) ?_
 refine TL.cons rfl (Step.nilCheck rfl rfl (lt_ok rfl) rfl) ?_
 refine TL.cons rfl (Step.fieldAddr (q := 0) (off := 2) (n := 1) (one := true) rfl rfl (lt_ok rfl) (by kernel_rfl) (Nat.succ_ne_zero _) rfl) ?_
 refine TL.cons rfl (Step.load_box (c := .d (.int .i64 s.f1)) rfl rfl (lt_ok rfl) (by kernel_rfl) rfl rfl rfl) ?_
 refine TL.cons rfl (Step.bin rfl rfl (lt_ok rfl) rfl rfl (Bin.eql (k := .i64) (a := s.f1) (b := 0))) ?_
 refine TL.cons rfl (Step.move (p := (.one (.d (.bool (decide (s.f1 = 0)))))) rfl rfl (lt_ok rfl) rfl) ?_
 rcases Bool.eq_false_or_eq_true (decide (s.f1 = 0)) with hb1 | hb1
 ·
  refine TL.known 11 hb1 rfl ?_
  have hb1' := hb1
  replace hb1' := of_decide_eq_true hb1'
  refine TL.gyes 11 rfl rfl (lt_ok rfl) rfl (Step.move (p := (.one (.d (.bool bad)))) rfl rfl (lt_ok rfl) rfl) ?_
  refine TL.cons rfl (Step.pick (b := true) (p := (.one (.d (.bool bad)))) rfl rfl (lt_ok rfl) rfl rfl) ?_
  refine TL.nil ?_
  refine T.cond (b := bad) rfl (fun h2 => ?_) (fun h2 => ?_)
  ·
   refine T.region ?_
   refine TL.cons rfl (Step.move (p := (.one (.ptr 800 0))) rfl rfl (lt_ok rfl) rfl) ?_
   refine TL.cons rfl (Step.move (p := (.one (.d (.int .i64 c)))) rfl rfl (lt_ok rfl) rfl) ?_
   refine TL.cons rfl (Step.nilCheck rfl rfl (lt_ok rfl) rfl) ?_
   refine TL.cons rfl (Step.fieldAddr (q := 0) (off := 2) (n := 1) (one := true) rfl rfl (lt_ok rfl) (by kernel_rfl) (Nat.succ_ne_zero _) rfl) ?_
   refine TL.cons rfl (Step.store_box (n := 1) (p := (.one (.d (.int .i64 c)))) (qs := [.d (.int .i64 c)]) (ps' := [.d (.ints .u8 b), .d (.int .i64 s.f0), .d (.int .i64 c)]) rfl rfl (by kernel_rfl) rfl rfl rfl rfl rfl rfl (le_ok rfl) rfl) ?_
   refine TL.nil ?_
   exact ⟨[.d (.ints .u8 b), .d (.int .i64 s.f0), .d (.int .i64 c)], [], rfl, rfl, .nil, rfl, [], (RetC.rd' (by first | rfl | (congr 1; first | (rw [rdMust_er (by omega)]; done) | (rw [rdMust_ok (by first | assumption | (rw [hk_, show bad = true from by assumption]; rfl) | (rw [hk_, show bad = false from by assumption]; rfl))]; done) | (rw [rdMust_hit (by omega) (by first | assumption | (rw [hk_, show bad = true from by assumption]; rfl) | (rw [hk_, show bad = false from by assumption]; rfl))]; done))) (RetC.rd' (by first | rfl | (congr 1; first | (rw [rdMust_er (by omega)]; done) | (rw [rdMust_ok (by first | assumption | (rw [hk_, show bad = true from by assumption]; rfl) | (rw [hk_, show bad = false from by assumption]; rfl))]; done) | (rw [rdMust_hit (by omega) (by first | assumption | (rw [hk_, show bad = true from by assumption]; rfl) | (rw [hk_, show bad = false from by assumption]; rfl))]; done))) (RetC.rd' (by first | rfl | (congr 1; first | (rw [rdMust_er (by omega)]; done) | (rw [rdMust_ok (by first | assumption | (rw [hk_, show bad = true from by assumption]; rfl) | (rw [hk_, show bad = false from by assumption]; rfl))]; done) | (rw [rdMust_hit (by omega) (by first | assumption | (rw [hk_, show bad = true from by assumption]; rfl) | (rw [hk_, show bad = false from by assumption]; rfl))]; done))) .nil)))⟩
  ·
   refine T.skip ?_
   exact ⟨[.d (.ints .u8 b), .d (.int .i64 s.f0), .d (.int .i64 s.f1)], [], rfl, rfl, .nil, rfl, [], (RetC.rd' (by first | rfl | (congr 1; first | (rw [rdMust_er (by omega)]; done) | (rw [rdMust_ok (by first | assumption | (rw [hk_, show bad = true from by assumption]; rfl) | (rw [hk_, show bad = false from by assumption]; rfl))]; done) | (rw [rdMust_hit (by omega) (by first | assumption | (rw [hk_, show bad = true from by assumption]; rfl) | (rw [hk_, show bad = false from by assumption]; rfl))]; done))) (RetC.rd' (by first | rfl | (congr 1; first | (rw [rdMust_er (by omega)]; done) | (rw [rdMust_ok (by first | assumption | (rw [hk_, show bad = true from by assumption]; rfl) | (rw [hk_, show bad = false from by assumption]; rfl))]; done) | (rw [rdMust_hit (by omega) (by first | assumption | (rw [hk_, show bad = true from by assumption]; rfl) | (rw [hk_, show bad = false from by assumption]; rfl))]; done))) (RetC.rd' (by first | rfl | (congr 1; first | (rw [rdMust_er (by omega)]; done) | (rw [rdMust_ok (by first | assumption | (rw [hk_, show bad = true from by assumption]; rfl) | (rw [hk_, show bad = false from by assumption]; rfl))]; done) | (rw [rdMust_hit (by omega) (by first | assumption | (rw [hk_, show bad = true from by assumption]; rfl) | (rw [hk_, show bad = false from by assumption]; rfl))]; done))) .nil)))⟩
 ·
  refine TL.known 11 hb1 rfl ?_
  have hb1' := hb1
  replace hb1' := of_decide_eq_false hb1'
  refine TL.goff 11 rfl rfl (lt_ok rfl) rfl rfl rfl (lt_ok rfl) ?_
  refine TL.cons rfl (Step.pick (b := false) (p := (.one (.d (.bool false)))) rfl rfl (lt_ok rfl) rfl rfl) ?_
  refine TL.nil ?_
  refine T.cond (b := false) rfl (fun h3_ => absurd h3_ (by simp)) (fun h3_ => ?_)
  refine T.skip ?_
  exact ⟨[.d (.ints .u8 b), .d (.int .i64 s.f0), .d (.int .i64 s.f1)], [], rfl, rfl, .nil, rfl, [], (RetC.rd' (by first | rfl | (congr 1; first | (rw [rdMust_er (by omega)]; done) | (rw [rdMust_ok (by first | assumption | (rw [hk_, show bad = true from by assumption]; rfl) | (rw [hk_, show bad = false from by assumption]; rfl))]; done) | (rw [rdMust_hit (by omega) (by first | assumption | (rw [hk_, show bad = true from by assumption]; rfl) | (rw [hk_, show bad = false from by assumption]; rfl))]; done))) (RetC.rd' (by first | rfl | (congr 1; first | (rw [rdMust_er (by omega)]; done) | (rw [rdMust_ok (by first | assumption | (rw [hk_, show bad = true from by assumption]; rfl) | (rw [hk_, show bad = false from by assumption]; rfl))]; done) | (rw [rdMust_hit (by omega) (by first | assumption | (rw [hk_, show bad = true from by assumption]; rfl) | (rw [hk_, show bad = false from by assumption]; rfl))]; done))) (RetC.rd' (by first | rfl | (congr 1; first | (rw [rdMust_er (by omega)]; done) | (rw [rdMust_ok (by first | assumption | (rw [hk_, show bad = true from by assumption]; rfl) | (rw [hk_, show bad = false from by assumption]; rfl))]; done) | (rw [rdMust_hit (by omega) (by first | assumption | (rw [hk_, show bad = true from by assumption]; rfl) | (rw [hk_, show bad = false from by assumption]; rfl))]; done))) .nil)))⟩
theorem ok_spec_GetVote (l : SLimits) (b : List Int) (a : Int) (h0_ : U8s b) (h1_ : b.length ≤ 1048576) : RO Try.prog 67 [.agg l.cells, .one (.ints .u8 b), .one (.int .i64 a)] [(true, [.rd (.int .i64 (getVote l b a).1.f0), .rd (.int .i64 (getVote l b a).1.f1), .own 5 (.ints .u8 (getVote l b a).1.f2), .rd (.int .i64 (getVote l b a).1.f3), .own 5 (.ints .u8 (getVote l b a).1.f4)]), (false, [.rd (.int .i64 (getVote l b a).2.1)]), (false, [.rd (.int .i64 (getVote l b a).2.2)])] := by
 refine RO.intro Try.func67 rfl 52 rfl (le_ok rfl) fun w Z => ?_
 refine T.bnd 1 0 rfl rfl fun hb_1_0 => ?_
 simp only [D.size, List.length_map] at hb_1_0
 refine T.seq ?_
 refine T.region ?_
 refine TL.cons rfl (Step.box (p := (.agg [.d (.int .i64 l.f0), .d (.int .i64 l.f1), .d (.int .i64 l.f2), .d (.int .i64 l.f3), .d (.int .i64 l.f4)])) (ps := [.d (.int .i64 l.f0), .d (.int .i64 l.f1), .d (.int .i64 l.f2), .d (.int .i64 l.f3), .d (.int .i64 l.f4)]) rfl rfl (lt_ok rfl) rfl rfl rfl rfl rfl) ?_
 refine TL.cons rfl (Step.alloc (cs := [.int .i64 0, .int .i64 0, .slice none 0 0, .int .i64 0, .slice none 0 0]) (ps := [.d (.int .i64 0), .d (.int .i64 0), .nil, .d (.int .i64 0), .nil]) rfl rfl (lt_ok rfl) (by kernel_rfl) rfl rfl rfl rfl) ?_
 refine TL.cons rfl (Step.assign (p := (.one (.d (.int .i64 0)))) rfl rfl (lt_ok rfl) rfl) ?_
 refine TL.cons rfl (Step.assign (p := (.one (.d (.int .i64 0)))) rfl rfl (lt_ok rfl) rfl) ?_
 refine TL.nil ?_
 refine T.seq ?_
 refine T.region ?_
 refine TL.cons rfl (Step.load_box_agg (n := 5) (qs := [.d (.int .i64 l.f0), .d (.int .i64 l.f1), .d (.int .i64 l.f2), .d (.int .i64 l.f3), .d (.int .i64 l.f4)]) rfl rfl (lt_ok rfl) (by kernel_rfl) rfl rfl rfl rfl) ?_
 refine TL.cons rfl (Step.move (p := (.one (.d (.ints .u8 b)))) rfl rfl (lt_ok rfl) rfl) ?_
 refine TL.cons rfl (Step.move (p := (.one (.d (.int .i64 a)))) rfl rfl (lt_ok rfl) rfl) ?_
 refine TL.cons rfl (Step.callN (f := 120) (xs := [.tmp 11, .tmp 12, .tmp 13]) (ps := [(.agg [.d (.int .i64 l.f0), .d (.int .i64 l.f1), .d (.int .i64 l.f2), .d (.int .i64 l.f3), .d (.int .i64 l.f4)]), (.one (.d (.ints .u8 b))), (.one (.d (.int .i64 a)))]) (T := 150) (ds := [(.ints .u8 b), (.int .i64 (rs0 l a).f0), (.int .i64 (rs0 l a).f1)]) (g := .func 120) rfl rfl (lt_ok rfl) rfl (by kernel_rfl) rfl (.cons (.agg (.cons (.d _) (.cons (.d _) (.cons (.d _) (.cons (.d _) (.cons (.d _) .nil)))))) (.cons (.one (.d _)) (.cons (.one (.d _)) .nil))) (ok_spec_l11New l b a) rfl) ?_
 refine TL.cons rfl (Step.assign (p := (.one (.ptr 14 0))) rfl rfl (lt_ok rfl) rfl) ?_
 refine TL.nil ?_
 refine T.seq ?_
 refine T.region ?_
 refine TL.cons rfl (Step.move (p := (.one (.ptr 14 0))) rfl rfl (lt_ok rfl) rfl) ?_
 have nn1 := @rdNum_bd b (by assumption) (rs0 l a)
 refine TL.cons rfl (Step.callX (f := 121) (b := 14) (T := 150) (xs := [.tmp 15]) (ps := [(.one (.ptr 14 0))]) (args := [.bx]) (bps := [.d (.ints .u8 b), .d (.int .i64 (rs0 l a).f0), .d (.int .i64 (rs0 l a).f1)]) (cs := [.rd (.ints .u8 b), .rd (.int .i64 (rs0 l a).f0), .rd (.int .i64 (rs0 l a).f1)]) (cs' := [.rd (.ints .u8 b), .rd (.int .i64 (rdNum b (rs0 l a)).1.f0), .rd (.int .i64 (rdNum b (rs0 l a)).1.f1)]) (res := [(false, [.rd (.int .i64 (rdNum b (rs0 l a)).2)])]) (ss := []) (g := .func 121) rfl rfl (lt_ok rfl) rfl (by kernel_rfl) rfl (.cons (.bx) .nil) rfl (.rd (.rd (.rd .nil))) (ok_spec_l11Var b (rs0 l a) (by assumption) (by first | omega | assumption | (simp only [List.length_append] at *; omega))) rfl rfl (by simp) rfl) ?_
 refine TL.cons rfl (Step.build (zs := [.int .i64 0, .int .i64 0, .slice none 0 0, .int .i64 0, .slice none 0 0]) (places := [(0, 1), (1, 1), (2, 1), (3, 1), (4, 1)]) (pss := [(0, [.d (.int .i64 (rdNum b (rs0 l a)).2)])]) (ps' := [.d (.int .i64 (rdNum b (rs0 l a)).2), .d (.int .i64 0), .nil, .d (.int .i64 0), .nil]) rfl rfl (lt_ok rfl) (by kernel_rfl) (.cons ⟨rfl, rfl⟩ .nil) rfl rfl rfl) ?_
 refine TL.cons rfl (Step.alloc (cs := [.int .i64 0, .int .i64 0, .slice none 0 0, .int .i64 0, .slice none 0 0]) (ps := [.d (.int .i64 0), .d (.int .i64 0), .nil, .d (.int .i64 0), .nil]) rfl rfl (lt_ok rfl) (by kernel_rfl) rfl rfl rfl rfl) ?_
 refine TL.cons rfl (Step.store_box (n := 5) (p := (.agg [.d (.int .i64 (rdNum b (rs0 l a)).2), .d (.int .i64 0), .nil, .d (.int .i64 0), .nil])) (qs := [.d (.int .i64 (rdNum b (rs0 l a)).2), .d (.int .i64 0), .nil, .d (.int .i64 0), .nil]) (ps' := [.d (.int .i64 (rdNum b (rs0 l a)).2), .d (.int .i64 0), .nil, .d (.int .i64 0), .nil]) rfl rfl (by kernel_rfl) rfl rfl rfl rfl rfl rfl (le_ok rfl) rfl) ?_
 refine TL.nil ?_
 refine T.seq ?_
 refine T.region ?_
 refine TL.cons rfl (Step.move (p := (.one (.ptr 14 0))) rfl rfl (lt_ok rfl) rfl) ?_
 have nn2 := @rdNum_bd b (by assumption) (rdNum b (rs0 l a)).1
 refine TL.cons rfl (Step.callX (f := 121) (b := 14) (T := 150) (xs := [.tmp 18]) (ps := [(.one (.ptr 14 0))]) (args := [.bx]) (bps := [.d (.ints .u8 b), .d (.int .i64 (rdNum b (rs0 l a)).1.f0), .d (.int .i64 (rdNum b (rs0 l a)).1.f1)]) (cs := [.rd (.ints .u8 b), .rd (.int .i64 (rdNum b (rs0 l a)).1.f0), .rd (.int .i64 (rdNum b (rs0 l a)).1.f1)]) (cs' := [.rd (.ints .u8 b), .rd (.int .i64 (rdNum b (rdNum b (rs0 l a)).1).1.f0), .rd (.int .i64 (rdNum b (rdNum b (rs0 l a)).1).1.f1)]) (res := [(false, [.rd (.int .i64 (rdNum b (rdNum b (rs0 l a)).1).2)])]) (ss := []) (g := .func 121) rfl rfl (lt_ok rfl) rfl (by kernel_rfl) rfl (.cons (.bx) .nil) rfl (.rd (.rd (.rd .nil))) (ok_spec_l11Var b (rdNum b (rs0 l a)).1 (by assumption) (by first | omega | assumption | (simp only [List.length_append] at *; omega))) rfl rfl (by simp) rfl) ?_
 refine TL.cons rfl (Step.fieldAddr (q := 0) (off := 1) (n := 1) (one := true) rfl rfl (lt_ok rfl) (by kernel_rfl) (Nat.succ_ne_zero _) rfl) ?_
 refine TL.cons rfl (Step.store_box (n := 1) (p := (.one (.d (.int .i64 (rdNum b (rdNum b (rs0 l a)).1).2)))) (qs := [.d (.int .i64 (rdNum b (rdNum b (rs0 l a)).1).2)]) (ps' := [.d (.int .i64 (rdNum b (rs0 l a)).2), .d (.int .i64 (rdNum b (rdNum b (rs0 l a)).1).2), .nil, .d (.int .i64 0), .nil]) rfl rfl (by kernel_rfl) rfl rfl rfl rfl rfl rfl (le_ok rfl) rfl) ?_
 refine TL.nil ?_
 refine T.seq ?_
 refine T.region ?_
 refine TL.cons rfl (Step.move (p := (.one (.ptr 14 0))) rfl rfl (lt_ok rfl) rfl) ?_
 have nn3 := rdRaw_len b (rdNum b (rdNum b (rs0 l a)).1).1 32
 refine TL.cons rfl (Step.callX (f := 122) (b := 14) (T := 150) (xs := [.tmp 21]) (ps := [(.one (.ptr 14 0))]) (args := [.bx]) (bps := [.d (.ints .u8 b), .d (.int .i64 (rdNum b (rdNum b (rs0 l a)).1).1.f0), .d (.int .i64 (rdNum b (rdNum b (rs0 l a)).1).1.f1)]) (cs := [.rd (.ints .u8 b), .rd (.int .i64 (rdNum b (rdNum b (rs0 l a)).1).1.f0), .rd (.int .i64 (rdNum b (rdNum b (rs0 l a)).1).1.f1)]) (cs' := [.rd (.ints .u8 b), .rd (.int .i64 (rdRaw b (rdNum b (rdNum b (rs0 l a)).1).1 32).1.f0), .rd (.int .i64 (rdRaw b (rdNum b (rdNum b (rs0 l a)).1).1 32).1.f1)]) (res := [(false, [.own 5 (.ints .u8 (rdRaw b (rdNum b (rdNum b (rs0 l a)).1).1 32).2)])]) (ss := []) (g := .func 122) rfl rfl (lt_ok rfl) rfl (by kernel_rfl) rfl (.cons (.bx) .nil) rfl (.rd (.rd (.rd .nil))) (ok_spec_l11Raw b (rdNum b (rdNum b (rs0 l a)).1).1 (by assumption) (by first | omega | assumption | (simp only [List.length_append] at *; omega))) rfl rfl (by simp) rfl) ?_
 refine TL.cons rfl (Step.fieldAddr (q := 0) (off := 2) (n := 1) (one := true) rfl rfl (lt_ok rfl) (by kernel_rfl) (Nat.succ_ne_zero _) rfl) ?_
 refine TL.cons rfl (Step.store_box (n := 1) (p := (.one (.row 4022 []))) (qs := [.row 4022 []]) (ps' := [.d (.int .i64 (rdNum b (rs0 l a)).2), .d (.int .i64 (rdNum b (rdNum b (rs0 l a)).1).2), .row 4022 [], .d (.int .i64 0), .nil]) rfl rfl (by kernel_rfl) rfl rfl rfl rfl rfl rfl (le_ok rfl) rfl) ?_
 refine TL.nil ?_
 refine T.seq ?_
 refine T.region ?_
 refine TL.cons rfl (Step.move (p := (.one (.ptr 14 0))) rfl rfl (lt_ok rfl) rfl) ?_
 have nn4 := @rdNum_bd b (by assumption) (rdRaw b (rdNum b (rdNum b (rs0 l a)).1).1 32).1
 refine TL.cons rfl (Step.callX (f := 121) (b := 14) (T := 150) (xs := [.tmp 24]) (ps := [(.one (.ptr 14 0))]) (args := [.bx]) (bps := [.d (.ints .u8 b), .d (.int .i64 (rdRaw b (rdNum b (rdNum b (rs0 l a)).1).1 32).1.f0), .d (.int .i64 (rdRaw b (rdNum b (rdNum b (rs0 l a)).1).1 32).1.f1)]) (cs := [.rd (.ints .u8 b), .rd (.int .i64 (rdRaw b (rdNum b (rdNum b (rs0 l a)).1).1 32).1.f0), .rd (.int .i64 (rdRaw b (rdNum b (rdNum b (rs0 l a)).1).1 32).1.f1)]) (cs' := [.rd (.ints .u8 b), .rd (.int .i64 (rdNum b (rdRaw b (rdNum b (rdNum b (rs0 l a)).1).1 32).1).1.f0), .rd (.int .i64 (rdNum b (rdRaw b (rdNum b (rdNum b (rs0 l a)).1).1 32).1).1.f1)]) (res := [(false, [.rd (.int .i64 (rdNum b (rdRaw b (rdNum b (rdNum b (rs0 l a)).1).1 32).1).2)])]) (ss := []) (g := .func 121) rfl rfl (lt_ok rfl) rfl (by kernel_rfl) rfl (.cons (.bx) .nil) rfl (.rd (.rd (.rd .nil))) (ok_spec_l11Var b (rdRaw b (rdNum b (rdNum b (rs0 l a)).1).1 32).1 (by assumption) (by first | omega | assumption | (simp only [List.length_append] at *; omega))) rfl rfl (by simp) rfl) ?_
 refine TL.cons rfl (Step.fieldAddr (q := 0) (off := 3) (n := 1) (one := true) rfl rfl (lt_ok rfl) (by kernel_rfl) (Nat.succ_ne_zero _) rfl) ?_
 refine TL.cons rfl (Step.store_box (n := 1) (p := (.one (.d (.int .i64 (rdNum b (rdRaw b (rdNum b (rdNum b (rs0 l a)).1).1 32).1).2)))) (qs := [.d (.int .i64 (rdNum b (rdRaw b (rdNum b (rdNum b (rs0 l a)).1).1 32).1).2)]) (ps' := [.d (.int .i64 (rdNum b (rs0 l a)).2), .d (.int .i64 (rdNum b (rdNum b (rs0 l a)).1).2), .row 4022 [], .d (.int .i64 (rdNum b (rdRaw b (rdNum b (rdNum b (rs0 l a)).1).1 32).1).2), .nil]) rfl rfl (by kernel_rfl) rfl rfl rfl rfl rfl rfl (le_ok rfl) rfl) ?_
 refine TL.nil ?_
 refine T.seq ?_
 refine T.region ?_
 refine TL.cons rfl (Step.move (p := (.one (.ptr 14 0))) rfl rfl (lt_ok rfl) rfl) ?_
 refine TL.cons rfl (Step.fieldAddr (q := 0) (off := 3) (n := 1) (one := true) rfl rfl (lt_ok rfl) (by kernel_rfl) (Nat.succ_ne_zero _) rfl) ?_
 refine TL.cons rfl (Step.load_box (c := .d (.int .i64 (rdNum b (rdRaw b (rdNum b (rdNum b (rs0 l a)).1).1 32).1).2)) rfl rfl (lt_ok rfl) (by kernel_rfl) rfl rfl rfl) ?_
 refine TL.cons rfl (Step.fieldAddr (q := 0) (off := 0) (n := 1) (one := true) rfl rfl (lt_ok rfl) (by kernel_rfl) (Nat.succ_ne_zero _) rfl) ?_
 refine TL.cons rfl (Step.load_box (c := .d (.int .i64 l.f0)) rfl rfl (lt_ok rfl) (by kernel_rfl) rfl rfl rfl) ?_
 refine TL.cons rfl (Step.bin rfl rfl (lt_ok rfl) rfl rfl (Bin.geq (k := .i64) (a := (rdNum b (rdRaw b (rdNum b (rdNum b (rs0 l a)).1).1 32).1).2) (b := l.f0))) ?_
 refine TL.cons rfl (Step.callX (f := 123) (b := 14) (T := 150) (xs := [.tmp 27, .tmp 32, .const (.int .i64 5)]) (ps := [(.one (.ptr 14 0)), (.one (.d (.bool (decide (l.f0 ≤ (rdNum b (rdRaw b (rdNum b (rdNum b (rs0 l a)).1).1 32).1).2))))), (.one (.d (.int .i64 5)))]) (args := [.bx, .rd (.one (.bool (decide (l.f0 ≤ (rdNum b (rdRaw b (rdNum b (rdNum b (rs0 l a)).1).1 32).1).2)))), .rd (.one (.int .i64 5))]) (bps := [.d (.ints .u8 b), .d (.int .i64 (rdNum b (rdRaw b (rdNum b (rdNum b (rs0 l a)).1).1 32).1).1.f0), .d (.int .i64 (rdNum b (rdRaw b (rdNum b (rdNum b (rs0 l a)).1).1 32).1).1.f1)]) (cs := [.rd (.ints .u8 b), .rd (.int .i64 (rdNum b (rdRaw b (rdNum b (rdNum b (rs0 l a)).1).1 32).1).1.f0), .rd (.int .i64 (rdNum b (rdRaw b (rdNum b (rdNum b (rs0 l a)).1).1 32).1).1.f1)]) (cs' := [.rd (.ints .u8 b), .rd (.int .i64 (rdMust (rdNum b (rdRaw b (rdNum b (rdNum b (rs0 l a)).1).1 32).1).1 (decide ((rdNum b (rdRaw b (rdNum b (rdNum b (rs0 l a)).1).1 32).1).2 < l.f0)) 5).f0), .rd (.int .i64 (rdMust (rdNum b (rdRaw b (rdNum b (rdNum b (rs0 l a)).1).1 32).1).1 (decide ((rdNum b (rdRaw b (rdNum b (rdNum b (rs0 l a)).1).1 32).1).2 < l.f0)) 5).f1)]) (res := []) (ss := []) (g := .func 123) rfl rfl (lt_ok rfl) rfl (by kernel_rfl) rfl (.cons (.bx) (.cons (.rd (.one (.d _))) (.cons (.rd (.one (.d _))) .nil))) rfl (.rd (.rd (.rd .nil))) (ok_spec_l11Fail (decide ((rdNum b (rdRaw b (rdNum b (rdNum b (rs0 l a)).1).1 32).1).2 < l.f0)) b (rdNum b (rdRaw b (rdNum b (rdNum b (rs0 l a)).1).1 32).1).1 (decide (l.f0 ≤ (rdNum b (rdRaw b (rdNum b (rdNum b (rs0 l a)).1).1 32).1).2)) 5 (by assumption) (by first | omega | assumption | (simp only [List.length_append] at *; omega)) (by first | rfl | (rw [Bool.eq_iff_iff]; simp only [Bool.not_eq_true', Bool.not_eq_false', decide_eq_true_eq, decide_eq_false_iff_not]; omega) | (simp; done))) rfl rfl (by simp) rfl) ?_
 refine TL.nil ?_
 refine T.seq ?_
 refine T.region ?_
 refine TL.cons rfl (Step.move (p := (.one (.ptr 14 0))) rfl rfl (lt_ok rfl) rfl) ?_
 have nn5 := rdRaw_len b (rdMust (rdNum b (rdRaw b (rdNum b (rdNum b (rs0 l a)).1).1 32).1).1 (decide ((rdNum b (rdRaw b (rdNum b (rdNum b (rs0 l a)).1).1 32).1).2 < l.f0)) 5) 32
 refine TL.cons rfl (Step.callX (f := 122) (b := 14) (T := 150) (xs := [.tmp 34]) (ps := [(.one (.ptr 14 0))]) (args := [.bx]) (bps := [.d (.ints .u8 b), .d (.int .i64 (rdMust (rdNum b (rdRaw b (rdNum b (rdNum b (rs0 l a)).1).1 32).1).1 (decide ((rdNum b (rdRaw b (rdNum b (rdNum b (rs0 l a)).1).1 32).1).2 < l.f0)) 5).f0), .d (.int .i64 (rdMust (rdNum b (rdRaw b (rdNum b (rdNum b (rs0 l a)).1).1 32).1).1 (decide ((rdNum b (rdRaw b (rdNum b (rdNum b (rs0 l a)).1).1 32).1).2 < l.f0)) 5).f1)]) (cs := [.rd (.ints .u8 b), .rd (.int .i64 (rdMust (rdNum b (rdRaw b (rdNum b (rdNum b (rs0 l a)).1).1 32).1).1 (decide ((rdNum b (rdRaw b (rdNum b (rdNum b (rs0 l a)).1).1 32).1).2 < l.f0)) 5).f0), .rd (.int .i64 (rdMust (rdNum b (rdRaw b (rdNum b (rdNum b (rs0 l a)).1).1 32).1).1 (decide ((rdNum b (rdRaw b (rdNum b (rdNum b (rs0 l a)).1).1 32).1).2 < l.f0)) 5).f1)]) (cs' := [.rd (.ints .u8 b), .rd (.int .i64 (rdRaw b (rdMust (rdNum b (rdRaw b (rdNum b (rdNum b (rs0 l a)).1).1 32).1).1 (decide ((rdNum b (rdRaw b (rdNum b (rdNum b (rs0 l a)).1).1 32).1).2 < l.f0)) 5) 32).1.f0), .rd (.int .i64 (rdRaw b (rdMust (rdNum b (rdRaw b (rdNum b (rdNum b (rs0 l a)).1).1 32).1).1 (decide ((rdNum b (rdRaw b (rdNum b (rdNum b (rs0 l a)).1).1 32).1).2 < l.f0)) 5) 32).1.f1)]) (res := [(false, [.own 5 (.ints .u8 (rdRaw b (rdMust (rdNum b (rdRaw b (rdNum b (rdNum b (rs0 l a)).1).1 32).1).1 (decide ((rdNum b (rdRaw b (rdNum b (rdNum b (rs0 l a)).1).1 32).1).2 < l.f0)) 5) 32).2)])]) (ss := []) (g := .func 122) rfl rfl (lt_ok rfl) rfl (by kernel_rfl) rfl (.cons (.bx) .nil) rfl (.rd (.rd (.rd .nil))) (ok_spec_l11Raw b (rdMust (rdNum b (rdRaw b (rdNum b (rdNum b (rs0 l a)).1).1 32).1).1 (decide ((rdNum b (rdRaw b (rdNum b (rdNum b (rs0 l a)).1).1 32).1).2 < l.f0)) 5) (by assumption) (by first | omega | assumption | (simp only [List.length_append] at *; omega))) rfl rfl (by simp) rfl) ?_
 refine TL.cons rfl (Step.fieldAddr (q := 0) (off := 4) (n := 1) (one := true) rfl rfl (lt_ok rfl) (by kernel_rfl) (Nat.succ_ne_zero _) rfl) ?_
 refine TL.cons rfl (Step.store_box (n := 1) (p := (.one (.row 4035 []))) (qs := [.row 4035 []]) (ps' := [.d (.int .i64 (rdNum b (rs0 l a)).2), .d (.int .i64 (rdNum b (rdNum b (rs0 l a)).1).2), .row 4022 [], .d (.int .i64 (rdNum b (rdRaw b (rdNum b (rdNum b (rs0 l a)).1).1 32).1).2), .row 4035 []]) rfl rfl (by kernel_rfl) rfl rfl rfl rfl rfl rfl (le_ok rfl) rfl) ?_
 refine TL.nil ?_
 refine T.seq ?_
 refine T.seq ?_
 refine T.region ?_
 refine TL.cons rfl (Step.move (p := (.one (.ptr 14 0))) rfl rfl (lt_ok rfl) rfl) ?_
 refine TL.cons rfl (Step.nilCheck rfl rfl (lt_ok rfl) rfl) ?_
 refine TL.cons rfl (Step.fieldAddr (q := 0) (off := 2) (n := 1) (one := true) rfl rfl (lt_ok rfl) (by kernel_rfl) (Nat.succ_ne_zero _) rfl) ?_
 refine TL.cons rfl (Step.load_box (c := .d (.int .i64 (rdRaw b (rdMust (rdNum b (rdRaw b (rdNum b (rdNum b (rs0 l a)).1).1 32).1).1 (decide ((rdNum b (rdRaw b (rdNum b (rdNum b (rs0 l a)).1).1 32).1).2 < l.f0)) 5) 32).1.f1)) rfl rfl (lt_ok rfl) (by kernel_rfl) rfl rfl rfl) ?_
 refine TL.cons rfl (Step.bin rfl rfl (lt_ok rfl) rfl rfl (Bin.neq (k := .i64) (a := (rdRaw b (rdMust (rdNum b (rdRaw b (rdNum b (rdNum b (rs0 l a)).1).1 32).1).1 (decide ((rdNum b (rdRaw b (rdNum b (rdNum b (rs0 l a)).1).1 32).1).2 < l.f0)) 5) 32).1.f1) (b := 0))) ?_
 refine TL.nil ?_
 refine T.cond (b := decide ((rdRaw b (rdMust (rdNum b (rdRaw b (rdNum b (rdNum b (rs0 l a)).1).1 32).1).1 (decide ((rdNum b (rdRaw b (rdNum b (rdNum b (rs0 l a)).1).1 32).1).2 < l.f0)) 5) 32).1.f1 ≠ 0)) rfl (fun h6 => ?_) (fun h6 => ?_)
 ·
  replace h6 := of_decide_eq_true h6
  refine T.seq ?_
  refine T.drawX [{ dst := some 42, pv := (.agg [.d (.int .i64 0), .d (.int .i64 0), .nil, .d (.int .i64 0), .nil]) }, { dst := some 43, pv := (.one (.ptr 14 0)) }, { dst := some 44, pv := (.one (.ptr 14 0)) }, { dst := some 45, pv := (.one (.ptr 14 2)) }, { dst := some 46, pv := (.one (.d (.int .i64 (rdRaw b (rdMust (rdNum b (rdRaw b (rdNum b (rdNum b (rs0 l a)).1).1 32).1).1 (decide ((rdNum b (rdRaw b (rdNum b (rdNum b (rs0 l a)).1).1 32).1).2 < l.f0)) 5) 32).1.f1))) }, { box := some (6, (64, [.d (.int .i64 0), .d (.int .i64 0), .nil, .d (.int .i64 0), .nil])) }, { dst := some 7, pv := (.one (.d (.int .i64 0))) }, { dst := some 8, pv := (.one (.d (.int .i64 (rdRaw b (rdMust (rdNum b (rdRaw b (rdNum b (rdNum b (rs0 l a)).1).1 32).1).1 (decide ((rdNum b (rdRaw b (rdNum b (rdNum b (rs0 l a)).1).1 32).1).2 < l.f0)) 5) 32).1.f1))) }] (by kernel_rfl) (by kernel_rfl) ?_ ?_
  ·
   refine .cons (fun E hA_ => by exact OpStep.plain rfl (Step.build (zs := [.int .i64 0, .int .i64 0, .slice none 0 0, .int .i64 0, .slice none 0 0]) (places := [(0, 1), (1, 1), (2, 1), (3, 1), (4, 1)]) (pss := []) (ps' := [.d (.int .i64 0), .d (.int .i64 0), .nil, .d (.int .i64 0), .nil]) (t := 42) rfl rfl (by exact lt_ok rfl) (by kernel_rfl) .nil rfl rfl rfl)) ?_
   refine .cons (fun E hA_ => by have g9 : E.get 9 = (.one (.ptr 14 0)) := (hA_.get 9 (by kernel_rfl)).trans (by kernel_rfl); exact OpStep.plain rfl (Step.move (p := (.one (.ptr 14 0))) (t := 43) rfl rfl (by exact lt_ok rfl) (show Env.ev E (.tmp 9) = _ from g9.trans rfl))) ?_
   refine .cons (fun E hA_ => by have g43 : E.get 43 = (.one (.ptr 14 0)) := (hA_.get 43 (by kernel_rfl)).trans (by kernel_rfl); exact OpStep.plain rfl (Step.nilCheck (t := 44) rfl rfl (by exact lt_ok rfl) (show Env.ev E (.tmp 43) = _ from g43.trans rfl))) ?_
   refine .cons (fun E hA_ => by have g44 : E.get 44 = (.one (.ptr 14 0)) := (hA_.get 44 (by kernel_rfl)).trans (by kernel_rfl); exact OpStep.plain rfl (Step.fieldAddr (q := 0) (off := 2) (n := 1) (one := true) (t := 45) rfl rfl (by exact lt_ok rfl) (by kernel_rfl) (Nat.succ_ne_zero _) (show Env.ev E (.tmp 44) = _ from g44.trans rfl))) ?_
   refine .cons (fun E hA_ => by have g45 : E.get 45 = (.one (.ptr 14 2)) := (hA_.get 45 (by kernel_rfl)).trans (by kernel_rfl); have b14 : E.box 14 = some (150, [.d (.ints .u8 b), .d (.int .i64 (rdRaw b (rdMust (rdNum b (rdRaw b (rdNum b (rdNum b (rs0 l a)).1).1 32).1).1 (decide ((rdNum b (rdRaw b (rdNum b (rdNum b (rs0 l a)).1).1 32).1).2 < l.f0)) 5) 32).1.f0), .d (.int .i64 (rdRaw b (rdMust (rdNum b (rdRaw b (rdNum b (rdNum b (rs0 l a)).1).1 32).1).1 (decide ((rdNum b (rdRaw b (rdNum b (rdNum b (rs0 l a)).1).1 32).1).2 < l.f0)) 5) 32).1.f1)]) := (hA_.box 14 (by kernel_rfl)).trans (by kernel_rfl); exact OpStep.plain rfl (Step.load_box (c := .d (.int .i64 (rdRaw b (rdMust (rdNum b (rdRaw b (rdNum b (rdNum b (rs0 l a)).1).1 32).1).1 (decide ((rdNum b (rdRaw b (rdNum b (rdNum b (rs0 l a)).1).1 32).1).2 < l.f0)) 5) 32).1.f1)) (t := 46) rfl rfl (by exact lt_ok rfl) (by kernel_rfl) (show Env.ev E (.tmp 45) = _ from g45.trans rfl) b14 rfl)) ?_
   refine .cons (fun E hA_ => by have g6 : E.get 6 = (.one (.ptr 6 0)) := (hA_.get 6 (by kernel_rfl)).trans (by kernel_rfl); have g42 : E.get 42 = (.agg [.d (.int .i64 0), .d (.int .i64 0), .nil, .d (.int .i64 0), .nil]) := (hA_.get 42 (by kernel_rfl)).trans (by kernel_rfl); have b6 : E.box 6 = some (64, [.d (.int .i64 0), .d (.int .i64 0), .nil, .d (.int .i64 0), .nil]) := (hA_.box 6 (by kernel_rfl)).trans (by kernel_rfl); exact OpStep.plain rfl (Step.store_box (n := 5) (p := (.agg [.d (.int .i64 0), .d (.int .i64 0), .nil, .d (.int .i64 0), .nil])) (qs := [.d (.int .i64 0), .d (.int .i64 0), .nil, .d (.int .i64 0), .nil]) (ps' := [.d (.int .i64 0), .d (.int .i64 0), .nil, .d (.int .i64 0), .nil]) rfl rfl (by kernel_rfl) (show Env.ev E (.tmp 6) = _ from g6.trans rfl) b6 (show Env.ev E (.tmp 42) = _ from g42.trans rfl) rfl rfl rfl (le_ok rfl) rfl)) ?_
   refine .cons (fun E hA_ => by exact OpStep.plain rfl (Step.assign (p := (.one (.d (.int .i64 0)))) (t := 7) rfl rfl (by exact lt_ok rfl) rfl)) ?_
   refine .cons (fun E hA_ => by have g46 : E.get 46 = (.one (.d (.int .i64 (rdRaw b (rdMust (rdNum b (rdRaw b (rdNum b (rdNum b (rs0 l a)).1).1 32).1).1 (decide ((rdNum b (rdRaw b (rdNum b (rdNum b (rs0 l a)).1).1 32).1).2 < l.f0)) 5) 32).1.f1))) := (hA_.get 46 (by kernel_rfl)).trans (by kernel_rfl); exact OpStep.plain rfl (Step.assign (p := (.one (.d (.int .i64 (rdRaw b (rdMust (rdNum b (rdRaw b (rdNum b (rdNum b (rs0 l a)).1).1 32).1).1 (decide ((rdNum b (rdRaw b (rdNum b (rdNum b (rs0 l a)).1).1 32).1).2 < l.f0)) 5) 32).1.f1)))) (t := 8) rfl rfl (by exact lt_ok rfl) (show Env.ev E (.tmp 46) = _ from g46.trans rfl))) ?_
   exact .nil _ _
  refine TL.weaken (E' := { tm := [(0, (.agg [.d (.int .i64 l.f0), .d (.int .i64 l.f1), .d (.int .i64 l.f2), .d (.int .i64 l.f3), .d (.int .i64 l.f4)])), (1, (.one (.d (.ints .u8 b)))), (2, (.one (.d (.int .i64 a)))), (3, (.one (.ptr 3 0))), (6, (.one (.ptr 6 0))), (7, (.one (.d (.int .i64 0)))), (8, (.one (.d (.int .i64 (rdRaw b (rdMust (rdNum b (rdRaw b (rdNum b (rdNum b (rs0 l a)).1).1 32).1).1 (decide ((rdNum b (rdRaw b (rdNum b (rdNum b (rs0 l a)).1).1 32).1).2 < l.f0)) 5) 32).1.f1)))), (11, (.agg [.d (.int .i64 l.f0), .d (.int .i64 l.f1), .d (.int .i64 l.f2), .d (.int .i64 l.f3), .d (.int .i64 l.f4)])), (12, (.one (.d (.ints .u8 b)))), (13, (.one (.d (.int .i64 a)))), (14, (.one (.ptr 14 0))), (9, (.one (.ptr 14 0))), (15, (.one (.ptr 14 0))), (16, (.one (.d (.int .i64 (rdNum b (rs0 l a)).2)))), (17, (.agg [.d (.int .i64 (rdNum b (rs0 l a)).2), .d (.int .i64 0), .nil, .d (.int .i64 0), .nil])), (10, (.one (.ptr 10 0))), (18, (.one (.ptr 14 0))), (19, (.one (.d (.int .i64 (rdNum b (rdNum b (rs0 l a)).1).2)))), (20, (.one (.ptr 10 1))), (21, (.one (.ptr 14 0))), (22, (.one (.row 4022 []))), (23, (.one (.ptr 10 2))), (24, (.one (.ptr 14 0))), (25, (.one (.d (.int .i64 (rdNum b (rdRaw b (rdNum b (rdNum b (rs0 l a)).1).1 32).1).2)))), (26, (.one (.ptr 10 3))), (27, (.one (.ptr 14 0))), (28, (.one (.ptr 10 3))), (29, (.one (.d (.int .i64 (rdNum b (rdRaw b (rdNum b (rdNum b (rs0 l a)).1).1 32).1).2)))), (30, (.one (.ptr 3 0))), (31, (.one (.d (.int .i64 l.f0)))), (32, (.one (.d (.bool (decide (l.f0 ≤ (rdNum b (rdRaw b (rdNum b (rdNum b (rs0 l a)).1).1 32).1).2)))))), (33, (.tup [])), (34, (.one (.ptr 14 0))), (35, (.one (.row 4035 []))), (36, (.one (.ptr 10 4))), (37, (.one (.ptr 14 0))), (38, (.one (.ptr 14 0))), (39, (.one (.ptr 14 2))), (40, (.one (.d (.int .i64 (rdRaw b (rdMust (rdNum b (rdRaw b (rdNum b (rdNum b (rs0 l a)).1).1 32).1).1 (decide ((rdNum b (rdRaw b (rdNum b (rdNum b (rs0 l a)).1).1 32).1).2 < l.f0)) 5) 32).1.f1)))), (41, (.one (.d (.bool (decide ((rdRaw b (rdMust (rdNum b (rdRaw b (rdNum b (rdNum b (rs0 l a)).1).1 32).1).1 (decide ((rdNum b (rdRaw b (rdNum b (rdNum b (rs0 l a)).1).1 32).1).2 < l.f0)) 5) 32).1.f1 ≠ 0)))))), (42, (.agg [.d (.int .i64 0), .d (.int .i64 0), .nil, .d (.int .i64 0), .nil])), (43, (.one (.ptr 14 0))), (44, (.one (.ptr 14 0))), (45, (.one (.ptr 14 2))), (46, (.one (.d (.int .i64 (rdRaw b (rdMust (rdNum b (rdRaw b (rdNum b (rdNum b (rs0 l a)).1).1 32).1).1 (decide ((rdNum b (rdRaw b (rdNum b (rdNum b (rs0 l a)).1).1 32).1).2 < l.f0)) 5) 32).1.f1))))], rows := [(4022, (5, (.ints .u8 (rdRaw b (rdNum b (rdNum b (rs0 l a)).1).1 32).2))), (4035, (5, (.ints .u8 (rdRaw b (rdMust (rdNum b (rdRaw b (rdNum b (rdNum b (rs0 l a)).1).1 32).1).1 (decide ((rdNum b (rdRaw b (rdNum b (rdNum b (rs0 l a)).1).1 32).1).2 < l.f0)) 5) 32).2)))], boxes := [(3, (44, [.d (.int .i64 l.f0), .d (.int .i64 l.f1), .d (.int .i64 l.f2), .d (.int .i64 l.f3), .d (.int .i64 l.f4)])), (6, (64, [.d (.int .i64 0), .d (.int .i64 0), .nil, .d (.int .i64 0), .nil])), (14, (150, [.d (.ints .u8 b), .d (.int .i64 (rdRaw b (rdMust (rdNum b (rdRaw b (rdNum b (rdNum b (rs0 l a)).1).1 32).1).1 (decide ((rdNum b (rdRaw b (rdNum b (rdNum b (rs0 l a)).1).1 32).1).2 < l.f0)) 5) 32).1.f0), .d (.int .i64 (rdRaw b (rdMust (rdNum b (rdRaw b (rdNum b (rdNum b (rs0 l a)).1).1 32).1).1 (decide ((rdNum b (rdRaw b (rdNum b (rdNum b (rs0 l a)).1).1 32).1).2 < l.f0)) 5) 32).1.f1)])), (10, (64, [.d (.int .i64 (rdNum b (rs0 l a)).2), .d (.int .i64 (rdNum b (rdNum b (rs0 l a)).1).2), .row 4022 [], .d (.int .i64 (rdNum b (rdRaw b (rdNum b (rdNum b (rs0 l a)).1).1 32).1).2), .row 4035 []]))] }) (Env.le_mk ⟨by kernel_rfl, by kernel_rfl, by kernel_rfl, by kernel_rfl, by kernel_rfl, by kernel_rfl, by kernel_rfl, by kernel_rfl, by kernel_rfl, by kernel_rfl, by kernel_rfl, by kernel_rfl, by kernel_rfl, by kernel_rfl, by kernel_rfl, by kernel_rfl, by kernel_rfl, by kernel_rfl, by kernel_rfl, by kernel_rfl, by kernel_rfl, by kernel_rfl, by kernel_rfl, by kernel_rfl, by kernel_rfl, by kernel_rfl, by kernel_rfl, by kernel_rfl, by kernel_rfl, by kernel_rfl, by kernel_rfl, by kernel_rfl, by kernel_rfl, by kernel_rfl, by kernel_rfl, by kernel_rfl, by kernel_rfl, by kernel_rfl, by kernel_rfl, by kernel_rfl, by kernel_rfl, by kernel_rfl, by kernel_rfl, by kernel_rfl, by kernel_rfl, trivial⟩ ⟨by kernel_rfl, by kernel_rfl, trivial⟩ ⟨by kernel_rfl, by kernel_rfl, by kernel_rfl, by kernel_rfl, trivial⟩) ?_
  refine TL.nil ?_
  refine T.ret ?_
  exact ⟨[(true, [.d (.int .i64 0), .d (.int .i64 0), .nil, .d (.int .i64 0), .nil]), (false, [.d (.int .i64 0)]), (false, [.d (.int .i64 (rdRaw b (rdMust (rdNum b (rdRaw b (rdNum b (rdNum b (rs0 l a)).1).1 32).1).1 (decide ((rdNum b (rdRaw b (rdNum b (rdNum b (rs0 l a)).1).1 32).1).2 < l.f0)) 5) 32).1.f1)])], (.cons rfl (.cons rfl (.cons rfl .nil))), rfl, [], (RetC.rd' (by first | rfl | (congr 1; unfold getVote; first | (rw [getOut_yes (by assumption)]; first | done | rfl) | (rw [getOut_no (by assumption)]; first | done | rfl) | (rw [rs0_ok (by assumption), getOut_yes (by assumption)]; first | done | rfl) | (rw [rs0_ok (by assumption), getOut_no (by assumption)]; first | done | rfl) | (rw [rs0_no (by assumption), getOut_nr (rdVote_er (show ¬ ((5 : Int) = 0) by decide)) rfl]; first | done | rfl)) | (simp only [D.size, List.length_map]; unfold getVote; first | (rw [getOut_yes (by assumption)]; first | done | rfl) | (rw [getOut_no (by assumption)]; first | done | rfl) | (rw [rs0_ok (by assumption), getOut_yes (by assumption)]; first | done | rfl) | (rw [rs0_ok (by assumption), getOut_no (by assumption)]; first | done | rfl) | (rw [rs0_no (by assumption), getOut_nr (rdVote_er (show ¬ ((5 : Int) = 0) by decide)) rfl]; first | done | rfl))) (RetC.rd' (by first | rfl | (congr 1; unfold getVote; first | (rw [getOut_yes (by assumption)]; first | done | rfl) | (rw [getOut_no (by assumption)]; first | done | rfl) | (rw [rs0_ok (by assumption), getOut_yes (by assumption)]; first | done | rfl) | (rw [rs0_ok (by assumption), getOut_no (by assumption)]; first | done | rfl) | (rw [rs0_no (by assumption), getOut_nr (rdVote_er (show ¬ ((5 : Int) = 0) by decide)) rfl]; first | done | rfl)) | (simp only [D.size, List.length_map]; unfold getVote; first | (rw [getOut_yes (by assumption)]; first | done | rfl) | (rw [getOut_no (by assumption)]; first | done | rfl) | (rw [rs0_ok (by assumption), getOut_yes (by assumption)]; first | done | rfl) | (rw [rs0_ok (by assumption), getOut_no (by assumption)]; first | done | rfl) | (rw [rs0_no (by assumption), getOut_nr (rdVote_er (show ¬ ((5 : Int) = 0) by decide)) rfl]; first | done | rfl))) (RetC.nilown' rfl (by first | rfl | (congr 1; unfold getVote; first | (rw [getOut_yes (by assumption)]; first | done | rfl) | (rw [getOut_no (by assumption)]; first | done | rfl) | (rw [rs0_ok (by assumption), getOut_yes (by assumption)]; first | done | rfl) | (rw [rs0_ok (by assumption), getOut_no (by assumption)]; first | done | rfl) | (rw [rs0_no (by assumption), getOut_nr (rdVote_er (show ¬ ((5 : Int) = 0) by decide)) rfl]; first | done | rfl)) | (simp only [D.size, List.length_map]; unfold getVote; first | (rw [getOut_yes (by assumption)]; first | done | rfl) | (rw [getOut_no (by assumption)]; first | done | rfl) | (rw [rs0_ok (by assumption), getOut_yes (by assumption)]; first | done | rfl) | (rw [rs0_ok (by assumption), getOut_no (by assumption)]; first | done | rfl) | (rw [rs0_no (by assumption), getOut_nr (rdVote_er (show ¬ ((5 : Int) = 0) by decide)) rfl]; first | done | rfl))) (by first | exact trivial | exact D.wf_nil _) (RetC.rd' (by first | rfl | (congr 1; unfold getVote; first | (rw [getOut_yes (by assumption)]; first | done | rfl) | (rw [getOut_no (by assumption)]; first | done | rfl) | (rw [rs0_ok (by assumption), getOut_yes (by assumption)]; first | done | rfl) | (rw [rs0_ok (by assumption), getOut_no (by assumption)]; first | done | rfl) | (rw [rs0_no (by assumption), getOut_nr (rdVote_er (show ¬ ((5 : Int) = 0) by decide)) rfl]; first | done | rfl)) | (simp only [D.size, List.length_map]; unfold getVote; first | (rw [getOut_yes (by assumption)]; first | done | rfl) | (rw [getOut_no (by assumption)]; first | done | rfl) | (rw [rs0_ok (by assumption), getOut_yes (by assumption)]; first | done | rfl) | (rw [rs0_ok (by assumption), getOut_no (by assumption)]; first | done | rfl) | (rw [rs0_no (by assumption), getOut_nr (rdVote_er (show ¬ ((5 : Int) = 0) by decide)) rfl]; first | done | rfl))) (RetC.nilown' rfl (by first | rfl | (congr 1; unfold getVote; first | (rw [getOut_yes (by assumption)]; first | done | rfl) | (rw [getOut_no (by assumption)]; first | done | rfl) | (rw [rs0_ok (by assumption), getOut_yes (by assumption)]; first | done | rfl) | (rw [rs0_ok (by assumption), getOut_no (by assumption)]; first | done | rfl) | (rw [rs0_no (by assumption), getOut_nr (rdVote_er (show ¬ ((5 : Int) = 0) by decide)) rfl]; first | done | rfl)) | (simp only [D.size, List.length_map]; unfold getVote; first | (rw [getOut_yes (by assumption)]; first | done | rfl) | (rw [getOut_no (by assumption)]; first | done | rfl) | (rw [rs0_ok (by assumption), getOut_yes (by assumption)]; first | done | rfl) | (rw [rs0_ok (by assumption), getOut_no (by assumption)]; first | done | rfl) | (rw [rs0_no (by assumption), getOut_nr (rdVote_er (show ¬ ((5 : Int) = 0) by decide)) rfl]; first | done | rfl))) (by first | exact trivial | exact D.wf_nil _) (RetC.rd' (by first | rfl | (congr 1; unfold getVote; first | (rw [getOut_yes (by assumption)]; first | done | rfl) | (rw [getOut_no (by assumption)]; first | done | rfl) | (rw [rs0_ok (by assumption), getOut_yes (by assumption)]; first | done | rfl) | (rw [rs0_ok (by assumption), getOut_no (by assumption)]; first | done | rfl) | (rw [rs0_no (by assumption), getOut_nr (rdVote_er (show ¬ ((5 : Int) = 0) by decide)) rfl]; first | done | rfl)) | (simp only [D.size, List.length_map]; unfold getVote; first | (rw [getOut_yes (by assumption)]; first | done | rfl) | (rw [getOut_no (by assumption)]; first | done | rfl) | (rw [rs0_ok (by assumption), getOut_yes (by assumption)]; first | done | rfl) | (rw [rs0_ok (by assumption), getOut_no (by assumption)]; first | done | rfl) | (rw [rs0_no (by assumption), getOut_nr (rdVote_er (show ¬ ((5 : Int) = 0) by decide)) rfl]; first | done | rfl))) (RetC.rd' (by first | rfl | (congr 1; unfold getVote; first | (rw [getOut_yes (by assumption)]; first | done | rfl) | (rw [getOut_no (by assumption)]; first | done | rfl) | (rw [rs0_ok (by assumption), getOut_yes (by assumption)]; first | done | rfl) | (rw [rs0_ok (by assumption), getOut_no (by assumption)]; first | done | rfl) | (rw [rs0_no (by assumption), getOut_nr (rdVote_er (show ¬ ((5 : Int) = 0) by decide)) rfl]; first | done | rfl)) | (simp only [D.size, List.length_map]; unfold getVote; first | (rw [getOut_yes (by assumption)]; first | done | rfl) | (rw [getOut_no (by assumption)]; first | done | rfl) | (rw [rs0_ok (by assumption), getOut_yes (by assumption)]; first | done | rfl) | (rw [rs0_ok (by assumption), getOut_no (by assumption)]; first | done | rfl) | (rw [rs0_no (by assumption), getOut_nr (rdVote_er (show ¬ ((5 : Int) = 0) by decide)) rfl]; first | done | rfl))) .nil)))))))⟩
 ·
  replace h6 := of_decide_eq_false h6
  refine T.skip ?_
  refine T.seq ?_
  refine T.drawX [{ dst := some 47, pv := (.agg [.d (.int .i64 (rdNum b (rs0 l a)).2), .d (.int .i64 (rdNum b (rdNum b (rs0 l a)).1).2), .row 4022 [], .d (.int .i64 (rdNum b (rdRaw b (rdNum b (rdNum b (rs0 l a)).1).1 32).1).2), .row 4035 []]) }, { dst := some 48, pv := (.one (.ptr 14 0)) }, { dst := some 49, pv := (.one (.ptr 14 0)) }, { dst := some 50, pv := (.one (.ptr 14 1)) }, { dst := some 51, pv := (.one (.d (.int .i64 (rdRaw b (rdMust (rdNum b (rdRaw b (rdNum b (rdNum b (rs0 l a)).1).1 32).1).1 (decide ((rdNum b (rdRaw b (rdNum b (rdNum b (rs0 l a)).1).1 32).1).2 < l.f0)) 5) 32).1.f0))) }, { box := some (6, (64, [.d (.int .i64 (rdNum b (rs0 l a)).2), .d (.int .i64 (rdNum b (rdNum b (rs0 l a)).1).2), .row 4022 [], .d (.int .i64 (rdNum b (rdRaw b (rdNum b (rdNum b (rs0 l a)).1).1 32).1).2), .row 4035 []])) }, { dst := some 7, pv := (.one (.d (.int .i64 (rdRaw b (rdMust (rdNum b (rdRaw b (rdNum b (rdNum b (rs0 l a)).1).1 32).1).1 (decide ((rdNum b (rdRaw b (rdNum b (rdNum b (rs0 l a)).1).1 32).1).2 < l.f0)) 5) 32).1.f0))) }, { dst := some 8, pv := (.one (.d (.int .i64 0))) }] (by kernel_rfl) (by kernel_rfl) ?_ ?_
  ·
   refine .cons (fun E hA_ => by have g10 : E.get 10 = (.one (.ptr 10 0)) := (hA_.get 10 (by kernel_rfl)).trans (by kernel_rfl); have b10 : E.box 10 = some (64, [.d (.int .i64 (rdNum b (rs0 l a)).2), .d (.int .i64 (rdNum b (rdNum b (rs0 l a)).1).2), .row 4022 [], .d (.int .i64 (rdNum b (rdRaw b (rdNum b (rdNum b (rs0 l a)).1).1 32).1).2), .row 4035 []]) := (hA_.box 10 (by kernel_rfl)).trans (by kernel_rfl); exact OpStep.plain rfl (Step.load_box_agg (n := 5) (qs := [.d (.int .i64 (rdNum b (rs0 l a)).2), .d (.int .i64 (rdNum b (rdNum b (rs0 l a)).1).2), .row 4022 [], .d (.int .i64 (rdNum b (rdRaw b (rdNum b (rdNum b (rs0 l a)).1).1 32).1).2), .row 4035 []]) (t := 47) rfl rfl (by exact lt_ok rfl) (by kernel_rfl) (show Env.ev E (.tmp 10) = _ from g10.trans rfl) b10 rfl rfl)) ?_
   refine .cons (fun E hA_ => by have g9 : E.get 9 = (.one (.ptr 14 0)) := (hA_.get 9 (by kernel_rfl)).trans (by kernel_rfl); exact OpStep.plain rfl (Step.move (p := (.one (.ptr 14 0))) (t := 48) rfl rfl (by exact lt_ok rfl) (show Env.ev E (.tmp 9) = _ from g9.trans rfl))) ?_
   refine .cons (fun E hA_ => by have g48 : E.get 48 = (.one (.ptr 14 0)) := (hA_.get 48 (by kernel_rfl)).trans (by kernel_rfl); exact OpStep.plain rfl (Step.nilCheck (t := 49) rfl rfl (by exact lt_ok rfl) (show Env.ev E (.tmp 48) = _ from g48.trans rfl))) ?_
   refine .cons (fun E hA_ => by have g49 : E.get 49 = (.one (.ptr 14 0)) := (hA_.get 49 (by kernel_rfl)).trans (by kernel_rfl); exact OpStep.plain rfl (Step.fieldAddr (q := 0) (off := 1) (n := 1) (one := true) (t := 50) rfl rfl (by exact lt_ok rfl) (by kernel_rfl) (Nat.succ_ne_zero _) (show Env.ev E (.tmp 49) = _ from g49.trans rfl))) ?_
   refine .cons (fun E hA_ => by have g50 : E.get 50 = (.one (.ptr 14 1)) := (hA_.get 50 (by kernel_rfl)).trans (by kernel_rfl); have b14 : E.box 14 = some (150, [.d (.ints .u8 b), .d (.int .i64 (rdRaw b (rdMust (rdNum b (rdRaw b (rdNum b (rdNum b (rs0 l a)).1).1 32).1).1 (decide ((rdNum b (rdRaw b (rdNum b (rdNum b (rs0 l a)).1).1 32).1).2 < l.f0)) 5) 32).1.f0), .d (.int .i64 (rdRaw b (rdMust (rdNum b (rdRaw b (rdNum b (rdNum b (rs0 l a)).1).1 32).1).1 (decide ((rdNum b (rdRaw b (rdNum b (rdNum b (rs0 l a)).1).1 32).1).2 < l.f0)) 5) 32).1.f1)]) := (hA_.box 14 (by kernel_rfl)).trans (by kernel_rfl); exact OpStep.plain rfl (Step.load_box (c := .d (.int .i64 (rdRaw b (rdMust (rdNum b (rdRaw b (rdNum b (rdNum b (rs0 l a)).1).1 32).1).1 (decide ((rdNum b (rdRaw b (rdNum b (rdNum b (rs0 l a)).1).1 32).1).2 < l.f0)) 5) 32).1.f0)) (t := 51) rfl rfl (by exact lt_ok rfl) (by kernel_rfl) (show Env.ev E (.tmp 50) = _ from g50.trans rfl) b14 rfl)) ?_
   refine .cons (fun E hA_ => by have g6 : E.get 6 = (.one (.ptr 6 0)) := (hA_.get 6 (by kernel_rfl)).trans (by kernel_rfl); have g47 : E.get 47 = (.agg [.d (.int .i64 (rdNum b (rs0 l a)).2), .d (.int .i64 (rdNum b (rdNum b (rs0 l a)).1).2), .row 4022 [], .d (.int .i64 (rdNum b (rdRaw b (rdNum b (rdNum b (rs0 l a)).1).1 32).1).2), .row 4035 []]) := (hA_.get 47 (by kernel_rfl)).trans (by kernel_rfl); have q4022 : E.row 4022 = some (5, (.ints .u8 (rdRaw b (rdNum b (rdNum b (rs0 l a)).1).1 32).2)) := (hA_.row 4022 (by kernel_rfl)).trans (by kernel_rfl); have q4035 : E.row 4035 = some (5, (.ints .u8 (rdRaw b (rdMust (rdNum b (rdRaw b (rdNum b (rdNum b (rs0 l a)).1).1 32).1).1 (decide ((rdNum b (rdRaw b (rdNum b (rdNum b (rs0 l a)).1).1 32).1).2 < l.f0)) 5) 32).2)) := (hA_.row 4035 (by kernel_rfl)).trans (by kernel_rfl); have b6 : E.box 6 = some (64, [.d (.int .i64 0), .d (.int .i64 0), .nil, .d (.int .i64 0), .nil]) := (hA_.box 6 (by kernel_rfl)).trans (by kernel_rfl); exact OpStep.plain rfl (Step.store_box (n := 5) (p := (.agg [.d (.int .i64 (rdNum b (rs0 l a)).2), .d (.int .i64 (rdNum b (rdNum b (rs0 l a)).1).2), .row 4022 [], .d (.int .i64 (rdNum b (rdRaw b (rdNum b (rdNum b (rs0 l a)).1).1 32).1).2), .row 4035 []])) (qs := [.d (.int .i64 (rdNum b (rs0 l a)).2), .d (.int .i64 (rdNum b (rdNum b (rs0 l a)).1).2), .row 4022 [], .d (.int .i64 (rdNum b (rdRaw b (rdNum b (rdNum b (rs0 l a)).1).1 32).1).2), .row 4035 []]) (ps' := [.d (.int .i64 (rdNum b (rs0 l a)).2), .d (.int .i64 (rdNum b (rdNum b (rs0 l a)).1).2), .row 4022 [], .d (.int .i64 (rdNum b (rdRaw b (rdNum b (rdNum b (rs0 l a)).1).1 32).1).2), .row 4035 []]) rfl rfl (by kernel_rfl) (show Env.ev E (.tmp 6) = _ from g6.trans rfl) b6 (show Env.ev E (.tmp 47) = _ from g47.trans rfl) rfl rfl (by simp only [List.all_cons, List.all_nil, List.flatten_cons, List.flatten_nil, List.append_nil, List.cons_append, List.nil_append, Env.fine, q4022, q4035]; rfl) (le_ok rfl) rfl)) ?_
   refine .cons (fun E hA_ => by have g51 : E.get 51 = (.one (.d (.int .i64 (rdRaw b (rdMust (rdNum b (rdRaw b (rdNum b (rdNum b (rs0 l a)).1).1 32).1).1 (decide ((rdNum b (rdRaw b (rdNum b (rdNum b (rs0 l a)).1).1 32).1).2 < l.f0)) 5) 32).1.f0))) := (hA_.get 51 (by kernel_rfl)).trans (by kernel_rfl); exact OpStep.plain rfl (Step.assign (p := (.one (.d (.int .i64 (rdRaw b (rdMust (rdNum b (rdRaw b (rdNum b (rdNum b (rs0 l a)).1).1 32).1).1 (decide ((rdNum b (rdRaw b (rdNum b (rdNum b (rs0 l a)).1).1 32).1).2 < l.f0)) 5) 32).1.f0)))) (t := 7) rfl rfl (by exact lt_ok rfl) (show Env.ev E (.tmp 51) = _ from g51.trans rfl))) ?_
   refine .cons (fun E hA_ => by exact OpStep.plain rfl (Step.assign (p := (.one (.d (.int .i64 0)))) (t := 8) rfl rfl (by exact lt_ok rfl) rfl)) ?_
   exact .nil _ _
  refine TL.weaken (E' := { tm := [(0, (.agg [.d (.int .i64 l.f0), .d (.int .i64 l.f1), .d (.int .i64 l.f2), .d (.int .i64 l.f3), .d (.int .i64 l.f4)])), (1, (.one (.d (.ints .u8 b)))), (2, (.one (.d (.int .i64 a)))), (3, (.one (.ptr 3 0))), (6, (.one (.ptr 6 0))), (7, (.one (.d (.int .i64 (rdRaw b (rdMust (rdNum b (rdRaw b (rdNum b (rdNum b (rs0 l a)).1).1 32).1).1 (decide ((rdNum b (rdRaw b (rdNum b (rdNum b (rs0 l a)).1).1 32).1).2 < l.f0)) 5) 32).1.f0)))), (8, (.one (.d (.int .i64 0)))), (11, (.agg [.d (.int .i64 l.f0), .d (.int .i64 l.f1), .d (.int .i64 l.f2), .d (.int .i64 l.f3), .d (.int .i64 l.f4)])), (12, (.one (.d (.ints .u8 b)))), (13, (.one (.d (.int .i64 a)))), (14, (.one (.ptr 14 0))), (9, (.one (.ptr 14 0))), (15, (.one (.ptr 14 0))), (16, (.one (.d (.int .i64 (rdNum b (rs0 l a)).2)))), (17, (.agg [.d (.int .i64 (rdNum b (rs0 l a)).2), .d (.int .i64 0), .nil, .d (.int .i64 0), .nil])), (10, (.one (.ptr 10 0))), (18, (.one (.ptr 14 0))), (19, (.one (.d (.int .i64 (rdNum b (rdNum b (rs0 l a)).1).2)))), (20, (.one (.ptr 10 1))), (21, (.one (.ptr 14 0))), (22, (.one (.row 4022 []))), (23, (.one (.ptr 10 2))), (24, (.one (.ptr 14 0))), (25, (.one (.d (.int .i64 (rdNum b (rdRaw b (rdNum b (rdNum b (rs0 l a)).1).1 32).1).2)))), (26, (.one (.ptr 10 3))), (27, (.one (.ptr 14 0))), (28, (.one (.ptr 10 3))), (29, (.one (.d (.int .i64 (rdNum b (rdRaw b (rdNum b (rdNum b (rs0 l a)).1).1 32).1).2)))), (30, (.one (.ptr 3 0))), (31, (.one (.d (.int .i64 l.f0)))), (32, (.one (.d (.bool (decide (l.f0 ≤ (rdNum b (rdRaw b (rdNum b (rdNum b (rs0 l a)).1).1 32).1).2)))))), (33, (.tup [])), (34, (.one (.ptr 14 0))), (35, (.one (.row 4035 []))), (36, (.one (.ptr 10 4))), (37, (.one (.ptr 14 0))), (38, (.one (.ptr 14 0))), (39, (.one (.ptr 14 2))), (40, (.one (.d (.int .i64 (rdRaw b (rdMust (rdNum b (rdRaw b (rdNum b (rdNum b (rs0 l a)).1).1 32).1).1 (decide ((rdNum b (rdRaw b (rdNum b (rdNum b (rs0 l a)).1).1 32).1).2 < l.f0)) 5) 32).1.f1)))), (41, (.one (.d (.bool (decide ((rdRaw b (rdMust (rdNum b (rdRaw b (rdNum b (rdNum b (rs0 l a)).1).1 32).1).1 (decide ((rdNum b (rdRaw b (rdNum b (rdNum b (rs0 l a)).1).1 32).1).2 < l.f0)) 5) 32).1.f1 ≠ 0)))))), (47, (.agg [.d (.int .i64 (rdNum b (rs0 l a)).2), .d (.int .i64 (rdNum b (rdNum b (rs0 l a)).1).2), .row 4022 [], .d (.int .i64 (rdNum b (rdRaw b (rdNum b (rdNum b (rs0 l a)).1).1 32).1).2), .row 4035 []])), (48, (.one (.ptr 14 0))), (49, (.one (.ptr 14 0))), (50, (.one (.ptr 14 1))), (51, (.one (.d (.int .i64 (rdRaw b (rdMust (rdNum b (rdRaw b (rdNum b (rdNum b (rs0 l a)).1).1 32).1).1 (decide ((rdNum b (rdRaw b (rdNum b (rdNum b (rs0 l a)).1).1 32).1).2 < l.f0)) 5) 32).1.f0))))], rows := [(4022, (5, (.ints .u8 (rdRaw b (rdNum b (rdNum b (rs0 l a)).1).1 32).2))), (4035, (5, (.ints .u8 (rdRaw b (rdMust (rdNum b (rdRaw b (rdNum b (rdNum b (rs0 l a)).1).1 32).1).1 (decide ((rdNum b (rdRaw b (rdNum b (rdNum b (rs0 l a)).1).1 32).1).2 < l.f0)) 5) 32).2)))], boxes := [(3, (44, [.d (.int .i64 l.f0), .d (.int .i64 l.f1), .d (.int .i64 l.f2), .d (.int .i64 l.f3), .d (.int .i64 l.f4)])), (6, (64, [.d (.int .i64 (rdNum b (rs0 l a)).2), .d (.int .i64 (rdNum b (rdNum b (rs0 l a)).1).2), .row 4022 [], .d (.int .i64 (rdNum b (rdRaw b (rdNum b (rdNum b (rs0 l a)).1).1 32).1).2), .row 4035 []])), (14, (150, [.d (.ints .u8 b), .d (.int .i64 (rdRaw b (rdMust (rdNum b (rdRaw b (rdNum b (rdNum b (rs0 l a)).1).1 32).1).1 (decide ((rdNum b (rdRaw b (rdNum b (rdNum b (rs0 l a)).1).1 32).1).2 < l.f0)) 5) 32).1.f0), .d (.int .i64 (rdRaw b (rdMust (rdNum b (rdRaw b (rdNum b (rdNum b (rs0 l a)).1).1 32).1).1 (decide ((rdNum b (rdRaw b (rdNum b (rdNum b (rs0 l a)).1).1 32).1).2 < l.f0)) 5) 32).1.f1)])), (10, (64, [.d (.int .i64 (rdNum b (rs0 l a)).2), .d (.int .i64 (rdNum b (rdNum b (rs0 l a)).1).2), .row 4022 [], .d (.int .i64 (rdNum b (rdRaw b (rdNum b (rdNum b (rs0 l a)).1).1 32).1).2), .row 4035 []]))] }) (Env.le_mk ⟨by kernel_rfl, by kernel_rfl, by kernel_rfl, by kernel_rfl, by kernel_rfl, by kernel_rfl, by kernel_rfl, by kernel_rfl, by kernel_rfl, by kernel_rfl, by kernel_rfl, by kernel_rfl, by kernel_rfl, by kernel_rfl, by kernel_rfl, by kernel_rfl, by kernel_rfl, by kernel_rfl, by kernel_rfl, by kernel_rfl, by kernel_rfl, by kernel_rfl, by kernel_rfl, by kernel_rfl, by kernel_rfl, by kernel_rfl, by kernel_rfl, by kernel_rfl, by kernel_rfl, by kernel_rfl, by kernel_rfl, by kernel_rfl, by kernel_rfl, by kernel_rfl, by kernel_rfl, by kernel_rfl, by kernel_rfl, by kernel_rfl, by kernel_rfl, by kernel_rfl, by kernel_rfl, by kernel_rfl, by kernel_rfl, by kernel_rfl, by kernel_rfl, trivial⟩ ⟨by kernel_rfl, by kernel_rfl, trivial⟩ ⟨by kernel_rfl, by kernel_rfl, by kernel_rfl, by kernel_rfl, trivial⟩) ?_
  refine TL.nil ?_
  refine T.ret ?_
  exact ⟨[(true, [.d (.int .i64 (rdNum b (rs0 l a)).2), .d (.int .i64 (rdNum b (rdNum b (rs0 l a)).1).2), .row 4022 [], .d (.int .i64 (rdNum b (rdRaw b (rdNum b (rdNum b (rs0 l a)).1).1 32).1).2), .row 4035 []]), (false, [.d (.int .i64 (rdRaw b (rdMust (rdNum b (rdRaw b (rdNum b (rdNum b (rs0 l a)).1).1 32).1).1 (decide ((rdNum b (rdRaw b (rdNum b (rdNum b (rs0 l a)).1).1 32).1).2 < l.f0)) 5) 32).1.f0)]), (false, [.d (.int .i64 0)])], (.cons rfl (.cons rfl (.cons rfl .nil))), rfl, [4022, 4035], (RetC.rd' (by first | rfl | (congr 1; unfold getVote; first | (rw [getOut_yes (by assumption)]; first | done | rfl) | (rw [getOut_no (by assumption)]; first | done | rfl) | (rw [rs0_ok (by assumption), getOut_yes (by assumption)]; first | done | rfl) | (rw [rs0_ok (by assumption), getOut_no (by assumption)]; first | done | rfl) | (rw [rs0_no (by assumption), getOut_nr (rdVote_er (show ¬ ((5 : Int) = 0) by decide)) rfl]; first | done | rfl)) | (simp only [D.size, List.length_map]; unfold getVote; first | (rw [getOut_yes (by assumption)]; first | done | rfl) | (rw [getOut_no (by assumption)]; first | done | rfl) | (rw [rs0_ok (by assumption), getOut_yes (by assumption)]; first | done | rfl) | (rw [rs0_ok (by assumption), getOut_no (by assumption)]; first | done | rfl) | (rw [rs0_no (by assumption), getOut_nr (rdVote_er (show ¬ ((5 : Int) = 0) by decide)) rfl]; first | done | rfl))) (RetC.rd' (by first | rfl | (congr 1; unfold getVote; first | (rw [getOut_yes (by assumption)]; first | done | rfl) | (rw [getOut_no (by assumption)]; first | done | rfl) | (rw [rs0_ok (by assumption), getOut_yes (by assumption)]; first | done | rfl) | (rw [rs0_ok (by assumption), getOut_no (by assumption)]; first | done | rfl) | (rw [rs0_no (by assumption), getOut_nr (rdVote_er (show ¬ ((5 : Int) = 0) by decide)) rfl]; first | done | rfl)) | (simp only [D.size, List.length_map]; unfold getVote; first | (rw [getOut_yes (by assumption)]; first | done | rfl) | (rw [getOut_no (by assumption)]; first | done | rfl) | (rw [rs0_ok (by assumption), getOut_yes (by assumption)]; first | done | rfl) | (rw [rs0_ok (by assumption), getOut_no (by assumption)]; first | done | rfl) | (rw [rs0_no (by assumption), getOut_nr (rdVote_er (show ¬ ((5 : Int) = 0) by decide)) rfl]; first | done | rfl))) (RetC.own' rfl (by first | rfl | (congr 1; unfold getVote; first | (rw [getOut_yes (by assumption)]; first | done | rfl) | (rw [getOut_no (by assumption)]; first | done | rfl) | (rw [rs0_ok (by assumption), getOut_yes (by assumption)]; first | done | rfl) | (rw [rs0_ok (by assumption), getOut_no (by assumption)]; first | done | rfl) | (rw [rs0_no (by assumption), getOut_nr (rdVote_er (show ¬ ((5 : Int) = 0) by decide)) rfl]; first | done | rfl)) | (simp only [D.size, List.length_map]; unfold getVote; first | (rw [getOut_yes (by assumption)]; first | done | rfl) | (rw [getOut_no (by assumption)]; first | done | rfl) | (rw [rs0_ok (by assumption), getOut_yes (by assumption)]; first | done | rfl) | (rw [rs0_ok (by assumption), getOut_no (by assumption)]; first | done | rfl) | (rw [rs0_no (by assumption), getOut_nr (rdVote_er (show ¬ ((5 : Int) = 0) by decide)) rfl]; first | done | rfl))) rfl (RetC.rd' (by first | rfl | (congr 1; unfold getVote; first | (rw [getOut_yes (by assumption)]; first | done | rfl) | (rw [getOut_no (by assumption)]; first | done | rfl) | (rw [rs0_ok (by assumption), getOut_yes (by assumption)]; first | done | rfl) | (rw [rs0_ok (by assumption), getOut_no (by assumption)]; first | done | rfl) | (rw [rs0_no (by assumption), getOut_nr (rdVote_er (show ¬ ((5 : Int) = 0) by decide)) rfl]; first | done | rfl)) | (simp only [D.size, List.length_map]; unfold getVote; first | (rw [getOut_yes (by assumption)]; first | done | rfl) | (rw [getOut_no (by assumption)]; first | done | rfl) | (rw [rs0_ok (by assumption), getOut_yes (by assumption)]; first | done | rfl) | (rw [rs0_ok (by assumption), getOut_no (by assumption)]; first | done | rfl) | (rw [rs0_no (by assumption), getOut_nr (rdVote_er (show ¬ ((5 : Int) = 0) by decide)) rfl]; first | done | rfl))) (RetC.own' rfl (by first | rfl | (congr 1; unfold getVote; first | (rw [getOut_yes (by assumption)]; first | done | rfl) | (rw [getOut_no (by assumption)]; first | done | rfl) | (rw [rs0_ok (by assumption), getOut_yes (by assumption)]; first | done | rfl) | (rw [rs0_ok (by assumption), getOut_no (by assumption)]; first | done | rfl) | (rw [rs0_no (by assumption), getOut_nr (rdVote_er (show ¬ ((5 : Int) = 0) by decide)) rfl]; first | done | rfl)) | (simp only [D.size, List.length_map]; unfold getVote; first | (rw [getOut_yes (by assumption)]; first | done | rfl) | (rw [getOut_no (by assumption)]; first | done | rfl) | (rw [rs0_ok (by assumption), getOut_yes (by assumption)]; first | done | rfl) | (rw [rs0_ok (by assumption), getOut_no (by assumption)]; first | done | rfl) | (rw [rs0_no (by assumption), getOut_nr (rdVote_er (show ¬ ((5 : Int) = 0) by decide)) rfl]; first | done | rfl))) rfl (RetC.rd' (by first | rfl | (congr 1; unfold getVote; first | (rw [getOut_yes (by assumption)]; first | done | rfl) | (rw [getOut_no (by assumption)]; first | done | rfl) | (rw [rs0_ok (by assumption), getOut_yes (by assumption)]; first | done | rfl) | (rw [rs0_ok (by assumption), getOut_no (by assumption)]; first | done | rfl) | (rw [rs0_no (by assumption), getOut_nr (rdVote_er (show ¬ ((5 : Int) = 0) by decide)) rfl]; first | done | rfl)) | (simp only [D.size, List.length_map]; unfold getVote; first | (rw [getOut_yes (by assumption)]; first | done | rfl) | (rw [getOut_no (by assumption)]; first | done | rfl) | (rw [rs0_ok (by assumption), getOut_yes (by assumption)]; first | done | rfl) | (rw [rs0_ok (by assumption), getOut_no (by assumption)]; first | done | rfl) | (rw [rs0_no (by assumption), getOut_nr (rdVote_er (show ¬ ((5 : Int) = 0) by decide)) rfl]; first | done | rfl))) (RetC.rd' (by first | rfl | (congr 1; unfold getVote; first | (rw [getOut_yes (by assumption)]; first | done | rfl) | (rw [getOut_no (by assumption)]; first | done | rfl) | (rw [rs0_ok (by assumption), getOut_yes (by assumption)]; first | done | rfl) | (rw [rs0_ok (by assumption), getOut_no (by assumption)]; first | done | rfl) | (rw [rs0_no (by assumption), getOut_nr (rdVote_er (show ¬ ((5 : Int) = 0) by decide)) rfl]; first | done | rfl)) | (simp only [D.size, List.length_map]; unfold getVote; first | (rw [getOut_yes (by assumption)]; first | done | rfl) | (rw [getOut_no (by assumption)]; first | done | rfl) | (rw [rs0_ok (by assumption), getOut_yes (by assumption)]; first | done | rfl) | (rw [rs0_ok (by assumption), getOut_no (by assumption)]; first | done | rfl) | (rw [rs0_no (by assumption), getOut_nr (rdVote_er (show ¬ ((5 : Int) = 0) by decide)) rfl]; first | done | rfl))) .nil)))))))⟩
theorem ok_impl_within (n : Int) (low : Int) (high : Int) : RO Try.prog 144 [.one (.int .i64 n), .one (.int .i64 low), .one (.int .i64 high)] [(false, [.rd (.bool (decide (low ≤ n ∧ n ≤ high)))])] := by
 refine RO.intro Try.func144 rfl 15 rfl (le_ok rfl) fun w Z => ?_
 refine T.seq ?_
 refine T.region ?_
 refine TL.cons rfl (Step.assign (p := (.one (.d (.bool false)))) rfl rfl (lt_ok rfl) rfl) ?_
 refine TL.nil ?_
 refine T.seq ?_
 refine T.region ?_
 refine TL.cons rfl (Step.move (p := (.one (.d (.int .i64 low)))) rfl rfl (lt_ok rfl) rfl) ?_
 refine TL.cons rfl (Step.move (p := (.one (.d (.int .i64 n)))) rfl rfl (lt_ok rfl) rfl) ?_
 refine TL.cons rfl (Step.bin rfl rfl (lt_ok rfl) rfl rfl (Bin.leq (k := .i64) (a := low) (b := n))) ?_
 refine TL.cons rfl (Step.move (p := (.one (.d (.bool (decide (low ≤ n)))))) rfl rfl (lt_ok rfl) rfl) ?_
 rcases Bool.eq_false_or_eq_true (decide (low ≤ n)) with hb1 | hb1
 ·
  refine TL.known 10 hb1 rfl ?_
  refine TL.gyes 10 rfl rfl (lt_ok rfl) rfl (Step.move (p := (.one (.d (.int .i64 n)))) rfl rfl (lt_ok rfl) rfl) ?_
  refine TL.gyes 10 rfl rfl (lt_ok rfl) rfl (Step.move (p := (.one (.d (.int .i64 high)))) rfl rfl (lt_ok rfl) rfl) ?_
  refine TL.gyes 10 rfl rfl (lt_ok rfl) rfl (Step.bin rfl rfl (lt_ok rfl) rfl rfl (Bin.leq (k := .i64) (a := n) (b := high))) ?_
  refine TL.cons rfl (Step.pick (b := true) (p := (.one (.d (.bool (decide (n ≤ high)))))) rfl rfl (lt_ok rfl) rfl rfl) ?_
  refine TL.cons rfl (Step.assign (p := (.one (.d (.bool (decide (n ≤ high)))))) rfl rfl (lt_ok rfl) rfl) ?_
  refine TL.nil ?_
  refine T.ret ?_
  exact ⟨[(false, [.d (.bool (decide (n ≤ high)))])], (.cons rfl .nil), rfl, [], (RetC.rd' (by first | (congr 1; simp_all; done) | (congr 1; simp_all; omega)) .nil)⟩
 ·
  refine TL.known 10 hb1 rfl ?_
  refine TL.goff 10 rfl rfl (lt_ok rfl) rfl rfl rfl (lt_ok rfl) ?_
  refine TL.goff 10 rfl rfl (lt_ok rfl) rfl rfl rfl (lt_ok rfl) ?_
  refine TL.goff 10 rfl rfl (lt_ok rfl) rfl rfl rfl (lt_ok rfl) ?_
  refine TL.cons rfl (Step.pick (b := false) (p := (.one (.d (.bool false)))) rfl rfl (lt_ok rfl) rfl rfl) ?_
  refine TL.cons rfl (Step.assign (p := (.one (.d (.bool false)))) rfl rfl (lt_ok rfl) rfl) ?_
  refine TL.nil ?_
  refine T.ret ?_
  exact ⟨[(false, [.d (.bool false)])], (.cons rfl .nil), rfl, [], (RetC.rd' (by first | (congr 1; simp_all; done) | (congr 1; simp_all; omega)) .nil)⟩
theorem ok_impl_isNum (n : Int) : RO Try.prog 147 [.one (.int .i64 n)] [(false, [.rd (.bool (decide (0 ≤ n ∧ n ≤ 1152921504606846975)))])] := by
 refine RO.intro Try.func147 rfl 5 rfl (le_ok rfl) fun w Z => ?_
 refine T.seq ?_
 refine T.region ?_
 refine TL.cons rfl (Step.assign (p := (.one (.d (.bool false)))) rfl rfl (lt_ok rfl) rfl) ?_
 refine TL.nil ?_
 refine T.seq ?_
 refine T.region ?_
 refine TL.cons rfl (Step.move (p := (.one (.d (.int .i64 n)))) rfl rfl (lt_ok rfl) rfl) ?_
 refine TL.cons rfl (Step.call (f := 144) (xs := [.tmp 3, .const (.int .i64 0), .const (.int .i64 1152921504606846975)]) (ps := [(.one (.d (.int .i64 n))), (.one (.d (.int .i64 0))), (.one (.d (.int .i64 1152921504606846975)))]) false (g := .func 144) rfl rfl (lt_ok rfl) rfl (by kernel_rfl) rfl (.cons (.one (.d _)) (.cons (.one (.d _)) (.cons (.one (.d _)) .nil))) (ok_impl_within n 0 1152921504606846975) (.inr rfl) rfl (by simp) rfl) ?_
 refine TL.cons rfl (Step.assign (p := (.one (.d (.bool (decide (0 ≤ n ∧ n ≤ 1152921504606846975)))))) rfl rfl (lt_ok rfl) rfl) ?_
 refine TL.nil ?_
 refine T.ret ?_
 exact ⟨[(false, [.d (.bool (decide (0 ≤ n ∧ n ≤ 1152921504606846975)))])], (.cons rfl .nil), rfl, [], (RetC.rd' (by rfl) .nil)⟩
end Go.Proofs.Ythaagegnobegjaa.Rf
