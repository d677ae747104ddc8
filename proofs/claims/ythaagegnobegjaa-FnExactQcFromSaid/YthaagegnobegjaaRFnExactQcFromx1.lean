/- The functions that FnExactQcFrom calls, each held to what it answers. Printed by a program of this session; Lean checks it. -/
import Derived.Test.YthaagegnobegjaaProg
import Derived.Test.YthaagegnobegjaaRFnExactQcFromx0
namespace Go.Proofs.Ythaagegnobegjaa.Rf
open Go.RowKit
set_option linter.unusedVariables false
set_option linter.unnecessarySimpa false
set_option linter.unusedSimpArgs false
set_option maxRecDepth 100000
set_option maxHeartbeats 4000000
theorem ok_spec_QcFrom (l : SLimits) (v : List SVote) (h0_ : ∀ y ∈ v, SVote.ok y) (h1_ : v.length ≤ 1048576) (h2_ : ∀ y ∈ v, SVote.sm y) (h3_ : I64 l.f0) : RO Try.prog 35 [.agg l.cells, .one (.sl 5 (v.map SVote.cells))] [(true, [.rd (.int .i64 (qcFrom l v).f0), .rd (.int .i64 (qcFrom l v).f1), .own 5 (.ints .u8 (qcFrom l v).f2), .own 5 (.ints .u8 (qcFrom l v).f3), .own 22 (.bss (qcFrom l v).f4)]), (false, [.rd (.bool (qcFromOk l v))])] := by
 refine RO.intro Try.func35 rfl 103 rfl (le_ok rfl) fun w Z => ?_
 refine T.bnd 1 0 rfl rfl fun hb_1_0 => ?_
 simp only [D.size, List.length_map] at hb_1_0
 have ht0_ := vote_at_sm h2_ 0
 have ht01_ := ht0_.1
 have hi4_ := h3_
 unfold I64 at hi4_
 refine T.seq ?_
 refine T.region ?_
 refine TL.c (Step.box (p := (.agg [cI l.f0, cI l.f1, cI l.f2, cI l.f3, cI l.f4])) (ps := [cI l.f0, cI l.f1, cI l.f2, cI l.f3, cI l.f4]) rfl rfl (lt_ok rfl) rfl rfl rfl rfl rfl) ?_
 refine TL.c (Step.alloc (cs := [.int .i64 0, .int .i64 0, .slice none 0 0, .slice none 0 0, .slice none 0 0]) (ps := [cI 0, cI 0, .nil, .nil, .nil]) rfl rfl (lt_ok rfl) (by kernel_rfl) rfl rfl rfl rfl) ?_
 refine TL.as (pB false) ?_
 refine TL.nil ?_
 refine T.seq ?_
 refine T.seq ?_
 refine T.region ?_
 refine TL.mv (.one (.d (.sl 5 (v.map SVote.cells)))) ?_
 refine TL.c (Step.len' (e := 64) (z := 5) (d := (.sl 5 (v.map SVote.cells))) (n := v.length) rfl rfl (lt_ok rfl) (by kernel_rfl) rfl rfl (by simp [D.size])) ?_
 refine TL.c (Step.bin rfl rfl (lt_ok rfl) rfl rfl (Bin.eql (k := .i64) (a := (v.length : Int)) (b := 0))) ?_
 refine TL.mv (pB (decide ((v.length : Int) = 0))) ?_
 rcases Bool.eq_false_or_eq_true (decide ((v.length : Int) = 0)) with hb1 | hb1
 ·
  refine TL.known 17 hb1 rfl ?_
  have hb1' := hb1
  replace hb1' := of_decide_eq_true hb1'
  refine TL.gf 17 ?_
  refine TL.gf 17 ?_
  refine TL.gf 17 ?_
  refine TL.pk true (pB true) ?_
  refine TL.nil ?_
  refine T.cond (b := true) rfl (fun h2_ => ?_) (fun h2_ => absurd h2_ (by simp))
  refine T.seq ?_
  refine T.region ?_
  refine TL.c (Step.build (zs := [.int .i64 0, .int .i64 0, .slice none 0 0, .slice none 0 0, .slice none 0 0]) (places := [(0, 1), (1, 1), (2, 1), (3, 1), (4, 1)]) (pss := []) (ps' := [cI 0, cI 0, .nil, .nil, .nil]) rfl rfl (lt_ok rfl) (by kernel_rfl) .nil rfl rfl rfl) ?_
  refine TL.c (Step.store_box (n := 5) (p := (.agg [cI 0, cI 0, .nil, .nil, .nil])) (qs := [cI 0, cI 0, .nil, .nil, .nil]) (ps' := [cI 0, cI 0, .nil, .nil, .nil]) rfl rfl (by kernel_rfl) rfl rfl rfl rfl rfl rfl (le_ok rfl) rfl) ?_
  refine TL.as (pB false) ?_
  refine TL.nil ?_
  refine T.ret ?_
  refine ⟨[(true, [cI 0, cI 0, .nil, .nil, .nil]), (false, [.d (.bool false)])], (.cons rfl (.cons rfl .nil)), rfl, [], (RetC.rd' ?_ (RetC.rd' ?_ (RetC.nilown' rfl ?_ (by first | exact trivial | exact D.wf_nil _) (RetC.nilown' rfl ?_ (by first | exact trivial | exact D.wf_nil _) (RetC.nilown' rfl ?_ (by first | exact trivial | exact D.wf_nil _) (RetC.rd' ?_ .nil))))))⟩ <;> (first | (congr 1; first | (rw [qcFrom_yes (qcFromOk_iff.2 ⟨by omega, by assumption, (show v = qcVotes (⟨(v.getD 0 default).f0, (v.getD 0 default).f1, (v.getD 0 default).f2, bitsOf (voteWhos v) l.f0, voteTags v⟩ : SQc) from take_all hx2 (by omega) hx3).symm⟩)]; done) | (rw [qcFrom_yes (qcFromOk_iff.2 ⟨by omega, by assumption, (show v = qcVotes (⟨(v.getD 0 default).f0, (v.getD 0 default).f1, (v.getD 0 default).f2, bitsOf (voteWhos v) l.f0, voteTags v⟩ : SQc) from take_all hx2 (by omega) hx3).symm⟩)]; rfl) | (rw [qcFrom_no (Bool.eq_false_iff.2 fun hq_ => by obtain ⟨q1_, q2_, q3_⟩ := qcFromOk_iff.1 hq_; have e_ : qcVotes (⟨(v.getD 0 default).f0, (v.getD 0 default).f1, (v.getD 0 default).f2, bitsOf (voteWhos v) l.f0, voteTags v⟩ : SQc) = v := q3_; have e2_ := congrArg List.length e_; first | omega | exact bool_ne q2_ (by assumption) | exact bool_ne (qcOk_lim' q2_) (by assumption) | exact bool_ne (qcOf_bits q2_) (by assumption) | exact absurd (congrArg (fun x => x.getD i default) e_) (by assumption) | exact absurd (congrArg (fun x => x.getD i default) e_.symm) (by assumption))]; rfl) | (symm; exact (qcFromOk_iff.2 ⟨by omega, by assumption, (show v = qcVotes (⟨(v.getD 0 default).f0, (v.getD 0 default).f1, (v.getD 0 default).f2, bitsOf (voteWhos v) l.f0, voteTags v⟩ : SQc) from take_all hx2 (by omega) hx3).symm⟩)) | (symm; exact (Bool.eq_false_iff.2 fun hq_ => by obtain ⟨q1_, q2_, q3_⟩ := qcFromOk_iff.1 hq_; have e_ : qcVotes (⟨(v.getD 0 default).f0, (v.getD 0 default).f1, (v.getD 0 default).f2, bitsOf (voteWhos v) l.f0, voteTags v⟩ : SQc) = v := q3_; have e2_ := congrArg List.length e_; first | omega | exact bool_ne q2_ (by assumption) | exact bool_ne (qcOk_lim' q2_) (by assumption) | exact bool_ne (qcOf_bits q2_) (by assumption) | exact absurd (congrArg (fun x => x.getD i default) e_) (by assumption) | exact absurd (congrArg (fun x => x.getD i default) e_.symm) (by assumption)))) | (simp only [D.size, List.length_map]; rw [qcFrom_no (Bool.eq_false_iff.2 fun hq_ => by obtain ⟨q1_, q2_, q3_⟩ := qcFromOk_iff.1 hq_; have e_ : qcVotes (⟨(v.getD 0 default).f0, (v.getD 0 default).f1, (v.getD 0 default).f2, bitsOf (voteWhos v) l.f0, voteTags v⟩ : SQc) = v := q3_; have e2_ := congrArg List.length e_; first | omega | exact bool_ne q2_ (by assumption) | exact bool_ne (qcOk_lim' q2_) (by assumption) | exact bool_ne (qcOf_bits q2_) (by assumption) | exact absurd (congrArg (fun x => x.getD i default) e_) (by assumption) | exact absurd (congrArg (fun x => x.getD i default) e_.symm) (by assumption))]; rfl))
 ·
  refine TL.known 17 hb1 rfl ?_
  have hb1' := hb1
  replace hb1' := of_decide_eq_false hb1'
  refine TL.gy 17 (Step.load_box_agg (n := 5) (qs := [cI l.f0, cI l.f1, cI l.f2, cI l.f3, cI l.f4]) rfl rfl (lt_ok rfl) (by kernel_rfl) rfl rfl rfl rfl) ?_
  refine TL.gy 17 (Step.cl (xs := [.tmp 18]) (ps := [(.agg [cI l.f0, cI l.f1, cI l.f2, cI l.f3, cI l.f4])]) (g := .func 94) false (.cons (.agg (.cons (.d _) (.cons (.d _) (.cons (.d _) (.cons (.d _) (.cons (.d _) .nil)))))) .nil) (ok_spec_LimitsOk l)) ?_
  refine TL.gy 17 (Step.not (b := (limOk l)) rfl rfl (lt_ok rfl) rfl) ?_
  refine TL.pk false (pB (!(limOk l))) ?_
  refine TL.nil ?_
  refine T.cond (b := !(limOk l)) rfl (fun h3 => ?_) (fun h3 => ?_)
  ·
   replace h3 : (limOk l) = false := by simpa only [Bool.not_eq_true', Bool.not_eq_false'] using h3
   refine T.seq ?_
   refine T.region ?_
   refine TL.c (Step.build (zs := [.int .i64 0, .int .i64 0, .slice none 0 0, .slice none 0 0, .slice none 0 0]) (places := [(0, 1), (1, 1), (2, 1), (3, 1), (4, 1)]) (pss := []) (ps' := [cI 0, cI 0, .nil, .nil, .nil]) rfl rfl (lt_ok rfl) (by kernel_rfl) .nil rfl rfl rfl) ?_
   refine TL.c (Step.store_box (n := 5) (p := (.agg [cI 0, cI 0, .nil, .nil, .nil])) (qs := [cI 0, cI 0, .nil, .nil, .nil]) (ps' := [cI 0, cI 0, .nil, .nil, .nil]) rfl rfl (by kernel_rfl) rfl rfl rfl rfl rfl rfl (le_ok rfl) rfl) ?_
   refine TL.as (pB false) ?_
   refine TL.nil ?_
   refine T.ret ?_
   refine ⟨[(true, [cI 0, cI 0, .nil, .nil, .nil]), (false, [.d (.bool false)])], (.cons rfl (.cons rfl .nil)), rfl, [], (RetC.rd' ?_ (RetC.rd' ?_ (RetC.nilown' rfl ?_ (by first | exact trivial | exact D.wf_nil _) (RetC.nilown' rfl ?_ (by first | exact trivial | exact D.wf_nil _) (RetC.nilown' rfl ?_ (by first | exact trivial | exact D.wf_nil _) (RetC.rd' ?_ .nil))))))⟩ <;> (first | (congr 1; first | (rw [qcFrom_yes (qcFromOk_iff.2 ⟨by omega, by assumption, (show v = qcVotes (⟨(v.getD 0 default).f0, (v.getD 0 default).f1, (v.getD 0 default).f2, bitsOf (voteWhos v) l.f0, voteTags v⟩ : SQc) from take_all hx2 (by omega) hx3).symm⟩)]; done) | (rw [qcFrom_yes (qcFromOk_iff.2 ⟨by omega, by assumption, (show v = qcVotes (⟨(v.getD 0 default).f0, (v.getD 0 default).f1, (v.getD 0 default).f2, bitsOf (voteWhos v) l.f0, voteTags v⟩ : SQc) from take_all hx2 (by omega) hx3).symm⟩)]; rfl) | (rw [qcFrom_no (Bool.eq_false_iff.2 fun hq_ => by obtain ⟨q1_, q2_, q3_⟩ := qcFromOk_iff.1 hq_; have e_ : qcVotes (⟨(v.getD 0 default).f0, (v.getD 0 default).f1, (v.getD 0 default).f2, bitsOf (voteWhos v) l.f0, voteTags v⟩ : SQc) = v := q3_; have e2_ := congrArg List.length e_; first | omega | exact bool_ne q2_ (by assumption) | exact bool_ne (qcOk_lim' q2_) (by assumption) | exact bool_ne (qcOf_bits q2_) (by assumption) | exact absurd (congrArg (fun x => x.getD i default) e_) (by assumption) | exact absurd (congrArg (fun x => x.getD i default) e_.symm) (by assumption))]; rfl) | (symm; exact (qcFromOk_iff.2 ⟨by omega, by assumption, (show v = qcVotes (⟨(v.getD 0 default).f0, (v.getD 0 default).f1, (v.getD 0 default).f2, bitsOf (voteWhos v) l.f0, voteTags v⟩ : SQc) from take_all hx2 (by omega) hx3).symm⟩)) | (symm; exact (Bool.eq_false_iff.2 fun hq_ => by obtain ⟨q1_, q2_, q3_⟩ := qcFromOk_iff.1 hq_; have e_ : qcVotes (⟨(v.getD 0 default).f0, (v.getD 0 default).f1, (v.getD 0 default).f2, bitsOf (voteWhos v) l.f0, voteTags v⟩ : SQc) = v := q3_; have e2_ := congrArg List.length e_; first | omega | exact bool_ne q2_ (by assumption) | exact bool_ne (qcOk_lim' q2_) (by assumption) | exact bool_ne (qcOf_bits q2_) (by assumption) | exact absurd (congrArg (fun x => x.getD i default) e_) (by assumption) | exact absurd (congrArg (fun x => x.getD i default) e_.symm) (by assumption)))) | (simp only [D.size, List.length_map]; rw [qcFrom_no (Bool.eq_false_iff.2 fun hq_ => by obtain ⟨q1_, q2_, q3_⟩ := qcFromOk_iff.1 hq_; have e_ : qcVotes (⟨(v.getD 0 default).f0, (v.getD 0 default).f1, (v.getD 0 default).f2, bitsOf (voteWhos v) l.f0, voteTags v⟩ : SQc) = v := q3_; have e2_ := congrArg List.length e_; first | omega | exact bool_ne q2_ (by assumption) | exact bool_ne (qcOk_lim' q2_) (by assumption) | exact bool_ne (qcOf_bits q2_) (by assumption) | exact absurd (congrArg (fun x => x.getD i default) e_) (by assumption) | exact absurd (congrArg (fun x => x.getD i default) e_.symm) (by assumption))]; rfl))
  ·
   replace h3 : (limOk l) = true := by simpa only [Bool.not_eq_true', Bool.not_eq_false'] using h3
   refine T.skip ?_
   refine T.seq ?_
   refine T.region ?_
   refine TL.c (Step.lit (e := 3) (z := 1) (by_ := 8) (xs := []) (pss := []) (es := []) (ss := []) (d := (.ints .i64 [])) rfl rfl (lt_ok rfl) (by kernel_rfl) rfl rfl .nil (by simp) (le_ok rfl) (le_ok rfl) rfl .nil rfl (by simp) (by simp) rfl trivial rfl rfl) ?_
   refine TL.as (.one (.row 23 [])) ?_
   refine TL.nil ?_
   refine T.seq ?_
   refine T.drawX [{ dst := some 24, pv := (.one (.d (.sl 5 (v.map SVote.cells)))) }, { dst := some 25, pv := (.one (.eptr (.sl 5 (v.map SVote.cells)) 0 0)) }, { dst := some 26, pv := (.one (.eptr (.sl 5 (v.map SVote.cells)) 0 0)) }, { dst := some 27, pv := (pI (v.getD 0 default).f0) }, { dst := some 28, pv := (.one (.d (.sl 5 (v.map SVote.cells)))) }, { dst := some 29, pv := (.one (.eptr (.sl 5 (v.map SVote.cells)) 0 0)) }, { dst := some 30, pv := (.one (.eptr (.sl 5 (v.map SVote.cells)) 0 1)) }, { dst := some 31, pv := (pI (v.getD 0 default).f1) }, { dst := some 32, pv := (.one (.d (.sl 5 (v.map SVote.cells)))) }, { dst := some 33, pv := (.one (.eptr (.sl 5 (v.map SVote.cells)) 0 0)) }, { dst := some 34, pv := (.one (.eptr (.sl 5 (v.map SVote.cells)) 0 2)) }, { dst := some 35, pv := (pS (v.getD 0 default).f2) }, { dst := some 36, pv := (.one (.row 1036 [])), rows := [(1036, (5, (.ints .u8 (v.getD 0 default).f2)))] }, { dst := some 37, pv := (.agg [cI (v.getD 0 default).f0, cI (v.getD 0 default).f1, .row 1036 [], .nil, .nil]) }, { dst := some 7, pv := (.one (.ptr 7 0)), box := some (7, (29, [cI 0, cI 0, .nil, .nil, .nil])) }, { box := some (7, (29, [cI (v.getD 0 default).f0, cI (v.getD 0 default).f1, .row 1036 [], .nil, .nil])) }] (by kernel_rfl) (by kernel_rfl) ?_ ?_
   ·
    refine .cons (fun E hA_ => by have g1 : E.get 1 = (.one (.d (.sl 5 (v.map SVote.cells)))) := (hA_.get 1 (by kernel_rfl)).trans (by kernel_rfl); exact OpStep.plain rfl (Step.move (p := (.one (.d (.sl 5 (v.map SVote.cells))))) (t := 24) rfl rfl (by exact lt_ok rfl) (show Env.ev E (.tmp 1) = _ from g1.trans rfl))) ?_
    refine .cons (fun E hA_ => by have g24 : E.get 24 = (.one (.d (.sl 5 (v.map SVote.cells)))) := (hA_.get 24 (by kernel_rfl)).trans (by kernel_rfl); exact OpStep.plain rfl (Step.index (e := 64) (z := 5) (i := 0) (t := 25) rfl rfl (by exact lt_ok rfl) (by kernel_rfl) (show Env.ev E (.tmp 24) = _ from g24.trans rfl) rfl rfl (lt_ok rfl) rfl (by first | omega | (simp; omega)) (by simp only [D.size]; first | omega | (simp; omega)))) ?_
    refine .cons (fun E hA_ => by have g25 : E.get 25 = (.one (.eptr (.sl 5 (v.map SVote.cells)) 0 0)) := (hA_.get 25 (by kernel_rfl)).trans (by kernel_rfl); exact OpStep.plain rfl (Step.fieldAddr_e (j := 0) (off := 0) (n := 1) (one := true) (t := 26) rfl rfl (by exact lt_ok rfl) (by kernel_rfl) (Nat.succ_ne_zero _) (show Env.ev E (.tmp 25) = _ from g25.trans rfl) (lt_ok rfl))) ?_
    refine .cons (fun E hA_ => by have g26 : E.get 26 = (.one (.eptr (.sl 5 (v.map SVote.cells)) 0 0)) := (hA_.get 26 (by kernel_rfl)).trans (by kernel_rfl); exact OpStep.plain rfl (Step.load (e := (.int .i64 (v.getD 0 default).f0)) (t := 27) rfl rfl (by exact lt_ok rfl) (by kernel_rfl) (show Env.ev E (.tmp 26) = _ from g26.trans rfl) ((cell_map default (by first | omega | (simp; omega))).trans rfl))) ?_
    refine .cons (fun E hA_ => by have g1 : E.get 1 = (.one (.d (.sl 5 (v.map SVote.cells)))) := (hA_.get 1 (by kernel_rfl)).trans (by kernel_rfl); exact OpStep.plain rfl (Step.move (p := (.one (.d (.sl 5 (v.map SVote.cells))))) (t := 28) rfl rfl (by exact lt_ok rfl) (show Env.ev E (.tmp 1) = _ from g1.trans rfl))) ?_
    refine .cons (fun E hA_ => by have g28 : E.get 28 = (.one (.d (.sl 5 (v.map SVote.cells)))) := (hA_.get 28 (by kernel_rfl)).trans (by kernel_rfl); exact OpStep.plain rfl (Step.index (e := 64) (z := 5) (i := 0) (t := 29) rfl rfl (by exact lt_ok rfl) (by kernel_rfl) (show Env.ev E (.tmp 28) = _ from g28.trans rfl) rfl rfl (lt_ok rfl) rfl (by first | omega | (simp; omega)) (by simp only [D.size]; first | omega | (simp; omega)))) ?_
    refine .cons (fun E hA_ => by have g29 : E.get 29 = (.one (.eptr (.sl 5 (v.map SVote.cells)) 0 0)) := (hA_.get 29 (by kernel_rfl)).trans (by kernel_rfl); exact OpStep.plain rfl (Step.fieldAddr_e (j := 0) (off := 1) (n := 1) (one := true) (t := 30) rfl rfl (by exact lt_ok rfl) (by kernel_rfl) (Nat.succ_ne_zero _) (show Env.ev E (.tmp 29) = _ from g29.trans rfl) (lt_ok rfl))) ?_
    refine .cons (fun E hA_ => by have g30 : E.get 30 = (.one (.eptr (.sl 5 (v.map SVote.cells)) 0 1)) := (hA_.get 30 (by kernel_rfl)).trans (by kernel_rfl); exact OpStep.plain rfl (Step.load (e := (.int .i64 (v.getD 0 default).f1)) (t := 31) rfl rfl (by exact lt_ok rfl) (by kernel_rfl) (show Env.ev E (.tmp 30) = _ from g30.trans rfl) ((cell_map default (by first | omega | (simp; omega))).trans rfl))) ?_
    refine .cons (fun E hA_ => by have g1 : E.get 1 = (.one (.d (.sl 5 (v.map SVote.cells)))) := (hA_.get 1 (by kernel_rfl)).trans (by kernel_rfl); exact OpStep.plain rfl (Step.move (p := (.one (.d (.sl 5 (v.map SVote.cells))))) (t := 32) rfl rfl (by exact lt_ok rfl) (show Env.ev E (.tmp 1) = _ from g1.trans rfl))) ?_
    refine .cons (fun E hA_ => by have g32 : E.get 32 = (.one (.d (.sl 5 (v.map SVote.cells)))) := (hA_.get 32 (by kernel_rfl)).trans (by kernel_rfl); exact OpStep.plain rfl (Step.index (e := 64) (z := 5) (i := 0) (t := 33) rfl rfl (by exact lt_ok rfl) (by kernel_rfl) (show Env.ev E (.tmp 32) = _ from g32.trans rfl) rfl rfl (lt_ok rfl) rfl (by first | omega | (simp; omega)) (by simp only [D.size]; first | omega | (simp; omega)))) ?_
    refine .cons (fun E hA_ => by have g33 : E.get 33 = (.one (.eptr (.sl 5 (v.map SVote.cells)) 0 0)) := (hA_.get 33 (by kernel_rfl)).trans (by kernel_rfl); exact OpStep.plain rfl (Step.fieldAddr_e (j := 0) (off := 2) (n := 1) (one := true) (t := 34) rfl rfl (by exact lt_ok rfl) (by kernel_rfl) (Nat.succ_ne_zero _) (show Env.ev E (.tmp 33) = _ from g33.trans rfl) (lt_ok rfl))) ?_
    refine .cons (fun E hA_ => by have g34 : E.get 34 = (.one (.eptr (.sl 5 (v.map SVote.cells)) 0 2)) := (hA_.get 34 (by kernel_rfl)).trans (by kernel_rfl); exact OpStep.plain rfl (Step.load (e := (.ints .u8 (v.getD 0 default).f2)) (t := 35) rfl rfl (by exact lt_ok rfl) (by kernel_rfl) (show Env.ev E (.tmp 34) = _ from g34.trans rfl) ((cell_map default (by first | omega | (simp; omega))).trans rfl))) ?_
    refine .cons (fun E hA_ => by have g35 : E.get 35 = (pS (v.getD 0 default).f2) := (hA_.get 35 (by kernel_rfl)).trans (by kernel_rfl); exact OpStep.plain rfl (Step.call (f := 79) (xs := [.tmp 35]) (ps := [(pS (v.getD 0 default).f2)]) false (g := .func 79) (t := 36) rfl rfl (by exact lt_ok rfl) rfl (by kernel_rfl) (evs_cons (show Env.ev E (.tmp 35) = _ from g35.trans rfl) (rfl)) (.cons (.one (.d _)) .nil) (ok_spec_l01Copy (v.getD 0 default).f2 (by first | omega | assumption | (simp only [List.length_take, List.length_drop]; omega))) (.inr rfl) (freshRows_of _ _ (fun x_ hx_ => hA_.fresh x_ (by exact hx_))) (by simp) rfl)) ?_
    refine .cons (fun E hA_ => by have g27 : E.get 27 = (pI (v.getD 0 default).f0) := (hA_.get 27 (by kernel_rfl)).trans (by kernel_rfl); have g31 : E.get 31 = (pI (v.getD 0 default).f1) := (hA_.get 31 (by kernel_rfl)).trans (by kernel_rfl); have g36 : E.get 36 = (.one (.row 1036 [])) := (hA_.get 36 (by kernel_rfl)).trans (by kernel_rfl); have q1036 : E.row 1036 = some (5, (.ints .u8 (v.getD 0 default).f2)) := (hA_.row 1036 (by kernel_rfl)).trans (by kernel_rfl); exact OpStep.plain rfl (Step.build (zs := [.int .i64 0, .int .i64 0, .slice none 0 0, .slice none 0 0, .slice none 0 0]) (places := [(0, 1), (1, 1), (2, 1), (3, 1), (4, 1)]) (pss := [(0, [cI (v.getD 0 default).f0]), (1, [cI (v.getD 0 default).f1]), (2, [.row 1036 []])]) (ps' := [cI (v.getD 0 default).f0, cI (v.getD 0 default).f1, .row 1036 [], .nil, .nil]) (t := 37) rfl rfl (by exact lt_ok rfl) (by kernel_rfl) (.cons ⟨rfl, (by exact (congrArg PV.flat (show Env.ev E (.tmp 27) = _ from g27.trans rfl)).trans rfl)⟩ (.cons ⟨rfl, (by exact (congrArg PV.flat (show Env.ev E (.tmp 31) = _ from g31.trans rfl)).trans rfl)⟩ (.cons ⟨rfl, (by exact (congrArg PV.flat (show Env.ev E (.tmp 36) = _ from g36.trans rfl)).trans rfl)⟩ .nil))) (by simp only [List.all_cons, List.all_nil, Env.fine, q1036]; rfl) rfl rfl)) ?_
    refine .cons (fun E hA_ => by exact OpStep.plain rfl (Step.alloc (cs := [.int .i64 0, .int .i64 0, .slice none 0 0, .slice none 0 0, .slice none 0 0]) (ps := [cI 0, cI 0, .nil, .nil, .nil]) (t := 7) rfl rfl (by exact lt_ok rfl) (by kernel_rfl) rfl rfl (hA_.freshB _ rfl rfl) rfl)) ?_
    refine .cons (fun E hA_ => by have g7 : E.get 7 = (.one (.ptr 7 0)) := (hA_.get 7 (by kernel_rfl)).trans (by kernel_rfl); have g37 : E.get 37 = (.agg [cI (v.getD 0 default).f0, cI (v.getD 0 default).f1, .row 1036 [], .nil, .nil]) := (hA_.get 37 (by kernel_rfl)).trans (by kernel_rfl); have q1036 : E.row 1036 = some (5, (.ints .u8 (v.getD 0 default).f2)) := (hA_.row 1036 (by kernel_rfl)).trans (by kernel_rfl); have b7 : E.box 7 = some (29, [cI 0, cI 0, .nil, .nil, .nil]) := (hA_.box 7 (by kernel_rfl)).trans (by kernel_rfl); exact OpStep.plain rfl (Step.store_box (n := 5) (p := (.agg [cI (v.getD 0 default).f0, cI (v.getD 0 default).f1, .row 1036 [], .nil, .nil])) (qs := [cI (v.getD 0 default).f0, cI (v.getD 0 default).f1, .row 1036 [], .nil, .nil]) (ps' := [cI (v.getD 0 default).f0, cI (v.getD 0 default).f1, .row 1036 [], .nil, .nil]) rfl rfl (by kernel_rfl) (show Env.ev E (.tmp 7) = _ from g7.trans rfl) b7 (show Env.ev E (.tmp 37) = _ from g37.trans rfl) rfl rfl (by simp only [List.all_cons, List.all_nil, List.flatten_cons, List.flatten_nil, List.append_nil, List.cons_append, List.nil_append, Env.fine, q1036]; rfl) (le_ok rfl) rfl)) ?_
    exact .nil _ _
   refine TL.weaken (E' := { tm := [(0, (.agg [cI l.f0, cI l.f1, cI l.f2, cI l.f3, cI l.f4])), (1, (.one (.d (.sl 5 (v.map SVote.cells))))), (2, (.one (.ptr 2 0))), (4, (.one (.ptr 4 0))), (5, (pB false)), (14, (.one (.d (.sl 5 (v.map SVote.cells))))), (15, (pI (v.length : Int))), (16, (pB (decide ((v.length : Int) = 0)))), (17, (pB false)), (18, (.agg [cI l.f0, cI l.f1, cI l.f2, cI l.f3, cI l.f4])), (19, (pB (limOk l))), (20, (pB (!(limOk l)))), (21, (pB (!(limOk l)))), (23, (.one (.row 23 []))), (6, (.one (.row 23 []))), (24, (.one (.d (.sl 5 (v.map SVote.cells))))), (25, (.one (.eptr (.sl 5 (v.map SVote.cells)) 0 0))), (26, (.one (.eptr (.sl 5 (v.map SVote.cells)) 0 0))), (27, (pI (v.getD 0 default).f0)), (28, (.one (.d (.sl 5 (v.map SVote.cells))))), (29, (.one (.eptr (.sl 5 (v.map SVote.cells)) 0 0))), (30, (.one (.eptr (.sl 5 (v.map SVote.cells)) 0 1))), (31, (pI (v.getD 0 default).f1)), (32, (.one (.d (.sl 5 (v.map SVote.cells))))), (33, (.one (.eptr (.sl 5 (v.map SVote.cells)) 0 0))), (34, (.one (.eptr (.sl 5 (v.map SVote.cells)) 0 2))), (35, (pS (v.getD 0 default).f2)), (36, (.one (.row 1036 []))), (37, (.agg [cI (v.getD 0 default).f0, cI (v.getD 0 default).f1, .row 1036 [], .nil, .nil])), (7, (.one (.ptr 7 0)))], rows := [(23, (3, (.ints .i64 []))), (1036, (5, (.ints .u8 (v.getD 0 default).f2)))], boxes := [(2, (44, [cI l.f0, cI l.f1, cI l.f2, cI l.f3, cI l.f4])), (4, (29, [cI 0, cI 0, .nil, .nil, .nil])), (7, (29, [cI (v.getD 0 default).f0, cI (v.getD 0 default).f1, .row 1036 [], .nil, .nil]))] }) (Env.le_mk ⟨by kernel_rfl, by kernel_rfl, by kernel_rfl, by kernel_rfl, by kernel_rfl, by kernel_rfl, by kernel_rfl, by kernel_rfl, by kernel_rfl, by kernel_rfl, by kernel_rfl, by kernel_rfl, by kernel_rfl, by kernel_rfl, by kernel_rfl, by kernel_rfl, by kernel_rfl, by kernel_rfl, by kernel_rfl, by kernel_rfl, by kernel_rfl, by kernel_rfl, by kernel_rfl, by kernel_rfl, by kernel_rfl, by kernel_rfl, by kernel_rfl, by kernel_rfl, by kernel_rfl, by kernel_rfl, trivial⟩ ⟨by kernel_rfl, by kernel_rfl, trivial⟩ ⟨by kernel_rfl, by kernel_rfl, by kernel_rfl, trivial⟩) ?_
   refine TL.nil ?_
   refine T.seq ?_
   refine T.seq ?_
   refine T.region ?_
   refine TL.mv (.one (.d (.sl 5 (v.map SVote.cells)))) ?_
   refine TL.c (Step.len' (e := 64) (z := 5) (d := (.sl 5 (v.map SVote.cells))) (n := v.length) rfl rfl (lt_ok rfl) (by kernel_rfl) rfl rfl (by simp [D.size])) ?_
   refine TL.mv (pI 0) ?_
   refine TL.nil ?_
   refine T.block ?_
   refine T.nilrow 7 4 100704 22 29 (.bss []) [cI (v.getD 0 default).f0, cI (v.getD 0 default).f1, .row 1036 [], .nil, .nil] rfl rfl rfl (by simp) rfl rfl trivial ?_
   refine T.loop (ι := Nat) (fun xx_ => { tm := [(1, (.one (.d (.sl 5 (v.map SVote.cells))))), (2, (.one (.ptr 2 0))), (4, (.one (.ptr 4 0))), (5, (pB false)), (7, (.one (.ptr 7 0))), (38, (.one (.d (.sl 5 (v.map SVote.cells))))), (39, (pI (v.length : Int))), (40, (pI (xx_ : Int))), (6, (.one (.row 23 [])))], rows := [(23, (3, (.ints .i64 (voteWhos (v.take xx_))))), (1036, (5, (.ints .u8 (v.getD 0 default).f2))), (100704, (22, (.bss (voteTags (v.take xx_)))))], boxes := [(2, (44, [cI l.f0, cI l.f1, cI l.f2, cI l.f3, cI l.f4])), (4, (29, [cI 0, cI 0, .nil, .nil, .nil])), (7, (29, [cI (v.getD 0 default).f0, cI (v.getD 0 default).f1, .row 1036 [], .nil, .row 100704 []]))] }) (fun xx_ => xx_ ≤ v.length) (fun xx_ => v.length - xx_) 0 ?_ ?_ ?_
   · refine Env.le_mk ⟨rfl, rfl, rfl, rfl, rfl, rfl, rfl, ?_, rfl, trivial⟩ ⟨?_, rfl, ?_, trivial⟩ ⟨rfl, rfl, rfl, trivial⟩ <;> (first | (refine congrArg (fun x => some (_, D.ints .i64 x)) ?_; first | exact (voteWhos_step (by omega)).symm | rfl) | (refine congrArg (fun x => some (_, D.bss x)) ?_; first | exact (voteTags_step (by omega)).symm | rfl) | rfl | (refine congrArg (fun n => PV.one (.d (.int .i64 n))) ?_; first | rfl | omega | (simp; done)))
   · exact Nat.zero_le _
   ·
    intro i hx
    try dsimp only at hx ⊢
    have hl_ := voteWhos_len v i
    have hl2_ := voteTags_len v i
    have ht_ := vote_at_sm h2_ i
    have ht1_ := ht_.1
    have ht2_ := ht_.2
    refine T.seq ?_
    refine T.region ?_
    refine TL.c (Step.bin rfl rfl (lt_ok rfl) rfl rfl (Bin.lss (k := .i64) (a := (i : Int)) (b := (v.length : Int)))) ?_
    refine TL.nil ?_
    refine T.seq ?_
    refine T.cond (b := decide ((i : Int) < (v.length : Int))) rfl (fun h4 => ?_) (fun h4 => ?_)
    ·
     replace h4 := of_decide_eq_true h4
     refine T.skip ?_
     refine T.seq ?_
     refine T.block ?_
     refine T.seq ?_
     refine T.region ?_
     refine TL.c (Step.index (e := 64) (z := 5) (i := (i : Int)) rfl rfl (lt_ok rfl) (by kernel_rfl) rfl rfl rfl (lt_ok rfl) rfl (by first | omega | (simp; omega)) (by simp only [D.size]; first | omega | (simp; omega))) ?_
     refine TL.c (Step.load_agg (n := 5) (cs := [cI (v.getD i default).f0, cI (v.getD i default).f1, cS (v.getD i default).f2, cI (v.getD i default).f3, cS (v.getD i default).f4]) rfl rfl (lt_ok rfl) (by kernel_rfl) rfl rfl (by simp only [List.range, List.range.loop, List.map_cons, List.map_nil]; rw [cell_map default (by first | omega | (simp; omega)), cell_map default (by first | omega | (simp; omega)), cell_map default (by first | omega | (simp; omega)), cell_map default (by first | omega | (simp; omega)), cell_map default (by first | omega | (simp; omega))]; rfl)) ?_
     refine TL.c (Step.alloc (cs := [.int .i64 0, .int .i64 0, .slice none 0 0, .int .i64 0, .slice none 0 0]) (ps := [cI 0, cI 0, .nil, cI 0, .nil]) rfl rfl (lt_ok rfl) (by kernel_rfl) rfl rfl rfl rfl) ?_
     refine TL.c (Step.store_box (n := 5) (p := (.agg [cI (v.getD i default).f0, cI (v.getD i default).f1, cS (v.getD i default).f2, cI (v.getD i default).f3, cS (v.getD i default).f4])) (qs := [cI (v.getD i default).f0, cI (v.getD i default).f1, cS (v.getD i default).f2, cI (v.getD i default).f3, cS (v.getD i default).f4]) (ps' := [cI (v.getD i default).f0, cI (v.getD i default).f1, cS (v.getD i default).f2, cI (v.getD i default).f3, cS (v.getD i default).f4]) rfl rfl (by kernel_rfl) rfl rfl rfl rfl rfl rfl (le_ok rfl) rfl) ?_
     refine TL.nil ?_
     refine T.seq ?_
     refine T.region ?_
     refine TL.mv (.one (.row 23 [])) ?_
     refine TL.c (Step.fieldAddr (q := 0) (off := 3) (n := 1) (one := true) rfl rfl (lt_ok rfl) (by kernel_rfl) (Nat.succ_ne_zero _) rfl) ?_
     refine TL.c (Step.load_box (c := cI (v.getD i default).f3) rfl rfl (lt_ok rfl) (by kernel_rfl) rfl rfl rfl) ?_
     refine TL.c (Step.lit (e := 3) (z := 1) (by_ := 8) (xs := [.tmp 46]) (pss := [[cI (v.getD i default).f3]]) (es := [(.int .i64 (v.getD i default).f3)]) (ss := []) (d := (.ints .i64 [(v.getD i default).f3])) rfl rfl (lt_ok rfl) (by kernel_rfl) rfl rfl (.cons rfl .nil) (by simp) (le_ok rfl) (le_ok rfl) rfl (.val rfl .nil) rfl (by simp) (by simp) rfl trivial rfl rfl) ?_
     refine TL.c (Step.append (e := 3) (z := 1) (by_ := 8) (d := (.ints .i64 (voteWhos (v.take i)))) (dy := (.ints .i64 [(v.getD i default).f3])) (d' := (.ints .i64 ((voteWhos (v.take i)) ++ [(v.getD i default).f3]))) (ss := []) rfl rfl (lt_ok rfl) (by kernel_rfl) rfl rfl rfl (lt_ok rfl) rfl (.copy rfl rfl rfl (by simp [D.flat, D.val])) (by simp) rfl (by simp only [D.size, List.length_map]; first | omega | (simp only [List.length_append, List.length_cons, List.length_nil]; omega) | (simp; omega) | (simp only [List.length_append] at *; omega)) (by simp only [D.size, List.length_map]; first | omega | (simp only [List.length_append, List.length_cons, List.length_nil]; omega) | (simp; omega) | (simp only [List.length_append] at *; omega)) (by simp)) ?_
     refine TL.as (.one (.row 23 [])) ?_
     refine TL.nil ?_
     refine T.drawX [{ dst := some 49, pv := (.one (.ptr 7 4)) }, { dst := some 50, pv := (.one (.row 100704 [])) }, { dst := some 51, pv := (.one (.ptr 9 4)) }, { dst := some 52, pv := (pS (v.getD i default).f4) }, { dst := some 53, pv := (.one (.row 1053 [])), rows := [(1053, (5, (.ints .u8 (v.getD i default).f4)))] }, { dst := some 54, pv := (.one (.row 54 [])), rows := [(54, (22, (.bss [(v.getD i default).f4])))], dead := [1053] }, { dst := some 55, pv := (.one (.row 500055 [])), rows := [(500055, (22, (.bss ((voteTags (v.take i)) ++ [(v.getD i default).f4]))))], dead := [100704, 54] }, { dst := some 56, pv := (.one (.ptr 7 4)) }, { box := some (7, (29, [cI (v.getD 0 default).f0, cI (v.getD 0 default).f1, .row 1036 [], .nil, .row 500055 []])) }] (by kernel_rfl) (by kernel_rfl) ?_ ?_
     ·
      refine .cons (fun E hA_ => by have g7 : E.get 7 = (.one (.ptr 7 0)) := (hA_.get 7 (by kernel_rfl)).trans (by kernel_rfl); exact OpStep.plain rfl (Step.fa (off := 4) (n := 1) (one := true) 0 49 (show Env.ev E (.tmp 7) = _ from g7.trans rfl))) ?_
      refine .cons (fun E hA_ => by have g49 : E.get 49 = (.one (.ptr 7 4)) := (hA_.get 49 (by kernel_rfl)).trans (by kernel_rfl); have b7 : E.box 7 = some (29, [cI (v.getD 0 default).f0, cI (v.getD 0 default).f1, .row 1036 [], .nil, .row 100704 []]) := (hA_.box 7 (by kernel_rfl)).trans (by kernel_rfl); exact OpStep.plain rfl (Step.load_box (c := .row 100704 []) (t := 50) rfl rfl (by exact lt_ok rfl) (by kernel_rfl) (show Env.ev E (.tmp 49) = _ from g49.trans rfl) b7 rfl)) ?_
      refine .cons (fun E hA_ => by have g9 : E.get 9 = (.one (.ptr 9 0)) := (hA_.get 9 (by kernel_rfl)).trans (by kernel_rfl); exact OpStep.plain rfl (Step.fa (off := 4) (n := 1) (one := true) 0 51 (show Env.ev E (.tmp 9) = _ from g9.trans rfl))) ?_
      refine .cons (fun E hA_ => by have g51 : E.get 51 = (.one (.ptr 9 4)) := (hA_.get 51 (by kernel_rfl)).trans (by kernel_rfl); have b9 : E.box 9 = some (64, [cI (v.getD i default).f0, cI (v.getD i default).f1, cS (v.getD i default).f2, cI (v.getD i default).f3, cS (v.getD i default).f4]) := (hA_.box 9 (by kernel_rfl)).trans (by kernel_rfl); exact OpStep.plain rfl (Step.load_box (c := cS (v.getD i default).f4) (t := 52) rfl rfl (by exact lt_ok rfl) (by kernel_rfl) (show Env.ev E (.tmp 51) = _ from g51.trans rfl) b9 rfl)) ?_
      refine .cons (fun E hA_ => by have g52 : E.get 52 = (pS (v.getD i default).f4) := (hA_.get 52 (by kernel_rfl)).trans (by kernel_rfl); exact OpStep.plain rfl (Step.call (f := 79) (xs := [.tmp 52]) (ps := [(pS (v.getD i default).f4)]) false (g := .func 79) (t := 53) rfl rfl (by exact lt_ok rfl) rfl (by kernel_rfl) (evs_cons (show Env.ev E (.tmp 52) = _ from g52.trans rfl) (rfl)) (.cons (.one (.d _)) .nil) (ok_spec_l01Copy (v.getD i default).f4 (by first | omega | assumption | (simp only [List.length_take, List.length_drop]; omega))) (.inr rfl) (freshRows_of _ _ (fun x_ hx_ => hA_.fresh x_ (by exact hx_))) (by simp) rfl)) ?_
      refine .cons (fun E hA_ => by have g53 : E.get 53 = (.one (.row 1053 [])) := (hA_.get 53 (by kernel_rfl)).trans (by kernel_rfl); have q1053 : E.row 1053 = some (5, (.ints .u8 (v.getD i default).f4)) := (hA_.row 1053 (by kernel_rfl)).trans (by kernel_rfl); exact OpStep.plain rfl (Step.litX (e := 22) (z := 1) (by_ := 24) (xs := [.tmp 53]) (pss := [[.row 1053 []]]) (es := [(.ints .u8 (v.getD i default).f4)]) (ss := [1053]) (d := (.bss [(v.getD i default).f4])) (t := 54) rfl rfl (by exact lt_ok rfl) (by kernel_rfl) rfl rfl (.cons (by exact (congrArg PV.flat (show Env.ev E (.tmp 53) = _ from g53.trans rfl)).trans rfl) .nil) (by simp) (le_ok rfl) (le_ok rfl) (by simp only [List.all_cons, List.all_nil, List.flatten_cons, List.flatten_nil, List.append_nil, List.cons_append, List.nil_append, Env.fine, q1053]; rfl) (.row q1053 (by simp) .nil) (hA_.fresh _ (List.mem_singleton.2 rfl)) (by simp) (by simp) rfl trivial rfl rfl)) ?_
      refine .cons (fun E hA_ => by have g50 : E.get 50 = (.one (.row 100704 [])) := (hA_.get 50 (by kernel_rfl)).trans (by kernel_rfl); have g54 : E.get 54 = (.one (.row 54 [])) := (hA_.get 54 (by kernel_rfl)).trans (by kernel_rfl); have q54 : E.row 54 = some (22, (.bss [(v.getD i default).f4])) := (hA_.row 54 (by kernel_rfl)).trans (by kernel_rfl); have q100704 : E.row 100704 = some (22, (.bss (voteTags (v.take i)))) := (hA_.row 100704 (by kernel_rfl)).trans (by kernel_rfl); exact OpStep.plain rfl (Step.appendX (e := 22) (z := 1) (by_ := 24) (d := (.bss (voteTags (v.take i)))) (dy := (.bss [(v.getD i default).f4])) (d' := (.bss ((voteTags (v.take i)) ++ [(v.getD i default).f4]))) (ss := [54]) 500055 (t := 55) rfl rfl (by exact lt_ok rfl) (by kernel_rfl) (show Env.ev E (.tmp 50) = _ from g50.trans rfl) q100704 rfl (lt_ok rfl) (show Env.ev E (.tmp 54) = _ from g54.trans rfl) (.move q54) (by simp) rfl (by simp only [D.size, List.length_map]; first | omega | (simp only [List.length_append, List.length_cons, List.length_nil]; omega) | (simp; omega) | (simp only [List.length_append] at *; omega)) (by simp only [D.size, List.length_map]; first | omega | (simp only [List.length_append, List.length_cons, List.length_nil]; omega) | (simp; omega) | (simp only [List.length_append] at *; omega)) (by simp) (hA_.fresh _ (List.mem_singleton.2 rfl)) (by simp) (by simp))) ?_
      refine .cons (fun E hA_ => by have g7 : E.get 7 = (.one (.ptr 7 0)) := (hA_.get 7 (by kernel_rfl)).trans (by kernel_rfl); exact OpStep.plain rfl (Step.fa (off := 4) (n := 1) (one := true) 0 56 (show Env.ev E (.tmp 7) = _ from g7.trans rfl))) ?_
      refine .cons (fun E hA_ => by have g55 : E.get 55 = (.one (.row 500055 [])) := (hA_.get 55 (by kernel_rfl)).trans (by kernel_rfl); have g56 : E.get 56 = (.one (.ptr 7 4)) := (hA_.get 56 (by kernel_rfl)).trans (by kernel_rfl); have q500055 : E.row 500055 = some (22, (.bss ((voteTags (v.take i)) ++ [(v.getD i default).f4]))) := (hA_.row 500055 (by kernel_rfl)).trans (by kernel_rfl); have b7 : E.box 7 = some (29, [cI (v.getD 0 default).f0, cI (v.getD 0 default).f1, .row 1036 [], .nil, .row 100704 []]) := (hA_.box 7 (by kernel_rfl)).trans (by kernel_rfl); exact OpStep.plain rfl (Step.store_box (n := 1) (p := (.one (.row 500055 []))) (qs := [.row 500055 []]) (ps' := [cI (v.getD 0 default).f0, cI (v.getD 0 default).f1, .row 1036 [], .nil, .row 500055 []]) rfl rfl (by kernel_rfl) (show Env.ev E (.tmp 56) = _ from g56.trans rfl) b7 (show Env.ev E (.tmp 55) = _ from g55.trans rfl) rfl rfl (by simp only [List.all_cons, List.all_nil, List.flatten_cons, List.flatten_nil, List.append_nil, List.cons_append, List.nil_append, Env.fine, q500055]; rfl) (le_ok rfl) rfl)) ?_
      exact .nil _ _
     refine TL.weaken (E' := { tm := [(1, (.one (.d (.sl 5 (v.map SVote.cells))))), (2, (.one (.ptr 2 0))), (4, (.one (.ptr 4 0))), (5, (pB false)), (7, (.one (.ptr 7 0))), (38, (.one (.d (.sl 5 (v.map SVote.cells))))), (39, (pI (v.length : Int))), (40, (pI (i : Int))), (6, (.one (.row 23 []))), (41, (pB (decide ((i : Int) < (v.length : Int))))), (42, (.one (.eptr (.sl 5 (v.map SVote.cells)) i 0))), (43, (.agg [cI (v.getD i default).f0, cI (v.getD i default).f1, cS (v.getD i default).f2, cI (v.getD i default).f3, cS (v.getD i default).f4])), (9, (.one (.ptr 9 0))), (45, (.one (.ptr 9 3))), (46, (pI (v.getD i default).f3)), (47, (.one (.row 47 []))), (48, (.one (.row 23 []))), (49, (.one (.ptr 7 4))), (51, (.one (.ptr 9 4))), (52, (pS (v.getD i default).f4)), (55, (.one (.row 500055 []))), (56, (.one (.ptr 7 4)))], rows := [(23, (3, (.ints .i64 ((voteWhos (v.take i)) ++ [(v.getD i default).f3])))), (1036, (5, (.ints .u8 (v.getD 0 default).f2))), (47, (3, (.ints .i64 [(v.getD i default).f3]))), (500055, (22, (.bss ((voteTags (v.take i)) ++ [(v.getD i default).f4]))))], boxes := [(2, (44, [cI l.f0, cI l.f1, cI l.f2, cI l.f3, cI l.f4])), (4, (29, [cI 0, cI 0, .nil, .nil, .nil])), (7, (29, [cI (v.getD 0 default).f0, cI (v.getD 0 default).f1, .row 1036 [], .nil, .row 500055 []])), (9, (64, [cI (v.getD i default).f0, cI (v.getD i default).f1, cS (v.getD i default).f2, cI (v.getD i default).f3, cS (v.getD i default).f4]))] }) (Env.le_mk ⟨by kernel_rfl, by kernel_rfl, by kernel_rfl, by kernel_rfl, by kernel_rfl, by kernel_rfl, by kernel_rfl, by kernel_rfl, by kernel_rfl, by kernel_rfl, by kernel_rfl, by kernel_rfl, by kernel_rfl, by kernel_rfl, by kernel_rfl, by kernel_rfl, by kernel_rfl, by kernel_rfl, by kernel_rfl, by kernel_rfl, by kernel_rfl, by kernel_rfl, trivial⟩ ⟨by kernel_rfl, by kernel_rfl, by kernel_rfl, by kernel_rfl, trivial⟩ ⟨by kernel_rfl, by kernel_rfl, by kernel_rfl, by kernel_rfl, trivial⟩) ?_
     refine TL.ren 500055 100704 rfl (by simp) ?_
     refine TL.nil ?_
     refine T.region ?_
     refine TL.c (Step.bin (r := .int .i64 ((i : Int) + 1)) rfl rfl (lt_ok rfl) rfl rfl (Bin.add (a := (i : Int)) (b := 1) (by first | exact wrap_ok (by first | omega | (simp; omega)) (by first | omega | (simp; omega)) | rfl))) ?_
     refine TL.mv (pI ((i : Int) + 1)) ?_
     refine TL.nil ?_
     refine ⟨i + 1, by omega, by first | omega | (dsimp only; omega), Env.le_mk ⟨rfl, rfl, rfl, rfl, rfl, rfl, rfl, ?_, rfl, trivial⟩ ⟨?_, rfl, ?_, trivial⟩ ⟨rfl, rfl, rfl, trivial⟩⟩ <;> (first | (refine congrArg (fun x => some (_, D.ints .i64 x)) ?_; first | exact (voteWhos_step (by omega)).symm | rfl) | (refine congrArg (fun x => some (_, D.bss x)) ?_; first | exact (voteTags_step (by omega)).symm | rfl) | rfl | (refine congrArg (fun n => PV.one (.d (.int .i64 n))) ?_; first | rfl | omega | (simp; done)))
    ·
     replace h4 := of_decide_eq_false h4
     refine T.exit ?_
     refine T.weaken (E' := { tm := [(1, (.one (.d (.sl 5 (v.map SVote.cells))))), (2, (.one (.ptr 2 0))), (4, (.one (.ptr 4 0))), (5, (pB false)), (7, (.one (.ptr 7 0))), (38, (.one (.d (.sl 5 (v.map SVote.cells))))), (39, (pI (v.length : Int))), (40, (pI (i : Int))), (6, (.one (.row 23 []))), (41, (pB (decide ((i : Int) < (v.length : Int)))))], rows := [(23, (3, (.ints .i64 (voteWhos v)))), (1036, (5, (.ints .u8 (v.getD 0 default).f2))), (100704, (22, (.bss (voteTags v))))], boxes := [(2, (44, [cI l.f0, cI l.f1, cI l.f2, cI l.f3, cI l.f4])), (4, (29, [cI 0, cI 0, .nil, .nil, .nil])), (7, (29, [cI (v.getD 0 default).f0, cI (v.getD 0 default).f1, .row 1036 [], .nil, .row 100704 []]))] }) (by refine Env.le_mk ⟨rfl, rfl, rfl, rfl, rfl, rfl, rfl, rfl, rfl, rfl, trivial⟩ ⟨?_, rfl, ?_, trivial⟩ ⟨rfl, rfl, rfl, trivial⟩ <;> ((rw [List.take_of_length_le (l := v) (i := i) (by omega)]; rfl))) ?_
     refine T.seq ?_
     refine T.region ?_
     refine TL.mv (.one (.row 23 [])) ?_
     refine TL.c (Step.fieldAddr (q := 0) (off := 0) (n := 1) (one := true) rfl rfl (lt_ok rfl) (by kernel_rfl) (Nat.succ_ne_zero _) rfl) ?_
     refine TL.c (Step.load_box (c := cI l.f0) rfl rfl (lt_ok rfl) (by kernel_rfl) rfl rfl rfl) ?_
     have nn5 := bitsOf_len (voteWhos v) l.f0
     have nn6 := bitsOf_u8 (voteWhos v) l.f0
     refine TL.c (Step.cl (xs := [.tmp 59, .tmp 61]) (ps := [(.one (.row 23 [])), (pI l.f0)]) (g := .func 88) false (.cons (.one (.row rfl rfl rfl rfl)) (.cons (.one (.d _)) .nil)) (ok_spec_BitsOf (voteWhos v) l.f0 (by first | omega | assumption | (simp only [List.length_append] at *; omega)))) ?_
     refine TL.mv (.tup [(false, [.row 1062 []]), (false, [.d (.bool (bitsOfOk (voteWhos v) l.f0))])]) ?_
     refine TL.c (Step.extract (p := (.one (.row 1062 []))) rfl rfl (lt_ok rfl) rfl rfl) ?_
     refine TL.c (Step.extract (p := (pB (bitsOfOk (voteWhos v) l.f0))) rfl rfl (lt_ok rfl) rfl rfl) ?_
     refine TL.as (.one (.row 1062 [])) ?_
     refine TL.as (pB (bitsOfOk (voteWhos v) l.f0)) ?_
     refine TL.nil ?_
     refine T.seq ?_
     refine T.region ?_
     refine TL.mv (.one (.row 1062 [])) ?_
     refine TL.c (Step.fieldAddr (q := 0) (off := 3) (n := 1) (one := true) rfl rfl (lt_ok rfl) (by kernel_rfl) (Nat.succ_ne_zero _) rfl) ?_
     refine TL.c (Step.store_box (n := 1) (p := (.one (.row 1062 []))) (qs := [.row 1062 []]) (ps' := [cI (v.getD 0 default).f0, cI (v.getD 0 default).f1, .row 1036 [], .row 1062 [], .row 100704 []]) rfl rfl (by kernel_rfl) rfl rfl rfl rfl rfl rfl (le_ok rfl) rfl) ?_
     refine TL.nil ?_
     refine T.seq ?_
     refine T.region ?_
     refine TL.c (Step.load_box_agg (n := 5) (qs := [cI (v.getD 0 default).f0, cI (v.getD 0 default).f1, .row 1036 [], .row 1062 [], .row 100704 []]) rfl rfl (lt_ok rfl) (by kernel_rfl) rfl rfl rfl rfl) ?_
     refine TL.c (Step.cl (xs := [.tmp 67]) (ps := [(.agg [cI (v.getD 0 default).f0, cI (v.getD 0 default).f1, .row 1036 [], .row 1062 [], .row 100704 []])]) (g := .func 16) false (.cons (.agg (.cons (.d _) (.cons (.d _) (.cons (.row rfl rfl rfl rfl) (.cons (.row rfl rfl rfl rfl) (.cons (.row rfl rfl rfl rfl) .nil)))))) .nil) (ok_spec_QcVotes (⟨(v.getD 0 default).f0, (v.getD 0 default).f1, (v.getD 0 default).f2, bitsOf (voteWhos v) l.f0, voteTags v⟩ : SQc) (by first | assumption | exact qcOf_ok (l := l) h0_) (by first | assumption | exact qcOf_sm (l := l) h1_ h2_))) ?_
     refine TL.as (.one (.row 1068 [])) ?_
     refine TL.nil ?_
     refine T.seq ?_
     refine T.seq ?_
     refine T.region ?_
     refine TL.mv (pB (bitsOfOk (voteWhos v) l.f0)) ?_
     refine TL.freeze (r := 1068) rfl (fun _ h => h) ?_
     refine TL.c (Step.not (b := (bitsOfOk (voteWhos v) l.f0)) rfl rfl (lt_ok rfl) rfl) ?_
     refine TL.mv (pB (!(bitsOfOk (voteWhos v) l.f0))) ?_
     rcases Bool.eq_false_or_eq_true (!(bitsOfOk (voteWhos v) l.f0)) with hb7 | hb7
     ·
      refine TL.known 71 hb7 rfl ?_
      have hb7' := hb7
      replace hb7' : (bitsOfOk (voteWhos v) l.f0) = false := by simpa only [Bool.not_eq_true', Bool.not_eq_false'] using hb7'
      refine TL.gf 71 ?_
      refine TL.gf 71 ?_
      refine TL.gf 71 ?_
      refine TL.gf 71 ?_
      refine TL.pk true (pB true) ?_
      refine TL.mv (pB true) ?_
      refine TL.gf 77 ?_
      refine TL.gf 77 ?_
      refine TL.gf 77 ?_
      refine TL.gf 77 ?_
      refine TL.gf 77 ?_
      refine TL.pk true (pB true) ?_
      refine TL.nil ?_
      refine T.cond (b := true) rfl (fun h8_ => ?_) (fun h8_ => absurd h8_ (by simp))
      refine T.seq ?_
      refine T.region ?_
      refine TL.c (Step.build (zs := [.int .i64 0, .int .i64 0, .slice none 0 0, .slice none 0 0, .slice none 0 0]) (places := [(0, 1), (1, 1), (2, 1), (3, 1), (4, 1)]) (pss := []) (ps' := [cI 0, cI 0, .nil, .nil, .nil]) rfl rfl (lt_ok rfl) (by kernel_rfl) .nil rfl rfl rfl) ?_
      refine TL.c (Step.store_box (n := 5) (p := (.agg [cI 0, cI 0, .nil, .nil, .nil])) (qs := [cI 0, cI 0, .nil, .nil, .nil]) (ps' := [cI 0, cI 0, .nil, .nil, .nil]) rfl rfl (by kernel_rfl) rfl rfl rfl rfl rfl rfl (le_ok rfl) rfl) ?_
      refine TL.as (pB false) ?_
      refine TL.nil ?_
      refine T.ret ?_
      refine ⟨[(true, [cI 0, cI 0, .nil, .nil, .nil]), (false, [.d (.bool false)])], (.cons rfl (.cons rfl .nil)), rfl, [], (RetC.rd' ?_ (RetC.rd' ?_ (RetC.nilown' rfl ?_ (by first | exact trivial | exact D.wf_nil _) (RetC.nilown' rfl ?_ (by first | exact trivial | exact D.wf_nil _) (RetC.nilown' rfl ?_ (by first | exact trivial | exact D.wf_nil _) (RetC.rd' ?_ .nil))))))⟩ <;> (first | (congr 1; first | (rw [qcFrom_yes (qcFromOk_iff.2 ⟨by omega, by assumption, (show v = qcVotes (⟨(v.getD 0 default).f0, (v.getD 0 default).f1, (v.getD 0 default).f2, bitsOf (voteWhos v) l.f0, voteTags v⟩ : SQc) from take_all hx2 (by omega) hx3).symm⟩)]; done) | (rw [qcFrom_yes (qcFromOk_iff.2 ⟨by omega, by assumption, (show v = qcVotes (⟨(v.getD 0 default).f0, (v.getD 0 default).f1, (v.getD 0 default).f2, bitsOf (voteWhos v) l.f0, voteTags v⟩ : SQc) from take_all hx2 (by omega) hx3).symm⟩)]; rfl) | (rw [qcFrom_no (Bool.eq_false_iff.2 fun hq_ => by obtain ⟨q1_, q2_, q3_⟩ := qcFromOk_iff.1 hq_; have e_ : qcVotes (⟨(v.getD 0 default).f0, (v.getD 0 default).f1, (v.getD 0 default).f2, bitsOf (voteWhos v) l.f0, voteTags v⟩ : SQc) = v := q3_; have e2_ := congrArg List.length e_; first | omega | exact bool_ne q2_ (by assumption) | exact bool_ne (qcOk_lim' q2_) (by assumption) | exact bool_ne (qcOf_bits q2_) (by assumption) | exact absurd (congrArg (fun x => x.getD i default) e_) (by assumption) | exact absurd (congrArg (fun x => x.getD i default) e_.symm) (by assumption))]; rfl) | (symm; exact (qcFromOk_iff.2 ⟨by omega, by assumption, (show v = qcVotes (⟨(v.getD 0 default).f0, (v.getD 0 default).f1, (v.getD 0 default).f2, bitsOf (voteWhos v) l.f0, voteTags v⟩ : SQc) from take_all hx2 (by omega) hx3).symm⟩)) | (symm; exact (Bool.eq_false_iff.2 fun hq_ => by obtain ⟨q1_, q2_, q3_⟩ := qcFromOk_iff.1 hq_; have e_ : qcVotes (⟨(v.getD 0 default).f0, (v.getD 0 default).f1, (v.getD 0 default).f2, bitsOf (voteWhos v) l.f0, voteTags v⟩ : SQc) = v := q3_; have e2_ := congrArg List.length e_; first | omega | exact bool_ne q2_ (by assumption) | exact bool_ne (qcOk_lim' q2_) (by assumption) | exact bool_ne (qcOf_bits q2_) (by assumption) | exact absurd (congrArg (fun x => x.getD i default) e_) (by assumption) | exact absurd (congrArg (fun x => x.getD i default) e_.symm) (by assumption)))) | (simp only [D.size, List.length_map]; rw [qcFrom_no (Bool.eq_false_iff.2 fun hq_ => by obtain ⟨q1_, q2_, q3_⟩ := qcFromOk_iff.1 hq_; have e_ : qcVotes (⟨(v.getD 0 default).f0, (v.getD 0 default).f1, (v.getD 0 default).f2, bitsOf (voteWhos v) l.f0, voteTags v⟩ : SQc) = v := q3_; have e2_ := congrArg List.length e_; first | omega | exact bool_ne q2_ (by assumption) | exact bool_ne (qcOk_lim' q2_) (by assumption) | exact bool_ne (qcOf_bits q2_) (by assumption) | exact absurd (congrArg (fun x => x.getD i default) e_) (by assumption) | exact absurd (congrArg (fun x => x.getD i default) e_.symm) (by assumption))]; rfl))
     ·
      refine TL.known 71 hb7 rfl ?_
      have hb7' := hb7
      replace hb7' : (bitsOfOk (voteWhos v) l.f0) = true := by simpa only [Bool.not_eq_true', Bool.not_eq_false'] using hb7'
      refine TL.gy 71 (Step.load_box_agg (n := 5) (qs := [cI l.f0, cI l.f1, cI l.f2, cI l.f3, cI l.f4]) rfl rfl (lt_ok rfl) (by kernel_rfl) rfl rfl rfl rfl) ?_
      refine TL.gy 71 (Step.load_box_agg (n := 5) (qs := [cI (v.getD 0 default).f0, cI (v.getD 0 default).f1, .row 1036 [], .row 1062 [], .row 100704 []]) rfl rfl (lt_ok rfl) (by kernel_rfl) rfl rfl rfl rfl) ?_
      refine TL.gy 71 (Step.cl (xs := [.tmp 72, .tmp 73]) (ps := [(.agg [cI l.f0, cI l.f1, cI l.f2, cI l.f3, cI l.f4]), (.agg [cI (v.getD 0 default).f0, cI (v.getD 0 default).f1, .row 1036 [], .row 1062 [], .row 100704 []])]) (g := .func 95) false (.cons (.agg (.cons (.d _) (.cons (.d _) (.cons (.d _) (.cons (.d _) (.cons (.d _) .nil)))))) (.cons (.agg (.cons (.d _) (.cons (.d _) (.cons (.row rfl rfl rfl rfl) (.cons (.row rfl rfl rfl rfl) (.cons (.row rfl rfl rfl rfl) .nil)))))) .nil)) (ok_spec_QcOk l (⟨(v.getD 0 default).f0, (v.getD 0 default).f1, (v.getD 0 default).f2, bitsOf (voteWhos v) l.f0, voteTags v⟩ : SQc) (by first | assumption | exact qcOf_ok (l := l) h0_) (by first | assumption | exact qcOf_sm (l := l) h1_ h2_))) ?_
      refine TL.gy 71 (Step.not (b := (qcOk l (⟨(v.getD 0 default).f0, (v.getD 0 default).f1, (v.getD 0 default).f2, bitsOf (voteWhos v) l.f0, voteTags v⟩ : SQc))) rfl rfl (lt_ok rfl) rfl) ?_
      refine TL.pk false (pB (!(qcOk l (⟨(v.getD 0 default).f0, (v.getD 0 default).f1, (v.getD 0 default).f2, bitsOf (voteWhos v) l.f0, voteTags v⟩ : SQc)))) ?_
      refine TL.mv (pB (!(qcOk l (⟨(v.getD 0 default).f0, (v.getD 0 default).f1, (v.getD 0 default).f2, bitsOf (voteWhos v) l.f0, voteTags v⟩ : SQc)))) ?_
      rcases Bool.eq_false_or_eq_true (!(qcOk l (⟨(v.getD 0 default).f0, (v.getD 0 default).f1, (v.getD 0 default).f2, bitsOf (voteWhos v) l.f0, voteTags v⟩ : SQc))) with hb9 | hb9
      ·
       refine TL.known 77 hb9 rfl ?_
       have hb9' := hb9
       replace hb9' : (qcOk l (⟨(v.getD 0 default).f0, (v.getD 0 default).f1, (v.getD 0 default).f2, bitsOf (voteWhos v) l.f0, voteTags v⟩ : SQc)) = false := by simpa only [Bool.not_eq_true', Bool.not_eq_false'] using hb9'
       refine TL.gf 77 ?_
       refine TL.gf 77 ?_
       refine TL.gf 77 ?_
       refine TL.gf 77 ?_
       refine TL.gf 77 ?_
       refine TL.pk true (pB true) ?_
       refine TL.nil ?_
       refine T.cond (b := true) rfl (fun h10_ => ?_) (fun h10_ => absurd h10_ (by simp))
       refine T.seq ?_
       refine T.region ?_
       refine TL.c (Step.build (zs := [.int .i64 0, .int .i64 0, .slice none 0 0, .slice none 0 0, .slice none 0 0]) (places := [(0, 1), (1, 1), (2, 1), (3, 1), (4, 1)]) (pss := []) (ps' := [cI 0, cI 0, .nil, .nil, .nil]) rfl rfl (lt_ok rfl) (by kernel_rfl) .nil rfl rfl rfl) ?_
       refine TL.c (Step.store_box (n := 5) (p := (.agg [cI 0, cI 0, .nil, .nil, .nil])) (qs := [cI 0, cI 0, .nil, .nil, .nil]) (ps' := [cI 0, cI 0, .nil, .nil, .nil]) rfl rfl (by kernel_rfl) rfl rfl rfl rfl rfl rfl (le_ok rfl) rfl) ?_
       refine TL.as (pB false) ?_
       refine TL.nil ?_
       refine T.ret ?_
       refine ⟨[(true, [cI 0, cI 0, .nil, .nil, .nil]), (false, [.d (.bool false)])], (.cons rfl (.cons rfl .nil)), rfl, [], (RetC.rd' ?_ (RetC.rd' ?_ (RetC.nilown' rfl ?_ (by first | exact trivial | exact D.wf_nil _) (RetC.nilown' rfl ?_ (by first | exact trivial | exact D.wf_nil _) (RetC.nilown' rfl ?_ (by first | exact trivial | exact D.wf_nil _) (RetC.rd' ?_ .nil))))))⟩ <;> (first | (congr 1; first | (rw [qcFrom_yes (qcFromOk_iff.2 ⟨by omega, by assumption, (show v = qcVotes (⟨(v.getD 0 default).f0, (v.getD 0 default).f1, (v.getD 0 default).f2, bitsOf (voteWhos v) l.f0, voteTags v⟩ : SQc) from take_all hx2 (by omega) hx3).symm⟩)]; done) | (rw [qcFrom_yes (qcFromOk_iff.2 ⟨by omega, by assumption, (show v = qcVotes (⟨(v.getD 0 default).f0, (v.getD 0 default).f1, (v.getD 0 default).f2, bitsOf (voteWhos v) l.f0, voteTags v⟩ : SQc) from take_all hx2 (by omega) hx3).symm⟩)]; rfl) | (rw [qcFrom_no (Bool.eq_false_iff.2 fun hq_ => by obtain ⟨q1_, q2_, q3_⟩ := qcFromOk_iff.1 hq_; have e_ : qcVotes (⟨(v.getD 0 default).f0, (v.getD 0 default).f1, (v.getD 0 default).f2, bitsOf (voteWhos v) l.f0, voteTags v⟩ : SQc) = v := q3_; have e2_ := congrArg List.length e_; first | omega | exact bool_ne q2_ (by assumption) | exact bool_ne (qcOk_lim' q2_) (by assumption) | exact bool_ne (qcOf_bits q2_) (by assumption) | exact absurd (congrArg (fun x => x.getD i default) e_) (by assumption) | exact absurd (congrArg (fun x => x.getD i default) e_.symm) (by assumption))]; rfl) | (symm; exact (qcFromOk_iff.2 ⟨by omega, by assumption, (show v = qcVotes (⟨(v.getD 0 default).f0, (v.getD 0 default).f1, (v.getD 0 default).f2, bitsOf (voteWhos v) l.f0, voteTags v⟩ : SQc) from take_all hx2 (by omega) hx3).symm⟩)) | (symm; exact (Bool.eq_false_iff.2 fun hq_ => by obtain ⟨q1_, q2_, q3_⟩ := qcFromOk_iff.1 hq_; have e_ : qcVotes (⟨(v.getD 0 default).f0, (v.getD 0 default).f1, (v.getD 0 default).f2, bitsOf (voteWhos v) l.f0, voteTags v⟩ : SQc) = v := q3_; have e2_ := congrArg List.length e_; first | omega | exact bool_ne q2_ (by assumption) | exact bool_ne (qcOk_lim' q2_) (by assumption) | exact bool_ne (qcOf_bits q2_) (by assumption) | exact absurd (congrArg (fun x => x.getD i default) e_) (by assumption) | exact absurd (congrArg (fun x => x.getD i default) e_.symm) (by assumption)))) | (simp only [D.size, List.length_map]; rw [qcFrom_no (Bool.eq_false_iff.2 fun hq_ => by obtain ⟨q1_, q2_, q3_⟩ := qcFromOk_iff.1 hq_; have e_ : qcVotes (⟨(v.getD 0 default).f0, (v.getD 0 default).f1, (v.getD 0 default).f2, bitsOf (voteWhos v) l.f0, voteTags v⟩ : SQc) = v := q3_; have e2_ := congrArg List.length e_; first | omega | exact bool_ne q2_ (by assumption) | exact bool_ne (qcOk_lim' q2_) (by assumption) | exact bool_ne (qcOf_bits q2_) (by assumption) | exact absurd (congrArg (fun x => x.getD i default) e_) (by assumption) | exact absurd (congrArg (fun x => x.getD i default) e_.symm) (by assumption))]; rfl))
      ·
       refine TL.known 77 hb9 rfl ?_
       have hb9' := hb9
       replace hb9' : (qcOk l (⟨(v.getD 0 default).f0, (v.getD 0 default).f1, (v.getD 0 default).f2, bitsOf (voteWhos v) l.f0, voteTags v⟩ : SQc)) = true := by simpa only [Bool.not_eq_true', Bool.not_eq_false'] using hb9'
       refine TL.gm 77 (.one (.d (.sl 5 ((qcVotes (⟨(v.getD 0 default).f0, (v.getD 0 default).f1, (v.getD 0 default).f2, bitsOf (voteWhos v) l.f0, voteTags v⟩ : SQc)).map SVote.cells)))) ?_
       refine TL.gy 77 (Step.len' (e := 64) (z := 5) (d := (.sl 5 ((qcVotes (⟨(v.getD 0 default).f0, (v.getD 0 default).f1, (v.getD 0 default).f2, bitsOf (voteWhos v) l.f0, voteTags v⟩ : SQc)).map SVote.cells))) (n := (qcVotes (⟨(v.getD 0 default).f0, (v.getD 0 default).f1, (v.getD 0 default).f2, bitsOf (voteWhos v) l.f0, voteTags v⟩ : SQc)).length) rfl rfl (lt_ok rfl) (by kernel_rfl) rfl rfl (by simp [D.size])) ?_
       refine TL.gm 77 (.one (.d (.sl 5 (v.map SVote.cells)))) ?_
       refine TL.gy 77 (Step.len' (e := 64) (z := 5) (d := (.sl 5 (v.map SVote.cells))) (n := v.length) rfl rfl (lt_ok rfl) (by kernel_rfl) rfl rfl (by simp [D.size])) ?_
       refine TL.gy 77 (Step.bin rfl rfl (lt_ok rfl) rfl rfl (Bin.neq (k := .i64) (a := ((qcVotes (⟨(v.getD 0 default).f0, (v.getD 0 default).f1, (v.getD 0 default).f2, bitsOf (voteWhos v) l.f0, voteTags v⟩ : SQc)).length : Int)) (b := (v.length : Int)))) ?_
       refine TL.pk false (pB (decide (((qcVotes (⟨(v.getD 0 default).f0, (v.getD 0 default).f1, (v.getD 0 default).f2, bitsOf (voteWhos v) l.f0, voteTags v⟩ : SQc)).length : Int) ≠ (v.length : Int)))) ?_
       refine TL.nil ?_
       refine T.cond (b := decide (((qcVotes (⟨(v.getD 0 default).f0, (v.getD 0 default).f1, (v.getD 0 default).f2, bitsOf (voteWhos v) l.f0, voteTags v⟩ : SQc)).length : Int) ≠ (v.length : Int))) rfl (fun h11 => ?_) (fun h11 => ?_)
       ·
        replace h11 := of_decide_eq_true h11
        refine T.seq ?_
        refine T.region ?_
        refine TL.c (Step.build (zs := [.int .i64 0, .int .i64 0, .slice none 0 0, .slice none 0 0, .slice none 0 0]) (places := [(0, 1), (1, 1), (2, 1), (3, 1), (4, 1)]) (pss := []) (ps' := [cI 0, cI 0, .nil, .nil, .nil]) rfl rfl (lt_ok rfl) (by kernel_rfl) .nil rfl rfl rfl) ?_
        refine TL.c (Step.store_box (n := 5) (p := (.agg [cI 0, cI 0, .nil, .nil, .nil])) (qs := [cI 0, cI 0, .nil, .nil, .nil]) (ps' := [cI 0, cI 0, .nil, .nil, .nil]) rfl rfl (by kernel_rfl) rfl rfl rfl rfl rfl rfl (le_ok rfl) rfl) ?_
        refine TL.as (pB false) ?_
        refine TL.nil ?_
        refine T.ret ?_
        refine ⟨[(true, [cI 0, cI 0, .nil, .nil, .nil]), (false, [.d (.bool false)])], (.cons rfl (.cons rfl .nil)), rfl, [], (RetC.rd' ?_ (RetC.rd' ?_ (RetC.nilown' rfl ?_ (by first | exact trivial | exact D.wf_nil _) (RetC.nilown' rfl ?_ (by first | exact trivial | exact D.wf_nil _) (RetC.nilown' rfl ?_ (by first | exact trivial | exact D.wf_nil _) (RetC.rd' ?_ .nil))))))⟩ <;> (first | (congr 1; first | (rw [qcFrom_yes (qcFromOk_iff.2 ⟨by omega, by assumption, (show v = qcVotes (⟨(v.getD 0 default).f0, (v.getD 0 default).f1, (v.getD 0 default).f2, bitsOf (voteWhos v) l.f0, voteTags v⟩ : SQc) from take_all hx2 (by omega) hx3).symm⟩)]; done) | (rw [qcFrom_yes (qcFromOk_iff.2 ⟨by omega, by assumption, (show v = qcVotes (⟨(v.getD 0 default).f0, (v.getD 0 default).f1, (v.getD 0 default).f2, bitsOf (voteWhos v) l.f0, voteTags v⟩ : SQc) from take_all hx2 (by omega) hx3).symm⟩)]; rfl) | (rw [qcFrom_no (Bool.eq_false_iff.2 fun hq_ => by obtain ⟨q1_, q2_, q3_⟩ := qcFromOk_iff.1 hq_; have e_ : qcVotes (⟨(v.getD 0 default).f0, (v.getD 0 default).f1, (v.getD 0 default).f2, bitsOf (voteWhos v) l.f0, voteTags v⟩ : SQc) = v := q3_; have e2_ := congrArg List.length e_; first | omega | exact bool_ne q2_ (by assumption) | exact bool_ne (qcOk_lim' q2_) (by assumption) | exact bool_ne (qcOf_bits q2_) (by assumption) | exact absurd (congrArg (fun x => x.getD i default) e_) (by assumption) | exact absurd (congrArg (fun x => x.getD i default) e_.symm) (by assumption))]; rfl) | (symm; exact (qcFromOk_iff.2 ⟨by omega, by assumption, (show v = qcVotes (⟨(v.getD 0 default).f0, (v.getD 0 default).f1, (v.getD 0 default).f2, bitsOf (voteWhos v) l.f0, voteTags v⟩ : SQc) from take_all hx2 (by omega) hx3).symm⟩)) | (symm; exact (Bool.eq_false_iff.2 fun hq_ => by obtain ⟨q1_, q2_, q3_⟩ := qcFromOk_iff.1 hq_; have e_ : qcVotes (⟨(v.getD 0 default).f0, (v.getD 0 default).f1, (v.getD 0 default).f2, bitsOf (voteWhos v) l.f0, voteTags v⟩ : SQc) = v := q3_; have e2_ := congrArg List.length e_; first | omega | exact bool_ne q2_ (by assumption) | exact bool_ne (qcOk_lim' q2_) (by assumption) | exact bool_ne (qcOf_bits q2_) (by assumption) | exact absurd (congrArg (fun x => x.getD i default) e_) (by assumption) | exact absurd (congrArg (fun x => x.getD i default) e_.symm) (by assumption)))) | (simp only [D.size, List.length_map]; rw [qcFrom_no (Bool.eq_false_iff.2 fun hq_ => by obtain ⟨q1_, q2_, q3_⟩ := qcFromOk_iff.1 hq_; have e_ : qcVotes (⟨(v.getD 0 default).f0, (v.getD 0 default).f1, (v.getD 0 default).f2, bitsOf (voteWhos v) l.f0, voteTags v⟩ : SQc) = v := q3_; have e2_ := congrArg List.length e_; first | omega | exact bool_ne q2_ (by assumption) | exact bool_ne (qcOk_lim' q2_) (by assumption) | exact bool_ne (qcOf_bits q2_) (by assumption) | exact absurd (congrArg (fun x => x.getD i default) e_) (by assumption) | exact absurd (congrArg (fun x => x.getD i default) e_.symm) (by assumption))]; rfl))
       ·
        replace h11 := of_decide_eq_false h11
        refine T.skip ?_
        refine T.seq ?_
        refine T.seq ?_
        refine T.region ?_
        refine TL.mv (.one (.d (.sl 5 (v.map SVote.cells)))) ?_
        refine TL.c (Step.len' (e := 64) (z := 5) (d := (.sl 5 (v.map SVote.cells))) (n := v.length) rfl rfl (lt_ok rfl) (by kernel_rfl) rfl rfl (by simp [D.size])) ?_
        refine TL.mv (pI 0) ?_
        refine TL.nil ?_
        refine T.block ?_
        refine T.loop (ι := Nat) (fun xx_ => { tm := [(1, (.one (.d (.sl 5 (v.map SVote.cells))))), (4, (.one (.ptr 4 0))), (7, (.one (.ptr 7 0))), (12, (.one (.d (.sl 5 ((qcVotes (⟨(v.getD 0 default).f0, (v.getD 0 default).f1, (v.getD 0 default).f2, bitsOf (voteWhos v) l.f0, voteTags v⟩ : SQc)).map SVote.cells))))), (86, (pI (v.length : Int))), (87, (pI (xx_ : Int)))], rows := [(23, (3, (.ints .i64 (voteWhos v)))), (1036, (5, (.ints .u8 (v.getD 0 default).f2))), (100704, (22, (.bss (voteTags v)))), (1062, (5, (.ints .u8 (bitsOf (voteWhos v) l.f0))))], boxes := [(2, (44, [cI l.f0, cI l.f1, cI l.f2, cI l.f3, cI l.f4])), (4, (29, [cI 0, cI 0, .nil, .nil, .nil])), (7, (29, [cI (v.getD 0 default).f0, cI (v.getD 0 default).f1, .row 1036 [], .row 1062 [], .row 100704 []]))] }) (fun xx_ => xx_ ≤ v.length ∧ v.length = (qcVotes (⟨(v.getD 0 default).f0, (v.getD 0 default).f1, (v.getD 0 default).f2, bitsOf (voteWhos v) l.f0, voteTags v⟩ : SQc)).length ∧ v.take xx_ = (qcVotes (⟨(v.getD 0 default).f0, (v.getD 0 default).f1, (v.getD 0 default).f2, bitsOf (voteWhos v) l.f0, voteTags v⟩ : SQc)).take xx_) (fun xx_ => v.length - xx_) 0 ?_ ?_ ?_
        · refine Env.le_mk ⟨rfl, rfl, rfl, rfl, rfl, ?_, trivial⟩ ⟨rfl, rfl, rfl, rfl, trivial⟩ ⟨rfl, rfl, rfl, trivial⟩ <;> (first | rfl | (refine congrArg (fun n => PV.one (.d (.int .i64 n))) ?_; first | rfl | omega | (simp; done)))
        · (refine ⟨Nat.zero_le _, by omega, by simp⟩)
        ·
         intro i hx
         try dsimp only at hx ⊢
         obtain ⟨hx1, hx2, hx3⟩ := hx
         have hm_ : ((qcVotes (⟨(v.getD 0 default).f0, (v.getD 0 default).f1, (v.getD 0 default).f2, bitsOf (voteWhos v) l.f0, voteTags v⟩ : SQc)).map SVote.cells).length = (qcVotes (⟨(v.getD 0 default).f0, (v.getD 0 default).f1, (v.getD 0 default).f2, bitsOf (voteWhos v) l.f0, voteTags v⟩ : SQc)).length := List.length_map _
         have m0_ := fun (hi : i < v.length) => mem_getD (d := default) h0_ hi
         have m1_ := fun (hi : i < (qcVotes (⟨(v.getD 0 default).f0, (v.getD 0 default).f1, (v.getD 0 default).f2, bitsOf (voteWhos v) l.f0, voteTags v⟩ : SQc)).length) => mem_getD (d := default) (qcVotes_ok (q := (⟨(v.getD 0 default).f0, (v.getD 0 default).f1, (v.getD 0 default).f2, bitsOf (voteWhos v) l.f0, voteTags v⟩ : SQc)) (qcOf_ok (l := l) h0_) (qcOf_sm (l := l) h1_ h2_)) hi
         refine T.seq ?_
         refine T.region ?_
         refine TL.c (Step.bin rfl rfl (lt_ok rfl) rfl rfl (Bin.lss (k := .i64) (a := (i : Int)) (b := (v.length : Int)))) ?_
         refine TL.nil ?_
         refine T.seq ?_
         refine T.cond (b := decide ((i : Int) < (v.length : Int))) rfl (fun h12 => ?_) (fun h12 => ?_)
         ·
          replace h12 := of_decide_eq_true h12
          refine T.skip ?_
          refine T.seq ?_
          refine T.block ?_
          refine T.seq ?_
          refine T.region ?_
          refine TL.mv (pI (i : Int)) ?_
          refine TL.as (pI (i : Int)) ?_
          refine TL.nil ?_
          refine T.seq ?_
          refine T.drawX [{ dst := some 90, pv := (.one (.d (.sl 5 (v.map SVote.cells)))) }, { dst := some 91, pv := (pI (i : Int)) }, { dst := some 92, pv := (.one (.eptr (.sl 5 (v.map SVote.cells)) i 0)) }, { dst := some 93, pv := (.agg [cI (v.getD i default).f0, cI (v.getD i default).f1, cS (v.getD i default).f2, cI (v.getD i default).f3, cS (v.getD i default).f4]) }, { dst := some 94, pv := (.one (.d (.sl 5 ((qcVotes (⟨(v.getD 0 default).f0, (v.getD 0 default).f1, (v.getD 0 default).f2, bitsOf (voteWhos v) l.f0, voteTags v⟩ : SQc)).map SVote.cells)))) }, { dst := some 95, pv := (pI (i : Int)) }, { dst := some 96, pv := (.one (.eptr (.sl 5 ((qcVotes (⟨(v.getD 0 default).f0, (v.getD 0 default).f1, (v.getD 0 default).f2, bitsOf (voteWhos v) l.f0, voteTags v⟩ : SQc)).map SVote.cells)) i 0)) }, { dst := some 97, pv := (.agg [cI ((qcVotes (⟨(v.getD 0 default).f0, (v.getD 0 default).f1, (v.getD 0 default).f2, bitsOf (voteWhos v) l.f0, voteTags v⟩ : SQc)).getD i default).f0, cI ((qcVotes (⟨(v.getD 0 default).f0, (v.getD 0 default).f1, (v.getD 0 default).f2, bitsOf (voteWhos v) l.f0, voteTags v⟩ : SQc)).getD i default).f1, cS ((qcVotes (⟨(v.getD 0 default).f0, (v.getD 0 default).f1, (v.getD 0 default).f2, bitsOf (voteWhos v) l.f0, voteTags v⟩ : SQc)).getD i default).f2, cI ((qcVotes (⟨(v.getD 0 default).f0, (v.getD 0 default).f1, (v.getD 0 default).f2, bitsOf (voteWhos v) l.f0, voteTags v⟩ : SQc)).getD i default).f3, cS ((qcVotes (⟨(v.getD 0 default).f0, (v.getD 0 default).f1, (v.getD 0 default).f2, bitsOf (voteWhos v) l.f0, voteTags v⟩ : SQc)).getD i default).f4]) }, { dst := some 98, pv := (pB (decide ((v.getD i default) = ((qcVotes (⟨(v.getD 0 default).f0, (v.getD 0 default).f1, (v.getD 0 default).f2, bitsOf (voteWhos v) l.f0, voteTags v⟩ : SQc)).getD i default)))) }, { dst := some 99, pv := (pB (!(decide ((v.getD i default) = ((qcVotes (⟨(v.getD 0 default).f0, (v.getD 0 default).f1, (v.getD 0 default).f2, bitsOf (voteWhos v) l.f0, voteTags v⟩ : SQc)).getD i default))))) }] (by kernel_rfl) (by kernel_rfl) ?_ ?_
          ·
           refine .cons (fun E hA_ => by have g1 : E.get 1 = (.one (.d (.sl 5 (v.map SVote.cells)))) := (hA_.get 1 (by kernel_rfl)).trans (by kernel_rfl); exact OpStep.plain rfl (Step.move (p := (.one (.d (.sl 5 (v.map SVote.cells))))) (t := 90) rfl rfl (by exact lt_ok rfl) (show Env.ev E (.tmp 1) = _ from g1.trans rfl))) ?_
           refine .cons (fun E hA_ => by have g13 : E.get 13 = (pI (i : Int)) := (hA_.get 13 (by kernel_rfl)).trans (by kernel_rfl); exact OpStep.plain rfl (Step.move (p := (pI (i : Int))) (t := 91) rfl rfl (by exact lt_ok rfl) (show Env.ev E (.tmp 13) = _ from g13.trans rfl))) ?_
           refine .cons (fun E hA_ => by have g90 : E.get 90 = (.one (.d (.sl 5 (v.map SVote.cells)))) := (hA_.get 90 (by kernel_rfl)).trans (by kernel_rfl); have g91 : E.get 91 = (pI (i : Int)) := (hA_.get 91 (by kernel_rfl)).trans (by kernel_rfl); exact OpStep.plain rfl (Step.index (e := 64) (z := 5) (i := (i : Int)) (t := 92) rfl rfl (by exact lt_ok rfl) (by kernel_rfl) (show Env.ev E (.tmp 90) = _ from g90.trans rfl) rfl rfl (lt_ok rfl) (show Env.ev E (.tmp 91) = _ from g91.trans rfl) (by first | omega | (simp; omega)) (by simp only [D.size]; first | omega | (simp; omega)))) ?_
           refine .cons (fun E hA_ => by have g92 : E.get 92 = (.one (.eptr (.sl 5 (v.map SVote.cells)) i 0)) := (hA_.get 92 (by kernel_rfl)).trans (by kernel_rfl); exact OpStep.plain rfl (Step.load_agg (n := 5) (cs := [cI (v.getD i default).f0, cI (v.getD i default).f1, cS (v.getD i default).f2, cI (v.getD i default).f3, cS (v.getD i default).f4]) (t := 93) rfl rfl (by exact lt_ok rfl) (by kernel_rfl) (show Env.ev E (.tmp 92) = _ from g92.trans rfl) rfl (by simp only [List.range, List.range.loop, List.map_cons, List.map_nil]; rw [cell_map default (by first | omega | (simp; omega)), cell_map default (by first | omega | (simp; omega)), cell_map default (by first | omega | (simp; omega)), cell_map default (by first | omega | (simp; omega)), cell_map default (by first | omega | (simp; omega))]; rfl))) ?_
           refine .cons (fun E hA_ => by have g12 : E.get 12 = (.one (.d (.sl 5 ((qcVotes (⟨(v.getD 0 default).f0, (v.getD 0 default).f1, (v.getD 0 default).f2, bitsOf (voteWhos v) l.f0, voteTags v⟩ : SQc)).map SVote.cells)))) := (hA_.get 12 (by kernel_rfl)).trans (by kernel_rfl); exact OpStep.plain rfl (Step.move (p := (.one (.d (.sl 5 ((qcVotes (⟨(v.getD 0 default).f0, (v.getD 0 default).f1, (v.getD 0 default).f2, bitsOf (voteWhos v) l.f0, voteTags v⟩ : SQc)).map SVote.cells))))) (t := 94) rfl rfl (by exact lt_ok rfl) (show Env.ev E (.tmp 12) = _ from g12.trans rfl))) ?_
           refine .cons (fun E hA_ => by have g13 : E.get 13 = (pI (i : Int)) := (hA_.get 13 (by kernel_rfl)).trans (by kernel_rfl); exact OpStep.plain rfl (Step.move (p := (pI (i : Int))) (t := 95) rfl rfl (by exact lt_ok rfl) (show Env.ev E (.tmp 13) = _ from g13.trans rfl))) ?_
           refine .cons (fun E hA_ => by have g94 : E.get 94 = (.one (.d (.sl 5 ((qcVotes (⟨(v.getD 0 default).f0, (v.getD 0 default).f1, (v.getD 0 default).f2, bitsOf (voteWhos v) l.f0, voteTags v⟩ : SQc)).map SVote.cells)))) := (hA_.get 94 (by kernel_rfl)).trans (by kernel_rfl); have g95 : E.get 95 = (pI (i : Int)) := (hA_.get 95 (by kernel_rfl)).trans (by kernel_rfl); exact OpStep.plain rfl (Step.index (e := 64) (z := 5) (i := (i : Int)) (t := 96) rfl rfl (by exact lt_ok rfl) (by kernel_rfl) (show Env.ev E (.tmp 94) = _ from g94.trans rfl) rfl rfl (lt_ok rfl) (show Env.ev E (.tmp 95) = _ from g95.trans rfl) (by first | omega | (simp; omega)) (by simp only [D.size]; first | omega | (simp; omega)))) ?_
           refine .cons (fun E hA_ => by have g96 : E.get 96 = (.one (.eptr (.sl 5 ((qcVotes (⟨(v.getD 0 default).f0, (v.getD 0 default).f1, (v.getD 0 default).f2, bitsOf (voteWhos v) l.f0, voteTags v⟩ : SQc)).map SVote.cells)) i 0)) := (hA_.get 96 (by kernel_rfl)).trans (by kernel_rfl); exact OpStep.plain rfl (Step.load_agg (n := 5) (cs := [cI ((qcVotes (⟨(v.getD 0 default).f0, (v.getD 0 default).f1, (v.getD 0 default).f2, bitsOf (voteWhos v) l.f0, voteTags v⟩ : SQc)).getD i default).f0, cI ((qcVotes (⟨(v.getD 0 default).f0, (v.getD 0 default).f1, (v.getD 0 default).f2, bitsOf (voteWhos v) l.f0, voteTags v⟩ : SQc)).getD i default).f1, cS ((qcVotes (⟨(v.getD 0 default).f0, (v.getD 0 default).f1, (v.getD 0 default).f2, bitsOf (voteWhos v) l.f0, voteTags v⟩ : SQc)).getD i default).f2, cI ((qcVotes (⟨(v.getD 0 default).f0, (v.getD 0 default).f1, (v.getD 0 default).f2, bitsOf (voteWhos v) l.f0, voteTags v⟩ : SQc)).getD i default).f3, cS ((qcVotes (⟨(v.getD 0 default).f0, (v.getD 0 default).f1, (v.getD 0 default).f2, bitsOf (voteWhos v) l.f0, voteTags v⟩ : SQc)).getD i default).f4]) (t := 97) rfl rfl (by exact lt_ok rfl) (by kernel_rfl) (show Env.ev E (.tmp 96) = _ from g96.trans rfl) rfl (by simp only [List.range, List.range.loop, List.map_cons, List.map_nil]; rw [cell_map default (by first | omega | (simp; omega)), cell_map default (by first | omega | (simp; omega)), cell_map default (by first | omega | (simp; omega)), cell_map default (by first | omega | (simp; omega)), cell_map default (by first | omega | (simp; omega))]; rfl))) ?_
           refine .cons (fun E hA_ => by have g93 : E.get 93 = (.agg [cI (v.getD i default).f0, cI (v.getD i default).f1, cS (v.getD i default).f2, cI (v.getD i default).f3, cS (v.getD i default).f4]) := (hA_.get 93 (by kernel_rfl)).trans (by kernel_rfl); have g97 : E.get 97 = (.agg [cI ((qcVotes (⟨(v.getD 0 default).f0, (v.getD 0 default).f1, (v.getD 0 default).f2, bitsOf (voteWhos v) l.f0, voteTags v⟩ : SQc)).getD i default).f0, cI ((qcVotes (⟨(v.getD 0 default).f0, (v.getD 0 default).f1, (v.getD 0 default).f2, bitsOf (voteWhos v) l.f0, voteTags v⟩ : SQc)).getD i default).f1, cS ((qcVotes (⟨(v.getD 0 default).f0, (v.getD 0 default).f1, (v.getD 0 default).f2, bitsOf (voteWhos v) l.f0, voteTags v⟩ : SQc)).getD i default).f2, cI ((qcVotes (⟨(v.getD 0 default).f0, (v.getD 0 default).f1, (v.getD 0 default).f2, bitsOf (voteWhos v) l.f0, voteTags v⟩ : SQc)).getD i default).f3, cS ((qcVotes (⟨(v.getD 0 default).f0, (v.getD 0 default).f1, (v.getD 0 default).f2, bitsOf (voteWhos v) l.f0, voteTags v⟩ : SQc)).getD i default).f4]) := (hA_.get 97 (by kernel_rfl)).trans (by kernel_rfl); exact OpStep.plain rfl (Step.call (f := 96) (xs := [.tmp 93, .tmp 97]) (ps := [(.agg [cI (v.getD i default).f0, cI (v.getD i default).f1, cS (v.getD i default).f2, cI (v.getD i default).f3, cS (v.getD i default).f4]), (.agg [cI ((qcVotes (⟨(v.getD 0 default).f0, (v.getD 0 default).f1, (v.getD 0 default).f2, bitsOf (voteWhos v) l.f0, voteTags v⟩ : SQc)).getD i default).f0, cI ((qcVotes (⟨(v.getD 0 default).f0, (v.getD 0 default).f1, (v.getD 0 default).f2, bitsOf (voteWhos v) l.f0, voteTags v⟩ : SQc)).getD i default).f1, cS ((qcVotes (⟨(v.getD 0 default).f0, (v.getD 0 default).f1, (v.getD 0 default).f2, bitsOf (voteWhos v) l.f0, voteTags v⟩ : SQc)).getD i default).f2, cI ((qcVotes (⟨(v.getD 0 default).f0, (v.getD 0 default).f1, (v.getD 0 default).f2, bitsOf (voteWhos v) l.f0, voteTags v⟩ : SQc)).getD i default).f3, cS ((qcVotes (⟨(v.getD 0 default).f0, (v.getD 0 default).f1, (v.getD 0 default).f2, bitsOf (voteWhos v) l.f0, voteTags v⟩ : SQc)).getD i default).f4])]) false (g := .func 96) (t := 98) rfl rfl (by exact lt_ok rfl) rfl (by kernel_rfl) (evs_cons (show Env.ev E (.tmp 93) = _ from g93.trans rfl) (evs_cons (show Env.ev E (.tmp 97) = _ from g97.trans rfl) (rfl))) (.cons (.agg (.cons (.d _) (.cons (.d _) (.cons (.d _) (.cons (.d _) (.cons (.d _) .nil)))))) (.cons (.agg (.cons (.d _) (.cons (.d _) (.cons (.d _) (.cons (.d _) (.cons (.d _) .nil)))))) .nil)) (ok_spec_VoteSame (v.getD i default) ((qcVotes (⟨(v.getD 0 default).f0, (v.getD 0 default).f1, (v.getD 0 default).f2, bitsOf (voteWhos v) l.f0, voteTags v⟩ : SQc)).getD i default) (by first | assumption | exact mem_getD h0_ (by omega) | exact mem_getD h1_ (by omega) | exact m0_ (by omega) | exact m1_ (by omega) | exact (m0_ (by omega)).2.2 | exact (m1_ (by omega)).2.2) (by first | assumption | exact mem_getD h0_ (by omega) | exact mem_getD h1_ (by omega) | exact m0_ (by omega) | exact m1_ (by omega) | exact (m0_ (by omega)).2.2 | exact (m1_ (by omega)).2.2)) (.inr rfl) (freshRows_of _ _ (fun x_ hx_ => hA_.fresh x_ (by exact hx_))) (by simp) rfl)) ?_
           refine .cons (fun E hA_ => by have g98 : E.get 98 = (pB (decide ((v.getD i default) = ((qcVotes (⟨(v.getD 0 default).f0, (v.getD 0 default).f1, (v.getD 0 default).f2, bitsOf (voteWhos v) l.f0, voteTags v⟩ : SQc)).getD i default)))) := (hA_.get 98 (by kernel_rfl)).trans (by kernel_rfl); exact OpStep.plain rfl (Step.not (b := (decide ((v.getD i default) = ((qcVotes (⟨(v.getD 0 default).f0, (v.getD 0 default).f1, (v.getD 0 default).f2, bitsOf (voteWhos v) l.f0, voteTags v⟩ : SQc)).getD i default)))) (t := 99) rfl rfl (by exact lt_ok rfl) (show Env.ev E (.tmp 98) = _ from g98.trans rfl))) ?_
           exact .nil _ _
          refine TL.weaken (E' := { tm := [(1, (.one (.d (.sl 5 (v.map SVote.cells))))), (4, (.one (.ptr 4 0))), (7, (.one (.ptr 7 0))), (12, (.one (.d (.sl 5 ((qcVotes (⟨(v.getD 0 default).f0, (v.getD 0 default).f1, (v.getD 0 default).f2, bitsOf (voteWhos v) l.f0, voteTags v⟩ : SQc)).map SVote.cells))))), (86, (pI (v.length : Int))), (87, (pI (i : Int))), (88, (pB (decide ((i : Int) < (v.length : Int))))), (89, (pI (i : Int))), (13, (pI (i : Int))), (90, (.one (.d (.sl 5 (v.map SVote.cells))))), (91, (pI (i : Int))), (92, (.one (.eptr (.sl 5 (v.map SVote.cells)) i 0))), (93, (.agg [cI (v.getD i default).f0, cI (v.getD i default).f1, cS (v.getD i default).f2, cI (v.getD i default).f3, cS (v.getD i default).f4])), (94, (.one (.d (.sl 5 ((qcVotes (⟨(v.getD 0 default).f0, (v.getD 0 default).f1, (v.getD 0 default).f2, bitsOf (voteWhos v) l.f0, voteTags v⟩ : SQc)).map SVote.cells))))), (95, (pI (i : Int))), (96, (.one (.eptr (.sl 5 ((qcVotes (⟨(v.getD 0 default).f0, (v.getD 0 default).f1, (v.getD 0 default).f2, bitsOf (voteWhos v) l.f0, voteTags v⟩ : SQc)).map SVote.cells)) i 0))), (97, (.agg [cI ((qcVotes (⟨(v.getD 0 default).f0, (v.getD 0 default).f1, (v.getD 0 default).f2, bitsOf (voteWhos v) l.f0, voteTags v⟩ : SQc)).getD i default).f0, cI ((qcVotes (⟨(v.getD 0 default).f0, (v.getD 0 default).f1, (v.getD 0 default).f2, bitsOf (voteWhos v) l.f0, voteTags v⟩ : SQc)).getD i default).f1, cS ((qcVotes (⟨(v.getD 0 default).f0, (v.getD 0 default).f1, (v.getD 0 default).f2, bitsOf (voteWhos v) l.f0, voteTags v⟩ : SQc)).getD i default).f2, cI ((qcVotes (⟨(v.getD 0 default).f0, (v.getD 0 default).f1, (v.getD 0 default).f2, bitsOf (voteWhos v) l.f0, voteTags v⟩ : SQc)).getD i default).f3, cS ((qcVotes (⟨(v.getD 0 default).f0, (v.getD 0 default).f1, (v.getD 0 default).f2, bitsOf (voteWhos v) l.f0, voteTags v⟩ : SQc)).getD i default).f4])), (98, (pB (decide ((v.getD i default) = ((qcVotes (⟨(v.getD 0 default).f0, (v.getD 0 default).f1, (v.getD 0 default).f2, bitsOf (voteWhos v) l.f0, voteTags v⟩ : SQc)).getD i default))))), (99, (pB (!(decide ((v.getD i default) = ((qcVotes (⟨(v.getD 0 default).f0, (v.getD 0 default).f1, (v.getD 0 default).f2, bitsOf (voteWhos v) l.f0, voteTags v⟩ : SQc)).getD i default))))))], rows := [(23, (3, (.ints .i64 (voteWhos v)))), (1036, (5, (.ints .u8 (v.getD 0 default).f2))), (100704, (22, (.bss (voteTags v)))), (1062, (5, (.ints .u8 (bitsOf (voteWhos v) l.f0))))], boxes := [(2, (44, [cI l.f0, cI l.f1, cI l.f2, cI l.f3, cI l.f4])), (4, (29, [cI 0, cI 0, .nil, .nil, .nil])), (7, (29, [cI (v.getD 0 default).f0, cI (v.getD 0 default).f1, .row 1036 [], .row 1062 [], .row 100704 []]))] }) (Env.le_mk ⟨by kernel_rfl, by kernel_rfl, by kernel_rfl, by kernel_rfl, by kernel_rfl, by kernel_rfl, by kernel_rfl, by kernel_rfl, by kernel_rfl, by kernel_rfl, by kernel_rfl, by kernel_rfl, by kernel_rfl, by kernel_rfl, by kernel_rfl, by kernel_rfl, by kernel_rfl, by kernel_rfl, by kernel_rfl, trivial⟩ ⟨by kernel_rfl, by kernel_rfl, by kernel_rfl, by kernel_rfl, trivial⟩ ⟨by kernel_rfl, by kernel_rfl, by kernel_rfl, trivial⟩) ?_
          refine TL.nil ?_
          refine T.cond (b := !(decide ((v.getD i default) = ((qcVotes (⟨(v.getD 0 default).f0, (v.getD 0 default).f1, (v.getD 0 default).f2, bitsOf (voteWhos v) l.f0, voteTags v⟩ : SQc)).getD i default)))) rfl (fun h13 => ?_) (fun h13 => ?_)
          ·
           replace h13 : (decide ((v.getD i default) = ((qcVotes (⟨(v.getD 0 default).f0, (v.getD 0 default).f1, (v.getD 0 default).f2, bitsOf (voteWhos v) l.f0, voteTags v⟩ : SQc)).getD i default))) = false := by simpa only [Bool.not_eq_true', Bool.not_eq_false'] using h13
           replace h13 := of_decide_eq_false h13
           refine T.seq ?_
           refine T.region ?_
           refine TL.c (Step.build (zs := [.int .i64 0, .int .i64 0, .slice none 0 0, .slice none 0 0, .slice none 0 0]) (places := [(0, 1), (1, 1), (2, 1), (3, 1), (4, 1)]) (pss := []) (ps' := [cI 0, cI 0, .nil, .nil, .nil]) rfl rfl (lt_ok rfl) (by kernel_rfl) .nil rfl rfl rfl) ?_
           refine TL.c (Step.store_box (n := 5) (p := (.agg [cI 0, cI 0, .nil, .nil, .nil])) (qs := [cI 0, cI 0, .nil, .nil, .nil]) (ps' := [cI 0, cI 0, .nil, .nil, .nil]) rfl rfl (by kernel_rfl) rfl rfl rfl rfl rfl rfl (le_ok rfl) rfl) ?_
           refine TL.as (pB false) ?_
           refine TL.nil ?_
           refine T.ret ?_
           refine ⟨[(true, [cI 0, cI 0, .nil, .nil, .nil]), (false, [.d (.bool false)])], (.cons rfl (.cons rfl .nil)), rfl, [], (RetC.rd' ?_ (RetC.rd' ?_ (RetC.nilown' rfl ?_ (by first | exact trivial | exact D.wf_nil _) (RetC.nilown' rfl ?_ (by first | exact trivial | exact D.wf_nil _) (RetC.nilown' rfl ?_ (by first | exact trivial | exact D.wf_nil _) (RetC.rd' ?_ .nil))))))⟩ <;> (first | (congr 1; first | (rw [qcFrom_yes (qcFromOk_iff.2 ⟨by omega, by assumption, (show v = qcVotes (⟨(v.getD 0 default).f0, (v.getD 0 default).f1, (v.getD 0 default).f2, bitsOf (voteWhos v) l.f0, voteTags v⟩ : SQc) from take_all hx2 (by omega) hx3).symm⟩)]; done) | (rw [qcFrom_yes (qcFromOk_iff.2 ⟨by omega, by assumption, (show v = qcVotes (⟨(v.getD 0 default).f0, (v.getD 0 default).f1, (v.getD 0 default).f2, bitsOf (voteWhos v) l.f0, voteTags v⟩ : SQc) from take_all hx2 (by omega) hx3).symm⟩)]; rfl) | (rw [qcFrom_no (Bool.eq_false_iff.2 fun hq_ => by obtain ⟨q1_, q2_, q3_⟩ := qcFromOk_iff.1 hq_; have e_ : qcVotes (⟨(v.getD 0 default).f0, (v.getD 0 default).f1, (v.getD 0 default).f2, bitsOf (voteWhos v) l.f0, voteTags v⟩ : SQc) = v := q3_; have e2_ := congrArg List.length e_; first | omega | exact bool_ne q2_ (by assumption) | exact bool_ne (qcOk_lim' q2_) (by assumption) | exact bool_ne (qcOf_bits q2_) (by assumption) | exact absurd (congrArg (fun x => x.getD i default) e_) (by assumption) | exact absurd (congrArg (fun x => x.getD i default) e_.symm) (by assumption))]; rfl) | (symm; exact (qcFromOk_iff.2 ⟨by omega, by assumption, (show v = qcVotes (⟨(v.getD 0 default).f0, (v.getD 0 default).f1, (v.getD 0 default).f2, bitsOf (voteWhos v) l.f0, voteTags v⟩ : SQc) from take_all hx2 (by omega) hx3).symm⟩)) | (symm; exact (Bool.eq_false_iff.2 fun hq_ => by obtain ⟨q1_, q2_, q3_⟩ := qcFromOk_iff.1 hq_; have e_ : qcVotes (⟨(v.getD 0 default).f0, (v.getD 0 default).f1, (v.getD 0 default).f2, bitsOf (voteWhos v) l.f0, voteTags v⟩ : SQc) = v := q3_; have e2_ := congrArg List.length e_; first | omega | exact bool_ne q2_ (by assumption) | exact bool_ne (qcOk_lim' q2_) (by assumption) | exact bool_ne (qcOf_bits q2_) (by assumption) | exact absurd (congrArg (fun x => x.getD i default) e_) (by assumption) | exact absurd (congrArg (fun x => x.getD i default) e_.symm) (by assumption)))) | (simp only [D.size, List.length_map]; rw [qcFrom_no (Bool.eq_false_iff.2 fun hq_ => by obtain ⟨q1_, q2_, q3_⟩ := qcFromOk_iff.1 hq_; have e_ : qcVotes (⟨(v.getD 0 default).f0, (v.getD 0 default).f1, (v.getD 0 default).f2, bitsOf (voteWhos v) l.f0, voteTags v⟩ : SQc) = v := q3_; have e2_ := congrArg List.length e_; first | omega | exact bool_ne q2_ (by assumption) | exact bool_ne (qcOk_lim' q2_) (by assumption) | exact bool_ne (qcOf_bits q2_) (by assumption) | exact absurd (congrArg (fun x => x.getD i default) e_) (by assumption) | exact absurd (congrArg (fun x => x.getD i default) e_.symm) (by assumption))]; rfl))
          ·
           replace h13 : (decide ((v.getD i default) = ((qcVotes (⟨(v.getD 0 default).f0, (v.getD 0 default).f1, (v.getD 0 default).f2, bitsOf (voteWhos v) l.f0, voteTags v⟩ : SQc)).getD i default))) = true := by simpa only [Bool.not_eq_true', Bool.not_eq_false'] using h13
           replace h13 := of_decide_eq_true h13
           refine T.skip ?_
           refine T.region ?_
           refine TL.c (Step.bin (r := .int .i64 ((i : Int) + 1)) rfl rfl (lt_ok rfl) rfl rfl (Bin.add (a := (i : Int)) (b := 1) (by first | exact wrap_ok (by first | omega | (simp; omega)) (by first | omega | (simp; omega)) | rfl))) ?_
           refine TL.mv (pI ((i : Int) + 1)) ?_
           refine TL.nil ?_
           refine ⟨i + 1, by (refine ⟨by omega, hx2, take_step (d := default) hx2 (by omega) hx3 (by assumption)⟩), by first | omega | (dsimp only; omega), Env.le_mk ⟨rfl, rfl, rfl, rfl, rfl, ?_, trivial⟩ ⟨rfl, rfl, rfl, rfl, trivial⟩ ⟨rfl, rfl, rfl, trivial⟩⟩ <;> (first | rfl | (refine congrArg (fun n => PV.one (.d (.int .i64 n))) ?_; first | rfl | omega | (simp; done)))
         ·
          replace h12 := of_decide_eq_false h12
          refine T.exit ?_
          refine T.seq ?_
          refine T.region ?_
          refine TL.c (Step.load_box_agg (n := 5) (qs := [cI (v.getD 0 default).f0, cI (v.getD 0 default).f1, .row 1036 [], .row 1062 [], .row 100704 []]) rfl rfl (lt_ok rfl) (by kernel_rfl) rfl rfl rfl rfl) ?_
          refine TL.c (Step.store_box (n := 5) (p := (.agg [cI (v.getD 0 default).f0, cI (v.getD 0 default).f1, .row 1036 [], .row 1062 [], .row 100704 []])) (qs := [cI (v.getD 0 default).f0, cI (v.getD 0 default).f1, .row 1036 [], .row 1062 [], .row 100704 []]) (ps' := [cI (v.getD 0 default).f0, cI (v.getD 0 default).f1, .row 1036 [], .row 1062 [], .row 100704 []]) rfl rfl (by kernel_rfl) rfl rfl rfl rfl rfl rfl (le_ok rfl) rfl) ?_
          refine TL.as (pB true) ?_
          refine TL.nil ?_
          refine T.ret ?_
          refine ⟨[(true, [cI (v.getD 0 default).f0, cI (v.getD 0 default).f1, .row 1036 [], .row 1062 [], .row 100704 []]), (false, [.d (.bool true)])], (.cons rfl (.cons rfl .nil)), rfl, [1036, 1062, 100704], (RetC.rd' ?_ (RetC.rd' ?_ (RetC.own' rfl ?_ rfl (RetC.own' rfl ?_ rfl (RetC.own' rfl ?_ rfl (RetC.rd' ?_ .nil))))))⟩ <;> (first | (congr 1; first | (rw [qcFrom_yes (qcFromOk_iff.2 ⟨by omega, by assumption, (show v = qcVotes (⟨(v.getD 0 default).f0, (v.getD 0 default).f1, (v.getD 0 default).f2, bitsOf (voteWhos v) l.f0, voteTags v⟩ : SQc) from take_all hx2 (by omega) hx3).symm⟩)]; done) | (rw [qcFrom_yes (qcFromOk_iff.2 ⟨by omega, by assumption, (show v = qcVotes (⟨(v.getD 0 default).f0, (v.getD 0 default).f1, (v.getD 0 default).f2, bitsOf (voteWhos v) l.f0, voteTags v⟩ : SQc) from take_all hx2 (by omega) hx3).symm⟩)]; rfl) | (rw [qcFrom_no (Bool.eq_false_iff.2 fun hq_ => by obtain ⟨q1_, q2_, q3_⟩ := qcFromOk_iff.1 hq_; have e_ : qcVotes (⟨(v.getD 0 default).f0, (v.getD 0 default).f1, (v.getD 0 default).f2, bitsOf (voteWhos v) l.f0, voteTags v⟩ : SQc) = v := q3_; have e2_ := congrArg List.length e_; first | omega | exact bool_ne q2_ (by assumption) | exact bool_ne (qcOk_lim' q2_) (by assumption) | exact bool_ne (qcOf_bits q2_) (by assumption) | exact absurd (congrArg (fun x => x.getD i default) e_) (by assumption) | exact absurd (congrArg (fun x => x.getD i default) e_.symm) (by assumption))]; rfl) | (symm; exact (qcFromOk_iff.2 ⟨by omega, by assumption, (show v = qcVotes (⟨(v.getD 0 default).f0, (v.getD 0 default).f1, (v.getD 0 default).f2, bitsOf (voteWhos v) l.f0, voteTags v⟩ : SQc) from take_all hx2 (by omega) hx3).symm⟩)) | (symm; exact (Bool.eq_false_iff.2 fun hq_ => by obtain ⟨q1_, q2_, q3_⟩ := qcFromOk_iff.1 hq_; have e_ : qcVotes (⟨(v.getD 0 default).f0, (v.getD 0 default).f1, (v.getD 0 default).f2, bitsOf (voteWhos v) l.f0, voteTags v⟩ : SQc) = v := q3_; have e2_ := congrArg List.length e_; first | omega | exact bool_ne q2_ (by assumption) | exact bool_ne (qcOk_lim' q2_) (by assumption) | exact bool_ne (qcOf_bits q2_) (by assumption) | exact absurd (congrArg (fun x => x.getD i default) e_) (by assumption) | exact absurd (congrArg (fun x => x.getD i default) e_.symm) (by assumption)))) | (simp only [D.size, List.length_map]; rw [qcFrom_no (Bool.eq_false_iff.2 fun hq_ => by obtain ⟨q1_, q2_, q3_⟩ := qcFromOk_iff.1 hq_; have e_ : qcVotes (⟨(v.getD 0 default).f0, (v.getD 0 default).f1, (v.getD 0 default).f2, bitsOf (voteWhos v) l.f0, voteTags v⟩ : SQc) = v := q3_; have e2_ := congrArg List.length e_; first | omega | exact bool_ne q2_ (by assumption) | exact bool_ne (qcOk_lim' q2_) (by assumption) | exact bool_ne (qcOf_bits q2_) (by assumption) | exact absurd (congrArg (fun x => x.getD i default) e_) (by assumption) | exact absurd (congrArg (fun x => x.getD i default) e_.symm) (by assumption))]; rfl))
theorem ok_laws_toByteS (a : List Int) (h0_ : a.length ≤ 1048576) : RO Try.prog 49 [.one (.ints .u8 a)] [(false, [.own 5 (.ints .u8 a)])] := by
 refine RO.intro Try.func49 rfl 22 rfl (le_ok rfl) fun w Z => ?_
 refine T.bnd 0 0 rfl rfl fun hb_0_0 => ?_
 simp only [D.size, List.length_map] at hb_0_0
 have h0b := h0_
 refine T.seq ?_
 refine T.region ?_
 refine TL.as (.one (.nil)) ?_
 refine TL.nil ?_
 refine T.seq ?_
 refine T.region ?_
 refine TL.mv (pS a) ?_
 refine TL.c (Step.len (e := 5) (z := 1) (d := (.ints .u8 a)) rfl rfl (lt_ok rfl) (by kernel_rfl) rfl rfl) ?_
 refine TL.c (Step.make (e := 5) (z := 1) (by_ := 1) (n := (a.length : Int)) (zs := [.int .u8 0]) (zd := [.int .u8 0]) (d := (.ints .u8 (List.replicate a.length 0))) rfl rfl (lt_ok rfl) (by kernel_rfl) (lt_ok rfl) rfl (by first | omega | (simp; omega)) (by first | omega | (simp; omega)) (by first | omega | (simp; omega)) (by kernel_rfl) (.val rfl .nil) rfl (by simp) (by simp [D.flat, List.flatten_replicate_singleton]) (by simp [D.size]) rfl trivial) ?_
 refine TL.as (.one (.row 7 [])) ?_
 refine TL.nil ?_
 refine T.seq ?_
 refine T.seq ?_
 refine T.region ?_
 refine TL.as (pI 0) ?_
 refine TL.nil ?_
 refine T.block ?_
 refine T.loop (ι := Nat) (fun xx_ => { tm := [(0, (pS a)), (2, (.one (.nil))), (3, (.one (.row 7 []))), (4, (pI (xx_ : Int)))], rows := [(7, (5, (.ints .u8 (a.take xx_ ++ List.replicate (a.length - xx_) 0 : List Int))))], boxes := [] }) (fun xx_ => xx_ ≤ a.length) (fun xx_ => a.length - xx_) 0 ?_ ?_ ?_
 · refine Env.le_mk ⟨rfl, rfl, rfl, ?_, trivial⟩ ⟨?_, trivial⟩ trivial <;> (first | rfl | exact congrArg (fun x => some (5, ((.ints .u8 x) : D))) (fill_set a 0 0 i (by omega)))
 · exact Nat.zero_le _
 ·
  intro i hx
  try dsimp only at hx ⊢
  refine T.seq ?_
  refine T.seq ?_
  refine T.region ?_
  refine TL.mv (pI (i : Int)) ?_
  refine TL.mv (pS a) ?_
  refine TL.c (Step.len (e := 5) (z := 1) (d := (.ints .u8 a)) rfl rfl (lt_ok rfl) (by kernel_rfl) rfl rfl) ?_
  refine TL.c (Step.bin rfl rfl (lt_ok rfl) rfl rfl (Bin.lss (k := .i64) (a := (i : Int)) (b := (a.length : Int)))) ?_
  refine TL.nil ?_
  refine T.cond (b := decide ((i : Int) < (a.length : Int))) rfl (fun h1 => ?_) (fun h1 => ?_)
  ·
   replace h1 := of_decide_eq_true h1
   refine T.skip ?_
   refine T.seq ?_
   refine T.block ?_
   refine T.region ?_
   refine TL.mv (.one (.row 7 [])) ?_
   refine TL.mv (pI (i : Int)) ?_
   refine TL.mv (pS a) ?_
   refine TL.mv (pI (i : Int)) ?_
   refine TL.c (Step.index (e := 5) (z := 1) (i := (i : Int)) rfl rfl (lt_ok rfl) (by kernel_rfl) rfl rfl rfl (lt_ok rfl) rfl (by first | omega | (simp; omega)) (by simp only [D.size]; first | omega | (simp; omega))) ?_
   refine TL.c (Step.load (e := (.int .u8 (a.getD i 0))) rfl rfl (lt_ok rfl) (by kernel_rfl) rfl rfl) ?_
   refine TL.c (Step.index_row (e := 5) (z := 1) (i := (i : Int)) rfl rfl (lt_ok rfl) (by kernel_rfl) rfl rfl rfl rfl (lt_ok rfl) rfl (by first | omega | (simp; omega)) (by simp only [D.at_, D.cell, D.size]; first | omega | (simp; omega))) ?_
   refine TL.c (Step.store_row (n := 1) (p := (.one (.d (.int .u8 (a.getD i 0))))) (ps := [.d (.int .u8 (a.getD i 0))]) (es := [(.int .u8 (a.getD i 0))]) (ss := []) (d1 := (.ints .u8 ((a.take i ++ List.replicate (a.length - i) 0 : List Int).set i (a.getD i 0)))) (d' := (.ints .u8 ((a.take i ++ List.replicate (a.length - i) 0 : List Int).set i (a.getD i 0)))) rfl rfl (by kernel_rfl) rfl rfl rfl rfl rfl rfl (.val rfl .nil) (by simp) (Putd.one rfl trivial rfl (by simp only [D.at_, D.size, List.length_set, upTo_length]; first | omega | (simp; omega)) (lt_ok rfl)) rfl) ?_
   refine TL.nil ?_
   refine T.region ?_
   refine TL.mv (pI (i : Int)) ?_
   refine TL.c (Step.bin (r := .int .i64 ((i : Int) + 1)) rfl rfl (lt_ok rfl) rfl rfl (Bin.add (a := (i : Int)) (b := 1) (by first | exact wrap_ok (by first | omega | (simp; omega)) (by first | omega | (simp; omega)) | rfl))) ?_
   refine TL.as (pI ((i : Int) + 1)) ?_
   refine TL.nil ?_
   refine ⟨i + 1, by omega, by omega, Env.le_mk ⟨rfl, rfl, rfl, ?_, trivial⟩ ⟨?_, trivial⟩ trivial⟩ <;> (first | rfl | exact congrArg (fun x => some (5, ((.ints .u8 x) : D))) (fill_set a 0 0 i (by omega)))
  ·
   replace h1 := of_decide_eq_false h1
   refine T.exit ?_
   refine T.seq ?_
   refine T.region ?_
   refine TL.mv (.one (.row 7 [])) ?_
   refine TL.as (.one (.row 7 [])) ?_
   refine TL.nil ?_
   refine T.ret ?_
   refine ⟨[(false, [.row 7 []])], (.cons rfl .nil), rfl, [7], (RetC.own' rfl ?_ rfl .nil)⟩ <;> (first | rfl | (congr 1; rw [fill_all' _ _ _ (by omega)]) | (rw [fill_all' _ _ _ (by omega)]))
theorem ok_laws_toVote (a : SVote) (h0_ : a.sm) : RO Try.prog 41 [.agg a.cells] [(true, [.rd (.int .i64 a.f0), .rd (.int .i64 a.f1), .own 5 (.ints .u8 a.f2), .rd (.int .i64 a.f3), .own 5 (.ints .u8 a.f4)])] := by
 refine RO.intro Try.func41 rfl 22 rfl (le_ok rfl) fun w Z => ?_
 obtain ⟨s0, s1⟩ := h0_
 refine T.seq ?_
 refine T.region ?_
 refine TL.c (Step.box (p := (.agg [cI a.f0, cI a.f1, cS a.f2, cI a.f3, cS a.f4])) (ps := [cI a.f0, cI a.f1, cS a.f2, cI a.f3, cS a.f4]) rfl rfl (lt_ok rfl) rfl rfl rfl rfl rfl) ?_
 refine TL.c (Step.alloc (cs := [.int .i64 0, .int .i64 0, .slice none 0 0, .int .i64 0, .slice none 0 0]) (ps := [cI 0, cI 0, .nil, cI 0, .nil]) rfl rfl (lt_ok rfl) (by kernel_rfl) rfl rfl rfl rfl) ?_
 refine TL.nil ?_
 refine T.seq ?_
 refine T.region ?_
 refine TL.c (Step.alloc (cs := [.int .i64 0, .int .i64 0, .slice none 0 0, .int .i64 0, .slice none 0 0]) (ps := [cI 0, cI 0, .nil, cI 0, .nil]) rfl rfl (lt_ok rfl) (by kernel_rfl) rfl rfl rfl rfl) ?_
 refine TL.nil ?_
 refine T.seq ?_
 refine T.region ?_
 refine TL.c (Step.fieldAddr (q := 0) (off := 0) (n := 1) (one := true) rfl rfl (lt_ok rfl) (by kernel_rfl) (Nat.succ_ne_zero _) rfl) ?_
 refine TL.c (Step.load_box (c := cI a.f0) rfl rfl (lt_ok rfl) (by kernel_rfl) rfl rfl rfl) ?_
 refine TL.c (Step.fieldAddr (q := 0) (off := 0) (n := 1) (one := true) rfl rfl (lt_ok rfl) (by kernel_rfl) (Nat.succ_ne_zero _) rfl) ?_
 refine TL.c (Step.store_box (n := 1) (p := (pI a.f0)) (qs := [cI a.f0]) (ps' := [cI a.f0, cI 0, .nil, cI 0, .nil]) rfl rfl (by kernel_rfl) rfl rfl rfl rfl rfl rfl (le_ok rfl) rfl) ?_
 refine TL.nil ?_
 refine T.seq ?_
 refine T.region ?_
 refine TL.c (Step.fieldAddr (q := 0) (off := 1) (n := 1) (one := true) rfl rfl (lt_ok rfl) (by kernel_rfl) (Nat.succ_ne_zero _) rfl) ?_
 refine TL.c (Step.load_box (c := cI a.f1) rfl rfl (lt_ok rfl) (by kernel_rfl) rfl rfl rfl) ?_
 refine TL.c (Step.fieldAddr (q := 0) (off := 1) (n := 1) (one := true) rfl rfl (lt_ok rfl) (by kernel_rfl) (Nat.succ_ne_zero _) rfl) ?_
 refine TL.c (Step.store_box (n := 1) (p := (pI a.f1)) (qs := [cI a.f1]) (ps' := [cI a.f0, cI a.f1, .nil, cI 0, .nil]) rfl rfl (by kernel_rfl) rfl rfl rfl rfl rfl rfl (le_ok rfl) rfl) ?_
 refine TL.nil ?_
 refine T.seq ?_
 refine T.region ?_
 refine TL.c (Step.fieldAddr (q := 0) (off := 2) (n := 1) (one := true) rfl rfl (lt_ok rfl) (by kernel_rfl) (Nat.succ_ne_zero _) rfl) ?_
 refine TL.c (Step.load_box (c := cS a.f2) rfl rfl (lt_ok rfl) (by kernel_rfl) rfl rfl rfl) ?_
 refine TL.c (Step.cl (xs := [.tmp 11]) (ps := [(pS a.f2)]) (g := .func 49) false (.cons (.one (.d _)) .nil) (ok_laws_toByteS a.f2 (by first | omega | assumption | exact mem_getD h0_.2 (by omega)))) ?_
 refine TL.c (Step.fieldAddr (q := 0) (off := 2) (n := 1) (one := true) rfl rfl (lt_ok rfl) (by kernel_rfl) (Nat.succ_ne_zero _) rfl) ?_
 refine TL.c (Step.store_box (n := 1) (p := (.one (.row 1012 []))) (qs := [.row 1012 []]) (ps' := [cI a.f0, cI a.f1, .row 1012 [], cI 0, .nil]) rfl rfl (by kernel_rfl) rfl rfl rfl rfl rfl rfl (le_ok rfl) rfl) ?_
 refine TL.nil ?_
 refine T.seq ?_
 refine T.region ?_
 refine TL.c (Step.fieldAddr (q := 0) (off := 3) (n := 1) (one := true) rfl rfl (lt_ok rfl) (by kernel_rfl) (Nat.succ_ne_zero _) rfl) ?_
 refine TL.c (Step.load_box (c := cI a.f3) rfl rfl (lt_ok rfl) (by kernel_rfl) rfl rfl rfl) ?_
 refine TL.c (Step.fieldAddr (q := 0) (off := 3) (n := 1) (one := true) rfl rfl (lt_ok rfl) (by kernel_rfl) (Nat.succ_ne_zero _) rfl) ?_
 refine TL.c (Step.store_box (n := 1) (p := (pI a.f3)) (qs := [cI a.f3]) (ps' := [cI a.f0, cI a.f1, .row 1012 [], cI a.f3, .nil]) rfl rfl (by kernel_rfl) rfl rfl rfl rfl rfl rfl (le_ok rfl) rfl) ?_
 refine TL.nil ?_
 refine T.seq ?_
 refine T.region ?_
 refine TL.c (Step.fieldAddr (q := 0) (off := 4) (n := 1) (one := true) rfl rfl (lt_ok rfl) (by kernel_rfl) (Nat.succ_ne_zero _) rfl) ?_
 refine TL.c (Step.load_box (c := cS a.f4) rfl rfl (lt_ok rfl) (by kernel_rfl) rfl rfl rfl) ?_
 refine TL.c (Step.cl (xs := [.tmp 18]) (ps := [(pS a.f4)]) (g := .func 49) false (.cons (.one (.d _)) .nil) (ok_laws_toByteS a.f4 (by first | omega | assumption | exact mem_getD h0_.2 (by omega)))) ?_
 refine TL.c (Step.fieldAddr (q := 0) (off := 4) (n := 1) (one := true) rfl rfl (lt_ok rfl) (by kernel_rfl) (Nat.succ_ne_zero _) rfl) ?_
 refine TL.c (Step.store_box (n := 1) (p := (.one (.row 1019 []))) (qs := [.row 1019 []]) (ps' := [cI a.f0, cI a.f1, .row 1012 [], cI a.f3, .row 1019 []]) rfl rfl (by kernel_rfl) rfl rfl rfl rfl rfl rfl (le_ok rfl) rfl) ?_
 refine TL.nil ?_
 refine T.seq ?_
 refine T.region ?_
 refine TL.c (Step.load_box_agg (n := 5) (qs := [cI a.f0, cI a.f1, .row 1012 [], cI a.f3, .row 1019 []]) rfl rfl (lt_ok rfl) (by kernel_rfl) rfl rfl rfl rfl) ?_
 refine TL.c (Step.store_box (n := 5) (p := (.agg [cI a.f0, cI a.f1, .row 1012 [], cI a.f3, .row 1019 []])) (qs := [cI a.f0, cI a.f1, .row 1012 [], cI a.f3, .row 1019 []]) (ps' := [cI a.f0, cI a.f1, .row 1012 [], cI a.f3, .row 1019 []]) rfl rfl (by kernel_rfl) rfl rfl rfl rfl rfl rfl (le_ok rfl) rfl) ?_
 refine TL.nil ?_
 refine T.ret ?_
 refine ⟨[(true, [cI a.f0, cI a.f1, .row 1012 [], cI a.f3, .row 1019 []])], (.cons rfl .nil), rfl, [1012, 1019], (RetC.rd' rfl (RetC.rd' rfl (RetC.own' rfl ?_ rfl (RetC.rd' rfl (RetC.own' rfl ?_ rfl .nil)))))⟩ <;> (rfl)
theorem ok_laws_toVoteS (a : List SVote) (h0_ : a.length ≤ 1048576 ∧ ∀ y ∈ a, SVote.sm y) : RO Try.prog 36 [.one (.sl 5 (a.map SVote.cells))] [(false, [.own 64 (.sl 5 (a.map SVote.cells))])] := by
 refine RO.intro Try.func36 rfl 23 rfl (le_ok rfl) fun w Z => ?_
 refine T.bnd 0 0 rfl rfl fun hb_0_0 => ?_
 simp only [D.size, List.length_map] at hb_0_0
 have h0b := h0_.1
 refine T.seq ?_
 refine T.region ?_
 refine TL.as (.one (.nil)) ?_
 refine TL.nil ?_
 refine T.seq ?_
 refine T.region ?_
 refine TL.mv (.one (.d (.sl 5 (a.map SVote.cells)))) ?_
 refine TL.c (Step.len' (e := 62) (z := 5) (d := (.sl 5 (a.map SVote.cells))) (n := a.length) rfl rfl (lt_ok rfl) (by kernel_rfl) rfl rfl (by simp [D.size])) ?_
 refine TL.c (Step.make (e := 64) (z := 5) (by_ := 72) (n := (a.length : Int)) (zs := [.int .i64 0, .int .i64 0, .slice none 0 0, .int .i64 0, .slice none 0 0]) (zd := [(.int .i64 0), (.int .i64 0), (.ints .u8 []), (.int .i64 0), (.ints .u8 [])]) (d := (.sl 5 ((List.replicate a.length default).map SVote.cells))) rfl rfl (lt_ok rfl) (by kernel_rfl) (lt_ok rfl) rfl (by first | omega | (simp; omega)) (by first | omega | (simp; omega)) (by first | omega | (simp; omega)) (by kernel_rfl) (zeroB_ok _ _ (by kernel_rfl)) rfl (by simp) (by simp only [D.flat, List.map_replicate]; rfl) (by simp [D.size]) rfl (wf_map SVote.len _)) ?_
 refine TL.as (.one (.row 7 [])) ?_
 refine TL.nil ?_
 refine T.seq ?_
 refine T.seq ?_
 refine T.region ?_
 refine TL.as (pI 0) ?_
 refine TL.nil ?_
 refine T.block ?_
 refine T.loop (ι := Nat) (fun xx_ => { tm := [(0, (.one (.d (.sl 5 (a.map SVote.cells))))), (2, (.one (.nil))), (3, (.one (.row 7 []))), (4, (pI (xx_ : Int)))], rows := [(7, (64, (.sl 5 ((a.take xx_ ++ List.replicate (a.length - xx_) default : List SVote).map SVote.cells))))], boxes := [] }) (fun xx_ => xx_ ≤ a.length) (fun xx_ => a.length - xx_) 0 ?_ ?_ ?_
 · refine Env.le_mk ⟨rfl, rfl, rfl, ?_, trivial⟩ ⟨?_, trivial⟩ trivial <;> (first | rfl | exact congrArg (fun x => some (64, ((.sl 5 (x.map SVote.cells)) : D))) (fill_set a default default i (by omega)))
 · exact Nat.zero_le _
 ·
  intro i hx
  try dsimp only at hx ⊢
  refine T.seq ?_
  refine T.seq ?_
  refine T.region ?_
  refine TL.mv (pI (i : Int)) ?_
  refine TL.mv (.one (.d (.sl 5 (a.map SVote.cells)))) ?_
  refine TL.c (Step.len' (e := 62) (z := 5) (d := (.sl 5 (a.map SVote.cells))) (n := a.length) rfl rfl (lt_ok rfl) (by kernel_rfl) rfl rfl (by simp [D.size])) ?_
  refine TL.c (Step.bin rfl rfl (lt_ok rfl) rfl rfl (Bin.lss (k := .i64) (a := (i : Int)) (b := (a.length : Int)))) ?_
  refine TL.nil ?_
  refine T.cond (b := decide ((i : Int) < (a.length : Int))) rfl (fun h1 => ?_) (fun h1 => ?_)
  ·
   replace h1 := of_decide_eq_true h1
   refine T.skip ?_
   refine T.seq ?_
   refine T.block ?_
   refine T.region ?_
   refine TL.mv (.one (.row 7 [])) ?_
   refine TL.mv (pI (i : Int)) ?_
   refine TL.mv (.one (.d (.sl 5 (a.map SVote.cells)))) ?_
   refine TL.mv (pI (i : Int)) ?_
   refine TL.c (Step.index (e := 62) (z := 5) (i := (i : Int)) rfl rfl (lt_ok rfl) (by kernel_rfl) rfl rfl rfl (lt_ok rfl) rfl (by first | omega | (simp; omega)) (by simp only [D.size]; first | omega | (simp; omega))) ?_
   refine TL.c (Step.load_agg (n := 5) (cs := [cI (a.getD i default).f0, cI (a.getD i default).f1, cS (a.getD i default).f2, cI (a.getD i default).f3, cS (a.getD i default).f4]) rfl rfl (lt_ok rfl) (by kernel_rfl) rfl rfl (by simp only [List.range, List.range.loop, List.map_cons, List.map_nil]; rw [cell_map default (by first | omega | (simp; omega)), cell_map default (by first | omega | (simp; omega)), cell_map default (by first | omega | (simp; omega)), cell_map default (by first | omega | (simp; omega)), cell_map default (by first | omega | (simp; omega))]; rfl)) ?_
   refine TL.c (Step.cl (xs := [.tmp 19]) (ps := [(.agg [cI (a.getD i default).f0, cI (a.getD i default).f1, cS (a.getD i default).f2, cI (a.getD i default).f3, cS (a.getD i default).f4])]) (g := .func 41) false (.cons (.agg (.cons (.d _) (.cons (.d _) (.cons (.d _) (.cons (.d _) (.cons (.d _) .nil)))))) .nil) (ok_laws_toVote (a.getD i default) (by first | assumption | exact ⟨‹_›, ‹_›⟩ | (refine mem_getD (p := SVote.sm) h0_.2 (by omega)) | exact mem_getD h0_.2 (by omega)))) ?_
   refine TL.c (Step.index_row (e := 64) (z := 5) (i := (i : Int)) rfl rfl (lt_ok rfl) (by kernel_rfl) rfl rfl rfl rfl (lt_ok rfl) rfl (by first | omega | (simp; omega)) (by simp only [D.at_, D.cell, D.size]; first | omega | (simp; omega))) ?_
   refine TL.c (Step.store_row (n := 5) (p := (.agg [cI (a.getD i default).f0, cI (a.getD i default).f1, .row 3020 [], cI (a.getD i default).f3, .row 5020 []])) (ps := [cI (a.getD i default).f0, cI (a.getD i default).f1, .row 3020 [], cI (a.getD i default).f3, .row 5020 []]) (es := SVote.cells (a.getD i default)) (ss := [3020, 5020]) (d1 := (.sl 5 (((a.take i ++ List.replicate (a.length - i) default : List SVote).set i (a.getD i default)).map SVote.cells))) (d' := (.sl 5 (((a.take i ++ List.replicate (a.length - i) default : List SVote).set i (a.getD i default)).map SVote.cells))) rfl rfl (by kernel_rfl) rfl rfl rfl rfl rfl rfl (.val rfl (.val rfl (.row rfl (by simp) (.val rfl (.row rfl (by simp) .nil))))) (by simp) (Putd.enc SVote.len (xs := (a.take i ++ List.replicate (a.length - i) default : List SVote)) (by simp; first | omega | (simp; omega)) (a.getD i default)) rfl) ?_
   refine TL.nil ?_
   refine T.region ?_
   refine TL.mv (pI (i : Int)) ?_
   refine TL.c (Step.bin (r := .int .i64 ((i : Int) + 1)) rfl rfl (lt_ok rfl) rfl rfl (Bin.add (a := (i : Int)) (b := 1) (by first | exact wrap_ok (by first | omega | (simp; omega)) (by first | omega | (simp; omega)) | rfl))) ?_
   refine TL.as (pI ((i : Int) + 1)) ?_
   refine TL.nil ?_
   refine ⟨i + 1, by omega, by omega, Env.le_mk ⟨rfl, rfl, rfl, ?_, trivial⟩ ⟨?_, trivial⟩ trivial⟩ <;> (first | rfl | exact congrArg (fun x => some (64, ((.sl 5 (x.map SVote.cells)) : D))) (fill_set a default default i (by omega)))
  ·
   replace h1 := of_decide_eq_false h1
   refine T.exit ?_
   refine T.seq ?_
   refine T.region ?_
   refine TL.mv (.one (.row 7 [])) ?_
   refine TL.as (.one (.row 7 [])) ?_
   refine TL.nil ?_
   refine T.ret ?_
   refine ⟨[(false, [.row 7 []])], (.cons rfl .nil), rfl, [7], (RetC.own' rfl ?_ rfl .nil)⟩ <;> (first | rfl | (congr 1; rw [fill_all' _ _ _ (by omega)]) | (rw [fill_all' _ _ _ (by omega)]))
theorem ok_math_bits_OnesCount8 (x : Int) (h0_ : 0 ≤ x ∧ x ≤ 255) : RO Try.prog 134 [.one (.int .u8 x)] [(false, [.rd (.int .i64 (ones x))])] := by
 refine RO.intro Try.func134 rfl 6 rfl (le_ok rfl) fun w Z => ?_
 have ho_ := ones_bd x
 refine T.seq ?_
 refine T.region ?_
 refine TL.as (pI 0) ?_
 refine TL.nil ?_
 refine T.seq ?_
 refine T.region ?_
 refine TL.mv (.one (.d (.int .u8 x))) ?_
 refine TL.c (Step.index_str (c := (ones x)) rfl rfl (lt_ok rfl) (by kernel_rfl) rfl rfl (by first | omega | (simp; omega)) (by obtain ⟨n, hn⟩ : ∃ n : Fin 256, x = ((n.val : Nat) : Int) := ⟨⟨x.toNat, by omega⟩, by simp only; omega⟩; subst hn; clear h0_ ho_; revert n; decide +kernel)) ?_
 refine TL.c (Step.conv (c := (ones x)) rfl rfl (lt_ok rfl) (by kernel_rfl) (by kernel_rfl) rfl (wrap_ok (by first | omega | (simp; omega)) (by first | omega | (simp; omega)))) ?_
 refine TL.as (pI (ones x)) ?_
 refine TL.nil ?_
 refine T.ret ?_
 exact ⟨[(false, [.d (.int .i64 (ones x))])], (.cons rfl .nil), rfl, [], (RetC.rd' rfl .nil)⟩
theorem ok_impl_BitsCount (b : List Int) (h0_ : U8s b) (h1_ : b.length ≤ 1099511627776) : RO Try.prog 81 [.one (.ints .u8 b)] [(false, [.rd (.int .i64 ((bitList b).length : Int))])] := by
 refine RO.intro Try.func81 rfl 18 rfl (le_ok rfl) fun w Z => ?_
 refine T.bnd 0 0 rfl rfl fun hb_0_0 => ?_
 simp only [D.size, List.length_map] at hb_0_0
 refine T.seq ?_
 refine T.region ?_
 refine TL.as (pI 0) ?_
 refine TL.nil ?_
 refine T.seq ?_
 refine T.region ?_
 refine TL.as (pI 0) ?_
 refine TL.nil ?_
 refine T.seq ?_
 refine T.seq ?_
 refine T.region ?_
 refine TL.mv (pS b) ?_
 refine TL.c (Step.len (e := 5) (z := 1) (d := (.ints .u8 b)) rfl rfl (lt_ok rfl) (by kernel_rfl) rfl rfl) ?_
 refine TL.mv (pI 0) ?_
 refine TL.nil ?_
 refine T.block ?_
 refine T.loop (ι := Nat × Int) (fun xx_ => { tm := [(2, (pI 0)), (6, (pS b)), (7, (pI (b.length : Int))), (8, (pI ((xx_.1) : Int))), (3, (pI (xx_.2)))], rows := [], boxes := [] }) (fun xx_ => (xx_.1) ≤ b.length ∧ 0 ≤ (xx_.2) ∧ (xx_.2) ≤ 8 * (xx_.1) ∧ (xx_.2) + onesSum (b.drop (xx_.1)) = ((bitList b).length : Int)) (fun xx_ => b.length - (xx_.1)) (0, 0) ?_ ?_ ?_
 · refine Env.le_mk ⟨rfl, rfl, rfl, ?_, ?_, trivial⟩ trivial trivial <;> (first | rfl | (refine congrArg (fun n => PV.one (.d (.int .i64 n))) ?_; first | omega | (simp; done)))
 · (dsimp only; refine ⟨Nat.zero_le _, by omega, by omega, by rw [List.drop_zero, onesSum_all]; omega⟩)
 ·
  intro xx_ hx
  obtain ⟨i, c⟩ := xx_
  try dsimp only at hx ⊢
  obtain ⟨hx1, hx2, hx3, hx4⟩ := hx
  have hob_ := ones_bd (b.getD i 0)
  refine T.seq ?_
  refine T.region ?_
  refine TL.c (Step.bin rfl rfl (lt_ok rfl) rfl rfl (Bin.lss (k := .i64) (a := (i : Int)) (b := (b.length : Int)))) ?_
  refine TL.nil ?_
  refine T.seq ?_
  refine T.cond (b := decide ((i : Int) < (b.length : Int))) rfl (fun h1 => ?_) (fun h1 => ?_)
  ·
   replace h1 := of_decide_eq_true h1
   refine T.skip ?_
   refine T.seq ?_
   refine T.block ?_
   refine T.seq ?_
   refine T.region ?_
   refine TL.c (Step.index (e := 5) (z := 1) (i := (i : Int)) rfl rfl (lt_ok rfl) (by kernel_rfl) rfl rfl rfl (lt_ok rfl) rfl (by first | omega | (simp; omega)) (by simp only [D.size]; first | omega | (simp; omega))) ?_
   refine TL.c (Step.load (e := (.int .u8 (b.getD i 0))) rfl rfl (lt_ok rfl) (by kernel_rfl) rfl rfl) ?_
   refine TL.as (.one (.d (.int .u8 (b.getD i 0)))) ?_
   refine TL.nil ?_
   refine T.region ?_
   refine TL.mv (pI c) ?_
   refine TL.mv (.one (.d (.int .u8 (b.getD i 0)))) ?_
   have nn2 := ones_bd (b.getD i 0)
   refine TL.c (Step.cl (xs := [.tmp 13]) (ps := [(.one (.d (.int .u8 (b.getD i 0))))]) (g := .func 134) false (.cons (.one (.d _)) .nil) (ok_math_bits_OnesCount8 (b.getD i 0) (by first | assumption | exact getD_u8 (by assumption) _ | omega))) ?_
   refine TL.c (Step.bin (r := .int .i64 (c + (ones (b.getD i 0)))) rfl rfl (lt_ok rfl) rfl rfl (Bin.add (a := c) (b := (ones (b.getD i 0))) (by first | exact wrap_ok (by first | omega | (simp; omega)) (by first | omega | (simp; omega)) | rfl))) ?_
   refine TL.as (pI (c + (ones (b.getD i 0)))) ?_
   refine TL.nil ?_
   refine T.region ?_
   refine TL.c (Step.bin (r := .int .i64 ((i : Int) + 1)) rfl rfl (lt_ok rfl) rfl rfl (Bin.add (a := (i : Int)) (b := 1) (by first | exact wrap_ok (by first | omega | (simp; omega)) (by first | omega | (simp; omega)) | rfl))) ?_
   refine TL.mv (pI ((i : Int) + 1)) ?_
   refine TL.nil ?_
   refine ⟨(i + 1, c + (ones (b.getD i 0))), by (try dsimp only); (refine ⟨by omega, by omega, by omega, ?_⟩; rw [← hx4, onesSum_drop b (i := i) (by omega)]; omega), by (dsimp only; omega), Env.le_mk ⟨rfl, rfl, rfl, ?_, ?_, trivial⟩ trivial trivial⟩ <;> (first | rfl | (refine congrArg (fun n => PV.one (.d (.int .i64 n))) ?_; first | omega | (simp; done)))
  ·
   replace h1 := of_decide_eq_false h1
   refine T.exit ?_
   refine T.seq ?_
   refine T.region ?_
   refine TL.mv (pI c) ?_
   refine TL.as (pI c) ?_
   refine TL.nil ?_
   refine T.ret ?_
   refine ⟨[(false, [cI c])], (.cons rfl .nil), rfl, [], (RetC.rd' ?_ .nil)⟩ <;> ((congr 1; rw [← hx4, List.drop_of_length_le (by omega)]; simp [onesSum]))
theorem ok_impl_within (n : Int) (low : Int) (high : Int) : RO Try.prog 144 [.one (.int .i64 n), .one (.int .i64 low), .one (.int .i64 high)] [(false, [.rd (.bool (decide (low ≤ n ∧ n ≤ high)))])] := by
 refine RO.intro Try.func144 rfl 15 rfl (le_ok rfl) fun w Z => ?_
 refine T.seq ?_
 refine T.region ?_
 refine TL.as (pB false) ?_
 refine TL.nil ?_
 refine T.seq ?_
 refine T.region ?_
 refine TL.mv (pI low) ?_
 refine TL.mv (pI n) ?_
 refine TL.c (Step.bin rfl rfl (lt_ok rfl) rfl rfl (Bin.leq (k := .i64) (a := low) (b := n))) ?_
 refine TL.mv (pB (decide (low ≤ n))) ?_
 rcases Bool.eq_false_or_eq_true (decide (low ≤ n)) with hb1 | hb1
 ·
  refine TL.known 10 hb1 rfl ?_
  refine TL.gm 10 (pI n) ?_
  refine TL.gm 10 (pI high) ?_
  refine TL.gy 10 (Step.bin rfl rfl (lt_ok rfl) rfl rfl (Bin.leq (k := .i64) (a := n) (b := high))) ?_
  refine TL.pk true (pB (decide (n ≤ high))) ?_
  refine TL.as (pB (decide (n ≤ high))) ?_
  refine TL.nil ?_
  refine T.ret ?_
  refine ⟨[(false, [.d (.bool (decide (n ≤ high)))])], (.cons rfl .nil), rfl, [], (RetC.rd' ?_ .nil)⟩ <;> (first | (congr 1; simp_all; done) | (congr 1; simp_all; omega))
 ·
  refine TL.known 10 hb1 rfl ?_
  refine TL.gf 10 ?_
  refine TL.gf 10 ?_
  refine TL.gf 10 ?_
  refine TL.pk false (pB false) ?_
  refine TL.as (pB false) ?_
  refine TL.nil ?_
  refine T.ret ?_
  refine ⟨[(false, [.d (.bool false)])], (.cons rfl .nil), rfl, [], (RetC.rd' ?_ .nil)⟩ <;> (first | (congr 1; simp_all; done) | (congr 1; simp_all; omega))
theorem ok_impl_BitsHas (b : List Int) (i : Int) (h0_ : U8s b) (h1_ : b.length ≤ 17592186044416) (h2_ : i ≤ 9223372036854775807) : RO Try.prog 135 [.one (.ints .u8 b), .one (.int .i64 i)] [(false, [.rd (.bool (bitHas b i))])] := by
 refine RO.intro Try.func135 rfl 23 rfl (le_ok rfl) fun w Z => ?_
 refine T.bnd 0 0 rfl rfl fun hb_0_0 => ?_
 simp only [D.size, List.length_map] at hb_0_0
 have hu_ := getD_u8 h0_ (i / 8).toNat
 have hp_ := div_pow_bd hu_.1 hu_.2 (i % 8).toNat
 refine T.seq ?_
 refine T.region ?_
 refine TL.as (pB false) ?_
 refine TL.nil ?_
 refine T.seq ?_
 refine T.region ?_
 refine TL.mv (pI i) ?_
 refine TL.mv (pS b) ?_
 refine TL.c (Step.len (e := 5) (z := 1) (d := (.ints .u8 b)) rfl rfl (lt_ok rfl) (by kernel_rfl) rfl rfl) ?_
 refine TL.c (Step.bin (r := .int .i64 (8 * (b.length : Int))) rfl rfl (lt_ok rfl) rfl rfl (Bin.mul (a := 8) (b := (b.length : Int)) (by first | exact wrap_ok (by first | omega | exact hp_.1 | exact hp_.2 | (simp; omega)) (by first | omega | exact hp_.1 | exact hp_.2 | (simp; omega)) | rfl))) ?_
 refine TL.c (Step.bin (r := .int .i64 ((8 * (b.length : Int)) - 1)) rfl rfl (lt_ok rfl) rfl rfl (Bin.sub (a := (8 * (b.length : Int))) (b := 1) (by first | exact wrap_ok (by first | omega | exact hp_.1 | exact hp_.2 | (simp; omega)) (by first | omega | exact hp_.1 | exact hp_.2 | (simp; omega)) | rfl))) ?_
 refine TL.c (Step.cl (xs := [.tmp 5, .const (.int .i64 0), .tmp 9]) (ps := [(pI i), (pI 0), (pI ((8 * (b.length : Int)) - 1))]) (g := .func 144) false (.cons (.one (.d _)) (.cons (.one (.d _)) (.cons (.one (.d _)) .nil))) (ok_impl_within i 0 ((8 * (b.length : Int)) - 1))) ?_
 refine TL.mv (pB (decide (0 ≤ i ∧ i ≤ ((8 * (b.length : Int)) - 1)))) ?_
 rcases Bool.eq_false_or_eq_true (decide (0 ≤ i ∧ i ≤ ((8 * (b.length : Int)) - 1))) with hb1 | hb1
 ·
  refine TL.known 11 hb1 rfl ?_
  have hb1' := hb1
  replace hb1' := of_decide_eq_true hb1'
  refine TL.gm 11 (pS b) ?_
  refine TL.gm 11 (pI i) ?_
  refine TL.gy 11 (Step.bin (r := .int .i64 (i / 8)) rfl rfl (lt_ok rfl) rfl rfl (Bin.quo (k := .i64) (a := i) (b := 8) (by decide) (by rw [Int.tdiv_eq_ediv_of_nonneg (by first | omega | exact hp_.1 | exact hp_.2 | (simp; omega))]; exact wrap_ok (by first | omega | exact hp_.1 | exact hp_.2 | (simp; omega)) (by first | omega | exact hp_.1 | exact hp_.2 | (simp; omega))))) ?_
  refine TL.gy 11 (Step.index (e := 5) (z := 1) (i := (i / 8)) rfl rfl (lt_ok rfl) (by kernel_rfl) rfl rfl rfl (lt_ok rfl) rfl (by first | omega | exact hp_.1 | exact hp_.2 | (simp; omega)) (by simp only [D.size]; first | omega | exact hp_.1 | exact hp_.2 | (simp; omega))) ?_
  refine TL.gy 11 (Step.load (e := (.int .u8 (b.getD (i / 8).toNat 0))) rfl rfl (lt_ok rfl) (by kernel_rfl) rfl rfl) ?_
  refine TL.gm 11 (pI i) ?_
  refine TL.gy 11 (Step.bin (r := .int .i64 (i % 8)) rfl rfl (lt_ok rfl) rfl rfl (Bin.rem (k := .i64) (a := i) (b := 8) (by decide) (Int.tmod_eq_emod_of_nonneg (by first | omega | exact hp_.1 | exact hp_.2 | (simp; omega))))) ?_
  refine TL.gy 11 (Step.bin (r := .int .u8 ((b.getD (i / 8).toNat 0) / 2 ^ ((i % 8)).toNat)) rfl rfl (lt_ok rfl) rfl rfl (Bin.shr (k := .u8) (k' := .i64) (a := (b.getD (i / 8).toNat 0)) (b := (i % 8)) (by first | omega | exact hp_.1 | exact hp_.2 | (simp; omega)) (shr_ok (by first | omega | exact hp_.1 | exact hp_.2 | (simp; omega)) (by show _ < ((8 : Nat) : Int); first | omega | exact hp_.1 | exact hp_.2 | (simp; omega))))) ?_
  refine TL.gy 11 (Step.bin (r := .int .u8 (((b.getD (i / 8).toNat 0) / 2 ^ ((i % 8)).toNat) % 2)) rfl rfl (lt_ok rfl) rfl rfl (Bin.and (k := .u8) (a := ((b.getD (i / 8).toNat 0) / 2 ^ ((i % 8)).toNat)) (b := 1) (and1_u8 (by first | omega | exact hp_.1 | exact hp_.2 | (simp; omega)) (by first | omega | exact hp_.1 | exact hp_.2 | (simp; omega))))) ?_
  refine TL.gy 11 (Step.bin rfl rfl (lt_ok rfl) rfl rfl (Bin.eql (k := .u8) (a := (((b.getD (i / 8).toNat 0) / 2 ^ ((i % 8)).toNat) % 2)) (b := 1))) ?_
  refine TL.pk true (pB (decide ((((b.getD (i / 8).toNat 0) / 2 ^ ((i % 8)).toNat) % 2) = 1))) ?_
  refine TL.as (pB (decide ((((b.getD (i / 8).toNat 0) / 2 ^ ((i % 8)).toNat) % 2) = 1))) ?_
  refine TL.nil ?_
  refine T.ret ?_
  refine ⟨[(false, [.d (.bool (decide ((((b.getD (i / 8).toNat 0) / 2 ^ ((i % 8)).toNat) % 2) = 1)))])], (.cons rfl .nil), rfl, [], (RetC.rd' ?_ .nil)⟩ <;> ((congr 1; symm; unfold bitHas; first | (rw [decide_eq_false (p := 0 ≤ i) (by omega)]; rfl) | (rw [decide_eq_true (p := 0 ≤ i) (by omega), decide_eq_false (p := i / 8 < (b.length : Int)) (by omega)]; rfl) | (rw [decide_eq_true (p := 0 ≤ i) (by omega), decide_eq_true (p := i / 8 < (b.length : Int)) (by omega)]; rfl) | (by_cases hi_ : 0 ≤ i; (rw [decide_eq_true (p := 0 ≤ i) (by omega), decide_eq_false (p := i / 8 < (b.length : Int)) (by omega)]; rfl); (rw [decide_eq_false (p := 0 ≤ i) hi_]; rfl))))
 ·
  refine TL.known 11 hb1 rfl ?_
  have hb1' := hb1
  replace hb1' := of_decide_eq_false hb1'
  refine TL.gf 11 ?_
  refine TL.gf 11 ?_
  refine TL.gf 11 ?_
  refine TL.gf 11 ?_
  refine TL.gf 11 ?_
  refine TL.gf 11 ?_
  refine TL.gf 11 ?_
  refine TL.gf 11 ?_
  refine TL.gf 11 ?_
  refine TL.gf 11 ?_
  refine TL.pk false (pB false) ?_
  refine TL.as (pB false) ?_
  refine TL.nil ?_
  refine T.ret ?_
  refine ⟨[(false, [.d (.bool false)])], (.cons rfl .nil), rfl, [], (RetC.rd' ?_ .nil)⟩ <;> ((congr 1; symm; unfold bitHas; first | (rw [decide_eq_false (p := 0 ≤ i) (by omega)]; rfl) | (rw [decide_eq_true (p := 0 ≤ i) (by omega), decide_eq_false (p := i / 8 < (b.length : Int)) (by omega)]; rfl) | (rw [decide_eq_true (p := 0 ≤ i) (by omega), decide_eq_true (p := i / 8 < (b.length : Int)) (by omega)]; rfl) | (by_cases hi_ : 0 ≤ i; (rw [decide_eq_true (p := 0 ≤ i) (by omega), decide_eq_false (p := i / 8 < (b.length : Int)) (by omega)]; rfl); (rw [decide_eq_false (p := 0 ≤ i) hi_]; rfl))))
theorem ok_impl_BitsList (b : List Int) (h0_ : U8s b) (h1_ : b.length ≤ 1099511627776) : RO Try.prog 82 [.one (.ints .u8 b)] [(false, [.own 3 (.ints .i64 (bitList b))])] := by
 refine RO.intro Try.func82 rfl 21 rfl (le_ok rfl) fun w Z => ?_
 refine T.bnd 0 0 rfl rfl fun hb_0_0 => ?_
 simp only [D.size, List.length_map] at hb_0_0
 refine T.seq ?_
 refine T.region ?_
 refine TL.as (.one (.nil)) ?_
 refine TL.nil ?_
 refine T.seq ?_
 refine T.region ?_
 refine TL.c (Step.lit (e := 3) (z := 1) (by_ := 8) (xs := []) (pss := []) (es := []) (ss := []) (d := (.ints .i64 [])) rfl rfl (lt_ok rfl) (by kernel_rfl) rfl rfl .nil (by simp) (le_ok rfl) (le_ok rfl) rfl .nil rfl (by simp) (by simp) rfl trivial rfl rfl) ?_
 refine TL.as (.one (.row 5 [])) ?_
 refine TL.nil ?_
 refine T.seq ?_
 refine T.seq ?_
 refine T.region ?_
 refine TL.mv (pS b) ?_
 refine TL.c (Step.len (e := 5) (z := 1) (d := (.ints .u8 b)) rfl rfl (lt_ok rfl) (by kernel_rfl) rfl rfl) ?_
 refine TL.c (Step.bin (r := .int .i64 (8 * (b.length : Int))) rfl rfl (lt_ok rfl) rfl rfl (Bin.mul (a := 8) (b := (b.length : Int)) (by first | exact wrap_ok (by first | omega | (simp; omega)) (by first | omega | (simp; omega)) | rfl))) ?_
 refine TL.mv (pI 0) ?_
 refine TL.nil ?_
 refine T.block ?_
 refine T.loop (ι := Nat × (List Int)) (fun xx_ => { tm := [(0, (pS b)), (2, (.one (.nil))), (8, (pI (8 * (b.length : Int)))), (9, (pI ((xx_.1) : Int))), (3, (.one (.row 5 [])))], rows := [(5, (3, (.ints .i64 (xx_.2))))], boxes := [] }) (fun xx_ => (xx_.1) ≤ 8 * b.length ∧ (xx_.2) ++ bitsGo b (8 * b.length - (xx_.1)) (xx_.1) = bitList b ∧ (xx_.2).length ≤ (xx_.1)) (fun xx_ => 8 * b.length - (xx_.1)) (0, []) ?_ ?_ ?_
 · refine Env.le_mk ⟨rfl, rfl, rfl, ?_, rfl, trivial⟩ ⟨?_, trivial⟩ trivial <;> (first | rfl | (refine congrArg (fun x => some (_, D.ints .i64 x)) ?_; rfl) | (refine congrArg (fun n => PV.one (.d (.int .i64 n))) ?_; first | omega | (simp; done)))
 · (dsimp only; refine ⟨Nat.zero_le _, rfl, Nat.zero_le _⟩)
 ·
  intro xx_ hx
  obtain ⟨i, o⟩ := xx_
  try dsimp only at hx ⊢
  obtain ⟨hx1, hx2, hx3⟩ := hx
  refine T.seq ?_
  refine T.region ?_
  refine TL.c (Step.bin rfl rfl (lt_ok rfl) rfl rfl (Bin.lss (k := .i64) (a := (i : Int)) (b := (8 * (b.length : Int))))) ?_
  refine TL.nil ?_
  refine T.seq ?_
  refine T.cond (b := decide ((i : Int) < (8 * (b.length : Int)))) rfl (fun h1 => ?_) (fun h1 => ?_)
  ·
   replace h1 := of_decide_eq_true h1
   refine T.skip ?_
   refine T.seq ?_
   refine T.block ?_
   refine T.seq ?_
   refine T.region ?_
   refine TL.mv (pI (i : Int)) ?_
   refine TL.as (pI (i : Int)) ?_
   refine TL.nil ?_
   refine T.seq ?_
   refine T.region ?_
   refine TL.mv (pS b) ?_
   refine TL.mv (pI (i : Int)) ?_
   refine TL.c (Step.cl (xs := [.tmp 12, .tmp 13]) (ps := [(pS b), (pI (i : Int))]) (g := .func 135) false (.cons (.one (.d _)) (.cons (.one (.d _)) .nil)) (ok_impl_BitsHas b (i : Int) (by assumption) (by first | omega | assumption | (simp only [List.length_append] at *; omega)) (by first | omega | (have := hn_ (by first | assumption | simpa using ‹(!bitsOk b n) = false›); omega)))) ?_
   refine TL.nil ?_
   refine T.cond (b := bitHas b (i : Int)) rfl (fun h2 => ?_) (fun h2 => ?_)
   ·
    refine T.region ?_
    refine TL.mv (.one (.row 5 [])) ?_
    refine TL.mv (pI (i : Int)) ?_
    refine TL.c (Step.lit (e := 3) (z := 1) (by_ := 8) (xs := [.tmp 16]) (pss := [[cI (i : Int)]]) (es := [(.int .i64 (i : Int))]) (ss := []) (d := (.ints .i64 [(i : Int)])) rfl rfl (lt_ok rfl) (by kernel_rfl) rfl rfl (.cons rfl .nil) (by simp) (le_ok rfl) (le_ok rfl) rfl (.val rfl .nil) rfl (by simp) (by simp) rfl trivial rfl rfl) ?_
    refine TL.c (Step.append (e := 3) (z := 1) (by_ := 8) (d := (.ints .i64 o)) (dy := (.ints .i64 [(i : Int)])) (d' := (.ints .i64 (o ++ [(i : Int)]))) (ss := []) rfl rfl (lt_ok rfl) (by kernel_rfl) rfl rfl rfl (lt_ok rfl) rfl (.copy rfl rfl rfl (by simp [D.flat, D.val])) (by simp) rfl (by simp only [D.size, List.length_map]; first | omega | (simp only [List.length_append, List.length_cons, List.length_nil]; omega) | (simp; omega) | (simp only [List.length_append] at *; omega)) (by simp only [D.size, List.length_map]; first | omega | (simp only [List.length_append, List.length_cons, List.length_nil]; omega) | (simp; omega) | (simp only [List.length_append] at *; omega)) (by simp)) ?_
    refine TL.as (.one (.row 5 [])) ?_
    refine TL.nil ?_
    refine T.region ?_
    refine TL.c (Step.bin (r := .int .i64 ((i : Int) + 1)) rfl rfl (lt_ok rfl) rfl rfl (Bin.add (a := (i : Int)) (b := 1) (by first | exact wrap_ok (by first | omega | (simp; omega)) (by first | omega | (simp; omega)) | rfl))) ?_
    refine TL.mv (pI ((i : Int) + 1)) ?_
    refine TL.nil ?_
    refine ⟨(i + 1, o ++ [(i : Int)]), by (refine ⟨by omega, ?_, by simp only [List.length_append, List.length_cons, List.length_nil]; omega⟩; rw [← hx2, bitsGo_next b (n := 8 * b.length) (i := i) (by omega)]; first | (rw [if_pos (by assumption)]; simp only [List.append_assoc]; done) | (rw [if_neg (by simp [*])]; rfl)), by (dsimp only; omega), Env.le_mk ⟨rfl, rfl, rfl, ?_, rfl, trivial⟩ ⟨?_, trivial⟩ trivial⟩ <;> (first | rfl | (refine congrArg (fun x => some (_, D.ints .i64 x)) ?_; rfl) | (refine congrArg (fun n => PV.one (.d (.int .i64 n))) ?_; first | omega | (simp; done)))
   ·
    refine T.skip ?_
    refine T.region ?_
    refine TL.c (Step.bin (r := .int .i64 ((i : Int) + 1)) rfl rfl (lt_ok rfl) rfl rfl (Bin.add (a := (i : Int)) (b := 1) (by first | exact wrap_ok (by first | omega | (simp; omega)) (by first | omega | (simp; omega)) | rfl))) ?_
    refine TL.mv (pI ((i : Int) + 1)) ?_
    refine TL.nil ?_
    refine ⟨(i + 1, o), by (refine ⟨by omega, ?_, by simp only [List.length_append, List.length_cons, List.length_nil]; omega⟩; rw [← hx2, bitsGo_next b (n := 8 * b.length) (i := i) (by omega)]; first | (rw [if_pos (by assumption)]; simp only [List.append_assoc]; done) | (rw [if_neg (by simp [*])]; rfl)), by (dsimp only; omega), Env.le_mk ⟨rfl, rfl, rfl, ?_, rfl, trivial⟩ ⟨rfl, trivial⟩ trivial⟩ <;> (first | rfl | (refine congrArg (fun x => some (_, D.ints .i64 x)) ?_; rfl) | (refine congrArg (fun n => PV.one (.d (.int .i64 n))) ?_; first | omega | (simp; done)))
  ·
   replace h1 := of_decide_eq_false h1
   refine T.exit ?_
   refine T.seq ?_
   refine T.region ?_
   refine TL.mv (.one (.row 5 [])) ?_
   refine TL.as (.one (.row 5 [])) ?_
   refine TL.nil ?_
   refine T.ret ?_
   refine ⟨[(false, [.row 5 []])], (.cons rfl .nil), rfl, [5], (RetC.own' rfl ?_ rfl .nil)⟩ <;> ((congr 1; rw [← hx2, bitsGo_end b (by omega), List.append_nil]))
theorem ok_impl_copyBytes (a : List Int) (h0_ : a.length ≤ 17592186044416) : RO Try.prog 83 [.one (.ints .u8 a)] [(false, [.own 5 (.ints .u8 a)])] := by
 refine RO.intro Try.func83 rfl 6 rfl (le_ok rfl) fun w Z => ?_
 refine T.bnd 0 0 rfl rfl fun hb_0_0 => ?_
 simp only [D.size, List.length_map] at hb_0_0
 refine T.seq ?_
 refine T.region ?_
 refine TL.as (.one (.nil)) ?_
 refine TL.nil ?_
 refine T.seq ?_
 refine T.region ?_
 refine TL.c (Step.lit (e := 5) (z := 1) (by_ := 1) (xs := []) (pss := []) (es := []) (ss := []) (d := (.ints .u8 [])) rfl rfl (lt_ok rfl) (by kernel_rfl) rfl rfl .nil (by simp) (le_ok rfl) (le_ok rfl) rfl .nil rfl (by simp) (by simp) rfl trivial rfl rfl) ?_
 refine TL.mv (pS a) ?_
 refine TL.c (Step.append (e := 5) (z := 1) (by_ := 1) (d := (.ints .u8 [])) (dy := (.ints .u8 a)) (d' := (.ints .u8 ([] ++ a))) (ss := []) rfl rfl (lt_ok rfl) (by kernel_rfl) rfl rfl rfl (lt_ok rfl) rfl (.froz rfl (by simp [D.flat, D.val])) (by simp) rfl (by simp only [D.size, List.length_map]; first | omega | (simp only [List.length_append, List.length_cons, List.length_nil]; omega) | (simp; omega) | (simp only [List.length_append] at *; omega)) (by simp only [D.size, List.length_map]; first | omega | (simp only [List.length_append, List.length_cons, List.length_nil]; omega) | (simp; omega) | (simp only [List.length_append] at *; omega)) (by simp)) ?_
 refine TL.as (.one (.row 3 [])) ?_
 refine TL.nil ?_
 refine T.ret ?_
 refine ⟨[(false, [.row 3 []])], (.cons rfl .nil), rfl, [3], (RetC.own' rfl ?_ rfl .nil)⟩ <;> (rfl)
theorem ok_impl_QcVotes (q : SQc) (h0_ : q.ok) (h1_ : q.sm) : RO Try.prog 18 [.agg q.cells] [(false, [.own 64 (.sl 5 ((qcVotes q).map SVote.cells))])] := by
 refine RO.intro Try.func18 rfl 43 rfl (le_ok rfl) fun w Z => ?_
 refine T.bnd 0 2 rfl rfl fun hb_0_2 => ?_
 simp only [D.size, List.length_map] at hb_0_2
 refine T.bnd 0 3 rfl rfl fun hb_0_3 => ?_
 simp only [D.size, List.length_map] at hb_0_3
 refine T.bnd 0 4 rfl rfl fun hb_0_4 => ?_
 simp only [D.size, List.length_map] at hb_0_4
 obtain ⟨o0, o1, o2, o3, o4⟩ := h0_
 obtain ⟨s0, s1, s2⟩ := h1_
 refine T.seq ?_
 refine T.region ?_
 refine TL.c (Step.box (p := (.agg [cI q.f0, cI q.f1, cS q.f2, cS q.f3, .d (.bss q.f4)])) (ps := [cI q.f0, cI q.f1, cS q.f2, cS q.f3, .d (.bss q.f4)]) rfl rfl (lt_ok rfl) rfl rfl rfl rfl rfl) ?_
 refine TL.as (.one (.nil)) ?_
 refine TL.nil ?_
 refine T.seq ?_
 refine T.seq ?_
 have nn1 := bitList_len q.f3
 refine T.drawX [{ dst := some 6, pv := (.one (.ptr 1 4)) }, { dst := some 7, pv := (.one (.d (.bss q.f4))) }, { dst := some 8, pv := (pI (q.f4.length : Int)) }, { dst := some 9, pv := (.one (.ptr 1 3)) }, { dst := some 10, pv := (pS q.f3) }, { dst := some 11, pv := (pI ((bitList q.f3).length : Int)) }, { dst := some 12, pv := (pB (decide ((q.f4.length : Int) ≠ ((bitList q.f3).length : Int)))) }] (by kernel_rfl) (by kernel_rfl) ?_ ?_
 ·
  refine .cons (fun E hA_ => by have g1 : E.get 1 = (.one (.ptr 1 0)) := (hA_.get 1 (by kernel_rfl)).trans (by kernel_rfl); exact OpStep.plain rfl (Step.fa (off := 4) (n := 1) (one := true) 0 6 (show Env.ev E (.tmp 1) = _ from g1.trans rfl))) ?_
  refine .cons (fun E hA_ => by have g6 : E.get 6 = (.one (.ptr 1 4)) := (hA_.get 6 (by kernel_rfl)).trans (by kernel_rfl); have b1 : E.box 1 = some (29, [cI q.f0, cI q.f1, cS q.f2, cS q.f3, .d (.bss q.f4)]) := (hA_.box 1 (by kernel_rfl)).trans (by kernel_rfl); exact OpStep.plain rfl (Step.load_box (c := .d (.bss q.f4)) (t := 7) rfl rfl (by exact lt_ok rfl) (by kernel_rfl) (show Env.ev E (.tmp 6) = _ from g6.trans rfl) b1 rfl)) ?_
  refine .cons (fun E hA_ => by have g7 : E.get 7 = (.one (.d (.bss q.f4))) := (hA_.get 7 (by kernel_rfl)).trans (by kernel_rfl); exact OpStep.plain rfl (Step.len (e := 22) (z := 1) (d := (.bss q.f4)) (t := 8) rfl rfl (by exact lt_ok rfl) (by kernel_rfl) (show Env.ev E (.tmp 7) = _ from g7.trans rfl) rfl)) ?_
  refine .cons (fun E hA_ => by have g1 : E.get 1 = (.one (.ptr 1 0)) := (hA_.get 1 (by kernel_rfl)).trans (by kernel_rfl); exact OpStep.plain rfl (Step.fa (off := 3) (n := 1) (one := true) 0 9 (show Env.ev E (.tmp 1) = _ from g1.trans rfl))) ?_
  refine .cons (fun E hA_ => by have g9 : E.get 9 = (.one (.ptr 1 3)) := (hA_.get 9 (by kernel_rfl)).trans (by kernel_rfl); have b1 : E.box 1 = some (29, [cI q.f0, cI q.f1, cS q.f2, cS q.f3, .d (.bss q.f4)]) := (hA_.box 1 (by kernel_rfl)).trans (by kernel_rfl); exact OpStep.plain rfl (Step.load_box (c := cS q.f3) (t := 10) rfl rfl (by exact lt_ok rfl) (by kernel_rfl) (show Env.ev E (.tmp 9) = _ from g9.trans rfl) b1 rfl)) ?_
  refine .cons (fun E hA_ => by have g10 : E.get 10 = (pS q.f3) := (hA_.get 10 (by kernel_rfl)).trans (by kernel_rfl); exact OpStep.plain rfl (Step.call (f := 81) (xs := [.tmp 10]) (ps := [(pS q.f3)]) false (g := .func 81) (t := 11) rfl rfl (by exact lt_ok rfl) rfl (by kernel_rfl) (evs_cons (show Env.ev E (.tmp 10) = _ from g10.trans rfl) (rfl)) (.cons (.one (.d _)) .nil) (ok_impl_BitsCount q.f3 (by first | assumption | exact fun x hx => by cases hx) (by first | omega | assumption | (simp only [List.length_append] at *; omega) | (simp; done))) (.inr rfl) (freshRows_of _ _ (fun x_ hx_ => hA_.fresh x_ (by exact hx_))) (by simp) rfl)) ?_
  refine .cons (fun E hA_ => by have g8 : E.get 8 = (pI (q.f4.length : Int)) := (hA_.get 8 (by kernel_rfl)).trans (by kernel_rfl); have g11 : E.get 11 = (pI ((bitList q.f3).length : Int)) := (hA_.get 11 (by kernel_rfl)).trans (by kernel_rfl); exact OpStep.plain rfl (Step.bd 12 (show Env.ev E (.tmp 8) = _ from g8.trans rfl) (show Env.ev E (.tmp 11) = _ from g11.trans rfl) (Bin.neq (k := .i64) (a := (q.f4.length : Int)) (b := ((bitList q.f3).length : Int))))) ?_
  exact .nil _ _
 refine TL.weaken (E' := { tm := [(0, (.agg [cI q.f0, cI q.f1, cS q.f2, cS q.f3, .d (.bss q.f4)])), (1, (.one (.ptr 1 0))), (2, (.one (.nil))), (6, (.one (.ptr 1 4))), (7, (.one (.d (.bss q.f4)))), (8, (pI (q.f4.length : Int))), (9, (.one (.ptr 1 3))), (10, (pS q.f3)), (11, (pI ((bitList q.f3).length : Int))), (12, (pB (decide ((q.f4.length : Int) ≠ ((bitList q.f3).length : Int)))))], rows := [], boxes := [(1, (29, [cI q.f0, cI q.f1, cS q.f2, cS q.f3, .d (.bss q.f4)]))] }) (Env.le_mk ⟨by kernel_rfl, by kernel_rfl, by kernel_rfl, by kernel_rfl, by kernel_rfl, by kernel_rfl, by kernel_rfl, by kernel_rfl, by kernel_rfl, by kernel_rfl, trivial⟩ trivial ⟨by kernel_rfl, trivial⟩) ?_
 refine TL.nil ?_
 refine T.cond (b := decide ((q.f4.length : Int) ≠ ((bitList q.f3).length : Int))) rfl (fun h2 => ?_) (fun h2 => ?_)
 ·
  replace h2 := of_decide_eq_true h2
  refine T.seq ?_
  refine T.region ?_
  refine TL.as (.one (.nil)) ?_
  refine TL.nil ?_
  refine T.ret ?_
  refine ⟨[(false, [.nil])], (.cons rfl .nil), rfl, [], (RetC.nilown' rfl ?_ (by first | exact trivial | exact D.wf_nil _ | exact wf_map SVote.len _) .nil)⟩ <;> (first | (congr 1; unfold qcVotes; rw [if_pos (by omega), show i = (bitList q.f3).length from by omega]) | (show (qcVotes q).length = 0; unfold qcVotes; rw [if_neg (by omega)]; rfl) | (congr 1; unfold qcVotes; rw [if_neg (by omega)]; rfl) | (simp only [D.size, List.length_map]; unfold qcVotes; rw [if_neg (by omega)]; rfl))
 ·
  replace h2 := of_decide_eq_false h2
  refine T.skip ?_
  refine T.seq ?_
  refine T.region ?_
  refine TL.c (Step.lit (e := 64) (z := 5) (by_ := 72) (xs := []) (pss := []) (es := []) (ss := []) (d := (.sl 5 [])) rfl rfl (lt_ok rfl) (by kernel_rfl) rfl rfl .nil (by simp) (le_ok rfl) (le_ok rfl) rfl .nil rfl (by simp) (by simp) rfl (D.wf_nil _) rfl rfl) ?_
  refine TL.as (.one (.row 13 [])) ?_
  refine TL.ren 13 600001 rfl (by simp) ?_
  refine TL.nil ?_
  refine T.seq ?_
  refine T.seq ?_
  refine T.region ?_
  refine TL.c (Step.fieldAddr (q := 0) (off := 3) (n := 1) (one := true) rfl rfl (lt_ok rfl) (by kernel_rfl) (Nat.succ_ne_zero _) rfl) ?_
  refine TL.c (Step.load_box (c := cS q.f3) rfl rfl (lt_ok rfl) (by kernel_rfl) rfl rfl rfl) ?_
  have nn3 := bitList_len q.f3
  refine TL.c (Step.cl (xs := [.tmp 15]) (ps := [(pS q.f3)]) (g := .func 82) false (.cons (.one (.d _)) .nil) (ok_impl_BitsList q.f3 (by assumption) (by first | omega | assumption | (simp only [List.length_append] at *; omega)))) ?_
  refine TL.c (Step.len (e := 3) (z := 1) (d := (.ints .i64 (bitList q.f3))) rfl rfl (lt_ok rfl) (by kernel_rfl) rfl rfl) ?_
  refine TL.mv (pI 0) ?_
  refine TL.nil ?_
  refine T.block ?_
  refine T.loop (ι := Nat) (fun xx_ => { tm := [(1, (.one (.ptr 1 0))), (2, (.one (.nil))), (16, (.one (.row 1016 []))), (17, (pI ((bitList q.f3).length : Int))), (18, (pI (xx_ : Int))), (3, (.one (.row 600001 [])))], rows := [(600001, (64, (.sl 5 ((qcVotesN q xx_).map SVote.cells)))), (1016, (3, (.ints .i64 (bitList q.f3))))], boxes := [(1, (29, [cI q.f0, cI q.f1, cS q.f2, cS q.f3, .d (.bss q.f4)]))] }) (fun xx_ => xx_ ≤ (bitList q.f3).length) (fun xx_ => (bitList q.f3).length - xx_) 0 ?_ ?_ ?_
  · refine Env.le_mk ⟨rfl, rfl, rfl, rfl, ?_, rfl, trivial⟩ ⟨?_, rfl, trivial⟩ ⟨rfl, trivial⟩ <;> (first | exact congrArg (fun x => some (_, D.sl 5 (List.map SVote.cells x))) (qcVotesN_succ q i).symm | rfl | (refine congrArg (fun n => PV.one (.d (.int .i64 n))) ?_; first | omega | (simp; done)))
  · exact Nat.zero_le _
  ·
   intro i hx
   try dsimp only at hx ⊢
   have hl_ := qcVotesN_len q i
   have ht_ := mem_len (q := 1048576) s2.2 i
   refine T.seq ?_
   refine T.region ?_
   refine TL.c (Step.bin rfl rfl (lt_ok rfl) rfl rfl (Bin.lss (k := .i64) (a := (i : Int)) (b := ((bitList q.f3).length : Int)))) ?_
   refine TL.nil ?_
   refine T.seq ?_
   refine T.cond (b := decide ((i : Int) < ((bitList q.f3).length : Int))) rfl (fun h4 => ?_) (fun h4 => ?_)
   ·
    replace h4 := of_decide_eq_true h4
    refine T.skip ?_
    refine T.seq ?_
    refine T.block ?_
    refine T.seq ?_
    refine T.region ?_
    refine TL.mv (pI (i : Int)) ?_
    refine TL.c (Step.index_row (e := 3) (z := 1) (i := (i : Int)) rfl rfl (lt_ok rfl) (by kernel_rfl) rfl rfl rfl rfl (lt_ok rfl) rfl (by first | omega | (simp; omega)) (by simp only [D.at_, D.cell, D.size]; first | omega | (simp; omega))) ?_
    refine TL.c (Step.load_row (c := cI ((bitList q.f3).getD i 0)) rfl rfl (lt_ok rfl) (by kernel_rfl) rfl rfl rfl) ?_
    refine TL.as (pI (i : Int)) ?_
    refine TL.as (pI ((bitList q.f3).getD i 0)) ?_
    refine TL.nil ?_
    refine T.drawX [{ dst := some 23, pv := (.one (.row 600001 [])) }, { dst := some 24, pv := (.one (.ptr 1 0)) }, { dst := some 25, pv := (pI q.f0) }, { dst := some 26, pv := (.one (.ptr 1 1)) }, { dst := some 27, pv := (pI q.f1) }, { dst := some 28, pv := (.one (.ptr 1 2)) }, { dst := some 29, pv := (pS q.f2) }, { dst := some 30, pv := (.one (.row 1030 [])), rows := [(1030, (5, (.ints .u8 q.f2)))] }, { dst := some 31, pv := (pI ((bitList q.f3).getD i 0)) }, { dst := some 32, pv := (.one (.ptr 1 4)) }, { dst := some 33, pv := (.one (.d (.bss q.f4))) }, { dst := some 34, pv := (pI (i : Int)) }, { dst := some 35, pv := (.one (.eptr (.bss q.f4) i 0)) }, { dst := some 36, pv := (pS (q.f4.getD i [])) }, { dst := some 37, pv := (.one (.row 1037 [])), rows := [(1037, (5, (.ints .u8 (q.f4.getD i []))))] }, { dst := some 38, pv := (.agg [cI q.f0, cI q.f1, .row 1030 [], cI ((bitList q.f3).getD i 0), .row 1037 []]) }, { dst := some 39, pv := (.one (.row 39 [])), rows := [(39, (64, (.sl 5 ([(⟨q.f0, q.f1, q.f2, (bitList q.f3).getD i 0, (q.f4.getD i [])⟩ : SVote)].map SVote.cells))))], dead := [1030, 1037] }, { dst := some 40, pv := (.one (.row 500040 [])), rows := [(500040, (64, (.sl 5 (((qcVotesN q i) ++ [(⟨q.f0, q.f1, q.f2, (bitList q.f3).getD i 0, (q.f4.getD i [])⟩ : SVote)]).map SVote.cells))))], dead := [600001, 39] }, { dst := some 3, pv := (.one (.row 500040 [])) }] (by kernel_rfl) (by kernel_rfl) ?_ ?_
    ·
     refine .cons (fun E hA_ => by have g3 : E.get 3 = (.one (.row 600001 [])) := (hA_.get 3 (by kernel_rfl)).trans (by kernel_rfl); exact OpStep.plain rfl (Step.move (p := (.one (.row 600001 []))) (t := 23) rfl rfl (by exact lt_ok rfl) (show Env.ev E (.tmp 3) = _ from g3.trans rfl))) ?_
     refine .cons (fun E hA_ => by have g1 : E.get 1 = (.one (.ptr 1 0)) := (hA_.get 1 (by kernel_rfl)).trans (by kernel_rfl); exact OpStep.plain rfl (Step.fa (off := 0) (n := 1) (one := true) 0 24 (show Env.ev E (.tmp 1) = _ from g1.trans rfl))) ?_
     refine .cons (fun E hA_ => by have g24 : E.get 24 = (.one (.ptr 1 0)) := (hA_.get 24 (by kernel_rfl)).trans (by kernel_rfl); have b1 : E.box 1 = some (29, [cI q.f0, cI q.f1, cS q.f2, cS q.f3, .d (.bss q.f4)]) := (hA_.box 1 (by kernel_rfl)).trans (by kernel_rfl); exact OpStep.plain rfl (Step.load_box (c := cI q.f0) (t := 25) rfl rfl (by exact lt_ok rfl) (by kernel_rfl) (show Env.ev E (.tmp 24) = _ from g24.trans rfl) b1 rfl)) ?_
     refine .cons (fun E hA_ => by have g1 : E.get 1 = (.one (.ptr 1 0)) := (hA_.get 1 (by kernel_rfl)).trans (by kernel_rfl); exact OpStep.plain rfl (Step.fa (off := 1) (n := 1) (one := true) 0 26 (show Env.ev E (.tmp 1) = _ from g1.trans rfl))) ?_
     refine .cons (fun E hA_ => by have g26 : E.get 26 = (.one (.ptr 1 1)) := (hA_.get 26 (by kernel_rfl)).trans (by kernel_rfl); have b1 : E.box 1 = some (29, [cI q.f0, cI q.f1, cS q.f2, cS q.f3, .d (.bss q.f4)]) := (hA_.box 1 (by kernel_rfl)).trans (by kernel_rfl); exact OpStep.plain rfl (Step.load_box (c := cI q.f1) (t := 27) rfl rfl (by exact lt_ok rfl) (by kernel_rfl) (show Env.ev E (.tmp 26) = _ from g26.trans rfl) b1 rfl)) ?_
     refine .cons (fun E hA_ => by have g1 : E.get 1 = (.one (.ptr 1 0)) := (hA_.get 1 (by kernel_rfl)).trans (by kernel_rfl); exact OpStep.plain rfl (Step.fa (off := 2) (n := 1) (one := true) 0 28 (show Env.ev E (.tmp 1) = _ from g1.trans rfl))) ?_
     refine .cons (fun E hA_ => by have g28 : E.get 28 = (.one (.ptr 1 2)) := (hA_.get 28 (by kernel_rfl)).trans (by kernel_rfl); have b1 : E.box 1 = some (29, [cI q.f0, cI q.f1, cS q.f2, cS q.f3, .d (.bss q.f4)]) := (hA_.box 1 (by kernel_rfl)).trans (by kernel_rfl); exact OpStep.plain rfl (Step.load_box (c := cS q.f2) (t := 29) rfl rfl (by exact lt_ok rfl) (by kernel_rfl) (show Env.ev E (.tmp 28) = _ from g28.trans rfl) b1 rfl)) ?_
     refine .cons (fun E hA_ => by have g29 : E.get 29 = (pS q.f2) := (hA_.get 29 (by kernel_rfl)).trans (by kernel_rfl); exact OpStep.plain rfl (Step.call (f := 83) (xs := [.tmp 29]) (ps := [(pS q.f2)]) false (g := .func 83) (t := 30) rfl rfl (by exact lt_ok rfl) rfl (by kernel_rfl) (evs_cons (show Env.ev E (.tmp 29) = _ from g29.trans rfl) (rfl)) (.cons (.one (.d _)) .nil) (ok_impl_copyBytes q.f2 (by first | omega | assumption | (simp only [List.length_take, List.length_drop]; omega))) (.inr rfl) (freshRows_of _ _ (fun x_ hx_ => hA_.fresh x_ (by exact hx_))) (by simp) rfl)) ?_
     refine .cons (fun E hA_ => by have g5 : E.get 5 = (pI ((bitList q.f3).getD i 0)) := (hA_.get 5 (by kernel_rfl)).trans (by kernel_rfl); exact OpStep.plain rfl (Step.move (p := (pI ((bitList q.f3).getD i 0))) (t := 31) rfl rfl (by exact lt_ok rfl) (show Env.ev E (.tmp 5) = _ from g5.trans rfl))) ?_
     refine .cons (fun E hA_ => by have g1 : E.get 1 = (.one (.ptr 1 0)) := (hA_.get 1 (by kernel_rfl)).trans (by kernel_rfl); exact OpStep.plain rfl (Step.fa (off := 4) (n := 1) (one := true) 0 32 (show Env.ev E (.tmp 1) = _ from g1.trans rfl))) ?_
     refine .cons (fun E hA_ => by have g32 : E.get 32 = (.one (.ptr 1 4)) := (hA_.get 32 (by kernel_rfl)).trans (by kernel_rfl); have b1 : E.box 1 = some (29, [cI q.f0, cI q.f1, cS q.f2, cS q.f3, .d (.bss q.f4)]) := (hA_.box 1 (by kernel_rfl)).trans (by kernel_rfl); exact OpStep.plain rfl (Step.load_box (c := .d (.bss q.f4)) (t := 33) rfl rfl (by exact lt_ok rfl) (by kernel_rfl) (show Env.ev E (.tmp 32) = _ from g32.trans rfl) b1 rfl)) ?_
     refine .cons (fun E hA_ => by have g4 : E.get 4 = (pI (i : Int)) := (hA_.get 4 (by kernel_rfl)).trans (by kernel_rfl); exact OpStep.plain rfl (Step.move (p := (pI (i : Int))) (t := 34) rfl rfl (by exact lt_ok rfl) (show Env.ev E (.tmp 4) = _ from g4.trans rfl))) ?_
     refine .cons (fun E hA_ => by have g33 : E.get 33 = (.one (.d (.bss q.f4))) := (hA_.get 33 (by kernel_rfl)).trans (by kernel_rfl); have g34 : E.get 34 = (pI (i : Int)) := (hA_.get 34 (by kernel_rfl)).trans (by kernel_rfl); exact OpStep.plain rfl (Step.index (e := 22) (z := 1) (i := (i : Int)) (t := 35) rfl rfl (by exact lt_ok rfl) (by kernel_rfl) (show Env.ev E (.tmp 33) = _ from g33.trans rfl) rfl rfl (lt_ok rfl) (show Env.ev E (.tmp 34) = _ from g34.trans rfl) (by first | omega | (simp; omega)) (by simp only [D.size]; first | omega | (simp; omega)))) ?_
     refine .cons (fun E hA_ => by have g35 : E.get 35 = (.one (.eptr (.bss q.f4) i 0)) := (hA_.get 35 (by kernel_rfl)).trans (by kernel_rfl); exact OpStep.plain rfl (Step.load (e := (.ints .u8 (q.f4.getD i []))) (t := 36) rfl rfl (by exact lt_ok rfl) (by kernel_rfl) (show Env.ev E (.tmp 35) = _ from g35.trans rfl) rfl)) ?_
     refine .cons (fun E hA_ => by have g36 : E.get 36 = (pS (q.f4.getD i [])) := (hA_.get 36 (by kernel_rfl)).trans (by kernel_rfl); exact OpStep.plain rfl (Step.call (f := 83) (xs := [.tmp 36]) (ps := [(pS (q.f4.getD i []))]) false (g := .func 83) (t := 37) rfl rfl (by exact lt_ok rfl) rfl (by kernel_rfl) (evs_cons (show Env.ev E (.tmp 36) = _ from g36.trans rfl) (rfl)) (.cons (.one (.d _)) .nil) (ok_impl_copyBytes (q.f4.getD i []) (by first | omega | assumption | (simp only [List.length_take, List.length_drop]; omega))) (.inr rfl) (freshRows_of _ _ (fun x_ hx_ => hA_.fresh x_ (by exact hx_))) (by simp) rfl)) ?_
     refine .cons (fun E hA_ => by have g25 : E.get 25 = (pI q.f0) := (hA_.get 25 (by kernel_rfl)).trans (by kernel_rfl); have g27 : E.get 27 = (pI q.f1) := (hA_.get 27 (by kernel_rfl)).trans (by kernel_rfl); have g30 : E.get 30 = (.one (.row 1030 [])) := (hA_.get 30 (by kernel_rfl)).trans (by kernel_rfl); have g31 : E.get 31 = (pI ((bitList q.f3).getD i 0)) := (hA_.get 31 (by kernel_rfl)).trans (by kernel_rfl); have g37 : E.get 37 = (.one (.row 1037 [])) := (hA_.get 37 (by kernel_rfl)).trans (by kernel_rfl); have q1030 : E.row 1030 = some (5, (.ints .u8 q.f2)) := (hA_.row 1030 (by kernel_rfl)).trans (by kernel_rfl); have q1037 : E.row 1037 = some (5, (.ints .u8 (q.f4.getD i []))) := (hA_.row 1037 (by kernel_rfl)).trans (by kernel_rfl); exact OpStep.plain rfl (Step.build (zs := [.int .i64 0, .int .i64 0, .slice none 0 0, .int .i64 0, .slice none 0 0]) (places := [(0, 1), (1, 1), (2, 1), (3, 1), (4, 1)]) (pss := [(0, [cI q.f0]), (1, [cI q.f1]), (2, [.row 1030 []]), (3, [cI ((bitList q.f3).getD i 0)]), (4, [.row 1037 []])]) (ps' := [cI q.f0, cI q.f1, .row 1030 [], cI ((bitList q.f3).getD i 0), .row 1037 []]) (t := 38) rfl rfl (by exact lt_ok rfl) (by kernel_rfl) (.cons ⟨rfl, (by exact (congrArg PV.flat (show Env.ev E (.tmp 25) = _ from g25.trans rfl)).trans rfl)⟩ (.cons ⟨rfl, (by exact (congrArg PV.flat (show Env.ev E (.tmp 27) = _ from g27.trans rfl)).trans rfl)⟩ (.cons ⟨rfl, (by exact (congrArg PV.flat (show Env.ev E (.tmp 30) = _ from g30.trans rfl)).trans rfl)⟩ (.cons ⟨rfl, (by exact (congrArg PV.flat (show Env.ev E (.tmp 31) = _ from g31.trans rfl)).trans rfl)⟩ (.cons ⟨rfl, (by exact (congrArg PV.flat (show Env.ev E (.tmp 37) = _ from g37.trans rfl)).trans rfl)⟩ .nil))))) (by simp only [List.all_cons, List.all_nil, Env.fine, q1030, q1037]; rfl) rfl rfl)) ?_
     refine .cons (fun E hA_ => by have g38 : E.get 38 = (.agg [cI q.f0, cI q.f1, .row 1030 [], cI ((bitList q.f3).getD i 0), .row 1037 []]) := (hA_.get 38 (by kernel_rfl)).trans (by kernel_rfl); have q1030 : E.row 1030 = some (5, (.ints .u8 q.f2)) := (hA_.row 1030 (by kernel_rfl)).trans (by kernel_rfl); have q1037 : E.row 1037 = some (5, (.ints .u8 (q.f4.getD i []))) := (hA_.row 1037 (by kernel_rfl)).trans (by kernel_rfl); exact OpStep.plain rfl (Step.litX (e := 64) (z := 5) (by_ := 72) (xs := [.tmp 38]) (pss := [[cI q.f0, cI q.f1, .row 1030 [], cI ((bitList q.f3).getD i 0), .row 1037 []]]) (es := [(.int .i64 q.f0), (.int .i64 q.f1), (.ints .u8 q.f2), (.int .i64 ((bitList q.f3).getD i 0)), (.ints .u8 (q.f4.getD i []))]) (ss := [1030, 1037]) (d := (.sl 5 ([(⟨q.f0, q.f1, q.f2, (bitList q.f3).getD i 0, (q.f4.getD i [])⟩ : SVote)].map SVote.cells))) (t := 39) rfl rfl (by exact lt_ok rfl) (by kernel_rfl) rfl rfl (.cons (by exact (congrArg PV.flat (show Env.ev E (.tmp 38) = _ from g38.trans rfl)).trans rfl) .nil) (by simp) (le_ok rfl) (le_ok rfl) (by simp only [List.all_cons, List.all_nil, List.flatten_cons, List.flatten_nil, List.append_nil, List.cons_append, List.nil_append, Env.fine, q1030, q1037]; rfl) (.val rfl (.val rfl (.row q1030 (by simp) (.val rfl (.row q1037 (by simp) .nil))))) (hA_.fresh _ (List.mem_singleton.2 rfl)) (by simp) (by simp) rfl (wf_map SVote.len _) rfl rfl)) ?_
     refine .cons (fun E hA_ => by have g23 : E.get 23 = (.one (.row 600001 [])) := (hA_.get 23 (by kernel_rfl)).trans (by kernel_rfl); have g39 : E.get 39 = (.one (.row 39 [])) := (hA_.get 39 (by kernel_rfl)).trans (by kernel_rfl); have q39 : E.row 39 = some (64, (.sl 5 ([(⟨q.f0, q.f1, q.f2, (bitList q.f3).getD i 0, (q.f4.getD i [])⟩ : SVote)].map SVote.cells))) := (hA_.row 39 (by kernel_rfl)).trans (by kernel_rfl); have q600001 : E.row 600001 = some (64, (.sl 5 ((qcVotesN q i).map SVote.cells))) := (hA_.row 600001 (by kernel_rfl)).trans (by kernel_rfl); exact OpStep.plain rfl (Step.appendX (e := 64) (z := 5) (by_ := 72) (d := (.sl 5 ((qcVotesN q i).map SVote.cells))) (dy := (.sl 5 ([(⟨q.f0, q.f1, q.f2, (bitList q.f3).getD i 0, (q.f4.getD i [])⟩ : SVote)].map SVote.cells))) (d' := (.sl 5 (((qcVotesN q i) ++ [(⟨q.f0, q.f1, q.f2, (bitList q.f3).getD i 0, (q.f4.getD i [])⟩ : SVote)]).map SVote.cells))) (ss := [39]) 500040 (t := 40) rfl rfl (by exact lt_ok rfl) (by kernel_rfl) (show Env.ev E (.tmp 23) = _ from g23.trans rfl) q600001 rfl (lt_ok rfl) (show Env.ev E (.tmp 39) = _ from g39.trans rfl) (.move q39) (by simp) app_sl (by simp only [D.size, List.length_map]; first | omega | (simp only [List.length_append, List.length_cons, List.length_nil]; omega) | (simp; omega) | (simp only [List.length_append] at *; omega)) (by simp only [D.size, List.length_map]; first | omega | (simp only [List.length_append, List.length_cons, List.length_nil]; omega) | (simp; omega) | (simp only [List.length_append] at *; omega)) (by simp) (hA_.fresh _ (List.mem_singleton.2 rfl)) (by simp) (by simp))) ?_
     refine .cons (fun E hA_ => by have g40 : E.get 40 = (.one (.row 500040 [])) := (hA_.get 40 (by kernel_rfl)).trans (by kernel_rfl); exact OpStep.plain rfl (Step.assign (p := (.one (.row 500040 []))) (t := 3) rfl rfl (by exact lt_ok rfl) (show Env.ev E (.tmp 40) = _ from g40.trans rfl))) ?_
     exact .nil _ _
    refine TL.weaken (E' := { tm := [(1, (.one (.ptr 1 0))), (2, (.one (.nil))), (16, (.one (.row 1016 []))), (17, (pI ((bitList q.f3).length : Int))), (18, (pI (i : Int))), (3, (.one (.row 500040 []))), (19, (pB (decide ((i : Int) < ((bitList q.f3).length : Int))))), (20, (pI (i : Int))), (21, (.one (.rptr 1016 [] i 0))), (22, (pI ((bitList q.f3).getD i 0))), (4, (pI (i : Int))), (5, (pI ((bitList q.f3).getD i 0))), (24, (.one (.ptr 1 0))), (25, (pI q.f0)), (26, (.one (.ptr 1 1))), (27, (pI q.f1)), (28, (.one (.ptr 1 2))), (29, (pS q.f2)), (31, (pI ((bitList q.f3).getD i 0))), (32, (.one (.ptr 1 4))), (33, (.one (.d (.bss q.f4)))), (34, (pI (i : Int))), (35, (.one (.eptr (.bss q.f4) i 0))), (36, (pS (q.f4.getD i []))), (40, (.one (.row 500040 [])))], rows := [(1016, (3, (.ints .i64 (bitList q.f3)))), (500040, (64, (.sl 5 (((qcVotesN q i) ++ [(⟨q.f0, q.f1, q.f2, (bitList q.f3).getD i 0, (q.f4.getD i [])⟩ : SVote)]).map SVote.cells))))], boxes := [(1, (29, [cI q.f0, cI q.f1, cS q.f2, cS q.f3, .d (.bss q.f4)]))] }) (Env.le_mk ⟨by kernel_rfl, by kernel_rfl, by kernel_rfl, by kernel_rfl, by kernel_rfl, by kernel_rfl, by kernel_rfl, by kernel_rfl, by kernel_rfl, by kernel_rfl, by kernel_rfl, by kernel_rfl, by kernel_rfl, by kernel_rfl, by kernel_rfl, by kernel_rfl, by kernel_rfl, by kernel_rfl, by kernel_rfl, by kernel_rfl, by kernel_rfl, by kernel_rfl, by kernel_rfl, by kernel_rfl, by kernel_rfl, trivial⟩ ⟨by kernel_rfl, by kernel_rfl, trivial⟩ ⟨by kernel_rfl, trivial⟩) ?_
    refine TL.ren 500040 600001 rfl (by simp) ?_
    refine TL.nil ?_
    refine T.region ?_
    refine TL.c (Step.bin (r := .int .i64 ((i : Int) + 1)) rfl rfl (lt_ok rfl) rfl rfl (Bin.add (a := (i : Int)) (b := 1) (by first | exact wrap_ok (by first | omega | (simp; omega)) (by first | omega | (simp; omega)) | rfl))) ?_
    refine TL.mv (pI ((i : Int) + 1)) ?_
    refine TL.nil ?_
    refine ⟨i + 1, by omega, by first | omega | (dsimp only; omega), Env.le_mk ⟨rfl, rfl, rfl, rfl, ?_, rfl, trivial⟩ ⟨?_, rfl, trivial⟩ ⟨rfl, trivial⟩⟩ <;> (first | exact congrArg (fun x => some (_, D.sl 5 (List.map SVote.cells x))) (qcVotesN_succ q i).symm | rfl | (refine congrArg (fun n => PV.one (.d (.int .i64 n))) ?_; first | omega | (simp; done)))
   ·
    replace h4 := of_decide_eq_false h4
    refine T.exit ?_
    refine T.seq ?_
    refine T.region ?_
    refine TL.mv (.one (.row 600001 [])) ?_
    refine TL.as (.one (.row 600001 [])) ?_
    refine TL.nil ?_
    refine T.ret ?_
    refine ⟨[(false, [.row 600001 []])], (.cons rfl .nil), rfl, [600001], (RetC.own' rfl ?_ rfl .nil)⟩ <;> (first | (congr 1; unfold qcVotes; rw [if_pos (by omega), show i = (bitList q.f3).length from by omega]) | (show (qcVotes q).length = 0; unfold qcVotes; rw [if_neg (by omega)]; rfl) | (congr 1; unfold qcVotes; rw [if_neg (by omega)]; rfl) | (simp only [D.size, List.length_map]; unfold qcVotes; rw [if_neg (by omega)]; rfl))
theorem ok_impl_BitsSize (n : Int) (h0_ : n ≤ 9223372036854775807) : RO Try.prog 174 [.one (.int .i64 n)] [(false, [.rd (.int .i64 (bitsSize n))])] := by
 refine RO.intro Try.func174 rfl 9 rfl (le_ok rfl) fun w Z => ?_
 refine T.seq ?_
 refine T.region ?_
 refine TL.as (pI 0) ?_
 refine TL.nil ?_
 refine T.seq ?_
 refine T.seq ?_
 refine T.region ?_
 refine TL.mv (pI n) ?_
 refine TL.c (Step.bin rfl rfl (lt_ok rfl) rfl rfl (Bin.lss (k := .i64) (a := n) (b := 1))) ?_
 refine TL.nil ?_
 refine T.cond (b := decide (n < 1)) rfl (fun h1 => ?_) (fun h1 => ?_)
 ·
  replace h1 := of_decide_eq_true h1
  refine T.seq ?_
  refine T.region ?_
  refine TL.as (pI 0) ?_
  refine TL.nil ?_
  refine T.ret ?_
  refine ⟨[(false, [cI 0])], (.cons rfl .nil), rfl, [], (RetC.rd' ?_ .nil)⟩ <;> ((congr 1; unfold bitsSize; first | rw [if_pos (by omega)] | (rw [if_neg (by omega)]; done) | (rw [if_neg (by omega)]; omega)))
 ·
  replace h1 := of_decide_eq_false h1
  refine T.skip ?_
  refine T.seq ?_
  refine T.region ?_
  refine TL.mv (pI n) ?_
  refine TL.c (Step.bin (r := .int .i64 (n - 1)) rfl rfl (lt_ok rfl) rfl rfl (Bin.sub (a := n) (b := 1) (by first | exact wrap_ok (by first | omega | (simp; omega)) (by first | omega | (simp; omega)) | rfl))) ?_
  refine TL.c (Step.bin (r := .int .i64 ((n - 1) / 8)) rfl rfl (lt_ok rfl) rfl rfl (Bin.quo (k := .i64) (a := (n - 1)) (b := 8) (by decide) (by rw [Int.tdiv_eq_ediv_of_nonneg (by first | omega | (simp; omega))]; exact wrap_ok (by first | omega | (simp; omega)) (by first | omega | (simp; omega))))) ?_
  refine TL.c (Step.bin (r := .int .i64 (((n - 1) / 8) + 1)) rfl rfl (lt_ok rfl) rfl rfl (Bin.add (a := ((n - 1) / 8)) (b := 1) (by first | exact wrap_ok (by first | omega | (simp; omega)) (by first | omega | (simp; omega)) | rfl))) ?_
  refine TL.as (pI (((n - 1) / 8) + 1)) ?_
  refine TL.nil ?_
  refine T.ret ?_
  refine ⟨[(false, [cI (((n - 1) / 8) + 1)])], (.cons rfl .nil), rfl, [], (RetC.rd' ?_ .nil)⟩ <;> ((congr 1; unfold bitsSize; first | rw [if_pos (by omega)] | (rw [if_neg (by omega)]; done) | (rw [if_neg (by omega)]; omega)))
theorem ok_impl_BitsNew (n : Int) (h0_ : n ≤ 9223372036854775807) : RO Try.prog 148 [.one (.int .i64 n)] [(false, [.own 5 (.ints .u8 (bitsOf [] n))])] := by
 refine RO.intro Try.func148 rfl 9 rfl (le_ok rfl) fun w Z => ?_
 have hz_ : (1 ≤ n ∧ n ≤ 10) → bitsSize n = (n - 1) / 8 + 1 := fun h => by unfold bitsSize; rw [if_neg (by omega)]
 refine T.seq ?_
 refine T.region ?_
 refine TL.as (.one (.nil)) ?_
 refine TL.nil ?_
 refine T.seq ?_
 refine T.seq ?_
 refine T.region ?_
 refine TL.mv (pI n) ?_
 refine TL.c (Step.cl (xs := [.tmp 3, .const (.int .i64 1), .const (.int .i64 10)]) (ps := [(pI n), (pI 1), (pI 10)]) (g := .func 144) false (.cons (.one (.d _)) (.cons (.one (.d _)) (.cons (.one (.d _)) .nil))) (ok_impl_within n 1 10)) ?_
 refine TL.c (Step.not (b := (decide (1 ≤ n ∧ n ≤ 10))) rfl rfl (lt_ok rfl) rfl) ?_
 refine TL.nil ?_
 refine T.cond (b := !(decide (1 ≤ n ∧ n ≤ 10))) rfl (fun h1 => ?_) (fun h1 => ?_)
 ·
  replace h1 : (decide (1 ≤ n ∧ n ≤ 10)) = false := by simpa only [Bool.not_eq_true', Bool.not_eq_false'] using h1
  replace h1 := of_decide_eq_false h1
  refine T.seq ?_
  refine T.region ?_
  refine TL.as (.one (.nil)) ?_
  refine TL.nil ?_
  refine T.ret ?_
  refine ⟨[(false, [.nil])], (.cons rfl .nil), rfl, [], (RetC.nilown' rfl ?_ (by first | exact trivial | exact D.wf_nil _) .nil)⟩ <;> (first | (congr 1; rw [bitsOf_yes (bitsOfOk_in (l := []) (n := n) (by omega) rfl)]; rfl) | (simp only [D.size]; rw [bitsOf_no (bitsOfOk_out (l := []) (n := n) (by omega))]; rfl))
 ·
  replace h1 : (decide (1 ≤ n ∧ n ≤ 10)) = true := by simpa only [Bool.not_eq_true', Bool.not_eq_false'] using h1
  replace h1 := of_decide_eq_true h1
  refine T.skip ?_
  refine T.seq ?_
  refine T.region ?_
  refine TL.mv (pI n) ?_
  refine TL.c (Step.cl (xs := [.tmp 6]) (ps := [(pI n)]) (g := .func 174) false (.cons (.one (.d _)) .nil) (ok_impl_BitsSize n (by first | omega | assumption | (simp only [List.length_append] at *; omega)))) ?_
  refine TL.c (Step.make (e := 5) (z := 1) (by_ := 1) (n := (bitsSize n)) (zs := [.int .u8 0]) (zd := [.int .u8 0]) (d := (.ints .u8 (List.replicate (bitsSize n).toNat 0))) rfl rfl (lt_ok rfl) (by kernel_rfl) (lt_ok rfl) rfl (by first | omega | (have := hz_ (by omega); omega) | (simp; omega)) (by first | omega | (have := hz_ (by omega); omega) | (simp; omega)) (by first | omega | (have := hz_ (by omega); omega) | (simp; omega)) (by kernel_rfl) (.val rfl .nil) rfl (by simp) (by simp [D.flat, List.flatten_replicate_singleton]) (by simp [D.size]) rfl trivial) ?_
  refine TL.as (.one (.row 8 [])) ?_
  refine TL.nil ?_
  refine T.ret ?_
  refine ⟨[(false, [.row 8 []])], (.cons rfl .nil), rfl, [8], (RetC.own' rfl ?_ rfl .nil)⟩ <;> (first | (congr 1; rw [bitsOf_yes (bitsOfOk_in (l := []) (n := n) (by omega) rfl)]; rfl) | (simp only [D.size]; rw [bitsOf_no (bitsOfOk_out (l := []) (n := n) (by omega))]; rfl))
theorem ok_impl_BitsOf (l : List Int) (n : Int) (h0_ : n ≤ 9223372036854775807) : RO Try.prog 91 [.one (.ints .i64 l), .one (.int .i64 n)] [(false, [.own 5 (.ints .u8 (bitsOf l n))]), (false, [.rd (.bool (bitsOfOk l n))])] := by
 refine RO.intro Try.func91 rfl 37 rfl (le_ok rfl) fun w Z => ?_
 refine T.bnd 0 0 rfl rfl fun hb_0_0 => ?_
 simp only [D.size, List.length_map] at hb_0_0
 have hz_ : (1 ≤ n ∧ n ≤ 10) → bitsSize n = (n - 1) / 8 + 1 := fun h => by unfold bitsSize; rw [if_neg (by omega)]
 refine T.seq ?_
 refine T.region ?_
 refine TL.as (.one (.nil)) ?_
 refine TL.as (pB false) ?_
 refine TL.nil ?_
 refine T.seq ?_
 refine T.seq ?_
 refine T.region ?_
 refine TL.mv (pI n) ?_
 refine TL.c (Step.cl (xs := [.tmp 9, .const (.int .i64 1), .const (.int .i64 10)]) (ps := [(pI n), (pI 1), (pI 10)]) (g := .func 144) false (.cons (.one (.d _)) (.cons (.one (.d _)) (.cons (.one (.d _)) .nil))) (ok_impl_within n 1 10)) ?_
 refine TL.c (Step.not (b := (decide (1 ≤ n ∧ n ≤ 10))) rfl rfl (lt_ok rfl) rfl) ?_
 refine TL.nil ?_
 refine T.cond (b := !(decide (1 ≤ n ∧ n ≤ 10))) rfl (fun h1 => ?_) (fun h1 => ?_)
 ·
  replace h1 : (decide (1 ≤ n ∧ n ≤ 10)) = false := by simpa only [Bool.not_eq_true', Bool.not_eq_false'] using h1
  replace h1 := of_decide_eq_false h1
  refine T.seq ?_
  refine T.region ?_
  refine TL.as (.one (.nil)) ?_
  refine TL.as (pB false) ?_
  refine TL.nil ?_
  refine T.ret ?_
  refine ⟨[(false, [.nil]), (false, [.d (.bool false)])], (.cons rfl (.cons rfl .nil)), rfl, [], (RetC.nilown' rfl ?_ (by first | exact trivial | exact D.wf_nil _) (RetC.rd' ?_ .nil))⟩ <;> (first | (congr 1; rw [bitsOf_yes (bitsOfOk_in (l := l) (n := n) (by omega) ((bitsOf_all (l := l) (n := n) (i := i) (by omega)).2.2.1.symm.trans hx2)), ← (bitsOf_all (l := l) (n := n) (i := i) (by omega)).2.2.2]; done) | (simp only [D.size]; first | (rw [bitsOf_no (bitsOfOk_out (l := l) (n := n) (by omega))]; rfl) | (rw [bitsOf_no (bitsOfOk_no (signers_no (l := l) (n := n) (i := i) (by omega) (by omega)))]; rfl)) | (congr 1; symm; first | exact bitsOfOk_out (l := l) (n := n) (by omega) | exact bitsOfOk_no (signers_no (l := l) (n := n) (i := i) (by omega) (by omega)) | exact bitsOfOk_in (l := l) (n := n) (by omega) ((bitsOf_all (l := l) (n := n) (i := i) (by omega)).2.2.1.symm.trans hx2)))
 ·
  replace h1 : (decide (1 ≤ n ∧ n ≤ 10)) = true := by simpa only [Bool.not_eq_true', Bool.not_eq_false'] using h1
  replace h1 := of_decide_eq_true h1
  refine T.skip ?_
  refine T.seq ?_
  refine T.region ?_
  refine TL.mv (pI n) ?_
  have nn2 := bitsOf_len [] n
  refine TL.c (Step.cl (xs := [.tmp 12]) (ps := [(pI n)]) (g := .func 148) false (.cons (.one (.d _)) .nil) (ok_impl_BitsNew n (by first | omega | assumption | (simp only [List.length_append] at *; omega)))) ?_
  refine TL.as (.one (.row 1013 [])) ?_
  refine TL.nil ?_
  refine T.seq ?_
  refine T.seq ?_
  refine T.region ?_
  refine TL.mv (.one (.d (.ints .i64 l))) ?_
  refine TL.c (Step.len (e := 3) (z := 1) (d := (.ints .i64 l)) rfl rfl (lt_ok rfl) (by kernel_rfl) rfl rfl) ?_
  refine TL.mv (pI 0) ?_
  refine TL.nil ?_
  refine T.block ?_
  refine T.loop (ι := Nat) (fun xx_ => { tm := [(1, (pI n)), (6, (.one (.row 1013 []))), (14, (.one (.d (.ints .i64 l)))), (15, (pI (l.length : Int))), (16, (pI (xx_ : Int)))], rows := [(1013, (5, (.ints .u8 (putBits n (l.take xx_)))))], boxes := [] }) (fun xx_ => xx_ ≤ l.length ∧ signersOk (l.take xx_) n = true) (fun xx_ => l.length - xx_) 0 ?_ ?_ ?_
  · refine Env.le_mk ⟨rfl, rfl, rfl, rfl, ?_, trivial⟩ ⟨?_, trivial⟩ trivial <;> (first | (refine congrArg (fun x => some (_, D.ints .u8 x)) ?_; first | exact or8_step (by omega) (by omega) | exact bitsOf_nil (by omega) l) | rfl | (refine congrArg (fun n => PV.one (.d (.int .i64 n))) ?_; first | rfl | omega | (simp; done)))
  · exact ⟨Nat.zero_le _, by rw [List.take_zero]; rfl⟩
  ·
   intro i hx
   try dsimp only at hx ⊢
   obtain ⟨hx1, hx2⟩ := hx
   have hl_ := putBits_len n (l.take i)
   have hz2_ := hz_ (by omega)
   refine T.seq ?_
   refine T.region ?_
   refine TL.c (Step.bin rfl rfl (lt_ok rfl) rfl rfl (Bin.lss (k := .i64) (a := (i : Int)) (b := (l.length : Int)))) ?_
   refine TL.nil ?_
   refine T.seq ?_
   refine T.cond (b := decide ((i : Int) < (l.length : Int))) rfl (fun h3 => ?_) (fun h3 => ?_)
   ·
    replace h3 := of_decide_eq_true h3
    refine T.skip ?_
    refine T.seq ?_
    refine T.block ?_
    refine T.seq ?_
    refine T.region ?_
    refine TL.c (Step.index (e := 3) (z := 1) (i := (i : Int)) rfl rfl (lt_ok rfl) (by kernel_rfl) rfl rfl rfl (lt_ok rfl) rfl (by first | omega | (simp; omega)) (by simp only [D.size]; first | omega | (simp; omega))) ?_
    refine TL.c (Step.load (e := (.int .i64 (l.getD i 0))) rfl rfl (lt_ok rfl) (by kernel_rfl) rfl rfl) ?_
    refine TL.as (pI (l.getD i 0)) ?_
    refine TL.nil ?_
    refine T.seq ?_
    refine T.seq ?_
    refine T.region ?_
    refine TL.mv (pI (l.getD i 0)) ?_
    refine TL.mv (pI n) ?_
    refine TL.c (Step.bin (r := .int .i64 (n - 1)) rfl rfl (lt_ok rfl) rfl rfl (Bin.sub (a := n) (b := 1) (by first | exact wrap_ok (by first | omega | (simp; omega)) (by first | omega | (simp; omega)) | rfl))) ?_
    refine TL.c (Step.cl (xs := [.tmp 20, .const (.int .i64 0), .tmp 22]) (ps := [(pI (l.getD i 0)), (pI 0), (pI (n - 1))]) (g := .func 144) false (.cons (.one (.d _)) (.cons (.one (.d _)) (.cons (.one (.d _)) .nil))) (ok_impl_within (l.getD i 0) 0 (n - 1))) ?_
    refine TL.c (Step.not (b := (decide (0 ≤ (l.getD i 0) ∧ (l.getD i 0) ≤ (n - 1)))) rfl rfl (lt_ok rfl) rfl) ?_
    refine TL.nil ?_
    refine T.cond (b := !(decide (0 ≤ (l.getD i 0) ∧ (l.getD i 0) ≤ (n - 1)))) rfl (fun h4 => ?_) (fun h4 => ?_)
    ·
     replace h4 : (decide (0 ≤ (l.getD i 0) ∧ (l.getD i 0) ≤ (n - 1))) = false := by simpa only [Bool.not_eq_true', Bool.not_eq_false'] using h4
     replace h4 := of_decide_eq_false h4
     refine T.seq ?_
     refine T.region ?_
     refine TL.as (.one (.nil)) ?_
     refine TL.as (pB false) ?_
     refine TL.nil ?_
     refine T.ret ?_
     refine ⟨[(false, [.nil]), (false, [.d (.bool false)])], (.cons rfl (.cons rfl .nil)), rfl, [], (RetC.nilown' rfl ?_ (by first | exact trivial | exact D.wf_nil _) (RetC.rd' ?_ .nil))⟩ <;> (first | (congr 1; rw [bitsOf_yes (bitsOfOk_in (l := l) (n := n) (by omega) ((bitsOf_all (l := l) (n := n) (i := i) (by omega)).2.2.1.symm.trans hx2)), ← (bitsOf_all (l := l) (n := n) (i := i) (by omega)).2.2.2]; done) | (simp only [D.size]; first | (rw [bitsOf_no (bitsOfOk_out (l := l) (n := n) (by omega))]; rfl) | (rw [bitsOf_no (bitsOfOk_no (signers_no (l := l) (n := n) (i := i) (by omega) (by omega)))]; rfl)) | (congr 1; symm; first | exact bitsOfOk_out (l := l) (n := n) (by omega) | exact bitsOfOk_no (signers_no (l := l) (n := n) (i := i) (by omega) (by omega)) | exact bitsOfOk_in (l := l) (n := n) (by omega) ((bitsOf_all (l := l) (n := n) (i := i) (by omega)).2.2.1.symm.trans hx2)))
    ·
     replace h4 : (decide (0 ≤ (l.getD i 0) ∧ (l.getD i 0) ≤ (n - 1))) = true := by simpa only [Bool.not_eq_true', Bool.not_eq_false'] using h4
     replace h4 := of_decide_eq_true h4
     refine T.skip ?_
     refine T.draw [⟨25, (.one (.row 1013 [])), []⟩, ⟨26, (pI (l.getD i 0)), []⟩, ⟨27, (pI ((l.getD i 0) / 8)), []⟩, ⟨28, (.one (.rptr 1013 [] ((l.getD i 0) / 8).toNat 0)), []⟩, ⟨29, (.one (.d (.int .u8 ((putBits n (l.take i)).getD ((l.getD i 0) / 8).toNat 0)))), []⟩, ⟨30, (pI (l.getD i 0)), []⟩, ⟨31, (pI ((l.getD i 0) % 8)), []⟩, ⟨32, (.one (.d (.int .u8 (shl8 1 ((l.getD i 0) % 8))))), []⟩, ⟨33, (.one (.d (.int .u8 (or8 ((putBits n (l.take i)).getD ((l.getD i 0) / 8).toNat 0) (shl8 1 ((l.getD i 0) % 8)))))), []⟩, ⟨34, (.one (.rptr 1013 [] ((l.getD i 0) / 8).toNat 0)), []⟩] (by kernel_rfl) (by kernel_rfl) ?_ ?_
     ·
      refine .cons (fun E A => A.mv 6 25) ?_
      refine .cons (fun E A => A.mv 8 26) ?_
      refine .cons (fun E A => OpStep.plain rfl (Step.bd (r := .int .i64 ((l.getD i 0) / 8)) 27 (A.g 26 rfl) rfl (Bin.quo (k := .i64) (a := (l.getD i 0)) (b := 8) (by decide) (by rw [Int.tdiv_eq_ediv_of_nonneg (by first | omega | (simp; omega))]; exact wrap_ok (by first | omega | (simp; omega)) (by first | omega | (simp; omega)))))) ?_
      refine .cons (fun E A => OpStep.plain rfl (Step.index_row (e := 5) (z := 1) (i := ((l.getD i 0) / 8)) (t := 28) rfl rfl (by exact lt_ok rfl) (by kernel_rfl) (A.g 25 rfl) (by exact (A.row 1013 (by kernel_rfl)).trans rfl) rfl rfl (lt_ok rfl) (A.g 27 rfl) (by first | omega | (simp; omega)) (by simp only [D.at_, D.cell, D.size]; first | omega | (simp; omega)))) ?_
      refine .cons (fun E A => OpStep.plain rfl (Step.load_row (c := .d (.int .u8 ((putBits n (l.take i)).getD ((l.getD i 0) / 8).toNat 0))) (t := 29) rfl rfl (by exact lt_ok rfl) (by kernel_rfl) (A.g 28 rfl) (by exact (A.row 1013 (by kernel_rfl)).trans rfl) rfl)) ?_
      refine .cons (fun E A => A.mv 8 30) ?_
      refine .cons (fun E A => OpStep.plain rfl (Step.bd (r := .int .i64 ((l.getD i 0) % 8)) 31 (A.g 30 rfl) rfl (Bin.rem (k := .i64) (a := (l.getD i 0)) (b := 8) (by decide) (Int.tmod_eq_emod_of_nonneg (by first | omega | (simp; omega)))))) ?_
      refine .cons (fun E A => OpStep.plain rfl (Step.bd (r := .int .u8 (shl8 1 ((l.getD i 0) % 8))) 32 rfl (A.g 31 rfl) (Bin.shl (k := .u8) (k' := .i64) (a := 1) (b := ((l.getD i 0) % 8)) (by first | omega | (simp; omega)) (rfl)))) ?_
      refine .cons (fun E A => OpStep.plain rfl (Step.bd (r := .int .u8 (or8 ((putBits n (l.take i)).getD ((l.getD i 0) / 8).toNat 0) (shl8 1 ((l.getD i 0) % 8)))) 33 (A.g 29 rfl) (A.g 32 rfl) (Bin.or (k := .u8) (a := ((putBits n (l.take i)).getD ((l.getD i 0) / 8).toNat 0)) (b := (shl8 1 ((l.getD i 0) % 8))) (rfl)))) ?_
      refine .cons (fun E A => OpStep.plain rfl (Step.index_row (e := 5) (z := 1) (i := ((l.getD i 0) / 8)) (t := 34) rfl rfl (by exact lt_ok rfl) (by kernel_rfl) (A.g 25 rfl) (by exact (A.row 1013 (by kernel_rfl)).trans rfl) rfl rfl (lt_ok rfl) (A.g 27 rfl) (by first | omega | (simp; omega)) (by simp only [D.at_, D.cell, D.size]; first | omega | (simp; omega)))) ?_
      exact .nil _ _
     refine TL.c (Step.store_row (n := 1) (p := (.one (.d (.int .u8 (or8 ((putBits n (l.take i)).getD ((l.getD i 0) / 8).toNat 0) (shl8 1 ((l.getD i 0) % 8))))))) (ps := [.d (.int .u8 (or8 ((putBits n (l.take i)).getD ((l.getD i 0) / 8).toNat 0) (shl8 1 ((l.getD i 0) % 8))))]) (es := [(.int .u8 (or8 ((putBits n (l.take i)).getD ((l.getD i 0) / 8).toNat 0) (shl8 1 ((l.getD i 0) % 8))))]) (ss := []) (d1 := (.ints .u8 ((putBits n (l.take i)).set ((l.getD i 0) / 8).toNat (or8 ((putBits n (l.take i)).getD ((l.getD i 0) / 8).toNat 0) (shl8 1 ((l.getD i 0) % 8)))))) (d' := (.ints .u8 ((putBits n (l.take i)).set ((l.getD i 0) / 8).toNat (or8 ((putBits n (l.take i)).getD ((l.getD i 0) / 8).toNat 0) (shl8 1 ((l.getD i 0) % 8)))))) rfl rfl (by kernel_rfl) rfl rfl rfl rfl rfl rfl (.val rfl .nil) (by simp) (Putd.one rfl trivial rfl (by simp only [D.at_, D.size, List.length_set, upTo_length]; first | omega | (simp; omega)) (lt_ok rfl)) rfl) ?_
     refine TL.nil ?_
     refine T.region ?_
     refine TL.c (Step.bin (r := .int .i64 ((i : Int) + 1)) rfl rfl (lt_ok rfl) rfl rfl (Bin.add (a := (i : Int)) (b := 1) (by first | exact wrap_ok (by first | omega | (simp; omega)) (by first | omega | (simp; omega)) | rfl))) ?_
     refine TL.mv (pI ((i : Int) + 1)) ?_
     refine TL.nil ?_
     refine ⟨i + 1, by (refine ⟨by omega, signers_step (by omega) hx2 (by omega)⟩), by first | omega | (dsimp only; omega), Env.le_mk ⟨rfl, rfl, rfl, rfl, ?_, trivial⟩ ⟨?_, trivial⟩ trivial⟩ <;> (first | (refine congrArg (fun x => some (_, D.ints .u8 x)) ?_; first | exact or8_step (by omega) (by omega) | exact bitsOf_nil (by omega) l) | rfl | (refine congrArg (fun n => PV.one (.d (.int .i64 n))) ?_; first | rfl | omega | (simp; done)))
   ·
    replace h3 := of_decide_eq_false h3
    refine T.exit ?_
    refine T.seq ?_
    refine T.region ?_
    refine TL.mv (.one (.row 1013 [])) ?_
    refine TL.as (.one (.row 1013 [])) ?_
    refine TL.as (pB true) ?_
    refine TL.nil ?_
    refine T.ret ?_
    refine ⟨[(false, [.row 1013 []]), (false, [.d (.bool true)])], (.cons rfl (.cons rfl .nil)), rfl, [1013], (RetC.own' rfl ?_ rfl (RetC.rd' ?_ .nil))⟩ <;> (first | (congr 1; rw [bitsOf_yes (bitsOfOk_in (l := l) (n := n) (by omega) ((bitsOf_all (l := l) (n := n) (i := i) (by omega)).2.2.1.symm.trans hx2)), ← (bitsOf_all (l := l) (n := n) (i := i) (by omega)).2.2.2]; done) | (simp only [D.size]; first | (rw [bitsOf_no (bitsOfOk_out (l := l) (n := n) (by omega))]; rfl) | (rw [bitsOf_no (bitsOfOk_no (signers_no (l := l) (n := n) (i := i) (by omega) (by omega)))]; rfl)) | (congr 1; symm; first | exact bitsOfOk_out (l := l) (n := n) (by omega) | exact bitsOfOk_no (signers_no (l := l) (n := n) (i := i) (by omega) (by omega)) | exact bitsOfOk_in (l := l) (n := n) (by omega) ((bitsOf_all (l := l) (n := n) (i := i) (by omega)).2.2.1.symm.trans hx2)))
theorem ok_impl_areHashes (l : List (List Int)) : RO Try.prog 145 [.one (.bss l)] [(false, [.rd (.bool (hashes l))])] := by
 refine RO.intro Try.func145 rfl 15 rfl (le_ok rfl) fun w Z => ?_
 refine T.bnd 0 0 rfl rfl fun hb_0_0 => ?_
 simp only [D.size, List.length_map] at hb_0_0
 refine T.seq ?_
 refine T.region ?_
 refine TL.as (pB false) ?_
 refine TL.nil ?_
 refine T.seq ?_
 refine T.seq ?_
 refine T.region ?_
 refine TL.mv (.one (.d (.bss l))) ?_
 refine TL.c (Step.len (e := 22) (z := 1) (d := (.bss l)) rfl rfl (lt_ok rfl) (by kernel_rfl) rfl rfl) ?_
 refine TL.mv (pI 0) ?_
 refine TL.nil ?_
 refine T.block ?_
 refine T.loop (ι := Nat) (fun xx_ => { tm := [(5, (.one (.d (.bss l)))), (6, (pI (l.length : Int))), (7, (pI (xx_ : Int)))], rows := [], boxes := [] }) (fun xx_ => xx_ ≤ l.length ∧ hashes (l.take xx_) = true) (fun xx_ => l.length - xx_) 0 ?_ ?_ ?_
 · refine Env.le_mk ⟨rfl, rfl, ?_, trivial⟩ trivial trivial <;> (first | rfl | (simp; done) | (congr 3; omega))
 · (refine ⟨Nat.zero_le _, by rw [List.take_zero]; rfl⟩)
 ·
  intro i hx
  try dsimp only at hx ⊢
  obtain ⟨hx1, hx2⟩ := hx
  refine T.seq ?_
  refine T.region ?_
  refine TL.c (Step.bin rfl rfl (lt_ok rfl) rfl rfl (Bin.lss (k := .i64) (a := (i : Int)) (b := (l.length : Int)))) ?_
  refine TL.nil ?_
  refine T.seq ?_
  refine T.cond (b := decide ((i : Int) < (l.length : Int))) rfl (fun h1 => ?_) (fun h1 => ?_)
  ·
   replace h1 := of_decide_eq_true h1
   refine T.skip ?_
   refine T.seq ?_
   refine T.block ?_
   refine T.seq ?_
   refine T.region ?_
   refine TL.c (Step.index (e := 22) (z := 1) (i := (i : Int)) rfl rfl (lt_ok rfl) (by kernel_rfl) rfl rfl rfl (lt_ok rfl) rfl (by first | omega | (simp; omega)) (by simp only [D.size]; first | omega | (simp; omega))) ?_
   refine TL.c (Step.load (e := (.ints .u8 (l.getD i []))) rfl rfl (lt_ok rfl) (by kernel_rfl) rfl rfl) ?_
   refine TL.as (pS (l.getD i [])) ?_
   refine TL.nil ?_
   refine T.seq ?_
   refine T.region ?_
   refine TL.mv (pS (l.getD i [])) ?_
   refine TL.c (Step.len (e := 5) (z := 1) (d := (.ints .u8 (l.getD i []))) rfl rfl (lt_ok rfl) (by kernel_rfl) rfl rfl) ?_
   refine TL.c (Step.bin rfl rfl (lt_ok rfl) rfl rfl (Bin.neq (k := .i64) (a := ((l.getD i []).length : Int)) (b := 32))) ?_
   refine TL.nil ?_
   refine T.cond (b := decide (((l.getD i []).length : Int) ≠ 32)) rfl (fun h2 => ?_) (fun h2 => ?_)
   ·
    replace h2 := of_decide_eq_true h2
    refine T.seq ?_
    refine T.region ?_
    refine TL.as (pB false) ?_
    refine TL.nil ?_
    refine T.ret ?_
    refine ⟨[(false, [.d (.bool false)])], (.cons rfl .nil), rfl, [], (RetC.rd' ?_ .nil)⟩ <;> ((congr 1; symm; first | (exact hashes_no (i := i) (by omega) (by omega)) | (rw [List.take_of_length_le (by omega)] at hx2; exact hx2)))
   ·
    replace h2 := of_decide_eq_false h2
    refine T.skip ?_
    refine T.region ?_
    refine TL.c (Step.bin (r := .int .i64 ((i : Int) + 1)) rfl rfl (lt_ok rfl) rfl rfl (Bin.add (a := (i : Int)) (b := 1) (by first | exact wrap_ok (by first | omega | (simp; omega)) (by first | omega | (simp; omega)) | rfl))) ?_
    refine TL.mv (pI ((i : Int) + 1)) ?_
    refine TL.nil ?_
    refine ⟨i + 1, by (refine ⟨by omega, hashes_step (by omega) hx2 (by omega)⟩), by first | omega | (dsimp only; omega), Env.le_mk ⟨rfl, rfl, ?_, trivial⟩ trivial trivial⟩ <;> (first | rfl | (simp; done) | (congr 3; omega))
  ·
   replace h1 := of_decide_eq_false h1
   refine T.exit ?_
   refine T.seq ?_
   refine T.region ?_
   refine TL.as (pB true) ?_
   refine TL.nil ?_
   refine T.ret ?_
   refine ⟨[(false, [.d (.bool true)])], (.cons rfl .nil), rfl, [], (RetC.rd' ?_ .nil)⟩ <;> ((congr 1; symm; first | (exact hashes_no (i := i) (by omega) (by omega)) | (rw [List.take_of_length_le (by omega)] at hx2; exact hx2)))
theorem ok_impl_LimitsOk (l : SLimits) : RO Try.prog 146 [.agg l.cells] [(false, [.rd (.bool (limOk l))])] := by
 refine RO.intro Try.func146 rfl 26 rfl (le_ok rfl) fun w Z => ?_
 refine T.seq ?_
 refine T.region ?_
 refine TL.c (Step.box (p := (.agg [cI l.f0, cI l.f1, cI l.f2, cI l.f3, cI l.f4])) (ps := [cI l.f0, cI l.f1, cI l.f2, cI l.f3, cI l.f4]) rfl rfl (lt_ok rfl) rfl rfl rfl rfl rfl) ?_
 refine TL.as (pB false) ?_
 refine TL.nil ?_
 refine T.seq ?_
 refine T.region ?_
 refine TL.c (Step.fieldAddr (q := 0) (off := 0) (n := 1) (one := true) rfl rfl (lt_ok rfl) (by kernel_rfl) (Nat.succ_ne_zero _) rfl) ?_
 refine TL.c (Step.load_box (c := cI l.f0) rfl rfl (lt_ok rfl) (by kernel_rfl) rfl rfl rfl) ?_
 refine TL.c (Step.cl (xs := [.tmp 4, .const (.int .i64 1), .const (.int .i64 10)]) (ps := [(pI l.f0), (pI 1), (pI 10)]) (g := .func 144) false (.cons (.one (.d _)) (.cons (.one (.d _)) (.cons (.one (.d _)) .nil))) (ok_impl_within l.f0 1 10)) ?_
 refine TL.mv (pB (decide (1 ≤ l.f0 ∧ l.f0 ≤ 10))) ?_
 rcases Bool.eq_false_or_eq_true (decide (1 ≤ l.f0 ∧ l.f0 ≤ 10)) with hb1 | hb1
 ·
  refine TL.known 6 hb1 rfl ?_
  refine TL.gy 6 (Step.fieldAddr (q := 0) (off := 1) (n := 1) (one := true) rfl rfl (lt_ok rfl) (by kernel_rfl) (Nat.succ_ne_zero _) rfl) ?_
  refine TL.gy 6 (Step.load_box (c := cI l.f1) rfl rfl (lt_ok rfl) (by kernel_rfl) rfl rfl rfl) ?_
  refine TL.gy 6 (Step.cl (xs := [.tmp 8, .const (.int .i64 0), .const (.int .i64 40)]) (ps := [(pI l.f1), (pI 0), (pI 40)]) (g := .func 144) false (.cons (.one (.d _)) (.cons (.one (.d _)) (.cons (.one (.d _)) .nil))) (ok_impl_within l.f1 0 40)) ?_
  refine TL.pk true (pB (decide (0 ≤ l.f1 ∧ l.f1 ≤ 40))) ?_
  refine TL.mv (pB (decide (0 ≤ l.f1 ∧ l.f1 ≤ 40))) ?_
  rcases Bool.eq_false_or_eq_true (decide (0 ≤ l.f1 ∧ l.f1 ≤ 40)) with hb2 | hb2
  ·
   refine TL.known 11 hb2 rfl ?_
   refine TL.gy 11 (Step.fieldAddr (q := 0) (off := 2) (n := 1) (one := true) rfl rfl (lt_ok rfl) (by kernel_rfl) (Nat.succ_ne_zero _) rfl) ?_
   refine TL.gy 11 (Step.load_box (c := cI l.f2) rfl rfl (lt_ok rfl) (by kernel_rfl) rfl rfl rfl) ?_
   refine TL.gy 11 (Step.cl (xs := [.tmp 13, .const (.int .i64 0), .const (.int .i64 8)]) (ps := [(pI l.f2), (pI 0), (pI 8)]) (g := .func 144) false (.cons (.one (.d _)) (.cons (.one (.d _)) (.cons (.one (.d _)) .nil))) (ok_impl_within l.f2 0 8)) ?_
   refine TL.pk true (pB (decide (0 ≤ l.f2 ∧ l.f2 ≤ 8))) ?_
   refine TL.mv (pB (decide (0 ≤ l.f2 ∧ l.f2 ≤ 8))) ?_
   rcases Bool.eq_false_or_eq_true (decide (0 ≤ l.f2 ∧ l.f2 ≤ 8)) with hb3 | hb3
   ·
    refine TL.known 16 hb3 rfl ?_
    refine TL.gy 16 (Step.fieldAddr (q := 0) (off := 3) (n := 1) (one := true) rfl rfl (lt_ok rfl) (by kernel_rfl) (Nat.succ_ne_zero _) rfl) ?_
    refine TL.gy 16 (Step.load_box (c := cI l.f3) rfl rfl (lt_ok rfl) (by kernel_rfl) rfl rfl rfl) ?_
    refine TL.gy 16 (Step.cl (xs := [.tmp 18, .const (.int .i64 1), .const (.int .i64 4000)]) (ps := [(pI l.f3), (pI 1), (pI 4000)]) (g := .func 144) false (.cons (.one (.d _)) (.cons (.one (.d _)) (.cons (.one (.d _)) .nil))) (ok_impl_within l.f3 1 4000)) ?_
    refine TL.pk true (pB (decide (1 ≤ l.f3 ∧ l.f3 ≤ 4000))) ?_
    refine TL.mv (pB (decide (1 ≤ l.f3 ∧ l.f3 ≤ 4000))) ?_
    rcases Bool.eq_false_or_eq_true (decide (1 ≤ l.f3 ∧ l.f3 ≤ 4000)) with hb4 | hb4
    ·
     refine TL.known 21 hb4 rfl ?_
     refine TL.gy 21 (Step.fieldAddr (q := 0) (off := 4) (n := 1) (one := true) rfl rfl (lt_ok rfl) (by kernel_rfl) (Nat.succ_ne_zero _) rfl) ?_
     refine TL.gy 21 (Step.load_box (c := cI l.f4) rfl rfl (lt_ok rfl) (by kernel_rfl) rfl rfl rfl) ?_
     refine TL.gy 21 (Step.cl (xs := [.tmp 23, .const (.int .i64 3), .const (.int .i64 5)]) (ps := [(pI l.f4), (pI 3), (pI 5)]) (g := .func 144) false (.cons (.one (.d _)) (.cons (.one (.d _)) (.cons (.one (.d _)) .nil))) (ok_impl_within l.f4 3 5)) ?_
     refine TL.pk true (pB (decide (3 ≤ l.f4 ∧ l.f4 ≤ 5))) ?_
     refine TL.as (pB (decide (3 ≤ l.f4 ∧ l.f4 ≤ 5))) ?_
     refine TL.nil ?_
     refine T.ret ?_
     refine ⟨[(false, [.d (.bool (decide (3 ≤ l.f4 ∧ l.f4 ≤ 5)))])], (.cons rfl .nil), rfl, [], (RetC.rd' ?_ .nil)⟩ <;> (first | rfl | (congr 1; symm; simp only [limOk, *, Bool.and_true, Bool.true_and, Bool.and_false, Bool.false_and, decide_true, decide_false, and_true, true_and, and_self, and_false, false_and, Bool.and_self, not_true, not_false, Bool.not_true, Bool.not_false, ge_iff_le, gt_iff_lt, if_true, if_false, Bool.false_eq_true, ite_true, ite_false, reduceIte]; done) | (congr 1; symm; simp_all [limOk]; done) | (congr 1; symm; simp_all [limOk]; omega))
    ·
     refine TL.known 21 hb4 rfl ?_
     refine TL.gf 21 ?_
     refine TL.gf 21 ?_
     refine TL.gf 21 ?_
     refine TL.pk false (pB false) ?_
     refine TL.as (pB false) ?_
     refine TL.nil ?_
     refine T.ret ?_
     refine ⟨[(false, [.d (.bool false)])], (.cons rfl .nil), rfl, [], (RetC.rd' ?_ .nil)⟩ <;> (first | rfl | (congr 1; symm; simp only [limOk, *, Bool.and_true, Bool.true_and, Bool.and_false, Bool.false_and, decide_true, decide_false, and_true, true_and, and_self, and_false, false_and, Bool.and_self, not_true, not_false, Bool.not_true, Bool.not_false, ge_iff_le, gt_iff_lt, if_true, if_false, Bool.false_eq_true, ite_true, ite_false, reduceIte]; done) | (congr 1; symm; simp_all [limOk]; done) | (congr 1; symm; simp_all [limOk]; omega))
   ·
    refine TL.known 16 hb3 rfl ?_
    refine TL.gf 16 ?_
    refine TL.gf 16 ?_
    refine TL.gf 16 ?_
    refine TL.pk false (pB false) ?_
    refine TL.mv (pB false) ?_
    refine TL.gf 21 ?_
    refine TL.gf 21 ?_
    refine TL.gf 21 ?_
    refine TL.pk false (pB false) ?_
    refine TL.as (pB false) ?_
    refine TL.nil ?_
    refine T.ret ?_
    refine ⟨[(false, [.d (.bool false)])], (.cons rfl .nil), rfl, [], (RetC.rd' ?_ .nil)⟩ <;> (first | rfl | (congr 1; symm; simp only [limOk, *, Bool.and_true, Bool.true_and, Bool.and_false, Bool.false_and, decide_true, decide_false, and_true, true_and, and_self, and_false, false_and, Bool.and_self, not_true, not_false, Bool.not_true, Bool.not_false, ge_iff_le, gt_iff_lt, if_true, if_false, Bool.false_eq_true, ite_true, ite_false, reduceIte]; done) | (congr 1; symm; simp_all [limOk]; done) | (congr 1; symm; simp_all [limOk]; omega))
  ·
   refine TL.known 11 hb2 rfl ?_
   refine TL.gf 11 ?_
   refine TL.gf 11 ?_
   refine TL.gf 11 ?_
   refine TL.pk false (pB false) ?_
   refine TL.mv (pB false) ?_
   refine TL.gf 16 ?_
   refine TL.gf 16 ?_
   refine TL.gf 16 ?_
   refine TL.pk false (pB false) ?_
   refine TL.mv (pB false) ?_
   refine TL.gf 21 ?_
   refine TL.gf 21 ?_
   refine TL.gf 21 ?_
   refine TL.pk false (pB false) ?_
   refine TL.as (pB false) ?_
   refine TL.nil ?_
   refine T.ret ?_
   refine ⟨[(false, [.d (.bool false)])], (.cons rfl .nil), rfl, [], (RetC.rd' ?_ .nil)⟩ <;> (first | rfl | (congr 1; symm; simp only [limOk, *, Bool.and_true, Bool.true_and, Bool.and_false, Bool.false_and, decide_true, decide_false, and_true, true_and, and_self, and_false, false_and, Bool.and_self, not_true, not_false, Bool.not_true, Bool.not_false, ge_iff_le, gt_iff_lt, if_true, if_false, Bool.false_eq_true, ite_true, ite_false, reduceIte]; done) | (congr 1; symm; simp_all [limOk]; done) | (congr 1; symm; simp_all [limOk]; omega))
 ·
  refine TL.known 6 hb1 rfl ?_
  refine TL.gf 6 ?_
  refine TL.gf 6 ?_
  refine TL.gf 6 ?_
  refine TL.pk false (pB false) ?_
  refine TL.mv (pB false) ?_
  refine TL.gf 11 ?_
  refine TL.gf 11 ?_
  refine TL.gf 11 ?_
  refine TL.pk false (pB false) ?_
  refine TL.mv (pB false) ?_
  refine TL.gf 16 ?_
  refine TL.gf 16 ?_
  refine TL.gf 16 ?_
  refine TL.pk false (pB false) ?_
  refine TL.mv (pB false) ?_
  refine TL.gf 21 ?_
  refine TL.gf 21 ?_
  refine TL.gf 21 ?_
  refine TL.pk false (pB false) ?_
  refine TL.as (pB false) ?_
  refine TL.nil ?_
  refine T.ret ?_
  refine ⟨[(false, [.d (.bool false)])], (.cons rfl .nil), rfl, [], (RetC.rd' ?_ .nil)⟩ <;> (first | rfl | (congr 1; symm; simp only [limOk, *, Bool.and_true, Bool.true_and, Bool.and_false, Bool.false_and, decide_true, decide_false, and_true, true_and, and_self, and_false, false_and, Bool.and_self, not_true, not_false, Bool.not_true, Bool.not_false, ge_iff_le, gt_iff_lt, if_true, if_false, Bool.false_eq_true, ite_true, ite_false, reduceIte]; done) | (congr 1; symm; simp_all [limOk]; done) | (congr 1; symm; simp_all [limOk]; omega))
theorem ok_impl_isNum (n : Int) : RO Try.prog 147 [.one (.int .i64 n)] [(false, [.rd (.bool (decide (0 ≤ n ∧ n ≤ 1152921504606846975)))])] := by
 refine RO.intro Try.func147 rfl 5 rfl (le_ok rfl) fun w Z => ?_
 refine T.seq ?_
 refine T.region ?_
 refine TL.as (pB false) ?_
 refine TL.nil ?_
 refine T.seq ?_
 refine T.region ?_
 refine TL.mv (pI n) ?_
 refine TL.c (Step.cl (xs := [.tmp 3, .const (.int .i64 0), .const (.int .i64 1152921504606846975)]) (ps := [(pI n), (pI 0), (pI 1152921504606846975)]) (g := .func 144) false (.cons (.one (.d _)) (.cons (.one (.d _)) (.cons (.one (.d _)) .nil))) (ok_impl_within n 0 1152921504606846975)) ?_
 refine TL.as (pB (decide (0 ≤ n ∧ n ≤ 1152921504606846975))) ?_
 refine TL.nil ?_
 refine T.ret ?_
 exact ⟨[(false, [.d (.bool (decide (0 ≤ n ∧ n ≤ 1152921504606846975)))])], (.cons rfl .nil), rfl, [], (RetC.rd' rfl .nil)⟩
theorem ok_impl_BitsOk (b : List Int) (n : Int) (h0_ : U8s b) (h1_ : b.length ≤ 1099511627776) : RO Try.prog 154 [.one (.ints .u8 b), .one (.int .i64 n)] [(false, [.rd (.bool (bitsOk b n))])] := by
 refine RO.intro Try.func154 rfl 28 rfl (le_ok rfl) fun w Z => ?_
 refine T.bnd 0 0 rfl rfl fun hb_0_0 => ?_
 simp only [D.size, List.length_map] at hb_0_0
 refine T.seq ?_
 refine T.region ?_
 refine TL.as (pB false) ?_
 refine TL.nil ?_
 refine T.seq ?_
 refine T.seq ?_
 refine T.region ?_
 refine TL.mv (pI n) ?_
 refine TL.c (Step.cl (xs := [.tmp 7, .const (.int .i64 1), .const (.int .i64 10)]) (ps := [(pI n), (pI 1), (pI 10)]) (g := .func 144) false (.cons (.one (.d _)) (.cons (.one (.d _)) (.cons (.one (.d _)) .nil))) (ok_impl_within n 1 10)) ?_
 refine TL.c (Step.not (b := (decide (1 ≤ n ∧ n ≤ 10))) rfl rfl (lt_ok rfl) rfl) ?_
 refine TL.mv (pB (!(decide (1 ≤ n ∧ n ≤ 10)))) ?_
 rcases Bool.eq_false_or_eq_true (!(decide (1 ≤ n ∧ n ≤ 10))) with hb1 | hb1
 ·
  refine TL.known 10 hb1 rfl ?_
  have hb1' := hb1
  replace hb1' : (decide (1 ≤ n ∧ n ≤ 10)) = false := by simpa only [Bool.not_eq_true', Bool.not_eq_false'] using hb1'
  replace hb1' := of_decide_eq_false hb1'
  refine TL.gf 10 ?_
  refine TL.gf 10 ?_
  refine TL.gf 10 ?_
  refine TL.gf 10 ?_
  refine TL.gf 10 ?_
  refine TL.pk true (pB true) ?_
  refine TL.nil ?_
  refine T.cond (b := true) rfl (fun h2_ => ?_) (fun h2_ => absurd h2_ (by simp))
  refine T.seq ?_
  refine T.region ?_
  refine TL.as (pB false) ?_
  refine TL.nil ?_
  refine T.ret ?_
  refine ⟨[(false, [.d (.bool false)])], (.cons rfl .nil), rfl, [], (RetC.rd' ?_ .nil)⟩ <;> (first | (congr 1; symm; simp only [bitsOk, *, Bool.and_true, Bool.true_and, Bool.and_false, Bool.false_and, decide_true, decide_false, and_true, true_and, and_self, and_false, false_and, Bool.and_self, not_true, not_false, Bool.not_true, Bool.not_false, ge_iff_le, gt_iff_lt, if_true, if_false, Bool.false_eq_true, ite_true, ite_false, reduceIte]; done) | (congr 1; symm; unfold bitsOk; rw [decide_eq_false (p := (1 ≤ n ∧ n ≤ 10)) (by omega)]; rfl) | (congr 1; symm; unfold bitsOk; rw [decide_eq_false (p := ((b.length : Int) = bitsSize n)) (by omega)]; simp; done) | (congr 1; symm; unfold bitsOk; rw [all_no (i := i) (by omega) (by omega)]; simp; done) | (congr 1; symm; unfold bitsOk; rw [List.take_of_length_le (by omega)] at hx2; rw [hx2, decide_eq_true (p := (1 ≤ n ∧ n ≤ 10)) (by omega), decide_eq_true (p := ((b.length : Int) = bitsSize n)) (by omega)]; rfl))
 ·
  refine TL.known 10 hb1 rfl ?_
  have hb1' := hb1
  replace hb1' : (decide (1 ≤ n ∧ n ≤ 10)) = true := by simpa only [Bool.not_eq_true', Bool.not_eq_false'] using hb1'
  replace hb1' := of_decide_eq_true hb1'
  refine TL.gm 10 (pS b) ?_
  refine TL.gy 10 (Step.len (e := 5) (z := 1) (d := (.ints .u8 b)) rfl rfl (lt_ok rfl) (by kernel_rfl) rfl rfl) ?_
  refine TL.gm 10 (pI n) ?_
  refine TL.gy 10 (Step.cl (xs := [.tmp 13]) (ps := [(pI n)]) (g := .func 174) false (.cons (.one (.d _)) .nil) (ok_impl_BitsSize n (by first | omega | assumption | (simp only [List.length_append] at *; omega)))) ?_
  refine TL.gy 10 (Step.bin rfl rfl (lt_ok rfl) rfl rfl (Bin.neq (k := .i64) (a := (b.length : Int)) (b := (bitsSize n)))) ?_
  refine TL.pk false (pB (decide ((b.length : Int) ≠ (bitsSize n)))) ?_
  refine TL.nil ?_
  refine T.cond (b := decide ((b.length : Int) ≠ (bitsSize n))) rfl (fun h3 => ?_) (fun h3 => ?_)
  ·
   replace h3 := of_decide_eq_true h3
   refine T.seq ?_
   refine T.region ?_
   refine TL.as (pB false) ?_
   refine TL.nil ?_
   refine T.ret ?_
   refine ⟨[(false, [.d (.bool false)])], (.cons rfl .nil), rfl, [], (RetC.rd' ?_ .nil)⟩ <;> (first | (congr 1; symm; simp only [bitsOk, *, Bool.and_true, Bool.true_and, Bool.and_false, Bool.false_and, decide_true, decide_false, and_true, true_and, and_self, and_false, false_and, Bool.and_self, not_true, not_false, Bool.not_true, Bool.not_false, ge_iff_le, gt_iff_lt, if_true, if_false, Bool.false_eq_true, ite_true, ite_false, reduceIte]; done) | (congr 1; symm; unfold bitsOk; rw [decide_eq_false (p := (1 ≤ n ∧ n ≤ 10)) (by omega)]; rfl) | (congr 1; symm; unfold bitsOk; rw [decide_eq_false (p := ((b.length : Int) = bitsSize n)) (by omega)]; simp; done) | (congr 1; symm; unfold bitsOk; rw [all_no (i := i) (by omega) (by omega)]; simp; done) | (congr 1; symm; unfold bitsOk; rw [List.take_of_length_le (by omega)] at hx2; rw [hx2, decide_eq_true (p := (1 ≤ n ∧ n ≤ 10)) (by omega), decide_eq_true (p := ((b.length : Int) = bitsSize n)) (by omega)]; rfl))
  ·
   replace h3 := of_decide_eq_false h3
   refine T.skip ?_
   refine T.seq ?_
   refine T.seq ?_
   refine T.region ?_
   refine TL.mv (pS b) ?_
   have nn4 := bitList_len b
   refine TL.c (Step.cl (xs := [.tmp 17]) (ps := [(pS b)]) (g := .func 82) false (.cons (.one (.d _)) .nil) (ok_impl_BitsList b (by assumption) (by first | omega | assumption | (simp only [List.length_append] at *; omega)))) ?_
   refine TL.c (Step.len (e := 3) (z := 1) (d := (.ints .i64 (bitList b))) rfl rfl (lt_ok rfl) (by kernel_rfl) rfl rfl) ?_
   refine TL.mv (pI 0) ?_
   refine TL.nil ?_
   refine T.block ?_
   refine T.loop (ι := Nat) (fun xx_ => { tm := [(1, (pI n)), (18, (.one (.row 1018 []))), (19, (pI ((bitList b).length : Int))), (20, (pI (xx_ : Int)))], rows := [(1018, (3, (.ints .i64 (bitList b))))], boxes := [] }) (fun xx_ => xx_ ≤ (bitList b).length ∧ ((bitList b).take xx_).all (fun x => decide (x < n)) = true) (fun xx_ => (bitList b).length - xx_) 0 ?_ ?_ ?_
   · refine Env.le_mk ⟨rfl, rfl, rfl, ?_, trivial⟩ ⟨rfl, trivial⟩ trivial <;> (first | rfl | (simp; done) | (congr 3; omega))
   · (refine ⟨Nat.zero_le _, by rw [List.take_zero]; rfl⟩)
   ·
    intro i hx
    try dsimp only at hx ⊢
    obtain ⟨hx1, hx2⟩ := hx
    refine T.seq ?_
    refine T.region ?_
    refine TL.c (Step.bin rfl rfl (lt_ok rfl) rfl rfl (Bin.lss (k := .i64) (a := (i : Int)) (b := ((bitList b).length : Int)))) ?_
    refine TL.nil ?_
    refine T.seq ?_
    refine T.cond (b := decide ((i : Int) < ((bitList b).length : Int))) rfl (fun h5 => ?_) (fun h5 => ?_)
    ·
     replace h5 := of_decide_eq_true h5
     refine T.skip ?_
     refine T.seq ?_
     refine T.block ?_
     refine T.seq ?_
     refine T.region ?_
     refine TL.c (Step.index_row (e := 3) (z := 1) (i := (i : Int)) rfl rfl (lt_ok rfl) (by kernel_rfl) rfl rfl rfl rfl (lt_ok rfl) rfl (by first | omega | (simp; omega)) (by simp only [D.at_, D.cell, D.size]; first | omega | (simp; omega))) ?_
     refine TL.c (Step.load_row (c := cI ((bitList b).getD i 0)) rfl rfl (lt_ok rfl) (by kernel_rfl) rfl rfl rfl) ?_
     refine TL.as (pI ((bitList b).getD i 0)) ?_
     refine TL.nil ?_
     refine T.seq ?_
     refine T.region ?_
     refine TL.mv (pI ((bitList b).getD i 0)) ?_
     refine TL.mv (pI n) ?_
     refine TL.c (Step.bin rfl rfl (lt_ok rfl) rfl rfl (Bin.geq (k := .i64) (a := ((bitList b).getD i 0)) (b := n))) ?_
     refine TL.nil ?_
     refine T.cond (b := decide (n ≤ ((bitList b).getD i 0))) rfl (fun h6 => ?_) (fun h6 => ?_)
     ·
      replace h6 := of_decide_eq_true h6
      refine T.seq ?_
      refine T.region ?_
      refine TL.as (pB false) ?_
      refine TL.nil ?_
      refine T.ret ?_
      refine ⟨[(false, [.d (.bool false)])], (.cons rfl .nil), rfl, [], (RetC.rd' ?_ .nil)⟩ <;> (first | (congr 1; symm; simp only [bitsOk, *, Bool.and_true, Bool.true_and, Bool.and_false, Bool.false_and, decide_true, decide_false, and_true, true_and, and_self, and_false, false_and, Bool.and_self, not_true, not_false, Bool.not_true, Bool.not_false, ge_iff_le, gt_iff_lt, if_true, if_false, Bool.false_eq_true, ite_true, ite_false, reduceIte]; done) | (congr 1; symm; unfold bitsOk; rw [decide_eq_false (p := (1 ≤ n ∧ n ≤ 10)) (by omega)]; rfl) | (congr 1; symm; unfold bitsOk; rw [decide_eq_false (p := ((b.length : Int) = bitsSize n)) (by omega)]; simp; done) | (congr 1; symm; unfold bitsOk; rw [all_no (i := i) (by omega) (by omega)]; simp; done) | (congr 1; symm; unfold bitsOk; rw [List.take_of_length_le (by omega)] at hx2; rw [hx2, decide_eq_true (p := (1 ≤ n ∧ n ≤ 10)) (by omega), decide_eq_true (p := ((b.length : Int) = bitsSize n)) (by omega)]; rfl))
     ·
      replace h6 := of_decide_eq_false h6
      refine T.skip ?_
      refine T.region ?_
      refine TL.c (Step.bin (r := .int .i64 ((i : Int) + 1)) rfl rfl (lt_ok rfl) rfl rfl (Bin.add (a := (i : Int)) (b := 1) (by first | exact wrap_ok (by first | omega | (simp; omega)) (by first | omega | (simp; omega)) | rfl))) ?_
      refine TL.mv (pI ((i : Int) + 1)) ?_
      refine TL.nil ?_
      refine ⟨i + 1, by (refine ⟨by omega, all_step (by omega) hx2 (by omega)⟩), by first | omega | (dsimp only; omega), Env.le_mk ⟨rfl, rfl, rfl, ?_, trivial⟩ ⟨rfl, trivial⟩ trivial⟩ <;> (first | rfl | (simp; done) | (congr 3; omega))
    ·
     replace h5 := of_decide_eq_false h5
     refine T.exit ?_
     refine T.seq ?_
     refine T.region ?_
     refine TL.as (pB true) ?_
     refine TL.nil ?_
     refine T.ret ?_
     refine ⟨[(false, [.d (.bool true)])], (.cons rfl .nil), rfl, [], (RetC.rd' ?_ .nil)⟩ <;> (first | (congr 1; symm; simp only [bitsOk, *, Bool.and_true, Bool.true_and, Bool.and_false, Bool.false_and, decide_true, decide_false, and_true, true_and, and_self, and_false, false_and, Bool.and_self, not_true, not_false, Bool.not_true, Bool.not_false, ge_iff_le, gt_iff_lt, if_true, if_false, Bool.false_eq_true, ite_true, ite_false, reduceIte]; done) | (congr 1; symm; unfold bitsOk; rw [decide_eq_false (p := (1 ≤ n ∧ n ≤ 10)) (by omega)]; rfl) | (congr 1; symm; unfold bitsOk; rw [decide_eq_false (p := ((b.length : Int) = bitsSize n)) (by omega)]; simp; done) | (congr 1; symm; unfold bitsOk; rw [all_no (i := i) (by omega) (by omega)]; simp; done) | (congr 1; symm; unfold bitsOk; rw [List.take_of_length_le (by omega)] at hx2; rw [hx2, decide_eq_true (p := (1 ≤ n ∧ n ≤ 10)) (by omega), decide_eq_true (p := ((b.length : Int) = bitsSize n)) (by omega)]; rfl))
theorem ok_impl_QcOk (l : SLimits) (q : SQc) (h0_ : q.ok) (h1_ : q.sm) : RO Try.prog 97 [.agg l.cells, .agg q.cells] [(false, [.rd (.bool (qcOk l q))])] := by
 refine RO.intro Try.func97 rfl 44 rfl (le_ok rfl) fun w Z => ?_
 obtain ⟨o0, o1, o2, o3, o4⟩ := h0_
 obtain ⟨s0, s1, s2⟩ := h1_
 refine T.seq ?_
 refine T.region ?_
 refine TL.c (Step.box (p := (.agg [cI l.f0, cI l.f1, cI l.f2, cI l.f3, cI l.f4])) (ps := [cI l.f0, cI l.f1, cI l.f2, cI l.f3, cI l.f4]) rfl rfl (lt_ok rfl) rfl rfl rfl rfl rfl) ?_
 refine TL.c (Step.box (p := (.agg [cI q.f0, cI q.f1, cS q.f2, cS q.f3, .d (.bss q.f4)])) (ps := [cI q.f0, cI q.f1, cS q.f2, cS q.f3, .d (.bss q.f4)]) rfl rfl (lt_ok rfl) rfl rfl rfl rfl rfl) ?_
 refine TL.as (pB false) ?_
 refine TL.nil ?_
 refine T.seq ?_
 rcases Bool.eq_false_or_eq_true (limOk l) with hb1 | hb1
 ·
  rcases Bool.eq_false_or_eq_true (decide (0 ≤ q.f0 ∧ q.f0 ≤ 1152921504606846975)) with hb2 | hb2
  ·
   rcases Bool.eq_false_or_eq_true (decide (0 ≤ q.f1 ∧ q.f1 ≤ 1152921504606846975)) with hb3 | hb3
   ·
    rcases Bool.eq_false_or_eq_true (hashes [q.f2]) with hb4 | hb4
    ·
     rcases Bool.eq_false_or_eq_true (bitsOk q.f3 l.f0) with hb5 | hb5
     ·
      have nn6 := bitList_len q.f3
      rcases Bool.eq_false_or_eq_true (decide ((q.f4.length : Int) = ((bitList q.f3).length : Int))) with hb7 | hb7
      ·
       have nn8 := bitList_len q.f3
       refine T.draw [⟨5, (.agg [cI l.f0, cI l.f1, cI l.f2, cI l.f3, cI l.f4]), []⟩, ⟨6, (pB true), []⟩, ⟨7, (pB true), []⟩, ⟨8, (.one (.ptr 3 0)), []⟩, ⟨9, (pI q.f0), []⟩, ⟨10, (pB true), []⟩, ⟨11, (pB true), []⟩, ⟨12, (pB true), []⟩, ⟨13, (.one (.ptr 3 1)), []⟩, ⟨14, (pI q.f1), []⟩, ⟨15, (pB true), []⟩, ⟨16, (pB true), []⟩, ⟨17, (pB true), []⟩, ⟨18, (.one (.ptr 3 2)), []⟩, ⟨19, (pS q.f2), []⟩, ⟨20, (.one (.d (.bss [q.f2]))), []⟩, ⟨21, (pB true), []⟩, ⟨22, (pB true), []⟩, ⟨23, (pB true), []⟩, ⟨24, (.one (.ptr 3 3)), []⟩, ⟨25, (pS q.f3), []⟩, ⟨26, (.one (.ptr 2 0)), []⟩, ⟨27, (pI l.f0), []⟩, ⟨28, (pB true), []⟩, ⟨29, (pB true), []⟩, ⟨30, (pB true), []⟩, ⟨31, (.one (.ptr 3 4)), []⟩, ⟨32, (.one (.d (.bss q.f4))), []⟩, ⟨33, (pI (q.f4.length : Int)), []⟩, ⟨34, (.one (.ptr 3 3)), []⟩, ⟨35, (pS q.f3), []⟩, ⟨36, (pI ((bitList q.f3).length : Int)), []⟩, ⟨37, (pB true), []⟩, ⟨38, (pB true), []⟩, ⟨39, (pB true), []⟩, ⟨40, (.one (.ptr 3 4)), []⟩, ⟨41, (.one (.d (.bss q.f4))), []⟩, ⟨42, (pB (hashes q.f4)), []⟩, ⟨43, (pB (hashes q.f4)), []⟩, ⟨4, (pB (hashes q.f4)), []⟩] (by kernel_rfl) (by kernel_rfl) ?_ ?_
       ·
        refine .cons (fun E A => OpStep.plain rfl (Step.load_box_agg (n := 5) (qs := [cI l.f0, cI l.f1, cI l.f2, cI l.f3, cI l.f4]) (t := 5) rfl rfl (by exact lt_ok rfl) (by kernel_rfl) (A.g 2 rfl) (by exact A.box rfl) rfl rfl)) ?_
        refine .cons (fun E A => OpStep.plain rfl (Step.tb 6 (limOk l) hb1 (Step.cd (xs := [.tmp 5]) (ps := [(.agg [cI l.f0, cI l.f1, cI l.f2, cI l.f3, cI l.f4])]) (g := .func 146) false 6 (evs_cons (A.g 5 rfl) (rfl)) (.cons (.agg (.cons (.d _) (.cons (.d _) (.cons (.d _) (.cons (.d _) (.cons (.d _) .nil)))))) .nil) (ok_impl_LimitsOk l) (At.freshRows A rfl)))) ?_
        refine .cons (fun E A => A.mv 6 7) ?_
        refine .cons (fun E A => A.y 7 (Step.fa (off := 0) (n := 1) (one := true) 0 8 (A.g 3 rfl))) ?_
        refine .cons (fun E A => A.y 7 (Step.load_box (c := cI q.f0) (t := 9) rfl rfl (by exact lt_ok rfl) (by kernel_rfl) (A.g 8 rfl) (by exact A.box rfl) rfl)) ?_
        refine .cons (fun E A => A.y 7 (Step.tb 10 (decide (0 ≤ q.f0 ∧ q.f0 ≤ 1152921504606846975)) hb2 (Step.cd (xs := [.tmp 9]) (ps := [(pI q.f0)]) (g := .func 147) false 10 (evs_cons (A.g 9 rfl) (rfl)) (.cons (.one (.d _)) .nil) (ok_impl_isNum q.f0) (At.freshRows A rfl)))) ?_
        refine .cons (fun E A => OpStep.plain rfl (Step.pick (b := true) (p := (pB true)) (t := 11) rfl rfl (by exact lt_ok rfl) (A.g 7 rfl) (A.g 10 rfl))) ?_
        refine .cons (fun E A => A.mv 11 12) ?_
        refine .cons (fun E A => A.y 12 (Step.fa (off := 1) (n := 1) (one := true) 0 13 (A.g 3 rfl))) ?_
        refine .cons (fun E A => A.y 12 (Step.load_box (c := cI q.f1) (t := 14) rfl rfl (by exact lt_ok rfl) (by kernel_rfl) (A.g 13 rfl) (by exact A.box rfl) rfl)) ?_
        refine .cons (fun E A => A.y 12 (Step.tb 15 (decide (0 ≤ q.f1 ∧ q.f1 ≤ 1152921504606846975)) hb3 (Step.cd (xs := [.tmp 14]) (ps := [(pI q.f1)]) (g := .func 147) false 15 (evs_cons (A.g 14 rfl) (rfl)) (.cons (.one (.d _)) .nil) (ok_impl_isNum q.f1) (At.freshRows A rfl)))) ?_
        refine .cons (fun E A => OpStep.plain rfl (Step.pick (b := true) (p := (pB true)) (t := 16) rfl rfl (by exact lt_ok rfl) (A.g 12 rfl) (A.g 15 rfl))) ?_
        refine .cons (fun E A => A.mv 16 17) ?_
        refine .cons (fun E A => A.y 17 (Step.fa (off := 2) (n := 1) (one := true) 0 18 (A.g 3 rfl))) ?_
        refine .cons (fun E A => A.y 17 (Step.load_box (c := cS q.f2) (t := 19) rfl rfl (by exact lt_ok rfl) (by kernel_rfl) (A.g 18 rfl) (by exact A.box rfl) rfl)) ?_
        refine .cons (fun E A => A.y 17 (Step.lit_d (e := 22) (z := 1) (by_ := 24) (xs := [.tmp 19]) (pss := [[cS q.f2]]) (ds := [(.ints .u8 q.f2)]) (d := (.bss [q.f2])) (t := 20) rfl rfl (by exact lt_ok rfl) (by kernel_rfl) rfl rfl (.cons (by exact (congrArg PV.flat (A.g 19 rfl)).trans rfl) .nil) (by simp) (le_ok rfl) (le_ok rfl) rfl rfl trivial rfl rfl)) ?_
        refine .cons (fun E A => A.y 17 (Step.tb 21 (hashes [q.f2]) hb4 (Step.cd (xs := [.tmp 20]) (ps := [(.one (.d (.bss [q.f2])))]) (g := .func 145) false 21 (evs_cons (A.g 20 rfl) (rfl)) (.cons (.one (.d _)) .nil) (ok_impl_areHashes [q.f2]) (At.freshRows A rfl)))) ?_
        refine .cons (fun E A => OpStep.plain rfl (Step.pick (b := true) (p := (pB true)) (t := 22) rfl rfl (by exact lt_ok rfl) (A.g 17 rfl) (A.g 21 rfl))) ?_
        refine .cons (fun E A => A.mv 22 23) ?_
        refine .cons (fun E A => A.y 23 (Step.fa (off := 3) (n := 1) (one := true) 0 24 (A.g 3 rfl))) ?_
        refine .cons (fun E A => A.y 23 (Step.load_box (c := cS q.f3) (t := 25) rfl rfl (by exact lt_ok rfl) (by kernel_rfl) (A.g 24 rfl) (by exact A.box rfl) rfl)) ?_
        refine .cons (fun E A => A.y 23 (Step.fa (off := 0) (n := 1) (one := true) 0 26 (A.g 2 rfl))) ?_
        refine .cons (fun E A => A.y 23 (Step.load_box (c := cI l.f0) (t := 27) rfl rfl (by exact lt_ok rfl) (by kernel_rfl) (A.g 26 rfl) (by exact A.box rfl) rfl)) ?_
        refine .cons (fun E A => A.y 23 (Step.tb 28 (bitsOk q.f3 l.f0) hb5 (Step.cd (xs := [.tmp 25, .tmp 27]) (ps := [(pS q.f3), (pI l.f0)]) (g := .func 154) false 28 (evs_cons (A.g 25 rfl) (evs_cons (A.g 27 rfl) (rfl))) (.cons (.one (.d _)) (.cons (.one (.d _)) .nil)) (ok_impl_BitsOk q.f3 l.f0 (by assumption) (by first | omega | assumption | (simp only [List.length_append] at *; omega))) (At.freshRows A rfl)))) ?_
        refine .cons (fun E A => OpStep.plain rfl (Step.pick (b := true) (p := (pB true)) (t := 29) rfl rfl (by exact lt_ok rfl) (A.g 23 rfl) (A.g 28 rfl))) ?_
        refine .cons (fun E A => A.mv 29 30) ?_
        refine .cons (fun E A => A.y 30 (Step.fa (off := 4) (n := 1) (one := true) 0 31 (A.g 3 rfl))) ?_
        refine .cons (fun E A => A.y 30 (Step.load_box (c := .d (.bss q.f4)) (t := 32) rfl rfl (by exact lt_ok rfl) (by kernel_rfl) (A.g 31 rfl) (by exact A.box rfl) rfl)) ?_
        refine .cons (fun E A => A.y 30 (Step.len (e := 22) (z := 1) (d := (.bss q.f4)) (t := 33) rfl rfl (by exact lt_ok rfl) (by kernel_rfl) (A.g 32 rfl) rfl)) ?_
        refine .cons (fun E A => A.y 30 (Step.fa (off := 3) (n := 1) (one := true) 0 34 (A.g 3 rfl))) ?_
        refine .cons (fun E A => A.y 30 (Step.load_box (c := cS q.f3) (t := 35) rfl rfl (by exact lt_ok rfl) (by kernel_rfl) (A.g 34 rfl) (by exact A.box rfl) rfl)) ?_
        refine .cons (fun E A => A.y 30 (Step.cd (xs := [.tmp 35]) (ps := [(pS q.f3)]) (g := .func 81) false 36 (evs_cons (A.g 35 rfl) (rfl)) (.cons (.one (.d _)) .nil) (ok_impl_BitsCount q.f3 (by first | assumption | exact fun x hx => by cases hx) (by first | omega | assumption | (simp only [List.length_append] at *; omega) | (simp; done))) (At.freshRows A rfl))) ?_
        refine .cons (fun E A => A.y 30 (Step.tb 37 (decide ((q.f4.length : Int) = ((bitList q.f3).length : Int))) hb7 (Step.bd 37 (A.g 33 rfl) (A.g 36 rfl) (Bin.eql (k := .i64) (a := (q.f4.length : Int)) (b := ((bitList q.f3).length : Int)))))) ?_
        refine .cons (fun E A => OpStep.plain rfl (Step.pick (b := true) (p := (pB true)) (t := 38) rfl rfl (by exact lt_ok rfl) (A.g 30 rfl) (A.g 37 rfl))) ?_
        refine .cons (fun E A => A.mv 38 39) ?_
        refine .cons (fun E A => A.y 39 (Step.fa (off := 4) (n := 1) (one := true) 0 40 (A.g 3 rfl))) ?_
        refine .cons (fun E A => A.y 39 (Step.load_box (c := .d (.bss q.f4)) (t := 41) rfl rfl (by exact lt_ok rfl) (by kernel_rfl) (A.g 40 rfl) (by exact A.box rfl) rfl)) ?_
        refine .cons (fun E A => A.y 39 (Step.cd (xs := [.tmp 41]) (ps := [(.one (.d (.bss q.f4)))]) (g := .func 145) false 42 (evs_cons (A.g 41 rfl) (rfl)) (.cons (.one (.d _)) .nil) (ok_impl_areHashes q.f4) (At.freshRows A rfl))) ?_
        refine .cons (fun E A => OpStep.plain rfl (Step.pick (b := true) (p := (pB (hashes q.f4))) (t := 43) rfl rfl (by exact lt_ok rfl) (A.g 39 rfl) (A.g 42 rfl))) ?_
        refine .cons (fun E A => A.as 43 4) ?_
        exact .nil _ _
       refine TL.nil ?_
       refine T.ret ?_
       refine ⟨[(false, [.d (.bool (hashes q.f4))])], (.cons rfl .nil), rfl, [], (RetC.rd' ?_ .nil)⟩ <;> (first | rfl | (congr 1; symm; simp only [qcOk, hashes, List.all_cons, List.all_nil, *, Bool.and_true, Bool.true_and, Bool.and_false, Bool.false_and, decide_true, decide_false, and_true, true_and, and_self, and_false, false_and, Bool.and_self, not_true, not_false, Bool.not_true, Bool.not_false, ge_iff_le, gt_iff_lt, if_true, if_false, Bool.false_eq_true, ite_true, ite_false, reduceIte]; done) | (congr 1; symm; simp_all [qcOk, hashes, List.all_cons, List.all_nil]; done) | (congr 1; symm; simp_all [qcOk, hashes, List.all_cons, List.all_nil]; omega))
      ·
       have nn9 := bitList_len q.f3
       refine T.draw [⟨5, (.agg [cI l.f0, cI l.f1, cI l.f2, cI l.f3, cI l.f4]), []⟩, ⟨6, (pB true), []⟩, ⟨7, (pB true), []⟩, ⟨8, (.one (.ptr 3 0)), []⟩, ⟨9, (pI q.f0), []⟩, ⟨10, (pB true), []⟩, ⟨11, (pB true), []⟩, ⟨12, (pB true), []⟩, ⟨13, (.one (.ptr 3 1)), []⟩, ⟨14, (pI q.f1), []⟩, ⟨15, (pB true), []⟩, ⟨16, (pB true), []⟩, ⟨17, (pB true), []⟩, ⟨18, (.one (.ptr 3 2)), []⟩, ⟨19, (pS q.f2), []⟩, ⟨20, (.one (.d (.bss [q.f2]))), []⟩, ⟨21, (pB true), []⟩, ⟨22, (pB true), []⟩, ⟨23, (pB true), []⟩, ⟨24, (.one (.ptr 3 3)), []⟩, ⟨25, (pS q.f3), []⟩, ⟨26, (.one (.ptr 2 0)), []⟩, ⟨27, (pI l.f0), []⟩, ⟨28, (pB true), []⟩, ⟨29, (pB true), []⟩, ⟨30, (pB true), []⟩, ⟨31, (.one (.ptr 3 4)), []⟩, ⟨32, (.one (.d (.bss q.f4))), []⟩, ⟨33, (pI (q.f4.length : Int)), []⟩, ⟨34, (.one (.ptr 3 3)), []⟩, ⟨35, (pS q.f3), []⟩, ⟨36, (pI ((bitList q.f3).length : Int)), []⟩, ⟨37, (pB false), []⟩, ⟨38, (pB false), []⟩, ⟨39, (pB false), []⟩, ⟨40, (.tup []), []⟩, ⟨41, (.tup []), []⟩, ⟨42, (.tup []), []⟩, ⟨43, (pB false), []⟩, ⟨4, (pB false), []⟩] (by kernel_rfl) (by kernel_rfl) ?_ ?_
       ·
        refine .cons (fun E A => OpStep.plain rfl (Step.load_box_agg (n := 5) (qs := [cI l.f0, cI l.f1, cI l.f2, cI l.f3, cI l.f4]) (t := 5) rfl rfl (by exact lt_ok rfl) (by kernel_rfl) (A.g 2 rfl) (by exact A.box rfl) rfl rfl)) ?_
        refine .cons (fun E A => OpStep.plain rfl (Step.tb 6 (limOk l) hb1 (Step.cd (xs := [.tmp 5]) (ps := [(.agg [cI l.f0, cI l.f1, cI l.f2, cI l.f3, cI l.f4])]) (g := .func 146) false 6 (evs_cons (A.g 5 rfl) (rfl)) (.cons (.agg (.cons (.d _) (.cons (.d _) (.cons (.d _) (.cons (.d _) (.cons (.d _) .nil)))))) .nil) (ok_impl_LimitsOk l) (At.freshRows A rfl)))) ?_
        refine .cons (fun E A => A.mv 6 7) ?_
        refine .cons (fun E A => A.y 7 (Step.fa (off := 0) (n := 1) (one := true) 0 8 (A.g 3 rfl))) ?_
        refine .cons (fun E A => A.y 7 (Step.load_box (c := cI q.f0) (t := 9) rfl rfl (by exact lt_ok rfl) (by kernel_rfl) (A.g 8 rfl) (by exact A.box rfl) rfl)) ?_
        refine .cons (fun E A => A.y 7 (Step.tb 10 (decide (0 ≤ q.f0 ∧ q.f0 ≤ 1152921504606846975)) hb2 (Step.cd (xs := [.tmp 9]) (ps := [(pI q.f0)]) (g := .func 147) false 10 (evs_cons (A.g 9 rfl) (rfl)) (.cons (.one (.d _)) .nil) (ok_impl_isNum q.f0) (At.freshRows A rfl)))) ?_
        refine .cons (fun E A => OpStep.plain rfl (Step.pick (b := true) (p := (pB true)) (t := 11) rfl rfl (by exact lt_ok rfl) (A.g 7 rfl) (A.g 10 rfl))) ?_
        refine .cons (fun E A => A.mv 11 12) ?_
        refine .cons (fun E A => A.y 12 (Step.fa (off := 1) (n := 1) (one := true) 0 13 (A.g 3 rfl))) ?_
        refine .cons (fun E A => A.y 12 (Step.load_box (c := cI q.f1) (t := 14) rfl rfl (by exact lt_ok rfl) (by kernel_rfl) (A.g 13 rfl) (by exact A.box rfl) rfl)) ?_
        refine .cons (fun E A => A.y 12 (Step.tb 15 (decide (0 ≤ q.f1 ∧ q.f1 ≤ 1152921504606846975)) hb3 (Step.cd (xs := [.tmp 14]) (ps := [(pI q.f1)]) (g := .func 147) false 15 (evs_cons (A.g 14 rfl) (rfl)) (.cons (.one (.d _)) .nil) (ok_impl_isNum q.f1) (At.freshRows A rfl)))) ?_
        refine .cons (fun E A => OpStep.plain rfl (Step.pick (b := true) (p := (pB true)) (t := 16) rfl rfl (by exact lt_ok rfl) (A.g 12 rfl) (A.g 15 rfl))) ?_
        refine .cons (fun E A => A.mv 16 17) ?_
        refine .cons (fun E A => A.y 17 (Step.fa (off := 2) (n := 1) (one := true) 0 18 (A.g 3 rfl))) ?_
        refine .cons (fun E A => A.y 17 (Step.load_box (c := cS q.f2) (t := 19) rfl rfl (by exact lt_ok rfl) (by kernel_rfl) (A.g 18 rfl) (by exact A.box rfl) rfl)) ?_
        refine .cons (fun E A => A.y 17 (Step.lit_d (e := 22) (z := 1) (by_ := 24) (xs := [.tmp 19]) (pss := [[cS q.f2]]) (ds := [(.ints .u8 q.f2)]) (d := (.bss [q.f2])) (t := 20) rfl rfl (by exact lt_ok rfl) (by kernel_rfl) rfl rfl (.cons (by exact (congrArg PV.flat (A.g 19 rfl)).trans rfl) .nil) (by simp) (le_ok rfl) (le_ok rfl) rfl rfl trivial rfl rfl)) ?_
        refine .cons (fun E A => A.y 17 (Step.tb 21 (hashes [q.f2]) hb4 (Step.cd (xs := [.tmp 20]) (ps := [(.one (.d (.bss [q.f2])))]) (g := .func 145) false 21 (evs_cons (A.g 20 rfl) (rfl)) (.cons (.one (.d _)) .nil) (ok_impl_areHashes [q.f2]) (At.freshRows A rfl)))) ?_
        refine .cons (fun E A => OpStep.plain rfl (Step.pick (b := true) (p := (pB true)) (t := 22) rfl rfl (by exact lt_ok rfl) (A.g 17 rfl) (A.g 21 rfl))) ?_
        refine .cons (fun E A => A.mv 22 23) ?_
        refine .cons (fun E A => A.y 23 (Step.fa (off := 3) (n := 1) (one := true) 0 24 (A.g 3 rfl))) ?_
        refine .cons (fun E A => A.y 23 (Step.load_box (c := cS q.f3) (t := 25) rfl rfl (by exact lt_ok rfl) (by kernel_rfl) (A.g 24 rfl) (by exact A.box rfl) rfl)) ?_
        refine .cons (fun E A => A.y 23 (Step.fa (off := 0) (n := 1) (one := true) 0 26 (A.g 2 rfl))) ?_
        refine .cons (fun E A => A.y 23 (Step.load_box (c := cI l.f0) (t := 27) rfl rfl (by exact lt_ok rfl) (by kernel_rfl) (A.g 26 rfl) (by exact A.box rfl) rfl)) ?_
        refine .cons (fun E A => A.y 23 (Step.tb 28 (bitsOk q.f3 l.f0) hb5 (Step.cd (xs := [.tmp 25, .tmp 27]) (ps := [(pS q.f3), (pI l.f0)]) (g := .func 154) false 28 (evs_cons (A.g 25 rfl) (evs_cons (A.g 27 rfl) (rfl))) (.cons (.one (.d _)) (.cons (.one (.d _)) .nil)) (ok_impl_BitsOk q.f3 l.f0 (by assumption) (by first | omega | assumption | (simp only [List.length_append] at *; omega))) (At.freshRows A rfl)))) ?_
        refine .cons (fun E A => OpStep.plain rfl (Step.pick (b := true) (p := (pB true)) (t := 29) rfl rfl (by exact lt_ok rfl) (A.g 23 rfl) (A.g 28 rfl))) ?_
        refine .cons (fun E A => A.mv 29 30) ?_
        refine .cons (fun E A => A.y 30 (Step.fa (off := 4) (n := 1) (one := true) 0 31 (A.g 3 rfl))) ?_
        refine .cons (fun E A => A.y 30 (Step.load_box (c := .d (.bss q.f4)) (t := 32) rfl rfl (by exact lt_ok rfl) (by kernel_rfl) (A.g 31 rfl) (by exact A.box rfl) rfl)) ?_
        refine .cons (fun E A => A.y 30 (Step.len (e := 22) (z := 1) (d := (.bss q.f4)) (t := 33) rfl rfl (by exact lt_ok rfl) (by kernel_rfl) (A.g 32 rfl) rfl)) ?_
        refine .cons (fun E A => A.y 30 (Step.fa (off := 3) (n := 1) (one := true) 0 34 (A.g 3 rfl))) ?_
        refine .cons (fun E A => A.y 30 (Step.load_box (c := cS q.f3) (t := 35) rfl rfl (by exact lt_ok rfl) (by kernel_rfl) (A.g 34 rfl) (by exact A.box rfl) rfl)) ?_
        refine .cons (fun E A => A.y 30 (Step.cd (xs := [.tmp 35]) (ps := [(pS q.f3)]) (g := .func 81) false 36 (evs_cons (A.g 35 rfl) (rfl)) (.cons (.one (.d _)) .nil) (ok_impl_BitsCount q.f3 (by first | assumption | exact fun x hx => by cases hx) (by first | omega | assumption | (simp only [List.length_append] at *; omega) | (simp; done))) (At.freshRows A rfl))) ?_
        refine .cons (fun E A => A.y 30 (Step.tb 37 (decide ((q.f4.length : Int) = ((bitList q.f3).length : Int))) hb7 (Step.bd 37 (A.g 33 rfl) (A.g 36 rfl) (Bin.eql (k := .i64) (a := (q.f4.length : Int)) (b := ((bitList q.f3).length : Int)))))) ?_
        refine .cons (fun E A => OpStep.plain rfl (Step.pick (b := true) (p := (pB false)) (t := 38) rfl rfl (by exact lt_ok rfl) (A.g 30 rfl) (A.g 37 rfl))) ?_
        refine .cons (fun E A => A.mv 38 39) ?_
        refine .cons (fun E A => A.of 39) ?_
        refine .cons (fun E A => A.of 39) ?_
        refine .cons (fun E A => A.of 39) ?_
        refine .cons (fun E A => OpStep.plain rfl (Step.pick (b := false) (p := (pB false)) (t := 43) rfl rfl (by exact lt_ok rfl) (A.g 39 rfl) rfl)) ?_
        refine .cons (fun E A => A.as 43 4) ?_
        exact .nil _ _
       refine TL.nil ?_
       refine T.ret ?_
       refine ⟨[(false, [.d (.bool false)])], (.cons rfl .nil), rfl, [], (RetC.rd' ?_ .nil)⟩ <;> (first | rfl | (congr 1; symm; simp only [qcOk, hashes, List.all_cons, List.all_nil, *, Bool.and_true, Bool.true_and, Bool.and_false, Bool.false_and, decide_true, decide_false, and_true, true_and, and_self, and_false, false_and, Bool.and_self, not_true, not_false, Bool.not_true, Bool.not_false, ge_iff_le, gt_iff_lt, if_true, if_false, Bool.false_eq_true, ite_true, ite_false, reduceIte]; done) | (congr 1; symm; simp_all [qcOk, hashes, List.all_cons, List.all_nil]; done) | (congr 1; symm; simp_all [qcOk, hashes, List.all_cons, List.all_nil]; omega))
     ·
      refine T.draw [⟨5, (.agg [cI l.f0, cI l.f1, cI l.f2, cI l.f3, cI l.f4]), []⟩, ⟨6, (pB true), []⟩, ⟨7, (pB true), []⟩, ⟨8, (.one (.ptr 3 0)), []⟩, ⟨9, (pI q.f0), []⟩, ⟨10, (pB true), []⟩, ⟨11, (pB true), []⟩, ⟨12, (pB true), []⟩, ⟨13, (.one (.ptr 3 1)), []⟩, ⟨14, (pI q.f1), []⟩, ⟨15, (pB true), []⟩, ⟨16, (pB true), []⟩, ⟨17, (pB true), []⟩, ⟨18, (.one (.ptr 3 2)), []⟩, ⟨19, (pS q.f2), []⟩, ⟨20, (.one (.d (.bss [q.f2]))), []⟩, ⟨21, (pB true), []⟩, ⟨22, (pB true), []⟩, ⟨23, (pB true), []⟩, ⟨24, (.one (.ptr 3 3)), []⟩, ⟨25, (pS q.f3), []⟩, ⟨26, (.one (.ptr 2 0)), []⟩, ⟨27, (pI l.f0), []⟩, ⟨28, (pB false), []⟩, ⟨29, (pB false), []⟩, ⟨30, (pB false), []⟩, ⟨31, (.tup []), []⟩, ⟨32, (.tup []), []⟩, ⟨33, (.tup []), []⟩, ⟨34, (.tup []), []⟩, ⟨35, (.tup []), []⟩, ⟨36, (.tup []), []⟩, ⟨37, (.tup []), []⟩, ⟨38, (pB false), []⟩, ⟨39, (pB false), []⟩, ⟨40, (.tup []), []⟩, ⟨41, (.tup []), []⟩, ⟨42, (.tup []), []⟩, ⟨43, (pB false), []⟩, ⟨4, (pB false), []⟩] (by kernel_rfl) (by kernel_rfl) ?_ ?_
      ·
       refine .cons (fun E A => OpStep.plain rfl (Step.load_box_agg (n := 5) (qs := [cI l.f0, cI l.f1, cI l.f2, cI l.f3, cI l.f4]) (t := 5) rfl rfl (by exact lt_ok rfl) (by kernel_rfl) (A.g 2 rfl) (by exact A.box rfl) rfl rfl)) ?_
       refine .cons (fun E A => OpStep.plain rfl (Step.tb 6 (limOk l) hb1 (Step.cd (xs := [.tmp 5]) (ps := [(.agg [cI l.f0, cI l.f1, cI l.f2, cI l.f3, cI l.f4])]) (g := .func 146) false 6 (evs_cons (A.g 5 rfl) (rfl)) (.cons (.agg (.cons (.d _) (.cons (.d _) (.cons (.d _) (.cons (.d _) (.cons (.d _) .nil)))))) .nil) (ok_impl_LimitsOk l) (At.freshRows A rfl)))) ?_
       refine .cons (fun E A => A.mv 6 7) ?_
       refine .cons (fun E A => A.y 7 (Step.fa (off := 0) (n := 1) (one := true) 0 8 (A.g 3 rfl))) ?_
       refine .cons (fun E A => A.y 7 (Step.load_box (c := cI q.f0) (t := 9) rfl rfl (by exact lt_ok rfl) (by kernel_rfl) (A.g 8 rfl) (by exact A.box rfl) rfl)) ?_
       refine .cons (fun E A => A.y 7 (Step.tb 10 (decide (0 ≤ q.f0 ∧ q.f0 ≤ 1152921504606846975)) hb2 (Step.cd (xs := [.tmp 9]) (ps := [(pI q.f0)]) (g := .func 147) false 10 (evs_cons (A.g 9 rfl) (rfl)) (.cons (.one (.d _)) .nil) (ok_impl_isNum q.f0) (At.freshRows A rfl)))) ?_
       refine .cons (fun E A => OpStep.plain rfl (Step.pick (b := true) (p := (pB true)) (t := 11) rfl rfl (by exact lt_ok rfl) (A.g 7 rfl) (A.g 10 rfl))) ?_
       refine .cons (fun E A => A.mv 11 12) ?_
       refine .cons (fun E A => A.y 12 (Step.fa (off := 1) (n := 1) (one := true) 0 13 (A.g 3 rfl))) ?_
       refine .cons (fun E A => A.y 12 (Step.load_box (c := cI q.f1) (t := 14) rfl rfl (by exact lt_ok rfl) (by kernel_rfl) (A.g 13 rfl) (by exact A.box rfl) rfl)) ?_
       refine .cons (fun E A => A.y 12 (Step.tb 15 (decide (0 ≤ q.f1 ∧ q.f1 ≤ 1152921504606846975)) hb3 (Step.cd (xs := [.tmp 14]) (ps := [(pI q.f1)]) (g := .func 147) false 15 (evs_cons (A.g 14 rfl) (rfl)) (.cons (.one (.d _)) .nil) (ok_impl_isNum q.f1) (At.freshRows A rfl)))) ?_
       refine .cons (fun E A => OpStep.plain rfl (Step.pick (b := true) (p := (pB true)) (t := 16) rfl rfl (by exact lt_ok rfl) (A.g 12 rfl) (A.g 15 rfl))) ?_
       refine .cons (fun E A => A.mv 16 17) ?_
       refine .cons (fun E A => A.y 17 (Step.fa (off := 2) (n := 1) (one := true) 0 18 (A.g 3 rfl))) ?_
       refine .cons (fun E A => A.y 17 (Step.load_box (c := cS q.f2) (t := 19) rfl rfl (by exact lt_ok rfl) (by kernel_rfl) (A.g 18 rfl) (by exact A.box rfl) rfl)) ?_
       refine .cons (fun E A => A.y 17 (Step.lit_d (e := 22) (z := 1) (by_ := 24) (xs := [.tmp 19]) (pss := [[cS q.f2]]) (ds := [(.ints .u8 q.f2)]) (d := (.bss [q.f2])) (t := 20) rfl rfl (by exact lt_ok rfl) (by kernel_rfl) rfl rfl (.cons (by exact (congrArg PV.flat (A.g 19 rfl)).trans rfl) .nil) (by simp) (le_ok rfl) (le_ok rfl) rfl rfl trivial rfl rfl)) ?_
       refine .cons (fun E A => A.y 17 (Step.tb 21 (hashes [q.f2]) hb4 (Step.cd (xs := [.tmp 20]) (ps := [(.one (.d (.bss [q.f2])))]) (g := .func 145) false 21 (evs_cons (A.g 20 rfl) (rfl)) (.cons (.one (.d _)) .nil) (ok_impl_areHashes [q.f2]) (At.freshRows A rfl)))) ?_
       refine .cons (fun E A => OpStep.plain rfl (Step.pick (b := true) (p := (pB true)) (t := 22) rfl rfl (by exact lt_ok rfl) (A.g 17 rfl) (A.g 21 rfl))) ?_
       refine .cons (fun E A => A.mv 22 23) ?_
       refine .cons (fun E A => A.y 23 (Step.fa (off := 3) (n := 1) (one := true) 0 24 (A.g 3 rfl))) ?_
       refine .cons (fun E A => A.y 23 (Step.load_box (c := cS q.f3) (t := 25) rfl rfl (by exact lt_ok rfl) (by kernel_rfl) (A.g 24 rfl) (by exact A.box rfl) rfl)) ?_
       refine .cons (fun E A => A.y 23 (Step.fa (off := 0) (n := 1) (one := true) 0 26 (A.g 2 rfl))) ?_
       refine .cons (fun E A => A.y 23 (Step.load_box (c := cI l.f0) (t := 27) rfl rfl (by exact lt_ok rfl) (by kernel_rfl) (A.g 26 rfl) (by exact A.box rfl) rfl)) ?_
       refine .cons (fun E A => A.y 23 (Step.tb 28 (bitsOk q.f3 l.f0) hb5 (Step.cd (xs := [.tmp 25, .tmp 27]) (ps := [(pS q.f3), (pI l.f0)]) (g := .func 154) false 28 (evs_cons (A.g 25 rfl) (evs_cons (A.g 27 rfl) (rfl))) (.cons (.one (.d _)) (.cons (.one (.d _)) .nil)) (ok_impl_BitsOk q.f3 l.f0 (by assumption) (by first | omega | assumption | (simp only [List.length_append] at *; omega))) (At.freshRows A rfl)))) ?_
       refine .cons (fun E A => OpStep.plain rfl (Step.pick (b := true) (p := (pB false)) (t := 29) rfl rfl (by exact lt_ok rfl) (A.g 23 rfl) (A.g 28 rfl))) ?_
       refine .cons (fun E A => A.mv 29 30) ?_
       refine .cons (fun E A => A.of 30) ?_
       refine .cons (fun E A => A.of 30) ?_
       refine .cons (fun E A => A.of 30) ?_
       refine .cons (fun E A => A.of 30) ?_
       refine .cons (fun E A => A.of 30) ?_
       refine .cons (fun E A => A.of 30) ?_
       refine .cons (fun E A => A.of 30) ?_
       refine .cons (fun E A => OpStep.plain rfl (Step.pick (b := false) (p := (pB false)) (t := 38) rfl rfl (by exact lt_ok rfl) (A.g 30 rfl) rfl)) ?_
       refine .cons (fun E A => A.mv 38 39) ?_
       refine .cons (fun E A => A.of 39) ?_
       refine .cons (fun E A => A.of 39) ?_
       refine .cons (fun E A => A.of 39) ?_
       refine .cons (fun E A => OpStep.plain rfl (Step.pick (b := false) (p := (pB false)) (t := 43) rfl rfl (by exact lt_ok rfl) (A.g 39 rfl) rfl)) ?_
       refine .cons (fun E A => A.as 43 4) ?_
       exact .nil _ _
      refine TL.nil ?_
      refine T.ret ?_
      refine ⟨[(false, [.d (.bool false)])], (.cons rfl .nil), rfl, [], (RetC.rd' ?_ .nil)⟩ <;> (first | rfl | (congr 1; symm; simp only [qcOk, hashes, List.all_cons, List.all_nil, *, Bool.and_true, Bool.true_and, Bool.and_false, Bool.false_and, decide_true, decide_false, and_true, true_and, and_self, and_false, false_and, Bool.and_self, not_true, not_false, Bool.not_true, Bool.not_false, ge_iff_le, gt_iff_lt, if_true, if_false, Bool.false_eq_true, ite_true, ite_false, reduceIte]; done) | (congr 1; symm; simp_all [qcOk, hashes, List.all_cons, List.all_nil]; done) | (congr 1; symm; simp_all [qcOk, hashes, List.all_cons, List.all_nil]; omega))
    ·
     refine T.draw [⟨5, (.agg [cI l.f0, cI l.f1, cI l.f2, cI l.f3, cI l.f4]), []⟩, ⟨6, (pB true), []⟩, ⟨7, (pB true), []⟩, ⟨8, (.one (.ptr 3 0)), []⟩, ⟨9, (pI q.f0), []⟩, ⟨10, (pB true), []⟩, ⟨11, (pB true), []⟩, ⟨12, (pB true), []⟩, ⟨13, (.one (.ptr 3 1)), []⟩, ⟨14, (pI q.f1), []⟩, ⟨15, (pB true), []⟩, ⟨16, (pB true), []⟩, ⟨17, (pB true), []⟩, ⟨18, (.one (.ptr 3 2)), []⟩, ⟨19, (pS q.f2), []⟩, ⟨20, (.one (.d (.bss [q.f2]))), []⟩, ⟨21, (pB false), []⟩, ⟨22, (pB false), []⟩, ⟨23, (pB false), []⟩, ⟨24, (.tup []), []⟩, ⟨25, (.tup []), []⟩, ⟨26, (.tup []), []⟩, ⟨27, (.tup []), []⟩, ⟨28, (.tup []), []⟩, ⟨29, (pB false), []⟩, ⟨30, (pB false), []⟩, ⟨31, (.tup []), []⟩, ⟨32, (.tup []), []⟩, ⟨33, (.tup []), []⟩, ⟨34, (.tup []), []⟩, ⟨35, (.tup []), []⟩, ⟨36, (.tup []), []⟩, ⟨37, (.tup []), []⟩, ⟨38, (pB false), []⟩, ⟨39, (pB false), []⟩, ⟨40, (.tup []), []⟩, ⟨41, (.tup []), []⟩, ⟨42, (.tup []), []⟩, ⟨43, (pB false), []⟩, ⟨4, (pB false), []⟩] (by kernel_rfl) (by kernel_rfl) ?_ ?_
     ·
      refine .cons (fun E A => OpStep.plain rfl (Step.load_box_agg (n := 5) (qs := [cI l.f0, cI l.f1, cI l.f2, cI l.f3, cI l.f4]) (t := 5) rfl rfl (by exact lt_ok rfl) (by kernel_rfl) (A.g 2 rfl) (by exact A.box rfl) rfl rfl)) ?_
      refine .cons (fun E A => OpStep.plain rfl (Step.tb 6 (limOk l) hb1 (Step.cd (xs := [.tmp 5]) (ps := [(.agg [cI l.f0, cI l.f1, cI l.f2, cI l.f3, cI l.f4])]) (g := .func 146) false 6 (evs_cons (A.g 5 rfl) (rfl)) (.cons (.agg (.cons (.d _) (.cons (.d _) (.cons (.d _) (.cons (.d _) (.cons (.d _) .nil)))))) .nil) (ok_impl_LimitsOk l) (At.freshRows A rfl)))) ?_
      refine .cons (fun E A => A.mv 6 7) ?_
      refine .cons (fun E A => A.y 7 (Step.fa (off := 0) (n := 1) (one := true) 0 8 (A.g 3 rfl))) ?_
      refine .cons (fun E A => A.y 7 (Step.load_box (c := cI q.f0) (t := 9) rfl rfl (by exact lt_ok rfl) (by kernel_rfl) (A.g 8 rfl) (by exact A.box rfl) rfl)) ?_
      refine .cons (fun E A => A.y 7 (Step.tb 10 (decide (0 ≤ q.f0 ∧ q.f0 ≤ 1152921504606846975)) hb2 (Step.cd (xs := [.tmp 9]) (ps := [(pI q.f0)]) (g := .func 147) false 10 (evs_cons (A.g 9 rfl) (rfl)) (.cons (.one (.d _)) .nil) (ok_impl_isNum q.f0) (At.freshRows A rfl)))) ?_
      refine .cons (fun E A => OpStep.plain rfl (Step.pick (b := true) (p := (pB true)) (t := 11) rfl rfl (by exact lt_ok rfl) (A.g 7 rfl) (A.g 10 rfl))) ?_
      refine .cons (fun E A => A.mv 11 12) ?_
      refine .cons (fun E A => A.y 12 (Step.fa (off := 1) (n := 1) (one := true) 0 13 (A.g 3 rfl))) ?_
      refine .cons (fun E A => A.y 12 (Step.load_box (c := cI q.f1) (t := 14) rfl rfl (by exact lt_ok rfl) (by kernel_rfl) (A.g 13 rfl) (by exact A.box rfl) rfl)) ?_
      refine .cons (fun E A => A.y 12 (Step.tb 15 (decide (0 ≤ q.f1 ∧ q.f1 ≤ 1152921504606846975)) hb3 (Step.cd (xs := [.tmp 14]) (ps := [(pI q.f1)]) (g := .func 147) false 15 (evs_cons (A.g 14 rfl) (rfl)) (.cons (.one (.d _)) .nil) (ok_impl_isNum q.f1) (At.freshRows A rfl)))) ?_
      refine .cons (fun E A => OpStep.plain rfl (Step.pick (b := true) (p := (pB true)) (t := 16) rfl rfl (by exact lt_ok rfl) (A.g 12 rfl) (A.g 15 rfl))) ?_
      refine .cons (fun E A => A.mv 16 17) ?_
      refine .cons (fun E A => A.y 17 (Step.fa (off := 2) (n := 1) (one := true) 0 18 (A.g 3 rfl))) ?_
      refine .cons (fun E A => A.y 17 (Step.load_box (c := cS q.f2) (t := 19) rfl rfl (by exact lt_ok rfl) (by kernel_rfl) (A.g 18 rfl) (by exact A.box rfl) rfl)) ?_
      refine .cons (fun E A => A.y 17 (Step.lit_d (e := 22) (z := 1) (by_ := 24) (xs := [.tmp 19]) (pss := [[cS q.f2]]) (ds := [(.ints .u8 q.f2)]) (d := (.bss [q.f2])) (t := 20) rfl rfl (by exact lt_ok rfl) (by kernel_rfl) rfl rfl (.cons (by exact (congrArg PV.flat (A.g 19 rfl)).trans rfl) .nil) (by simp) (le_ok rfl) (le_ok rfl) rfl rfl trivial rfl rfl)) ?_
      refine .cons (fun E A => A.y 17 (Step.tb 21 (hashes [q.f2]) hb4 (Step.cd (xs := [.tmp 20]) (ps := [(.one (.d (.bss [q.f2])))]) (g := .func 145) false 21 (evs_cons (A.g 20 rfl) (rfl)) (.cons (.one (.d _)) .nil) (ok_impl_areHashes [q.f2]) (At.freshRows A rfl)))) ?_
      refine .cons (fun E A => OpStep.plain rfl (Step.pick (b := true) (p := (pB false)) (t := 22) rfl rfl (by exact lt_ok rfl) (A.g 17 rfl) (A.g 21 rfl))) ?_
      refine .cons (fun E A => A.mv 22 23) ?_
      refine .cons (fun E A => A.of 23) ?_
      refine .cons (fun E A => A.of 23) ?_
      refine .cons (fun E A => A.of 23) ?_
      refine .cons (fun E A => A.of 23) ?_
      refine .cons (fun E A => A.of 23) ?_
      refine .cons (fun E A => OpStep.plain rfl (Step.pick (b := false) (p := (pB false)) (t := 29) rfl rfl (by exact lt_ok rfl) (A.g 23 rfl) rfl)) ?_
      refine .cons (fun E A => A.mv 29 30) ?_
      refine .cons (fun E A => A.of 30) ?_
      refine .cons (fun E A => A.of 30) ?_
      refine .cons (fun E A => A.of 30) ?_
      refine .cons (fun E A => A.of 30) ?_
      refine .cons (fun E A => A.of 30) ?_
      refine .cons (fun E A => A.of 30) ?_
      refine .cons (fun E A => A.of 30) ?_
      refine .cons (fun E A => OpStep.plain rfl (Step.pick (b := false) (p := (pB false)) (t := 38) rfl rfl (by exact lt_ok rfl) (A.g 30 rfl) rfl)) ?_
      refine .cons (fun E A => A.mv 38 39) ?_
      refine .cons (fun E A => A.of 39) ?_
      refine .cons (fun E A => A.of 39) ?_
      refine .cons (fun E A => A.of 39) ?_
      refine .cons (fun E A => OpStep.plain rfl (Step.pick (b := false) (p := (pB false)) (t := 43) rfl rfl (by exact lt_ok rfl) (A.g 39 rfl) rfl)) ?_
      refine .cons (fun E A => A.as 43 4) ?_
      exact .nil _ _
     refine TL.nil ?_
     refine T.ret ?_
     refine ⟨[(false, [.d (.bool false)])], (.cons rfl .nil), rfl, [], (RetC.rd' ?_ .nil)⟩ <;> (first | rfl | (congr 1; symm; simp only [qcOk, hashes, List.all_cons, List.all_nil, *, Bool.and_true, Bool.true_and, Bool.and_false, Bool.false_and, decide_true, decide_false, and_true, true_and, and_self, and_false, false_and, Bool.and_self, not_true, not_false, Bool.not_true, Bool.not_false, ge_iff_le, gt_iff_lt, if_true, if_false, Bool.false_eq_true, ite_true, ite_false, reduceIte]; done) | (congr 1; symm; simp_all [qcOk, hashes, List.all_cons, List.all_nil]; done) | (congr 1; symm; simp_all [qcOk, hashes, List.all_cons, List.all_nil]; omega))
   ·
    refine T.draw [⟨5, (.agg [cI l.f0, cI l.f1, cI l.f2, cI l.f3, cI l.f4]), []⟩, ⟨6, (pB true), []⟩, ⟨7, (pB true), []⟩, ⟨8, (.one (.ptr 3 0)), []⟩, ⟨9, (pI q.f0), []⟩, ⟨10, (pB true), []⟩, ⟨11, (pB true), []⟩, ⟨12, (pB true), []⟩, ⟨13, (.one (.ptr 3 1)), []⟩, ⟨14, (pI q.f1), []⟩, ⟨15, (pB false), []⟩, ⟨16, (pB false), []⟩, ⟨17, (pB false), []⟩, ⟨18, (.tup []), []⟩, ⟨19, (.tup []), []⟩, ⟨20, (.tup []), []⟩, ⟨21, (.tup []), []⟩, ⟨22, (pB false), []⟩, ⟨23, (pB false), []⟩, ⟨24, (.tup []), []⟩, ⟨25, (.tup []), []⟩, ⟨26, (.tup []), []⟩, ⟨27, (.tup []), []⟩, ⟨28, (.tup []), []⟩, ⟨29, (pB false), []⟩, ⟨30, (pB false), []⟩, ⟨31, (.tup []), []⟩, ⟨32, (.tup []), []⟩, ⟨33, (.tup []), []⟩, ⟨34, (.tup []), []⟩, ⟨35, (.tup []), []⟩, ⟨36, (.tup []), []⟩, ⟨37, (.tup []), []⟩, ⟨38, (pB false), []⟩, ⟨39, (pB false), []⟩, ⟨40, (.tup []), []⟩, ⟨41, (.tup []), []⟩, ⟨42, (.tup []), []⟩, ⟨43, (pB false), []⟩, ⟨4, (pB false), []⟩] (by kernel_rfl) (by kernel_rfl) ?_ ?_
    ·
     refine .cons (fun E A => OpStep.plain rfl (Step.load_box_agg (n := 5) (qs := [cI l.f0, cI l.f1, cI l.f2, cI l.f3, cI l.f4]) (t := 5) rfl rfl (by exact lt_ok rfl) (by kernel_rfl) (A.g 2 rfl) (by exact A.box rfl) rfl rfl)) ?_
     refine .cons (fun E A => OpStep.plain rfl (Step.tb 6 (limOk l) hb1 (Step.cd (xs := [.tmp 5]) (ps := [(.agg [cI l.f0, cI l.f1, cI l.f2, cI l.f3, cI l.f4])]) (g := .func 146) false 6 (evs_cons (A.g 5 rfl) (rfl)) (.cons (.agg (.cons (.d _) (.cons (.d _) (.cons (.d _) (.cons (.d _) (.cons (.d _) .nil)))))) .nil) (ok_impl_LimitsOk l) (At.freshRows A rfl)))) ?_
     refine .cons (fun E A => A.mv 6 7) ?_
     refine .cons (fun E A => A.y 7 (Step.fa (off := 0) (n := 1) (one := true) 0 8 (A.g 3 rfl))) ?_
     refine .cons (fun E A => A.y 7 (Step.load_box (c := cI q.f0) (t := 9) rfl rfl (by exact lt_ok rfl) (by kernel_rfl) (A.g 8 rfl) (by exact A.box rfl) rfl)) ?_
     refine .cons (fun E A => A.y 7 (Step.tb 10 (decide (0 ≤ q.f0 ∧ q.f0 ≤ 1152921504606846975)) hb2 (Step.cd (xs := [.tmp 9]) (ps := [(pI q.f0)]) (g := .func 147) false 10 (evs_cons (A.g 9 rfl) (rfl)) (.cons (.one (.d _)) .nil) (ok_impl_isNum q.f0) (At.freshRows A rfl)))) ?_
     refine .cons (fun E A => OpStep.plain rfl (Step.pick (b := true) (p := (pB true)) (t := 11) rfl rfl (by exact lt_ok rfl) (A.g 7 rfl) (A.g 10 rfl))) ?_
     refine .cons (fun E A => A.mv 11 12) ?_
     refine .cons (fun E A => A.y 12 (Step.fa (off := 1) (n := 1) (one := true) 0 13 (A.g 3 rfl))) ?_
     refine .cons (fun E A => A.y 12 (Step.load_box (c := cI q.f1) (t := 14) rfl rfl (by exact lt_ok rfl) (by kernel_rfl) (A.g 13 rfl) (by exact A.box rfl) rfl)) ?_
     refine .cons (fun E A => A.y 12 (Step.tb 15 (decide (0 ≤ q.f1 ∧ q.f1 ≤ 1152921504606846975)) hb3 (Step.cd (xs := [.tmp 14]) (ps := [(pI q.f1)]) (g := .func 147) false 15 (evs_cons (A.g 14 rfl) (rfl)) (.cons (.one (.d _)) .nil) (ok_impl_isNum q.f1) (At.freshRows A rfl)))) ?_
     refine .cons (fun E A => OpStep.plain rfl (Step.pick (b := true) (p := (pB false)) (t := 16) rfl rfl (by exact lt_ok rfl) (A.g 12 rfl) (A.g 15 rfl))) ?_
     refine .cons (fun E A => A.mv 16 17) ?_
     refine .cons (fun E A => A.of 17) ?_
     refine .cons (fun E A => A.of 17) ?_
     refine .cons (fun E A => A.of 17) ?_
     refine .cons (fun E A => A.of 17) ?_
     refine .cons (fun E A => OpStep.plain rfl (Step.pick (b := false) (p := (pB false)) (t := 22) rfl rfl (by exact lt_ok rfl) (A.g 17 rfl) rfl)) ?_
     refine .cons (fun E A => A.mv 22 23) ?_
     refine .cons (fun E A => A.of 23) ?_
     refine .cons (fun E A => A.of 23) ?_
     refine .cons (fun E A => A.of 23) ?_
     refine .cons (fun E A => A.of 23) ?_
     refine .cons (fun E A => A.of 23) ?_
     refine .cons (fun E A => OpStep.plain rfl (Step.pick (b := false) (p := (pB false)) (t := 29) rfl rfl (by exact lt_ok rfl) (A.g 23 rfl) rfl)) ?_
     refine .cons (fun E A => A.mv 29 30) ?_
     refine .cons (fun E A => A.of 30) ?_
     refine .cons (fun E A => A.of 30) ?_
     refine .cons (fun E A => A.of 30) ?_
     refine .cons (fun E A => A.of 30) ?_
     refine .cons (fun E A => A.of 30) ?_
     refine .cons (fun E A => A.of 30) ?_
     refine .cons (fun E A => A.of 30) ?_
     refine .cons (fun E A => OpStep.plain rfl (Step.pick (b := false) (p := (pB false)) (t := 38) rfl rfl (by exact lt_ok rfl) (A.g 30 rfl) rfl)) ?_
     refine .cons (fun E A => A.mv 38 39) ?_
     refine .cons (fun E A => A.of 39) ?_
     refine .cons (fun E A => A.of 39) ?_
     refine .cons (fun E A => A.of 39) ?_
     refine .cons (fun E A => OpStep.plain rfl (Step.pick (b := false) (p := (pB false)) (t := 43) rfl rfl (by exact lt_ok rfl) (A.g 39 rfl) rfl)) ?_
     refine .cons (fun E A => A.as 43 4) ?_
     exact .nil _ _
    refine TL.nil ?_
    refine T.ret ?_
    refine ⟨[(false, [.d (.bool false)])], (.cons rfl .nil), rfl, [], (RetC.rd' ?_ .nil)⟩ <;> (first | rfl | (congr 1; symm; simp only [qcOk, hashes, List.all_cons, List.all_nil, *, Bool.and_true, Bool.true_and, Bool.and_false, Bool.false_and, decide_true, decide_false, and_true, true_and, and_self, and_false, false_and, Bool.and_self, not_true, not_false, Bool.not_true, Bool.not_false, ge_iff_le, gt_iff_lt, if_true, if_false, Bool.false_eq_true, ite_true, ite_false, reduceIte]; done) | (congr 1; symm; simp_all [qcOk, hashes, List.all_cons, List.all_nil]; done) | (congr 1; symm; simp_all [qcOk, hashes, List.all_cons, List.all_nil]; omega))
  ·
   refine T.draw [⟨5, (.agg [cI l.f0, cI l.f1, cI l.f2, cI l.f3, cI l.f4]), []⟩, ⟨6, (pB true), []⟩, ⟨7, (pB true), []⟩, ⟨8, (.one (.ptr 3 0)), []⟩, ⟨9, (pI q.f0), []⟩, ⟨10, (pB false), []⟩, ⟨11, (pB false), []⟩, ⟨12, (pB false), []⟩, ⟨13, (.tup []), []⟩, ⟨14, (.tup []), []⟩, ⟨15, (.tup []), []⟩, ⟨16, (pB false), []⟩, ⟨17, (pB false), []⟩, ⟨18, (.tup []), []⟩, ⟨19, (.tup []), []⟩, ⟨20, (.tup []), []⟩, ⟨21, (.tup []), []⟩, ⟨22, (pB false), []⟩, ⟨23, (pB false), []⟩, ⟨24, (.tup []), []⟩, ⟨25, (.tup []), []⟩, ⟨26, (.tup []), []⟩, ⟨27, (.tup []), []⟩, ⟨28, (.tup []), []⟩, ⟨29, (pB false), []⟩, ⟨30, (pB false), []⟩, ⟨31, (.tup []), []⟩, ⟨32, (.tup []), []⟩, ⟨33, (.tup []), []⟩, ⟨34, (.tup []), []⟩, ⟨35, (.tup []), []⟩, ⟨36, (.tup []), []⟩, ⟨37, (.tup []), []⟩, ⟨38, (pB false), []⟩, ⟨39, (pB false), []⟩, ⟨40, (.tup []), []⟩, ⟨41, (.tup []), []⟩, ⟨42, (.tup []), []⟩, ⟨43, (pB false), []⟩, ⟨4, (pB false), []⟩] (by kernel_rfl) (by kernel_rfl) ?_ ?_
   ·
    refine .cons (fun E A => OpStep.plain rfl (Step.load_box_agg (n := 5) (qs := [cI l.f0, cI l.f1, cI l.f2, cI l.f3, cI l.f4]) (t := 5) rfl rfl (by exact lt_ok rfl) (by kernel_rfl) (A.g 2 rfl) (by exact A.box rfl) rfl rfl)) ?_
    refine .cons (fun E A => OpStep.plain rfl (Step.tb 6 (limOk l) hb1 (Step.cd (xs := [.tmp 5]) (ps := [(.agg [cI l.f0, cI l.f1, cI l.f2, cI l.f3, cI l.f4])]) (g := .func 146) false 6 (evs_cons (A.g 5 rfl) (rfl)) (.cons (.agg (.cons (.d _) (.cons (.d _) (.cons (.d _) (.cons (.d _) (.cons (.d _) .nil)))))) .nil) (ok_impl_LimitsOk l) (At.freshRows A rfl)))) ?_
    refine .cons (fun E A => A.mv 6 7) ?_
    refine .cons (fun E A => A.y 7 (Step.fa (off := 0) (n := 1) (one := true) 0 8 (A.g 3 rfl))) ?_
    refine .cons (fun E A => A.y 7 (Step.load_box (c := cI q.f0) (t := 9) rfl rfl (by exact lt_ok rfl) (by kernel_rfl) (A.g 8 rfl) (by exact A.box rfl) rfl)) ?_
    refine .cons (fun E A => A.y 7 (Step.tb 10 (decide (0 ≤ q.f0 ∧ q.f0 ≤ 1152921504606846975)) hb2 (Step.cd (xs := [.tmp 9]) (ps := [(pI q.f0)]) (g := .func 147) false 10 (evs_cons (A.g 9 rfl) (rfl)) (.cons (.one (.d _)) .nil) (ok_impl_isNum q.f0) (At.freshRows A rfl)))) ?_
    refine .cons (fun E A => OpStep.plain rfl (Step.pick (b := true) (p := (pB false)) (t := 11) rfl rfl (by exact lt_ok rfl) (A.g 7 rfl) (A.g 10 rfl))) ?_
    refine .cons (fun E A => A.mv 11 12) ?_
    refine .cons (fun E A => A.of 12) ?_
    refine .cons (fun E A => A.of 12) ?_
    refine .cons (fun E A => A.of 12) ?_
    refine .cons (fun E A => OpStep.plain rfl (Step.pick (b := false) (p := (pB false)) (t := 16) rfl rfl (by exact lt_ok rfl) (A.g 12 rfl) rfl)) ?_
    refine .cons (fun E A => A.mv 16 17) ?_
    refine .cons (fun E A => A.of 17) ?_
    refine .cons (fun E A => A.of 17) ?_
    refine .cons (fun E A => A.of 17) ?_
    refine .cons (fun E A => A.of 17) ?_
    refine .cons (fun E A => OpStep.plain rfl (Step.pick (b := false) (p := (pB false)) (t := 22) rfl rfl (by exact lt_ok rfl) (A.g 17 rfl) rfl)) ?_
    refine .cons (fun E A => A.mv 22 23) ?_
    refine .cons (fun E A => A.of 23) ?_
    refine .cons (fun E A => A.of 23) ?_
    refine .cons (fun E A => A.of 23) ?_
    refine .cons (fun E A => A.of 23) ?_
    refine .cons (fun E A => A.of 23) ?_
    refine .cons (fun E A => OpStep.plain rfl (Step.pick (b := false) (p := (pB false)) (t := 29) rfl rfl (by exact lt_ok rfl) (A.g 23 rfl) rfl)) ?_
    refine .cons (fun E A => A.mv 29 30) ?_
    refine .cons (fun E A => A.of 30) ?_
    refine .cons (fun E A => A.of 30) ?_
    refine .cons (fun E A => A.of 30) ?_
    refine .cons (fun E A => A.of 30) ?_
    refine .cons (fun E A => A.of 30) ?_
    refine .cons (fun E A => A.of 30) ?_
    refine .cons (fun E A => A.of 30) ?_
    refine .cons (fun E A => OpStep.plain rfl (Step.pick (b := false) (p := (pB false)) (t := 38) rfl rfl (by exact lt_ok rfl) (A.g 30 rfl) rfl)) ?_
    refine .cons (fun E A => A.mv 38 39) ?_
    refine .cons (fun E A => A.of 39) ?_
    refine .cons (fun E A => A.of 39) ?_
    refine .cons (fun E A => A.of 39) ?_
    refine .cons (fun E A => OpStep.plain rfl (Step.pick (b := false) (p := (pB false)) (t := 43) rfl rfl (by exact lt_ok rfl) (A.g 39 rfl) rfl)) ?_
    refine .cons (fun E A => A.as 43 4) ?_
    exact .nil _ _
   refine TL.nil ?_
   refine T.ret ?_
   refine ⟨[(false, [.d (.bool false)])], (.cons rfl .nil), rfl, [], (RetC.rd' ?_ .nil)⟩ <;> (first | rfl | (congr 1; symm; simp only [qcOk, hashes, List.all_cons, List.all_nil, *, Bool.and_true, Bool.true_and, Bool.and_false, Bool.false_and, decide_true, decide_false, and_true, true_and, and_self, and_false, false_and, Bool.and_self, not_true, not_false, Bool.not_true, Bool.not_false, ge_iff_le, gt_iff_lt, if_true, if_false, Bool.false_eq_true, ite_true, ite_false, reduceIte]; done) | (congr 1; symm; simp_all [qcOk, hashes, List.all_cons, List.all_nil]; done) | (congr 1; symm; simp_all [qcOk, hashes, List.all_cons, List.all_nil]; omega))
 ·
  refine T.draw [⟨5, (.agg [cI l.f0, cI l.f1, cI l.f2, cI l.f3, cI l.f4]), []⟩, ⟨6, (pB false), []⟩, ⟨7, (pB false), []⟩, ⟨8, (.tup []), []⟩, ⟨9, (.tup []), []⟩, ⟨10, (.tup []), []⟩, ⟨11, (pB false), []⟩, ⟨12, (pB false), []⟩, ⟨13, (.tup []), []⟩, ⟨14, (.tup []), []⟩, ⟨15, (.tup []), []⟩, ⟨16, (pB false), []⟩, ⟨17, (pB false), []⟩, ⟨18, (.tup []), []⟩, ⟨19, (.tup []), []⟩, ⟨20, (.tup []), []⟩, ⟨21, (.tup []), []⟩, ⟨22, (pB false), []⟩, ⟨23, (pB false), []⟩, ⟨24, (.tup []), []⟩, ⟨25, (.tup []), []⟩, ⟨26, (.tup []), []⟩, ⟨27, (.tup []), []⟩, ⟨28, (.tup []), []⟩, ⟨29, (pB false), []⟩, ⟨30, (pB false), []⟩, ⟨31, (.tup []), []⟩, ⟨32, (.tup []), []⟩, ⟨33, (.tup []), []⟩, ⟨34, (.tup []), []⟩, ⟨35, (.tup []), []⟩, ⟨36, (.tup []), []⟩, ⟨37, (.tup []), []⟩, ⟨38, (pB false), []⟩, ⟨39, (pB false), []⟩, ⟨40, (.tup []), []⟩, ⟨41, (.tup []), []⟩, ⟨42, (.tup []), []⟩, ⟨43, (pB false), []⟩, ⟨4, (pB false), []⟩] (by kernel_rfl) (by kernel_rfl) ?_ ?_
  ·
   refine .cons (fun E A => OpStep.plain rfl (Step.load_box_agg (n := 5) (qs := [cI l.f0, cI l.f1, cI l.f2, cI l.f3, cI l.f4]) (t := 5) rfl rfl (by exact lt_ok rfl) (by kernel_rfl) (A.g 2 rfl) (by exact A.box rfl) rfl rfl)) ?_
   refine .cons (fun E A => OpStep.plain rfl (Step.tb 6 (limOk l) hb1 (Step.cd (xs := [.tmp 5]) (ps := [(.agg [cI l.f0, cI l.f1, cI l.f2, cI l.f3, cI l.f4])]) (g := .func 146) false 6 (evs_cons (A.g 5 rfl) (rfl)) (.cons (.agg (.cons (.d _) (.cons (.d _) (.cons (.d _) (.cons (.d _) (.cons (.d _) .nil)))))) .nil) (ok_impl_LimitsOk l) (At.freshRows A rfl)))) ?_
   refine .cons (fun E A => A.mv 6 7) ?_
   refine .cons (fun E A => A.of 7) ?_
   refine .cons (fun E A => A.of 7) ?_
   refine .cons (fun E A => A.of 7) ?_
   refine .cons (fun E A => OpStep.plain rfl (Step.pick (b := false) (p := (pB false)) (t := 11) rfl rfl (by exact lt_ok rfl) (A.g 7 rfl) rfl)) ?_
   refine .cons (fun E A => A.mv 11 12) ?_
   refine .cons (fun E A => A.of 12) ?_
   refine .cons (fun E A => A.of 12) ?_
   refine .cons (fun E A => A.of 12) ?_
   refine .cons (fun E A => OpStep.plain rfl (Step.pick (b := false) (p := (pB false)) (t := 16) rfl rfl (by exact lt_ok rfl) (A.g 12 rfl) rfl)) ?_
   refine .cons (fun E A => A.mv 16 17) ?_
   refine .cons (fun E A => A.of 17) ?_
   refine .cons (fun E A => A.of 17) ?_
   refine .cons (fun E A => A.of 17) ?_
   refine .cons (fun E A => A.of 17) ?_
   refine .cons (fun E A => OpStep.plain rfl (Step.pick (b := false) (p := (pB false)) (t := 22) rfl rfl (by exact lt_ok rfl) (A.g 17 rfl) rfl)) ?_
   refine .cons (fun E A => A.mv 22 23) ?_
   refine .cons (fun E A => A.of 23) ?_
   refine .cons (fun E A => A.of 23) ?_
   refine .cons (fun E A => A.of 23) ?_
   refine .cons (fun E A => A.of 23) ?_
   refine .cons (fun E A => A.of 23) ?_
   refine .cons (fun E A => OpStep.plain rfl (Step.pick (b := false) (p := (pB false)) (t := 29) rfl rfl (by exact lt_ok rfl) (A.g 23 rfl) rfl)) ?_
   refine .cons (fun E A => A.mv 29 30) ?_
   refine .cons (fun E A => A.of 30) ?_
   refine .cons (fun E A => A.of 30) ?_
   refine .cons (fun E A => A.of 30) ?_
   refine .cons (fun E A => A.of 30) ?_
   refine .cons (fun E A => A.of 30) ?_
   refine .cons (fun E A => A.of 30) ?_
   refine .cons (fun E A => A.of 30) ?_
   refine .cons (fun E A => OpStep.plain rfl (Step.pick (b := false) (p := (pB false)) (t := 38) rfl rfl (by exact lt_ok rfl) (A.g 30 rfl) rfl)) ?_
   refine .cons (fun E A => A.mv 38 39) ?_
   refine .cons (fun E A => A.of 39) ?_
   refine .cons (fun E A => A.of 39) ?_
   refine .cons (fun E A => A.of 39) ?_
   refine .cons (fun E A => OpStep.plain rfl (Step.pick (b := false) (p := (pB false)) (t := 43) rfl rfl (by exact lt_ok rfl) (A.g 39 rfl) rfl)) ?_
   refine .cons (fun E A => A.as 43 4) ?_
   exact .nil _ _
  refine TL.nil ?_
  refine T.ret ?_
  refine ⟨[(false, [.d (.bool false)])], (.cons rfl .nil), rfl, [], (RetC.rd' ?_ .nil)⟩ <;> (first | rfl | (congr 1; symm; simp only [qcOk, hashes, List.all_cons, List.all_nil, *, Bool.and_true, Bool.true_and, Bool.and_false, Bool.false_and, decide_true, decide_false, and_true, true_and, and_self, and_false, false_and, Bool.and_self, not_true, not_false, Bool.not_true, Bool.not_false, ge_iff_le, gt_iff_lt, if_true, if_false, Bool.false_eq_true, ite_true, ite_false, reduceIte]; done) | (congr 1; symm; simp_all [qcOk, hashes, List.all_cons, List.all_nil]; done) | (congr 1; symm; simp_all [qcOk, hashes, List.all_cons, List.all_nil]; omega))
theorem ok_impl_SameBytes (a : List Int) (b : List Int) (h0_ : U8s a) (h1_ : U8s b) : RO Try.prog 155 [.one (.ints .u8 a), .one (.ints .u8 b)] [(false, [.rd (.bool (decide (a = b)))])] := by
 refine RO.intro Try.func155 rfl 10 rfl (le_ok rfl) fun w Z => ?_
 refine T.bnd 0 0 rfl rfl fun hb_0_0 => ?_
 simp only [D.size, List.length_map] at hb_0_0
 refine T.bnd 1 0 rfl rfl fun hb_1_0 => ?_
 simp only [D.size, List.length_map] at hb_1_0
 refine T.seq ?_
 refine T.region ?_
 refine TL.as (pB false) ?_
 refine TL.nil ?_
 refine T.seq ?_
 refine T.region ?_
 refine TL.mv (pS a) ?_
 refine TL.c (Step.toStr (e := 5) (xs := a) rfl rfl (lt_ok rfl) (by kernel_rfl) (by kernel_rfl) (by kernel_rfl) rfl rfl) ?_
 refine TL.mv (pS b) ?_
 refine TL.c (Step.toStr (e := 5) (xs := b) rfl rfl (lt_ok rfl) (by kernel_rfl) (by kernel_rfl) (by kernel_rfl) rfl rfl) ?_
 refine TL.c (Step.bin rfl rfl (lt_ok rfl) rfl rfl Bin.streq) ?_
 refine TL.as (pB ((strOfNums a).toList == (strOfNums b).toList)) ?_
 refine TL.nil ?_
 refine T.ret ?_
 refine ⟨[(false, [.d (.bool ((strOfNums a).toList == (strOfNums b).toList))])], (.cons rfl .nil), rfl, [], (RetC.rd' ?_ .nil)⟩ <;> (exact congrArg D.bool (str_eq h0_ h1_))
theorem ok_impl_VoteSame (a : SVote) (b : SVote) (h0_ : a.ok) (h1_ : b.ok) : RO Try.prog 98 [.agg a.cells, .agg b.cells] [(false, [.rd (.bool (decide (a = b)))])] := by
 refine RO.intro Try.func98 rfl 38 rfl (le_ok rfl) fun w Z => ?_
 obtain ⟨k0_0, k0_1, k0_2, k0_3, k0_4⟩ := h0_
 obtain ⟨k1_0, k1_1, k1_2, k1_3, k1_4⟩ := h1_
 refine T.seq ?_
 refine T.region ?_
 refine TL.c (Step.box (p := (.agg [cI a.f0, cI a.f1, cS a.f2, cI a.f3, cS a.f4])) (ps := [cI a.f0, cI a.f1, cS a.f2, cI a.f3, cS a.f4]) rfl rfl (lt_ok rfl) rfl rfl rfl rfl rfl) ?_
 refine TL.c (Step.box (p := (.agg [cI b.f0, cI b.f1, cS b.f2, cI b.f3, cS b.f4])) (ps := [cI b.f0, cI b.f1, cS b.f2, cI b.f3, cS b.f4]) rfl rfl (lt_ok rfl) rfl rfl rfl rfl rfl) ?_
 refine TL.as (pB false) ?_
 refine TL.nil ?_
 refine T.seq ?_
 refine T.region ?_
 refine TL.c (Step.fieldAddr (q := 0) (off := 0) (n := 1) (one := true) rfl rfl (lt_ok rfl) (by kernel_rfl) (Nat.succ_ne_zero _) rfl) ?_
 refine TL.c (Step.load_box (c := cI a.f0) rfl rfl (lt_ok rfl) (by kernel_rfl) rfl rfl rfl) ?_
 refine TL.c (Step.fieldAddr (q := 0) (off := 0) (n := 1) (one := true) rfl rfl (lt_ok rfl) (by kernel_rfl) (Nat.succ_ne_zero _) rfl) ?_
 refine TL.c (Step.load_box (c := cI b.f0) rfl rfl (lt_ok rfl) (by kernel_rfl) rfl rfl rfl) ?_
 refine TL.c (Step.bin rfl rfl (lt_ok rfl) rfl rfl (Bin.eql (k := .i64) (a := a.f0) (b := b.f0))) ?_
 refine TL.mv (pB (decide (a.f0 = b.f0))) ?_
 rcases Bool.eq_false_or_eq_true (decide (a.f0 = b.f0)) with hb1 | hb1
 ·
  refine TL.known 10 hb1 rfl ?_
  refine TL.gy 10 (Step.fieldAddr (q := 0) (off := 1) (n := 1) (one := true) rfl rfl (lt_ok rfl) (by kernel_rfl) (Nat.succ_ne_zero _) rfl) ?_
  refine TL.gy 10 (Step.load_box (c := cI a.f1) rfl rfl (lt_ok rfl) (by kernel_rfl) rfl rfl rfl) ?_
  refine TL.gy 10 (Step.fieldAddr (q := 0) (off := 1) (n := 1) (one := true) rfl rfl (lt_ok rfl) (by kernel_rfl) (Nat.succ_ne_zero _) rfl) ?_
  refine TL.gy 10 (Step.load_box (c := cI b.f1) rfl rfl (lt_ok rfl) (by kernel_rfl) rfl rfl rfl) ?_
  refine TL.gy 10 (Step.bin rfl rfl (lt_ok rfl) rfl rfl (Bin.eql (k := .i64) (a := a.f1) (b := b.f1))) ?_
  refine TL.pk true (pB (decide (a.f1 = b.f1))) ?_
  refine TL.mv (pB (decide (a.f1 = b.f1))) ?_
  rcases Bool.eq_false_or_eq_true (decide (a.f1 = b.f1)) with hb2 | hb2
  ·
   refine TL.known 17 hb2 rfl ?_
   refine TL.gy 17 (Step.fieldAddr (q := 0) (off := 3) (n := 1) (one := true) rfl rfl (lt_ok rfl) (by kernel_rfl) (Nat.succ_ne_zero _) rfl) ?_
   refine TL.gy 17 (Step.load_box (c := cI a.f3) rfl rfl (lt_ok rfl) (by kernel_rfl) rfl rfl rfl) ?_
   refine TL.gy 17 (Step.fieldAddr (q := 0) (off := 3) (n := 1) (one := true) rfl rfl (lt_ok rfl) (by kernel_rfl) (Nat.succ_ne_zero _) rfl) ?_
   refine TL.gy 17 (Step.load_box (c := cI b.f3) rfl rfl (lt_ok rfl) (by kernel_rfl) rfl rfl rfl) ?_
   refine TL.gy 17 (Step.bin rfl rfl (lt_ok rfl) rfl rfl (Bin.eql (k := .i64) (a := a.f3) (b := b.f3))) ?_
   refine TL.pk true (pB (decide (a.f3 = b.f3))) ?_
   refine TL.mv (pB (decide (a.f3 = b.f3))) ?_
   rcases Bool.eq_false_or_eq_true (decide (a.f3 = b.f3)) with hb3 | hb3
   ·
    refine TL.known 24 hb3 rfl ?_
    refine TL.gy 24 (Step.fieldAddr (q := 0) (off := 2) (n := 1) (one := true) rfl rfl (lt_ok rfl) (by kernel_rfl) (Nat.succ_ne_zero _) rfl) ?_
    refine TL.gy 24 (Step.load_box (c := cS a.f2) rfl rfl (lt_ok rfl) (by kernel_rfl) rfl rfl rfl) ?_
    refine TL.gy 24 (Step.fieldAddr (q := 0) (off := 2) (n := 1) (one := true) rfl rfl (lt_ok rfl) (by kernel_rfl) (Nat.succ_ne_zero _) rfl) ?_
    refine TL.gy 24 (Step.load_box (c := cS b.f2) rfl rfl (lt_ok rfl) (by kernel_rfl) rfl rfl rfl) ?_
    refine TL.gy 24 (Step.cl (xs := [.tmp 26, .tmp 28]) (ps := [(pS a.f2), (pS b.f2)]) (g := .func 155) false (.cons (.one (.d _)) (.cons (.one (.d _)) .nil)) (ok_impl_SameBytes a.f2 b.f2 (by first | assumption | exact mem_getD h0_ (by omega) | exact mem_getD h1_ (by omega) | exact m0_ (by omega) | exact m1_ (by omega) | exact (m0_ (by omega)).2.2 | exact (m1_ (by omega)).2.2) (by first | assumption | exact mem_getD h0_ (by omega) | exact mem_getD h1_ (by omega) | exact m0_ (by omega) | exact m1_ (by omega) | exact (m0_ (by omega)).2.2 | exact (m1_ (by omega)).2.2))) ?_
    refine TL.pk true (pB (decide (a.f2 = b.f2))) ?_
    refine TL.mv (pB (decide (a.f2 = b.f2))) ?_
    rcases Bool.eq_false_or_eq_true (decide (a.f2 = b.f2)) with hb4 | hb4
    ·
     refine TL.known 31 hb4 rfl ?_
     refine TL.gy 31 (Step.fieldAddr (q := 0) (off := 4) (n := 1) (one := true) rfl rfl (lt_ok rfl) (by kernel_rfl) (Nat.succ_ne_zero _) rfl) ?_
     refine TL.gy 31 (Step.load_box (c := cS a.f4) rfl rfl (lt_ok rfl) (by kernel_rfl) rfl rfl rfl) ?_
     refine TL.gy 31 (Step.fieldAddr (q := 0) (off := 4) (n := 1) (one := true) rfl rfl (lt_ok rfl) (by kernel_rfl) (Nat.succ_ne_zero _) rfl) ?_
     refine TL.gy 31 (Step.load_box (c := cS b.f4) rfl rfl (lt_ok rfl) (by kernel_rfl) rfl rfl rfl) ?_
     refine TL.gy 31 (Step.cl (xs := [.tmp 33, .tmp 35]) (ps := [(pS a.f4), (pS b.f4)]) (g := .func 155) false (.cons (.one (.d _)) (.cons (.one (.d _)) .nil)) (ok_impl_SameBytes a.f4 b.f4 (by first | assumption | exact mem_getD h0_ (by omega) | exact mem_getD h1_ (by omega) | exact m0_ (by omega) | exact m1_ (by omega) | exact (m0_ (by omega)).2.2 | exact (m1_ (by omega)).2.2) (by first | assumption | exact mem_getD h0_ (by omega) | exact mem_getD h1_ (by omega) | exact m0_ (by omega) | exact m1_ (by omega) | exact (m0_ (by omega)).2.2 | exact (m1_ (by omega)).2.2))) ?_
     refine TL.pk true (pB (decide (a.f4 = b.f4))) ?_
     refine TL.as (pB (decide (a.f4 = b.f4))) ?_
     refine TL.nil ?_
     refine T.ret ?_
     refine ⟨[(false, [.d (.bool (decide (a.f4 = b.f4)))])], (.cons rfl .nil), rfl, [], (RetC.rd' ?_ .nil)⟩ <;> ((congr 1; symm; first | (apply decide_eq_false; rintro rfl; first | exact absurd rfl ‹¬ _ = _› | exact absurd rfl (of_decide_eq_false (by assumption)) | contradiction | simp_all) | (apply decide_eq_true; apply SVote.ext <;> first | assumption | exact of_decide_eq_true (by assumption) | exact Decidable.not_not.1 (by assumption) | exact take_all hx2 (by omega) hx3 | simp_all) | (apply decide_eq_decide.2; constructor; (rintro rfl; rfl); intro h_; apply SVote.ext <;> first | assumption | exact of_decide_eq_true (by assumption) | exact Decidable.not_not.1 (by assumption) | exact take_all hx2 (by omega) hx3 | simp_all)))
    ·
     refine TL.known 31 hb4 rfl ?_
     refine TL.gf 31 ?_
     refine TL.gf 31 ?_
     refine TL.gf 31 ?_
     refine TL.gf 31 ?_
     refine TL.gf 31 ?_
     refine TL.pk false (pB false) ?_
     refine TL.as (pB false) ?_
     refine TL.nil ?_
     refine T.ret ?_
     refine ⟨[(false, [.d (.bool false)])], (.cons rfl .nil), rfl, [], (RetC.rd' ?_ .nil)⟩ <;> ((congr 1; symm; first | (apply decide_eq_false; rintro rfl; first | exact absurd rfl ‹¬ _ = _› | exact absurd rfl (of_decide_eq_false (by assumption)) | contradiction | simp_all) | (apply decide_eq_true; apply SVote.ext <;> first | assumption | exact of_decide_eq_true (by assumption) | exact Decidable.not_not.1 (by assumption) | exact take_all hx2 (by omega) hx3 | simp_all) | (apply decide_eq_decide.2; constructor; (rintro rfl; rfl); intro h_; apply SVote.ext <;> first | assumption | exact of_decide_eq_true (by assumption) | exact Decidable.not_not.1 (by assumption) | exact take_all hx2 (by omega) hx3 | simp_all)))
   ·
    refine TL.known 24 hb3 rfl ?_
    refine TL.gf 24 ?_
    refine TL.gf 24 ?_
    refine TL.gf 24 ?_
    refine TL.gf 24 ?_
    refine TL.gf 24 ?_
    refine TL.pk false (pB false) ?_
    refine TL.mv (pB false) ?_
    refine TL.gf 31 ?_
    refine TL.gf 31 ?_
    refine TL.gf 31 ?_
    refine TL.gf 31 ?_
    refine TL.gf 31 ?_
    refine TL.pk false (pB false) ?_
    refine TL.as (pB false) ?_
    refine TL.nil ?_
    refine T.ret ?_
    refine ⟨[(false, [.d (.bool false)])], (.cons rfl .nil), rfl, [], (RetC.rd' ?_ .nil)⟩ <;> ((congr 1; symm; first | (apply decide_eq_false; rintro rfl; first | exact absurd rfl ‹¬ _ = _› | exact absurd rfl (of_decide_eq_false (by assumption)) | contradiction | simp_all) | (apply decide_eq_true; apply SVote.ext <;> first | assumption | exact of_decide_eq_true (by assumption) | exact Decidable.not_not.1 (by assumption) | exact take_all hx2 (by omega) hx3 | simp_all) | (apply decide_eq_decide.2; constructor; (rintro rfl; rfl); intro h_; apply SVote.ext <;> first | assumption | exact of_decide_eq_true (by assumption) | exact Decidable.not_not.1 (by assumption) | exact take_all hx2 (by omega) hx3 | simp_all)))
  ·
   refine TL.known 17 hb2 rfl ?_
   refine TL.gf 17 ?_
   refine TL.gf 17 ?_
   refine TL.gf 17 ?_
   refine TL.gf 17 ?_
   refine TL.gf 17 ?_
   refine TL.pk false (pB false) ?_
   refine TL.mv (pB false) ?_
   refine TL.gf 24 ?_
   refine TL.gf 24 ?_
   refine TL.gf 24 ?_
   refine TL.gf 24 ?_
   refine TL.gf 24 ?_
   refine TL.pk false (pB false) ?_
   refine TL.mv (pB false) ?_
   refine TL.gf 31 ?_
   refine TL.gf 31 ?_
   refine TL.gf 31 ?_
   refine TL.gf 31 ?_
   refine TL.gf 31 ?_
   refine TL.pk false (pB false) ?_
   refine TL.as (pB false) ?_
   refine TL.nil ?_
   refine T.ret ?_
   refine ⟨[(false, [.d (.bool false)])], (.cons rfl .nil), rfl, [], (RetC.rd' ?_ .nil)⟩ <;> ((congr 1; symm; first | (apply decide_eq_false; rintro rfl; first | exact absurd rfl ‹¬ _ = _› | exact absurd rfl (of_decide_eq_false (by assumption)) | contradiction | simp_all) | (apply decide_eq_true; apply SVote.ext <;> first | assumption | exact of_decide_eq_true (by assumption) | exact Decidable.not_not.1 (by assumption) | exact take_all hx2 (by omega) hx3 | simp_all) | (apply decide_eq_decide.2; constructor; (rintro rfl; rfl); intro h_; apply SVote.ext <;> first | assumption | exact of_decide_eq_true (by assumption) | exact Decidable.not_not.1 (by assumption) | exact take_all hx2 (by omega) hx3 | simp_all)))
 ·
  refine TL.known 10 hb1 rfl ?_
  refine TL.gf 10 ?_
  refine TL.gf 10 ?_
  refine TL.gf 10 ?_
  refine TL.gf 10 ?_
  refine TL.gf 10 ?_
  refine TL.pk false (pB false) ?_
  refine TL.mv (pB false) ?_
  refine TL.gf 17 ?_
  refine TL.gf 17 ?_
  refine TL.gf 17 ?_
  refine TL.gf 17 ?_
  refine TL.gf 17 ?_
  refine TL.pk false (pB false) ?_
  refine TL.mv (pB false) ?_
  refine TL.gf 24 ?_
  refine TL.gf 24 ?_
  refine TL.gf 24 ?_
  refine TL.gf 24 ?_
  refine TL.gf 24 ?_
  refine TL.pk false (pB false) ?_
  refine TL.mv (pB false) ?_
  refine TL.gf 31 ?_
  refine TL.gf 31 ?_
  refine TL.gf 31 ?_
  refine TL.gf 31 ?_
  refine TL.gf 31 ?_
  refine TL.pk false (pB false) ?_
  refine TL.as (pB false) ?_
  refine TL.nil ?_
  refine T.ret ?_
  refine ⟨[(false, [.d (.bool false)])], (.cons rfl .nil), rfl, [], (RetC.rd' ?_ .nil)⟩ <;> ((congr 1; symm; first | (apply decide_eq_false; rintro rfl; first | exact absurd rfl ‹¬ _ = _› | exact absurd rfl (of_decide_eq_false (by assumption)) | contradiction | simp_all) | (apply decide_eq_true; apply SVote.ext <;> first | assumption | exact of_decide_eq_true (by assumption) | exact Decidable.not_not.1 (by assumption) | exact take_all hx2 (by omega) hx3 | simp_all) | (apply decide_eq_decide.2; constructor; (rintro rfl; rfl); intro h_; apply SVote.ext <;> first | assumption | exact of_decide_eq_true (by assumption) | exact Decidable.not_not.1 (by assumption) | exact take_all hx2 (by omega) hx3 | simp_all)))
end Go.Proofs.Ythaagegnobegjaa.Rf
