/- The functions that FnExactQcFrom calls, each held to what it answers. Printed by a program of this session; Lean checks it. -/
import Derived.Test.YthaagegnobegjaaProg
import Derived.Test.YthaagegnobegjaaRFnExactQcFromx1
namespace Go.Proofs.Ythaagegnobegjaa.Rf
open Go.RowKit
set_option linter.unusedVariables false
set_option linter.unnecessarySimpa false
set_option linter.unusedSimpArgs false
set_option maxRecDepth 100000
set_option maxHeartbeats 4000000
theorem ok_impl_QcFrom (l : SLimits) (v : List SVote) (h0_ : ∀ y ∈ v, SVote.ok y) (h1_ : v.length ≤ 1048576) (h2_ : ∀ y ∈ v, SVote.sm y) (h3_ : I64 l.f0) : RO Try.prog 37 [.agg l.cells, .one (.sl 5 (v.map SVote.cells))] [(true, [.rd (.int .i64 (qcFrom l v).f0), .rd (.int .i64 (qcFrom l v).f1), .own 5 (.ints .u8 (qcFrom l v).f2), .own 5 (.ints .u8 (qcFrom l v).f3), .own 22 (.bss (qcFrom l v).f4)]), (false, [.rd (.bool (qcFromOk l v))])] := by
 refine RO.intro Try.func37 rfl 91 rfl (le_ok rfl) fun w Z => ?_
 refine T.bnd 1 0 rfl rfl fun hb_1_0 => ?_
 simp only [D.size, List.length_map] at hb_1_0
 have ht0_ := vote_at_sm h2_ 0
 have ht01_ := ht0_.1
 have hi4_ := h3_
 unfold I64 at hi4_
 refine T.seq ?_
 refine T.region ?_
 refine TL.c (Step.box (p := (.agg [cI l.f0, cI l.f1, cI l.f2, cI l.f3, cI l.f4])) (ps := [cI l.f0, cI l.f1, cI l.f2, cI l.f3, cI l.f4]) rfl rfl (lt_ok rfl) rfl rfl rfl rfl rfl) ?_
 refine TL.c (Step.alloc (cs := [.int .i64 0, .int .i64 0, .slice none 0 0, .slice none 0 0, .slice none 0 0]) (ps := [cI 0, cI 0, .nil, .nil, .nil]) rfl rfl (lt_ok rfl) (by kernel_rfl) rfl rfl rfl rfl) ?_
 refine TL.as (pB false) ?_
 refine TL.nil ?_
 refine T.seq ?_
 refine T.seq ?_
 refine T.region ?_
 refine TL.mv (.one (.d (.sl 5 (v.map SVote.cells)))) ?_
 refine TL.c (Step.len' (e := 64) (z := 5) (d := (.sl 5 (v.map SVote.cells))) (n := v.length) rfl rfl (lt_ok rfl) (by kernel_rfl) rfl rfl (by simp [D.size])) ?_
 refine TL.c (Step.bin rfl rfl (lt_ok rfl) rfl rfl (Bin.eql (k := .i64) (a := (v.length : Int)) (b := 0))) ?_
 refine TL.nil ?_
 refine T.cond (b := decide ((v.length : Int) = 0)) rfl (fun h1 => ?_) (fun h1 => ?_)
 ·
  replace h1 := of_decide_eq_true h1
  refine T.seq ?_
  refine T.region ?_
  refine TL.c (Step.build (zs := [.int .i64 0, .int .i64 0, .slice none 0 0, .slice none 0 0, .slice none 0 0]) (places := [(0, 1), (1, 1), (2, 1), (3, 1), (4, 1)]) (pss := []) (ps' := [cI 0, cI 0, .nil, .nil, .nil]) rfl rfl (lt_ok rfl) (by kernel_rfl) .nil rfl rfl rfl) ?_
  refine TL.c (Step.store_box (n := 5) (p := (.agg [cI 0, cI 0, .nil, .nil, .nil])) (qs := [cI 0, cI 0, .nil, .nil, .nil]) (ps' := [cI 0, cI 0, .nil, .nil, .nil]) rfl rfl (by kernel_rfl) rfl rfl rfl rfl rfl rfl (le_ok rfl) rfl) ?_
  refine TL.as (pB false) ?_
  refine TL.nil ?_
  refine T.ret ?_
  refine ⟨[(true, [cI 0, cI 0, .nil, .nil, .nil]), (false, [.d (.bool false)])], (.cons rfl (.cons rfl .nil)), rfl, [], (RetC.rd' ?_ (RetC.rd' ?_ (RetC.nilown' rfl ?_ (by first | exact trivial | exact D.wf_nil _) (RetC.nilown' rfl ?_ (by first | exact trivial | exact D.wf_nil _) (RetC.nilown' rfl ?_ (by first | exact trivial | exact D.wf_nil _) (RetC.rd' ?_ .nil))))))⟩ <;> (first | (congr 1; first | (rw [qcFrom_yes (qcFromOk_iff.2 ⟨by omega, by assumption, (show qcVotes (⟨(v.getD 0 default).f0, (v.getD 0 default).f1, (v.getD 0 default).f2, bitsOf (voteWhos v) l.f0, voteTags v⟩ : SQc) = v from take_all hx2 (by omega) hx3)⟩)]; done) | (rw [qcFrom_yes (qcFromOk_iff.2 ⟨by omega, by assumption, (show qcVotes (⟨(v.getD 0 default).f0, (v.getD 0 default).f1, (v.getD 0 default).f2, bitsOf (voteWhos v) l.f0, voteTags v⟩ : SQc) = v from take_all hx2 (by omega) hx3)⟩)]; rfl) | (rw [qcFrom_no (Bool.eq_false_iff.2 fun hq_ => by obtain ⟨q1_, q2_, q3_⟩ := qcFromOk_iff.1 hq_; have e_ : qcVotes (⟨(v.getD 0 default).f0, (v.getD 0 default).f1, (v.getD 0 default).f2, bitsOf (voteWhos v) l.f0, voteTags v⟩ : SQc) = v := q3_; have e2_ := congrArg List.length e_; first | omega | exact bool_ne q2_ (by assumption) | exact bool_ne (qcOk_lim' q2_) (by assumption) | exact bool_ne (qcOf_bits q2_) (by assumption) | exact absurd (congrArg (fun x => x.getD i default) e_) (by assumption) | exact absurd (congrArg (fun x => x.getD i default) e_.symm) (by assumption))]; rfl) | (symm; exact (qcFromOk_iff.2 ⟨by omega, by assumption, (show qcVotes (⟨(v.getD 0 default).f0, (v.getD 0 default).f1, (v.getD 0 default).f2, bitsOf (voteWhos v) l.f0, voteTags v⟩ : SQc) = v from take_all hx2 (by omega) hx3)⟩)) | (symm; exact (Bool.eq_false_iff.2 fun hq_ => by obtain ⟨q1_, q2_, q3_⟩ := qcFromOk_iff.1 hq_; have e_ : qcVotes (⟨(v.getD 0 default).f0, (v.getD 0 default).f1, (v.getD 0 default).f2, bitsOf (voteWhos v) l.f0, voteTags v⟩ : SQc) = v := q3_; have e2_ := congrArg List.length e_; first | omega | exact bool_ne q2_ (by assumption) | exact bool_ne (qcOk_lim' q2_) (by assumption) | exact bool_ne (qcOf_bits q2_) (by assumption) | exact absurd (congrArg (fun x => x.getD i default) e_) (by assumption) | exact absurd (congrArg (fun x => x.getD i default) e_.symm) (by assumption)))) | (simp only [D.size, List.length_map]; rw [qcFrom_no (Bool.eq_false_iff.2 fun hq_ => by obtain ⟨q1_, q2_, q3_⟩ := qcFromOk_iff.1 hq_; have e_ : qcVotes (⟨(v.getD 0 default).f0, (v.getD 0 default).f1, (v.getD 0 default).f2, bitsOf (voteWhos v) l.f0, voteTags v⟩ : SQc) = v := q3_; have e2_ := congrArg List.length e_; first | omega | exact bool_ne q2_ (by assumption) | exact bool_ne (qcOk_lim' q2_) (by assumption) | exact bool_ne (qcOf_bits q2_) (by assumption) | exact absurd (congrArg (fun x => x.getD i default) e_) (by assumption) | exact absurd (congrArg (fun x => x.getD i default) e_.symm) (by assumption))]; rfl))
 ·
  replace h1 := of_decide_eq_false h1
  refine T.skip ?_
  refine T.seq ?_
  refine T.drawX [{ dst := some 16, pv := (.one (.d (.sl 5 (v.map SVote.cells)))) }, { dst := some 17, pv := (.one (.eptr (.sl 5 (v.map SVote.cells)) 0 0)) }, { dst := some 18, pv := (.one (.eptr (.sl 5 (v.map SVote.cells)) 0 0)) }, { dst := some 19, pv := (pI (v.getD 0 default).f0) }, { dst := some 20, pv := (.one (.d (.sl 5 (v.map SVote.cells)))) }, { dst := some 21, pv := (.one (.eptr (.sl 5 (v.map SVote.cells)) 0 0)) }, { dst := some 22, pv := (.one (.eptr (.sl 5 (v.map SVote.cells)) 0 1)) }, { dst := some 23, pv := (pI (v.getD 0 default).f1) }, { dst := some 24, pv := (.one (.d (.sl 5 (v.map SVote.cells)))) }, { dst := some 25, pv := (.one (.eptr (.sl 5 (v.map SVote.cells)) 0 0)) }, { dst := some 26, pv := (.one (.eptr (.sl 5 (v.map SVote.cells)) 0 2)) }, { dst := some 27, pv := (pS (v.getD 0 default).f2) }, { dst := some 28, pv := (.one (.row 1028 [])), rows := [(1028, (5, (.ints .u8 (v.getD 0 default).f2)))] }, { dst := some 29, pv := (.agg [cI (v.getD 0 default).f0, cI (v.getD 0 default).f1, .row 1028 [], .nil, .nil]) }, { dst := some 30, pv := (.one (.row 30 [])), rows := [(30, (3, (.ints .i64 [])))] }, { dst := some 6, pv := (.one (.ptr 6 0)), box := some (6, (29, [cI 0, cI 0, .nil, .nil, .nil])) }, { box := some (6, (29, [cI (v.getD 0 default).f0, cI (v.getD 0 default).f1, .row 1028 [], .nil, .nil])) }, { dst := some 7, pv := (.one (.row 30 [])) }] (by kernel_rfl) (by kernel_rfl) ?_ ?_
  ·
   refine .cons (fun E hA_ => by have g1 : E.get 1 = (.one (.d (.sl 5 (v.map SVote.cells)))) := (hA_.get 1 (by kernel_rfl)).trans (by kernel_rfl); exact OpStep.plain rfl (Step.move (p := (.one (.d (.sl 5 (v.map SVote.cells))))) (t := 16) rfl rfl (by exact lt_ok rfl) (show Env.ev E (.tmp 1) = _ from g1.trans rfl))) ?_
   refine .cons (fun E hA_ => by have g16 : E.get 16 = (.one (.d (.sl 5 (v.map SVote.cells)))) := (hA_.get 16 (by kernel_rfl)).trans (by kernel_rfl); exact OpStep.plain rfl (Step.index (e := 64) (z := 5) (i := 0) (t := 17) rfl rfl (by exact lt_ok rfl) (by kernel_rfl) (show Env.ev E (.tmp 16) = _ from g16.trans rfl) rfl rfl (lt_ok rfl) rfl (by first | omega | (simp; omega)) (by simp only [D.size]; first | omega | (simp; omega)))) ?_
   refine .cons (fun E hA_ => by have g17 : E.get 17 = (.one (.eptr (.sl 5 (v.map SVote.cells)) 0 0)) := (hA_.get 17 (by kernel_rfl)).trans (by kernel_rfl); exact OpStep.plain rfl (Step.fieldAddr_e (j := 0) (off := 0) (n := 1) (one := true) (t := 18) rfl rfl (by exact lt_ok rfl) (by kernel_rfl) (Nat.succ_ne_zero _) (show Env.ev E (.tmp 17) = _ from g17.trans rfl) (lt_ok rfl))) ?_
   refine .cons (fun E hA_ => by have g18 : E.get 18 = (.one (.eptr (.sl 5 (v.map SVote.cells)) 0 0)) := (hA_.get 18 (by kernel_rfl)).trans (by kernel_rfl); exact OpStep.plain rfl (Step.load (e := (.int .i64 (v.getD 0 default).f0)) (t := 19) rfl rfl (by exact lt_ok rfl) (by kernel_rfl) (show Env.ev E (.tmp 18) = _ from g18.trans rfl) ((cell_map default (by first | omega | (simp; omega))).trans rfl))) ?_
   refine .cons (fun E hA_ => by have g1 : E.get 1 = (.one (.d (.sl 5 (v.map SVote.cells)))) := (hA_.get 1 (by kernel_rfl)).trans (by kernel_rfl); exact OpStep.plain rfl (Step.move (p := (.one (.d (.sl 5 (v.map SVote.cells))))) (t := 20) rfl rfl (by exact lt_ok rfl) (show Env.ev E (.tmp 1) = _ from g1.trans rfl))) ?_
   refine .cons (fun E hA_ => by have g20 : E.get 20 = (.one (.d (.sl 5 (v.map SVote.cells)))) := (hA_.get 20 (by kernel_rfl)).trans (by kernel_rfl); exact OpStep.plain rfl (Step.index (e := 64) (z := 5) (i := 0) (t := 21) rfl rfl (by exact lt_ok rfl) (by kernel_rfl) (show Env.ev E (.tmp 20) = _ from g20.trans rfl) rfl rfl (lt_ok rfl) rfl (by first | omega | (simp; omega)) (by simp only [D.size]; first | omega | (simp; omega)))) ?_
   refine .cons (fun E hA_ => by have g21 : E.get 21 = (.one (.eptr (.sl 5 (v.map SVote.cells)) 0 0)) := (hA_.get 21 (by kernel_rfl)).trans (by kernel_rfl); exact OpStep.plain rfl (Step.fieldAddr_e (j := 0) (off := 1) (n := 1) (one := true) (t := 22) rfl rfl (by exact lt_ok rfl) (by kernel_rfl) (Nat.succ_ne_zero _) (show Env.ev E (.tmp 21) = _ from g21.trans rfl) (lt_ok rfl))) ?_
   refine .cons (fun E hA_ => by have g22 : E.get 22 = (.one (.eptr (.sl 5 (v.map SVote.cells)) 0 1)) := (hA_.get 22 (by kernel_rfl)).trans (by kernel_rfl); exact OpStep.plain rfl (Step.load (e := (.int .i64 (v.getD 0 default).f1)) (t := 23) rfl rfl (by exact lt_ok rfl) (by kernel_rfl) (show Env.ev E (.tmp 22) = _ from g22.trans rfl) ((cell_map default (by first | omega | (simp; omega))).trans rfl))) ?_
   refine .cons (fun E hA_ => by have g1 : E.get 1 = (.one (.d (.sl 5 (v.map SVote.cells)))) := (hA_.get 1 (by kernel_rfl)).trans (by kernel_rfl); exact OpStep.plain rfl (Step.move (p := (.one (.d (.sl 5 (v.map SVote.cells))))) (t := 24) rfl rfl (by exact lt_ok rfl) (show Env.ev E (.tmp 1) = _ from g1.trans rfl))) ?_
   refine .cons (fun E hA_ => by have g24 : E.get 24 = (.one (.d (.sl 5 (v.map SVote.cells)))) := (hA_.get 24 (by kernel_rfl)).trans (by kernel_rfl); exact OpStep.plain rfl (Step.index (e := 64) (z := 5) (i := 0) (t := 25) rfl rfl (by exact lt_ok rfl) (by kernel_rfl) (show Env.ev E (.tmp 24) = _ from g24.trans rfl) rfl rfl (lt_ok rfl) rfl (by first | omega | (simp; omega)) (by simp only [D.size]; first | omega | (simp; omega)))) ?_
   refine .cons (fun E hA_ => by have g25 : E.get 25 = (.one (.eptr (.sl 5 (v.map SVote.cells)) 0 0)) := (hA_.get 25 (by kernel_rfl)).trans (by kernel_rfl); exact OpStep.plain rfl (Step.fieldAddr_e (j := 0) (off := 2) (n := 1) (one := true) (t := 26) rfl rfl (by exact lt_ok rfl) (by kernel_rfl) (Nat.succ_ne_zero _) (show Env.ev E (.tmp 25) = _ from g25.trans rfl) (lt_ok rfl))) ?_
   refine .cons (fun E hA_ => by have g26 : E.get 26 = (.one (.eptr (.sl 5 (v.map SVote.cells)) 0 2)) := (hA_.get 26 (by kernel_rfl)).trans (by kernel_rfl); exact OpStep.plain rfl (Step.load (e := (.ints .u8 (v.getD 0 default).f2)) (t := 27) rfl rfl (by exact lt_ok rfl) (by kernel_rfl) (show Env.ev E (.tmp 26) = _ from g26.trans rfl) ((cell_map default (by first | omega | (simp; omega))).trans rfl))) ?_
   refine .cons (fun E hA_ => by have g27 : E.get 27 = (pS (v.getD 0 default).f2) := (hA_.get 27 (by kernel_rfl)).trans (by kernel_rfl); exact OpStep.plain rfl (Step.call (f := 83) (xs := [.tmp 27]) (ps := [(pS (v.getD 0 default).f2)]) false (g := .func 83) (t := 28) rfl rfl (by exact lt_ok rfl) rfl (by kernel_rfl) (evs_cons (show Env.ev E (.tmp 27) = _ from g27.trans rfl) (rfl)) (.cons (.one (.d _)) .nil) (ok_impl_copyBytes (v.getD 0 default).f2 (by first | omega | assumption | (simp only [List.length_take, List.length_drop]; omega))) (.inr rfl) (freshRows_of _ _ (fun x_ hx_ => hA_.fresh x_ (by exact hx_))) (by simp) rfl)) ?_
   refine .cons (fun E hA_ => by have g19 : E.get 19 = (pI (v.getD 0 default).f0) := (hA_.get 19 (by kernel_rfl)).trans (by kernel_rfl); have g23 : E.get 23 = (pI (v.getD 0 default).f1) := (hA_.get 23 (by kernel_rfl)).trans (by kernel_rfl); have g28 : E.get 28 = (.one (.row 1028 [])) := (hA_.get 28 (by kernel_rfl)).trans (by kernel_rfl); have q1028 : E.row 1028 = some (5, (.ints .u8 (v.getD 0 default).f2)) := (hA_.row 1028 (by kernel_rfl)).trans (by kernel_rfl); exact OpStep.plain rfl (Step.build (zs := [.int .i64 0, .int .i64 0, .slice none 0 0, .slice none 0 0, .slice none 0 0]) (places := [(0, 1), (1, 1), (2, 1), (3, 1), (4, 1)]) (pss := [(0, [cI (v.getD 0 default).f0]), (1, [cI (v.getD 0 default).f1]), (2, [.row 1028 []])]) (ps' := [cI (v.getD 0 default).f0, cI (v.getD 0 default).f1, .row 1028 [], .nil, .nil]) (t := 29) rfl rfl (by exact lt_ok rfl) (by kernel_rfl) (.cons ⟨rfl, (by exact (congrArg PV.flat (show Env.ev E (.tmp 19) = _ from g19.trans rfl)).trans rfl)⟩ (.cons ⟨rfl, (by exact (congrArg PV.flat (show Env.ev E (.tmp 23) = _ from g23.trans rfl)).trans rfl)⟩ (.cons ⟨rfl, (by exact (congrArg PV.flat (show Env.ev E (.tmp 28) = _ from g28.trans rfl)).trans rfl)⟩ .nil))) (by simp only [List.all_cons, List.all_nil, Env.fine, q1028]; rfl) rfl rfl)) ?_
   refine .cons (fun E hA_ => by exact OpStep.plain rfl (Step.litX (e := 3) (z := 1) (by_ := 8) (xs := []) (pss := []) (es := []) (ss := []) (d := (.ints .i64 [])) (t := 30) rfl rfl (by exact lt_ok rfl) (by kernel_rfl) rfl rfl .nil (by simp) (le_ok rfl) (le_ok rfl) rfl .nil (hA_.fresh _ (List.mem_singleton.2 rfl)) (by simp) (by simp) rfl trivial rfl rfl)) ?_
   refine .cons (fun E hA_ => by exact OpStep.plain rfl (Step.alloc (cs := [.int .i64 0, .int .i64 0, .slice none 0 0, .slice none 0 0, .slice none 0 0]) (ps := [cI 0, cI 0, .nil, .nil, .nil]) (t := 6) rfl rfl (by exact lt_ok rfl) (by kernel_rfl) rfl rfl (hA_.freshB _ rfl rfl) rfl)) ?_
   refine .cons (fun E hA_ => by have g6 : E.get 6 = (.one (.ptr 6 0)) := (hA_.get 6 (by kernel_rfl)).trans (by kernel_rfl); have g29 : E.get 29 = (.agg [cI (v.getD 0 default).f0, cI (v.getD 0 default).f1, .row 1028 [], .nil, .nil]) := (hA_.get 29 (by kernel_rfl)).trans (by kernel_rfl); have q1028 : E.row 1028 = some (5, (.ints .u8 (v.getD 0 default).f2)) := (hA_.row 1028 (by kernel_rfl)).trans (by kernel_rfl); have b6 : E.box 6 = some (29, [cI 0, cI 0, .nil, .nil, .nil]) := (hA_.box 6 (by kernel_rfl)).trans (by kernel_rfl); exact OpStep.plain rfl (Step.store_box (n := 5) (p := (.agg [cI (v.getD 0 default).f0, cI (v.getD 0 default).f1, .row 1028 [], .nil, .nil])) (qs := [cI (v.getD 0 default).f0, cI (v.getD 0 default).f1, .row 1028 [], .nil, .nil]) (ps' := [cI (v.getD 0 default).f0, cI (v.getD 0 default).f1, .row 1028 [], .nil, .nil]) rfl rfl (by kernel_rfl) (show Env.ev E (.tmp 6) = _ from g6.trans rfl) b6 (show Env.ev E (.tmp 29) = _ from g29.trans rfl) rfl rfl (by simp only [List.all_cons, List.all_nil, List.flatten_cons, List.flatten_nil, List.append_nil, List.cons_append, List.nil_append, Env.fine, q1028]; rfl) (le_ok rfl) rfl)) ?_
   refine .cons (fun E hA_ => by have g30 : E.get 30 = (.one (.row 30 [])) := (hA_.get 30 (by kernel_rfl)).trans (by kernel_rfl); exact OpStep.plain rfl (Step.assign (p := (.one (.row 30 []))) (t := 7) rfl rfl (by exact lt_ok rfl) (show Env.ev E (.tmp 30) = _ from g30.trans rfl))) ?_
   exact .nil _ _
  refine TL.weaken (E' := { tm := [(0, (.agg [cI l.f0, cI l.f1, cI l.f2, cI l.f3, cI l.f4])), (1, (.one (.d (.sl 5 (v.map SVote.cells))))), (2, (.one (.ptr 2 0))), (4, (.one (.ptr 4 0))), (5, (pB false)), (12, (.one (.d (.sl 5 (v.map SVote.cells))))), (13, (pI (v.length : Int))), (14, (pB (decide ((v.length : Int) = 0)))), (16, (.one (.d (.sl 5 (v.map SVote.cells))))), (17, (.one (.eptr (.sl 5 (v.map SVote.cells)) 0 0))), (18, (.one (.eptr (.sl 5 (v.map SVote.cells)) 0 0))), (19, (pI (v.getD 0 default).f0)), (20, (.one (.d (.sl 5 (v.map SVote.cells))))), (21, (.one (.eptr (.sl 5 (v.map SVote.cells)) 0 0))), (22, (.one (.eptr (.sl 5 (v.map SVote.cells)) 0 1))), (23, (pI (v.getD 0 default).f1)), (24, (.one (.d (.sl 5 (v.map SVote.cells))))), (25, (.one (.eptr (.sl 5 (v.map SVote.cells)) 0 0))), (26, (.one (.eptr (.sl 5 (v.map SVote.cells)) 0 2))), (27, (pS (v.getD 0 default).f2)), (28, (.one (.row 1028 []))), (29, (.agg [cI (v.getD 0 default).f0, cI (v.getD 0 default).f1, .row 1028 [], .nil, .nil])), (30, (.one (.row 30 []))), (6, (.one (.ptr 6 0))), (7, (.one (.row 30 [])))], rows := [(1028, (5, (.ints .u8 (v.getD 0 default).f2))), (30, (3, (.ints .i64 [])))], boxes := [(2, (44, [cI l.f0, cI l.f1, cI l.f2, cI l.f3, cI l.f4])), (4, (29, [cI 0, cI 0, .nil, .nil, .nil])), (6, (29, [cI (v.getD 0 default).f0, cI (v.getD 0 default).f1, .row 1028 [], .nil, .nil]))] }) (Env.le_mk ⟨by kernel_rfl, by kernel_rfl, by kernel_rfl, by kernel_rfl, by kernel_rfl, by kernel_rfl, by kernel_rfl, by kernel_rfl, by kernel_rfl, by kernel_rfl, by kernel_rfl, by kernel_rfl, by kernel_rfl, by kernel_rfl, by kernel_rfl, by kernel_rfl, by kernel_rfl, by kernel_rfl, by kernel_rfl, by kernel_rfl, by kernel_rfl, by kernel_rfl, by kernel_rfl, by kernel_rfl, by kernel_rfl, trivial⟩ ⟨by kernel_rfl, by kernel_rfl, trivial⟩ ⟨by kernel_rfl, by kernel_rfl, by kernel_rfl, trivial⟩) ?_
  refine TL.nil ?_
  refine T.seq ?_
  refine T.seq ?_
  refine T.region ?_
  refine TL.mv (.one (.d (.sl 5 (v.map SVote.cells)))) ?_
  refine TL.c (Step.len' (e := 64) (z := 5) (d := (.sl 5 (v.map SVote.cells))) (n := v.length) rfl rfl (lt_ok rfl) (by kernel_rfl) rfl rfl (by simp [D.size])) ?_
  refine TL.mv (pI 0) ?_
  refine TL.nil ?_
  refine T.block ?_
  refine T.nilrow 6 4 100604 22 29 (.bss []) [cI (v.getD 0 default).f0, cI (v.getD 0 default).f1, .row 1028 [], .nil, .nil] rfl rfl rfl (by simp) rfl rfl trivial ?_
  refine T.loop (ι := Nat) (fun xx_ => { tm := [(1, (.one (.d (.sl 5 (v.map SVote.cells))))), (2, (.one (.ptr 2 0))), (4, (.one (.ptr 4 0))), (5, (pB false)), (6, (.one (.ptr 6 0))), (31, (.one (.d (.sl 5 (v.map SVote.cells))))), (32, (pI (v.length : Int))), (33, (pI (xx_ : Int))), (7, (.one (.row 30 [])))], rows := [(1028, (5, (.ints .u8 (v.getD 0 default).f2))), (30, (3, (.ints .i64 (voteWhos (v.take xx_))))), (100604, (22, (.bss (voteTags (v.take xx_)))))], boxes := [(2, (44, [cI l.f0, cI l.f1, cI l.f2, cI l.f3, cI l.f4])), (4, (29, [cI 0, cI 0, .nil, .nil, .nil])), (6, (29, [cI (v.getD 0 default).f0, cI (v.getD 0 default).f1, .row 1028 [], .nil, .row 100604 []]))] }) (fun xx_ => xx_ ≤ v.length) (fun xx_ => v.length - xx_) 0 ?_ ?_ ?_
  · refine Env.le_mk ⟨rfl, rfl, rfl, rfl, rfl, rfl, rfl, ?_, rfl, trivial⟩ ⟨rfl, ?_, ?_, trivial⟩ ⟨rfl, rfl, rfl, trivial⟩ <;> (first | (refine congrArg (fun x => some (_, D.ints .i64 x)) ?_; first | exact (voteWhos_step (by omega)).symm | rfl) | (refine congrArg (fun x => some (_, D.bss x)) ?_; first | exact (voteTags_step (by omega)).symm | rfl) | rfl | (refine congrArg (fun n => PV.one (.d (.int .i64 n))) ?_; first | rfl | omega | (simp; done)))
  · exact Nat.zero_le _
  ·
   intro i hx
   try dsimp only at hx ⊢
   have hl_ := voteWhos_len v i
   have hl2_ := voteTags_len v i
   have ht_ := vote_at_sm h2_ i
   have ht1_ := ht_.1
   have ht2_ := ht_.2
   refine T.seq ?_
   refine T.region ?_
   refine TL.c (Step.bin rfl rfl (lt_ok rfl) rfl rfl (Bin.lss (k := .i64) (a := (i : Int)) (b := (v.length : Int)))) ?_
   refine TL.nil ?_
   refine T.seq ?_
   refine T.cond (b := decide ((i : Int) < (v.length : Int))) rfl (fun h2 => ?_) (fun h2 => ?_)
   ·
    replace h2 := of_decide_eq_true h2
    refine T.skip ?_
    refine T.seq ?_
    refine T.block ?_
    refine T.seq ?_
    refine T.region ?_
    refine TL.c (Step.index (e := 64) (z := 5) (i := (i : Int)) rfl rfl (lt_ok rfl) (by kernel_rfl) rfl rfl rfl (lt_ok rfl) rfl (by first | omega | (simp; omega)) (by simp only [D.size]; first | omega | (simp; omega))) ?_
    refine TL.c (Step.load_agg (n := 5) (cs := [cI (v.getD i default).f0, cI (v.getD i default).f1, cS (v.getD i default).f2, cI (v.getD i default).f3, cS (v.getD i default).f4]) rfl rfl (lt_ok rfl) (by kernel_rfl) rfl rfl (by simp only [List.range, List.range.loop, List.map_cons, List.map_nil]; rw [cell_map default (by first | omega | (simp; omega)), cell_map default (by first | omega | (simp; omega)), cell_map default (by first | omega | (simp; omega)), cell_map default (by first | omega | (simp; omega)), cell_map default (by first | omega | (simp; omega))]; rfl)) ?_
    refine TL.c (Step.alloc (cs := [.int .i64 0, .int .i64 0, .slice none 0 0, .int .i64 0, .slice none 0 0]) (ps := [cI 0, cI 0, .nil, cI 0, .nil]) rfl rfl (lt_ok rfl) (by kernel_rfl) rfl rfl rfl rfl) ?_
    refine TL.c (Step.store_box (n := 5) (p := (.agg [cI (v.getD i default).f0, cI (v.getD i default).f1, cS (v.getD i default).f2, cI (v.getD i default).f3, cS (v.getD i default).f4])) (qs := [cI (v.getD i default).f0, cI (v.getD i default).f1, cS (v.getD i default).f2, cI (v.getD i default).f3, cS (v.getD i default).f4]) (ps' := [cI (v.getD i default).f0, cI (v.getD i default).f1, cS (v.getD i default).f2, cI (v.getD i default).f3, cS (v.getD i default).f4]) rfl rfl (by kernel_rfl) rfl rfl rfl rfl rfl rfl (le_ok rfl) rfl) ?_
    refine TL.nil ?_
    refine T.seq ?_
    refine T.region ?_
    refine TL.mv (.one (.row 30 [])) ?_
    refine TL.c (Step.fieldAddr (q := 0) (off := 3) (n := 1) (one := true) rfl rfl (lt_ok rfl) (by kernel_rfl) (Nat.succ_ne_zero _) rfl) ?_
    refine TL.c (Step.load_box (c := cI (v.getD i default).f3) rfl rfl (lt_ok rfl) (by kernel_rfl) rfl rfl rfl) ?_
    refine TL.c (Step.lit (e := 3) (z := 1) (by_ := 8) (xs := [.tmp 39]) (pss := [[cI (v.getD i default).f3]]) (es := [(.int .i64 (v.getD i default).f3)]) (ss := []) (d := (.ints .i64 [(v.getD i default).f3])) rfl rfl (lt_ok rfl) (by kernel_rfl) rfl rfl (.cons rfl .nil) (by simp) (le_ok rfl) (le_ok rfl) rfl (.val rfl .nil) rfl (by simp) (by simp) rfl trivial rfl rfl) ?_
    refine TL.c (Step.append (e := 3) (z := 1) (by_ := 8) (d := (.ints .i64 (voteWhos (v.take i)))) (dy := (.ints .i64 [(v.getD i default).f3])) (d' := (.ints .i64 ((voteWhos (v.take i)) ++ [(v.getD i default).f3]))) (ss := []) rfl rfl (lt_ok rfl) (by kernel_rfl) rfl rfl rfl (lt_ok rfl) rfl (.copy rfl rfl rfl (by simp [D.flat, D.val])) (by simp) rfl (by simp only [D.size, List.length_map]; first | omega | (simp only [List.length_append, List.length_cons, List.length_nil]; omega) | (simp; omega) | (simp only [List.length_append] at *; omega)) (by simp only [D.size, List.length_map]; first | omega | (simp only [List.length_append, List.length_cons, List.length_nil]; omega) | (simp; omega) | (simp only [List.length_append] at *; omega)) (by simp)) ?_
    refine TL.as (.one (.row 30 [])) ?_
    refine TL.nil ?_
    refine T.drawX [{ dst := some 42, pv := (.one (.ptr 6 4)) }, { dst := some 43, pv := (.one (.row 100604 [])) }, { dst := some 44, pv := (.one (.ptr 9 4)) }, { dst := some 45, pv := (pS (v.getD i default).f4) }, { dst := some 46, pv := (.one (.row 1046 [])), rows := [(1046, (5, (.ints .u8 (v.getD i default).f4)))] }, { dst := some 47, pv := (.one (.row 47 [])), rows := [(47, (22, (.bss [(v.getD i default).f4])))], dead := [1046] }, { dst := some 48, pv := (.one (.row 500048 [])), rows := [(500048, (22, (.bss ((voteTags (v.take i)) ++ [(v.getD i default).f4]))))], dead := [100604, 47] }, { dst := some 49, pv := (.one (.ptr 6 4)) }, { box := some (6, (29, [cI (v.getD 0 default).f0, cI (v.getD 0 default).f1, .row 1028 [], .nil, .row 500048 []])) }] (by kernel_rfl) (by kernel_rfl) ?_ ?_
    ·
     refine .cons (fun E hA_ => by have g6 : E.get 6 = (.one (.ptr 6 0)) := (hA_.get 6 (by kernel_rfl)).trans (by kernel_rfl); exact OpStep.plain rfl (Step.fa (off := 4) (n := 1) (one := true) 0 42 (show Env.ev E (.tmp 6) = _ from g6.trans rfl))) ?_
     refine .cons (fun E hA_ => by have g42 : E.get 42 = (.one (.ptr 6 4)) := (hA_.get 42 (by kernel_rfl)).trans (by kernel_rfl); have b6 : E.box 6 = some (29, [cI (v.getD 0 default).f0, cI (v.getD 0 default).f1, .row 1028 [], .nil, .row 100604 []]) := (hA_.box 6 (by kernel_rfl)).trans (by kernel_rfl); exact OpStep.plain rfl (Step.load_box (c := .row 100604 []) (t := 43) rfl rfl (by exact lt_ok rfl) (by kernel_rfl) (show Env.ev E (.tmp 42) = _ from g42.trans rfl) b6 rfl)) ?_
     refine .cons (fun E hA_ => by have g9 : E.get 9 = (.one (.ptr 9 0)) := (hA_.get 9 (by kernel_rfl)).trans (by kernel_rfl); exact OpStep.plain rfl (Step.fa (off := 4) (n := 1) (one := true) 0 44 (show Env.ev E (.tmp 9) = _ from g9.trans rfl))) ?_
     refine .cons (fun E hA_ => by have g44 : E.get 44 = (.one (.ptr 9 4)) := (hA_.get 44 (by kernel_rfl)).trans (by kernel_rfl); have b9 : E.box 9 = some (64, [cI (v.getD i default).f0, cI (v.getD i default).f1, cS (v.getD i default).f2, cI (v.getD i default).f3, cS (v.getD i default).f4]) := (hA_.box 9 (by kernel_rfl)).trans (by kernel_rfl); exact OpStep.plain rfl (Step.load_box (c := cS (v.getD i default).f4) (t := 45) rfl rfl (by exact lt_ok rfl) (by kernel_rfl) (show Env.ev E (.tmp 44) = _ from g44.trans rfl) b9 rfl)) ?_
     refine .cons (fun E hA_ => by have g45 : E.get 45 = (pS (v.getD i default).f4) := (hA_.get 45 (by kernel_rfl)).trans (by kernel_rfl); exact OpStep.plain rfl (Step.call (f := 83) (xs := [.tmp 45]) (ps := [(pS (v.getD i default).f4)]) false (g := .func 83) (t := 46) rfl rfl (by exact lt_ok rfl) rfl (by kernel_rfl) (evs_cons (show Env.ev E (.tmp 45) = _ from g45.trans rfl) (rfl)) (.cons (.one (.d _)) .nil) (ok_impl_copyBytes (v.getD i default).f4 (by first | omega | assumption | (simp only [List.length_take, List.length_drop]; omega))) (.inr rfl) (freshRows_of _ _ (fun x_ hx_ => hA_.fresh x_ (by exact hx_))) (by simp) rfl)) ?_
     refine .cons (fun E hA_ => by have g46 : E.get 46 = (.one (.row 1046 [])) := (hA_.get 46 (by kernel_rfl)).trans (by kernel_rfl); have q1046 : E.row 1046 = some (5, (.ints .u8 (v.getD i default).f4)) := (hA_.row 1046 (by kernel_rfl)).trans (by kernel_rfl); exact OpStep.plain rfl (Step.litX (e := 22) (z := 1) (by_ := 24) (xs := [.tmp 46]) (pss := [[.row 1046 []]]) (es := [(.ints .u8 (v.getD i default).f4)]) (ss := [1046]) (d := (.bss [(v.getD i default).f4])) (t := 47) rfl rfl (by exact lt_ok rfl) (by kernel_rfl) rfl rfl (.cons (by exact (congrArg PV.flat (show Env.ev E (.tmp 46) = _ from g46.trans rfl)).trans rfl) .nil) (by simp) (le_ok rfl) (le_ok rfl) (by simp only [List.all_cons, List.all_nil, List.flatten_cons, List.flatten_nil, List.append_nil, List.cons_append, List.nil_append, Env.fine, q1046]; rfl) (.row q1046 (by simp) .nil) (hA_.fresh _ (List.mem_singleton.2 rfl)) (by simp) (by simp) rfl trivial rfl rfl)) ?_
     refine .cons (fun E hA_ => by have g43 : E.get 43 = (.one (.row 100604 [])) := (hA_.get 43 (by kernel_rfl)).trans (by kernel_rfl); have g47 : E.get 47 = (.one (.row 47 [])) := (hA_.get 47 (by kernel_rfl)).trans (by kernel_rfl); have q47 : E.row 47 = some (22, (.bss [(v.getD i default).f4])) := (hA_.row 47 (by kernel_rfl)).trans (by kernel_rfl); have q100604 : E.row 100604 = some (22, (.bss (voteTags (v.take i)))) := (hA_.row 100604 (by kernel_rfl)).trans (by kernel_rfl); exact OpStep.plain rfl (Step.appendX (e := 22) (z := 1) (by_ := 24) (d := (.bss (voteTags (v.take i)))) (dy := (.bss [(v.getD i default).f4])) (d' := (.bss ((voteTags (v.take i)) ++ [(v.getD i default).f4]))) (ss := [47]) 500048 (t := 48) rfl rfl (by exact lt_ok rfl) (by kernel_rfl) (show Env.ev E (.tmp 43) = _ from g43.trans rfl) q100604 rfl (lt_ok rfl) (show Env.ev E (.tmp 47) = _ from g47.trans rfl) (.move q47) (by simp) rfl (by simp only [D.size, List.length_map]; first | omega | (simp only [List.length_append, List.length_cons, List.length_nil]; omega) | (simp; omega) | (simp only [List.length_append] at *; omega)) (by simp only [D.size, List.length_map]; first | omega | (simp only [List.length_append, List.length_cons, List.length_nil]; omega) | (simp; omega) | (simp only [List.length_append] at *; omega)) (by simp) (hA_.fresh _ (List.mem_singleton.2 rfl)) (by simp) (by simp))) ?_
     refine .cons (fun E hA_ => by have g6 : E.get 6 = (.one (.ptr 6 0)) := (hA_.get 6 (by kernel_rfl)).trans (by kernel_rfl); exact OpStep.plain rfl (Step.fa (off := 4) (n := 1) (one := true) 0 49 (show Env.ev E (.tmp 6) = _ from g6.trans rfl))) ?_
     refine .cons (fun E hA_ => by have g48 : E.get 48 = (.one (.row 500048 [])) := (hA_.get 48 (by kernel_rfl)).trans (by kernel_rfl); have g49 : E.get 49 = (.one (.ptr 6 4)) := (hA_.get 49 (by kernel_rfl)).trans (by kernel_rfl); have q500048 : E.row 500048 = some (22, (.bss ((voteTags (v.take i)) ++ [(v.getD i default).f4]))) := (hA_.row 500048 (by kernel_rfl)).trans (by kernel_rfl); have b6 : E.box 6 = some (29, [cI (v.getD 0 default).f0, cI (v.getD 0 default).f1, .row 1028 [], .nil, .row 100604 []]) := (hA_.box 6 (by kernel_rfl)).trans (by kernel_rfl); exact OpStep.plain rfl (Step.store_box (n := 1) (p := (.one (.row 500048 []))) (qs := [.row 500048 []]) (ps' := [cI (v.getD 0 default).f0, cI (v.getD 0 default).f1, .row 1028 [], .nil, .row 500048 []]) rfl rfl (by kernel_rfl) (show Env.ev E (.tmp 49) = _ from g49.trans rfl) b6 (show Env.ev E (.tmp 48) = _ from g48.trans rfl) rfl rfl (by simp only [List.all_cons, List.all_nil, List.flatten_cons, List.flatten_nil, List.append_nil, List.cons_append, List.nil_append, Env.fine, q500048]; rfl) (le_ok rfl) rfl)) ?_
     exact .nil _ _
    refine TL.weaken (E' := { tm := [(1, (.one (.d (.sl 5 (v.map SVote.cells))))), (2, (.one (.ptr 2 0))), (4, (.one (.ptr 4 0))), (5, (pB false)), (6, (.one (.ptr 6 0))), (31, (.one (.d (.sl 5 (v.map SVote.cells))))), (32, (pI (v.length : Int))), (33, (pI (i : Int))), (7, (.one (.row 30 []))), (34, (pB (decide ((i : Int) < (v.length : Int))))), (35, (.one (.eptr (.sl 5 (v.map SVote.cells)) i 0))), (36, (.agg [cI (v.getD i default).f0, cI (v.getD i default).f1, cS (v.getD i default).f2, cI (v.getD i default).f3, cS (v.getD i default).f4])), (9, (.one (.ptr 9 0))), (38, (.one (.ptr 9 3))), (39, (pI (v.getD i default).f3)), (40, (.one (.row 40 []))), (41, (.one (.row 30 []))), (42, (.one (.ptr 6 4))), (44, (.one (.ptr 9 4))), (45, (pS (v.getD i default).f4)), (48, (.one (.row 500048 []))), (49, (.one (.ptr 6 4)))], rows := [(1028, (5, (.ints .u8 (v.getD 0 default).f2))), (30, (3, (.ints .i64 ((voteWhos (v.take i)) ++ [(v.getD i default).f3])))), (40, (3, (.ints .i64 [(v.getD i default).f3]))), (500048, (22, (.bss ((voteTags (v.take i)) ++ [(v.getD i default).f4]))))], boxes := [(2, (44, [cI l.f0, cI l.f1, cI l.f2, cI l.f3, cI l.f4])), (4, (29, [cI 0, cI 0, .nil, .nil, .nil])), (6, (29, [cI (v.getD 0 default).f0, cI (v.getD 0 default).f1, .row 1028 [], .nil, .row 500048 []])), (9, (64, [cI (v.getD i default).f0, cI (v.getD i default).f1, cS (v.getD i default).f2, cI (v.getD i default).f3, cS (v.getD i default).f4]))] }) (Env.le_mk ⟨by kernel_rfl, by kernel_rfl, by kernel_rfl, by kernel_rfl, by kernel_rfl, by kernel_rfl, by kernel_rfl, by kernel_rfl, by kernel_rfl, by kernel_rfl, by kernel_rfl, by kernel_rfl, by kernel_rfl, by kernel_rfl, by kernel_rfl, by kernel_rfl, by kernel_rfl, by kernel_rfl, by kernel_rfl, by kernel_rfl, by kernel_rfl, by kernel_rfl, trivial⟩ ⟨by kernel_rfl, by kernel_rfl, by kernel_rfl, by kernel_rfl, trivial⟩ ⟨by kernel_rfl, by kernel_rfl, by kernel_rfl, by kernel_rfl, trivial⟩) ?_
    refine TL.ren 500048 100604 rfl (by simp) ?_
    refine TL.nil ?_
    refine T.region ?_
    refine TL.c (Step.bin (r := .int .i64 ((i : Int) + 1)) rfl rfl (lt_ok rfl) rfl rfl (Bin.add (a := (i : Int)) (b := 1) (by first | exact wrap_ok (by first | omega | (simp; omega)) (by first | omega | (simp; omega)) | rfl))) ?_
    refine TL.mv (pI ((i : Int) + 1)) ?_
    refine TL.nil ?_
    refine ⟨i + 1, by omega, by first | omega | (dsimp only; omega), Env.le_mk ⟨rfl, rfl, rfl, rfl, rfl, rfl, rfl, ?_, rfl, trivial⟩ ⟨rfl, ?_, ?_, trivial⟩ ⟨rfl, rfl, rfl, trivial⟩⟩ <;> (first | (refine congrArg (fun x => some (_, D.ints .i64 x)) ?_; first | exact (voteWhos_step (by omega)).symm | rfl) | (refine congrArg (fun x => some (_, D.bss x)) ?_; first | exact (voteTags_step (by omega)).symm | rfl) | rfl | (refine congrArg (fun n => PV.one (.d (.int .i64 n))) ?_; first | rfl | omega | (simp; done)))
   ·
    replace h2 := of_decide_eq_false h2
    refine T.exit ?_
    refine T.weaken (E' := { tm := [(1, (.one (.d (.sl 5 (v.map SVote.cells))))), (2, (.one (.ptr 2 0))), (4, (.one (.ptr 4 0))), (5, (pB false)), (6, (.one (.ptr 6 0))), (31, (.one (.d (.sl 5 (v.map SVote.cells))))), (32, (pI (v.length : Int))), (33, (pI (i : Int))), (7, (.one (.row 30 []))), (34, (pB (decide ((i : Int) < (v.length : Int)))))], rows := [(1028, (5, (.ints .u8 (v.getD 0 default).f2))), (30, (3, (.ints .i64 (voteWhos v)))), (100604, (22, (.bss (voteTags v))))], boxes := [(2, (44, [cI l.f0, cI l.f1, cI l.f2, cI l.f3, cI l.f4])), (4, (29, [cI 0, cI 0, .nil, .nil, .nil])), (6, (29, [cI (v.getD 0 default).f0, cI (v.getD 0 default).f1, .row 1028 [], .nil, .row 100604 []]))] }) (by refine Env.le_mk ⟨rfl, rfl, rfl, rfl, rfl, rfl, rfl, rfl, rfl, rfl, trivial⟩ ⟨rfl, ?_, ?_, trivial⟩ ⟨rfl, rfl, rfl, trivial⟩ <;> ((rw [List.take_of_length_le (l := v) (i := i) (by omega)]; rfl))) ?_
    refine T.seq ?_
    refine T.region ?_
    refine TL.mv (.one (.row 30 [])) ?_
    refine TL.c (Step.fieldAddr (q := 0) (off := 0) (n := 1) (one := true) rfl rfl (lt_ok rfl) (by kernel_rfl) (Nat.succ_ne_zero _) rfl) ?_
    refine TL.c (Step.load_box (c := cI l.f0) rfl rfl (lt_ok rfl) (by kernel_rfl) rfl rfl rfl) ?_
    have nn3 := bitsOf_len (voteWhos v) l.f0
    have nn4 := bitsOf_u8 (voteWhos v) l.f0
    refine TL.c (Step.cl (xs := [.tmp 52, .tmp 54]) (ps := [(.one (.row 30 [])), (pI l.f0)]) (g := .func 91) false (.cons (.one (.row rfl rfl rfl rfl)) (.cons (.one (.d _)) .nil)) (ok_impl_BitsOf (voteWhos v) l.f0 (by first | omega | assumption | (simp only [List.length_append] at *; omega)))) ?_
    refine TL.mv (.tup [(false, [.row 1055 []]), (false, [.d (.bool (bitsOfOk (voteWhos v) l.f0))])]) ?_
    refine TL.c (Step.extract (p := (.one (.row 1055 []))) rfl rfl (lt_ok rfl) rfl rfl) ?_
    refine TL.c (Step.extract (p := (pB (bitsOfOk (voteWhos v) l.f0))) rfl rfl (lt_ok rfl) rfl rfl) ?_
    refine TL.c (Step.fieldAddr (q := 0) (off := 3) (n := 1) (one := true) rfl rfl (lt_ok rfl) (by kernel_rfl) (Nat.succ_ne_zero _) rfl) ?_
    refine TL.c (Step.store_box (n := 1) (p := (.one (.row 1055 []))) (qs := [.row 1055 []]) (ps' := [cI (v.getD 0 default).f0, cI (v.getD 0 default).f1, .row 1028 [], .row 1055 [], .row 100604 []]) rfl rfl (by kernel_rfl) rfl rfl rfl rfl rfl rfl (le_ok rfl) rfl) ?_
    refine TL.nil ?_
    refine T.seq ?_
    refine T.region ?_
    refine TL.c (Step.load_box_agg (n := 5) (qs := [cI (v.getD 0 default).f0, cI (v.getD 0 default).f1, .row 1028 [], .row 1055 [], .row 100604 []]) rfl rfl (lt_ok rfl) (by kernel_rfl) rfl rfl rfl rfl) ?_
    refine TL.c (Step.cl (xs := [.tmp 59]) (ps := [(.agg [cI (v.getD 0 default).f0, cI (v.getD 0 default).f1, .row 1028 [], .row 1055 [], .row 100604 []])]) (g := .func 18) false (.cons (.agg (.cons (.d _) (.cons (.d _) (.cons (.row rfl rfl rfl rfl) (.cons (.row rfl rfl rfl rfl) (.cons (.row rfl rfl rfl rfl) .nil)))))) .nil) (ok_impl_QcVotes (⟨(v.getD 0 default).f0, (v.getD 0 default).f1, (v.getD 0 default).f2, bitsOf (voteWhos v) l.f0, voteTags v⟩ : SQc) (by first | assumption | exact qcOf_ok (l := l) h0_) (by first | assumption | exact qcOf_sm (l := l) h1_ h2_))) ?_
    refine TL.as (.one (.row 1060 [])) ?_
    refine TL.nil ?_
    refine T.seq ?_
    refine T.seq ?_
    refine T.region ?_
    refine TL.freeze (r := 1060) rfl (fun _ h => h) ?_
    refine TL.c (Step.load_box_agg (n := 5) (qs := [cI l.f0, cI l.f1, cI l.f2, cI l.f3, cI l.f4]) rfl rfl (lt_ok rfl) (by kernel_rfl) rfl rfl rfl rfl) ?_
    refine TL.c (Step.load_box_agg (n := 5) (qs := [cI (v.getD 0 default).f0, cI (v.getD 0 default).f1, .row 1028 [], .row 1055 [], .row 100604 []]) rfl rfl (lt_ok rfl) (by kernel_rfl) rfl rfl rfl rfl) ?_
    refine TL.c (Step.cl (xs := [.tmp 61, .tmp 62]) (ps := [(.agg [cI l.f0, cI l.f1, cI l.f2, cI l.f3, cI l.f4]), (.agg [cI (v.getD 0 default).f0, cI (v.getD 0 default).f1, .row 1028 [], .row 1055 [], .row 100604 []])]) (g := .func 97) false (.cons (.agg (.cons (.d _) (.cons (.d _) (.cons (.d _) (.cons (.d _) (.cons (.d _) .nil)))))) (.cons (.agg (.cons (.d _) (.cons (.d _) (.cons (.row rfl rfl rfl rfl) (.cons (.row rfl rfl rfl rfl) (.cons (.row rfl rfl rfl rfl) .nil)))))) .nil)) (ok_impl_QcOk l (⟨(v.getD 0 default).f0, (v.getD 0 default).f1, (v.getD 0 default).f2, bitsOf (voteWhos v) l.f0, voteTags v⟩ : SQc) (by first | assumption | exact qcOf_ok (l := l) h0_) (by first | assumption | exact qcOf_sm (l := l) h1_ h2_))) ?_
    refine TL.c (Step.not (b := (qcOk l (⟨(v.getD 0 default).f0, (v.getD 0 default).f1, (v.getD 0 default).f2, bitsOf (voteWhos v) l.f0, voteTags v⟩ : SQc))) rfl rfl (lt_ok rfl) rfl) ?_
    refine TL.mv (pB (!(qcOk l (⟨(v.getD 0 default).f0, (v.getD 0 default).f1, (v.getD 0 default).f2, bitsOf (voteWhos v) l.f0, voteTags v⟩ : SQc)))) ?_
    rcases Bool.eq_false_or_eq_true (!(qcOk l (⟨(v.getD 0 default).f0, (v.getD 0 default).f1, (v.getD 0 default).f2, bitsOf (voteWhos v) l.f0, voteTags v⟩ : SQc))) with hb5 | hb5
    ·
     refine TL.known 65 hb5 rfl ?_
     have hb5' := hb5
     replace hb5' : (qcOk l (⟨(v.getD 0 default).f0, (v.getD 0 default).f1, (v.getD 0 default).f2, bitsOf (voteWhos v) l.f0, voteTags v⟩ : SQc)) = false := by simpa only [Bool.not_eq_true', Bool.not_eq_false'] using hb5'
     refine TL.gf 65 ?_
     refine TL.gf 65 ?_
     refine TL.gf 65 ?_
     refine TL.gf 65 ?_
     refine TL.gf 65 ?_
     refine TL.pk true (pB true) ?_
     refine TL.nil ?_
     refine T.cond (b := true) rfl (fun h6_ => ?_) (fun h6_ => absurd h6_ (by simp))
     refine T.seq ?_
     refine T.region ?_
     refine TL.c (Step.build (zs := [.int .i64 0, .int .i64 0, .slice none 0 0, .slice none 0 0, .slice none 0 0]) (places := [(0, 1), (1, 1), (2, 1), (3, 1), (4, 1)]) (pss := []) (ps' := [cI 0, cI 0, .nil, .nil, .nil]) rfl rfl (lt_ok rfl) (by kernel_rfl) .nil rfl rfl rfl) ?_
     refine TL.c (Step.store_box (n := 5) (p := (.agg [cI 0, cI 0, .nil, .nil, .nil])) (qs := [cI 0, cI 0, .nil, .nil, .nil]) (ps' := [cI 0, cI 0, .nil, .nil, .nil]) rfl rfl (by kernel_rfl) rfl rfl rfl rfl rfl rfl (le_ok rfl) rfl) ?_
     refine TL.as (pB false) ?_
     refine TL.nil ?_
     refine T.ret ?_
     refine ⟨[(true, [cI 0, cI 0, .nil, .nil, .nil]), (false, [.d (.bool false)])], (.cons rfl (.cons rfl .nil)), rfl, [], (RetC.rd' ?_ (RetC.rd' ?_ (RetC.nilown' rfl ?_ (by first | exact trivial | exact D.wf_nil _) (RetC.nilown' rfl ?_ (by first | exact trivial | exact D.wf_nil _) (RetC.nilown' rfl ?_ (by first | exact trivial | exact D.wf_nil _) (RetC.rd' ?_ .nil))))))⟩ <;> (first | (congr 1; first | (rw [qcFrom_yes (qcFromOk_iff.2 ⟨by omega, by assumption, (show qcVotes (⟨(v.getD 0 default).f0, (v.getD 0 default).f1, (v.getD 0 default).f2, bitsOf (voteWhos v) l.f0, voteTags v⟩ : SQc) = v from take_all hx2 (by omega) hx3)⟩)]; done) | (rw [qcFrom_yes (qcFromOk_iff.2 ⟨by omega, by assumption, (show qcVotes (⟨(v.getD 0 default).f0, (v.getD 0 default).f1, (v.getD 0 default).f2, bitsOf (voteWhos v) l.f0, voteTags v⟩ : SQc) = v from take_all hx2 (by omega) hx3)⟩)]; rfl) | (rw [qcFrom_no (Bool.eq_false_iff.2 fun hq_ => by obtain ⟨q1_, q2_, q3_⟩ := qcFromOk_iff.1 hq_; have e_ : qcVotes (⟨(v.getD 0 default).f0, (v.getD 0 default).f1, (v.getD 0 default).f2, bitsOf (voteWhos v) l.f0, voteTags v⟩ : SQc) = v := q3_; have e2_ := congrArg List.length e_; first | omega | exact bool_ne q2_ (by assumption) | exact bool_ne (qcOk_lim' q2_) (by assumption) | exact bool_ne (qcOf_bits q2_) (by assumption) | exact absurd (congrArg (fun x => x.getD i default) e_) (by assumption) | exact absurd (congrArg (fun x => x.getD i default) e_.symm) (by assumption))]; rfl) | (symm; exact (qcFromOk_iff.2 ⟨by omega, by assumption, (show qcVotes (⟨(v.getD 0 default).f0, (v.getD 0 default).f1, (v.getD 0 default).f2, bitsOf (voteWhos v) l.f0, voteTags v⟩ : SQc) = v from take_all hx2 (by omega) hx3)⟩)) | (symm; exact (Bool.eq_false_iff.2 fun hq_ => by obtain ⟨q1_, q2_, q3_⟩ := qcFromOk_iff.1 hq_; have e_ : qcVotes (⟨(v.getD 0 default).f0, (v.getD 0 default).f1, (v.getD 0 default).f2, bitsOf (voteWhos v) l.f0, voteTags v⟩ : SQc) = v := q3_; have e2_ := congrArg List.length e_; first | omega | exact bool_ne q2_ (by assumption) | exact bool_ne (qcOk_lim' q2_) (by assumption) | exact bool_ne (qcOf_bits q2_) (by assumption) | exact absurd (congrArg (fun x => x.getD i default) e_) (by assumption) | exact absurd (congrArg (fun x => x.getD i default) e_.symm) (by assumption)))) | (simp only [D.size, List.length_map]; rw [qcFrom_no (Bool.eq_false_iff.2 fun hq_ => by obtain ⟨q1_, q2_, q3_⟩ := qcFromOk_iff.1 hq_; have e_ : qcVotes (⟨(v.getD 0 default).f0, (v.getD 0 default).f1, (v.getD 0 default).f2, bitsOf (voteWhos v) l.f0, voteTags v⟩ : SQc) = v := q3_; have e2_ := congrArg List.length e_; first | omega | exact bool_ne q2_ (by assumption) | exact bool_ne (qcOk_lim' q2_) (by assumption) | exact bool_ne (qcOf_bits q2_) (by assumption) | exact absurd (congrArg (fun x => x.getD i default) e_) (by assumption) | exact absurd (congrArg (fun x => x.getD i default) e_.symm) (by assumption))]; rfl))
    ·
     refine TL.known 65 hb5 rfl ?_
     have hb5' := hb5
     replace hb5' : (qcOk l (⟨(v.getD 0 default).f0, (v.getD 0 default).f1, (v.getD 0 default).f2, bitsOf (voteWhos v) l.f0, voteTags v⟩ : SQc)) = true := by simpa only [Bool.not_eq_true', Bool.not_eq_false'] using hb5'
     refine TL.gm 65 (.one (.d (.sl 5 ((qcVotes (⟨(v.getD 0 default).f0, (v.getD 0 default).f1, (v.getD 0 default).f2, bitsOf (voteWhos v) l.f0, voteTags v⟩ : SQc)).map SVote.cells)))) ?_
     refine TL.gy 65 (Step.len' (e := 64) (z := 5) (d := (.sl 5 ((qcVotes (⟨(v.getD 0 default).f0, (v.getD 0 default).f1, (v.getD 0 default).f2, bitsOf (voteWhos v) l.f0, voteTags v⟩ : SQc)).map SVote.cells))) (n := (qcVotes (⟨(v.getD 0 default).f0, (v.getD 0 default).f1, (v.getD 0 default).f2, bitsOf (voteWhos v) l.f0, voteTags v⟩ : SQc)).length) rfl rfl (lt_ok rfl) (by kernel_rfl) rfl rfl (by simp [D.size])) ?_
     refine TL.gm 65 (.one (.d (.sl 5 (v.map SVote.cells)))) ?_
     refine TL.gy 65 (Step.len' (e := 64) (z := 5) (d := (.sl 5 (v.map SVote.cells))) (n := v.length) rfl rfl (lt_ok rfl) (by kernel_rfl) rfl rfl (by simp [D.size])) ?_
     refine TL.gy 65 (Step.bin rfl rfl (lt_ok rfl) rfl rfl (Bin.neq (k := .i64) (a := ((qcVotes (⟨(v.getD 0 default).f0, (v.getD 0 default).f1, (v.getD 0 default).f2, bitsOf (voteWhos v) l.f0, voteTags v⟩ : SQc)).length : Int)) (b := (v.length : Int)))) ?_
     refine TL.pk false (pB (decide (((qcVotes (⟨(v.getD 0 default).f0, (v.getD 0 default).f1, (v.getD 0 default).f2, bitsOf (voteWhos v) l.f0, voteTags v⟩ : SQc)).length : Int) ≠ (v.length : Int)))) ?_
     refine TL.nil ?_
     refine T.cond (b := decide (((qcVotes (⟨(v.getD 0 default).f0, (v.getD 0 default).f1, (v.getD 0 default).f2, bitsOf (voteWhos v) l.f0, voteTags v⟩ : SQc)).length : Int) ≠ (v.length : Int))) rfl (fun h7 => ?_) (fun h7 => ?_)
     ·
      replace h7 := of_decide_eq_true h7
      refine T.seq ?_
      refine T.region ?_
      refine TL.c (Step.build (zs := [.int .i64 0, .int .i64 0, .slice none 0 0, .slice none 0 0, .slice none 0 0]) (places := [(0, 1), (1, 1), (2, 1), (3, 1), (4, 1)]) (pss := []) (ps' := [cI 0, cI 0, .nil, .nil, .nil]) rfl rfl (lt_ok rfl) (by kernel_rfl) .nil rfl rfl rfl) ?_
      refine TL.c (Step.store_box (n := 5) (p := (.agg [cI 0, cI 0, .nil, .nil, .nil])) (qs := [cI 0, cI 0, .nil, .nil, .nil]) (ps' := [cI 0, cI 0, .nil, .nil, .nil]) rfl rfl (by kernel_rfl) rfl rfl rfl rfl rfl rfl (le_ok rfl) rfl) ?_
      refine TL.as (pB false) ?_
      refine TL.nil ?_
      refine T.ret ?_
      refine ⟨[(true, [cI 0, cI 0, .nil, .nil, .nil]), (false, [.d (.bool false)])], (.cons rfl (.cons rfl .nil)), rfl, [], (RetC.rd' ?_ (RetC.rd' ?_ (RetC.nilown' rfl ?_ (by first | exact trivial | exact D.wf_nil _) (RetC.nilown' rfl ?_ (by first | exact trivial | exact D.wf_nil _) (RetC.nilown' rfl ?_ (by first | exact trivial | exact D.wf_nil _) (RetC.rd' ?_ .nil))))))⟩ <;> (first | (congr 1; first | (rw [qcFrom_yes (qcFromOk_iff.2 ⟨by omega, by assumption, (show qcVotes (⟨(v.getD 0 default).f0, (v.getD 0 default).f1, (v.getD 0 default).f2, bitsOf (voteWhos v) l.f0, voteTags v⟩ : SQc) = v from take_all hx2 (by omega) hx3)⟩)]; done) | (rw [qcFrom_yes (qcFromOk_iff.2 ⟨by omega, by assumption, (show qcVotes (⟨(v.getD 0 default).f0, (v.getD 0 default).f1, (v.getD 0 default).f2, bitsOf (voteWhos v) l.f0, voteTags v⟩ : SQc) = v from take_all hx2 (by omega) hx3)⟩)]; rfl) | (rw [qcFrom_no (Bool.eq_false_iff.2 fun hq_ => by obtain ⟨q1_, q2_, q3_⟩ := qcFromOk_iff.1 hq_; have e_ : qcVotes (⟨(v.getD 0 default).f0, (v.getD 0 default).f1, (v.getD 0 default).f2, bitsOf (voteWhos v) l.f0, voteTags v⟩ : SQc) = v := q3_; have e2_ := congrArg List.length e_; first | omega | exact bool_ne q2_ (by assumption) | exact bool_ne (qcOk_lim' q2_) (by assumption) | exact bool_ne (qcOf_bits q2_) (by assumption) | exact absurd (congrArg (fun x => x.getD i default) e_) (by assumption) | exact absurd (congrArg (fun x => x.getD i default) e_.symm) (by assumption))]; rfl) | (symm; exact (qcFromOk_iff.2 ⟨by omega, by assumption, (show qcVotes (⟨(v.getD 0 default).f0, (v.getD 0 default).f1, (v.getD 0 default).f2, bitsOf (voteWhos v) l.f0, voteTags v⟩ : SQc) = v from take_all hx2 (by omega) hx3)⟩)) | (symm; exact (Bool.eq_false_iff.2 fun hq_ => by obtain ⟨q1_, q2_, q3_⟩ := qcFromOk_iff.1 hq_; have e_ : qcVotes (⟨(v.getD 0 default).f0, (v.getD 0 default).f1, (v.getD 0 default).f2, bitsOf (voteWhos v) l.f0, voteTags v⟩ : SQc) = v := q3_; have e2_ := congrArg List.length e_; first | omega | exact bool_ne q2_ (by assumption) | exact bool_ne (qcOk_lim' q2_) (by assumption) | exact bool_ne (qcOf_bits q2_) (by assumption) | exact absurd (congrArg (fun x => x.getD i default) e_) (by assumption) | exact absurd (congrArg (fun x => x.getD i default) e_.symm) (by assumption)))) | (simp only [D.size, List.length_map]; rw [qcFrom_no (Bool.eq_false_iff.2 fun hq_ => by obtain ⟨q1_, q2_, q3_⟩ := qcFromOk_iff.1 hq_; have e_ : qcVotes (⟨(v.getD 0 default).f0, (v.getD 0 default).f1, (v.getD 0 default).f2, bitsOf (voteWhos v) l.f0, voteTags v⟩ : SQc) = v := q3_; have e2_ := congrArg List.length e_; first | omega | exact bool_ne q2_ (by assumption) | exact bool_ne (qcOk_lim' q2_) (by assumption) | exact bool_ne (qcOf_bits q2_) (by assumption) | exact absurd (congrArg (fun x => x.getD i default) e_) (by assumption) | exact absurd (congrArg (fun x => x.getD i default) e_.symm) (by assumption))]; rfl))
     ·
      replace h7 := of_decide_eq_false h7
      refine T.skip ?_
      refine T.seq ?_
      refine T.seq ?_
      refine T.region ?_
      refine TL.mv (.one (.d (.sl 5 (v.map SVote.cells)))) ?_
      refine TL.c (Step.len' (e := 64) (z := 5) (d := (.sl 5 (v.map SVote.cells))) (n := v.length) rfl rfl (lt_ok rfl) (by kernel_rfl) rfl rfl (by simp [D.size])) ?_
      refine TL.mv (pI 0) ?_
      refine TL.nil ?_
      refine T.block ?_
      refine T.loop (ι := Nat) (fun xx_ => { tm := [(1, (.one (.d (.sl 5 (v.map SVote.cells))))), (4, (.one (.ptr 4 0))), (6, (.one (.ptr 6 0))), (10, (.one (.d (.sl 5 ((qcVotes (⟨(v.getD 0 default).f0, (v.getD 0 default).f1, (v.getD 0 default).f2, bitsOf (voteWhos v) l.f0, voteTags v⟩ : SQc)).map SVote.cells))))), (74, (pI (v.length : Int))), (75, (pI (xx_ : Int)))], rows := [(1028, (5, (.ints .u8 (v.getD 0 default).f2))), (30, (3, (.ints .i64 (voteWhos v)))), (100604, (22, (.bss (voteTags v)))), (1055, (5, (.ints .u8 (bitsOf (voteWhos v) l.f0))))], boxes := [(2, (44, [cI l.f0, cI l.f1, cI l.f2, cI l.f3, cI l.f4])), (4, (29, [cI 0, cI 0, .nil, .nil, .nil])), (6, (29, [cI (v.getD 0 default).f0, cI (v.getD 0 default).f1, .row 1028 [], .row 1055 [], .row 100604 []]))] }) (fun xx_ => xx_ ≤ (qcVotes (⟨(v.getD 0 default).f0, (v.getD 0 default).f1, (v.getD 0 default).f2, bitsOf (voteWhos v) l.f0, voteTags v⟩ : SQc)).length ∧ (qcVotes (⟨(v.getD 0 default).f0, (v.getD 0 default).f1, (v.getD 0 default).f2, bitsOf (voteWhos v) l.f0, voteTags v⟩ : SQc)).length = v.length ∧ (qcVotes (⟨(v.getD 0 default).f0, (v.getD 0 default).f1, (v.getD 0 default).f2, bitsOf (voteWhos v) l.f0, voteTags v⟩ : SQc)).take xx_ = v.take xx_) (fun xx_ => (qcVotes (⟨(v.getD 0 default).f0, (v.getD 0 default).f1, (v.getD 0 default).f2, bitsOf (voteWhos v) l.f0, voteTags v⟩ : SQc)).length - xx_) 0 ?_ ?_ ?_
      · refine Env.le_mk ⟨rfl, rfl, rfl, rfl, rfl, ?_, trivial⟩ ⟨rfl, rfl, rfl, rfl, trivial⟩ ⟨rfl, rfl, rfl, trivial⟩ <;> (first | rfl | (refine congrArg (fun n => PV.one (.d (.int .i64 n))) ?_; first | rfl | omega | (simp; done)))
      · (refine ⟨Nat.zero_le _, by omega, by simp⟩)
      ·
       intro i hx
       try dsimp only at hx ⊢
       obtain ⟨hx1, hx2, hx3⟩ := hx
       have hm_ : ((qcVotes (⟨(v.getD 0 default).f0, (v.getD 0 default).f1, (v.getD 0 default).f2, bitsOf (voteWhos v) l.f0, voteTags v⟩ : SQc)).map SVote.cells).length = (qcVotes (⟨(v.getD 0 default).f0, (v.getD 0 default).f1, (v.getD 0 default).f2, bitsOf (voteWhos v) l.f0, voteTags v⟩ : SQc)).length := List.length_map _
       have m0_ := fun (hi : i < v.length) => mem_getD (d := default) h0_ hi
       have m1_ := fun (hi : i < (qcVotes (⟨(v.getD 0 default).f0, (v.getD 0 default).f1, (v.getD 0 default).f2, bitsOf (voteWhos v) l.f0, voteTags v⟩ : SQc)).length) => mem_getD (d := default) (qcVotes_ok (q := (⟨(v.getD 0 default).f0, (v.getD 0 default).f1, (v.getD 0 default).f2, bitsOf (voteWhos v) l.f0, voteTags v⟩ : SQc)) (qcOf_ok (l := l) h0_) (qcOf_sm (l := l) h1_ h2_)) hi
       refine T.seq ?_
       refine T.region ?_
       refine TL.c (Step.bin rfl rfl (lt_ok rfl) rfl rfl (Bin.lss (k := .i64) (a := (i : Int)) (b := (v.length : Int)))) ?_
       refine TL.nil ?_
       refine T.seq ?_
       refine T.cond (b := decide ((i : Int) < (v.length : Int))) rfl (fun h8 => ?_) (fun h8 => ?_)
       ·
        replace h8 := of_decide_eq_true h8
        refine T.skip ?_
        refine T.seq ?_
        refine T.block ?_
        refine T.seq ?_
        refine T.region ?_
        refine TL.mv (pI (i : Int)) ?_
        refine TL.as (pI (i : Int)) ?_
        refine TL.nil ?_
        refine T.seq ?_
        refine T.drawX [{ dst := some 78, pv := (.one (.d (.sl 5 ((qcVotes (⟨(v.getD 0 default).f0, (v.getD 0 default).f1, (v.getD 0 default).f2, bitsOf (voteWhos v) l.f0, voteTags v⟩ : SQc)).map SVote.cells)))) }, { dst := some 79, pv := (pI (i : Int)) }, { dst := some 80, pv := (.one (.eptr (.sl 5 ((qcVotes (⟨(v.getD 0 default).f0, (v.getD 0 default).f1, (v.getD 0 default).f2, bitsOf (voteWhos v) l.f0, voteTags v⟩ : SQc)).map SVote.cells)) i 0)) }, { dst := some 81, pv := (.agg [cI ((qcVotes (⟨(v.getD 0 default).f0, (v.getD 0 default).f1, (v.getD 0 default).f2, bitsOf (voteWhos v) l.f0, voteTags v⟩ : SQc)).getD i default).f0, cI ((qcVotes (⟨(v.getD 0 default).f0, (v.getD 0 default).f1, (v.getD 0 default).f2, bitsOf (voteWhos v) l.f0, voteTags v⟩ : SQc)).getD i default).f1, cS ((qcVotes (⟨(v.getD 0 default).f0, (v.getD 0 default).f1, (v.getD 0 default).f2, bitsOf (voteWhos v) l.f0, voteTags v⟩ : SQc)).getD i default).f2, cI ((qcVotes (⟨(v.getD 0 default).f0, (v.getD 0 default).f1, (v.getD 0 default).f2, bitsOf (voteWhos v) l.f0, voteTags v⟩ : SQc)).getD i default).f3, cS ((qcVotes (⟨(v.getD 0 default).f0, (v.getD 0 default).f1, (v.getD 0 default).f2, bitsOf (voteWhos v) l.f0, voteTags v⟩ : SQc)).getD i default).f4]) }, { dst := some 82, pv := (.one (.d (.sl 5 (v.map SVote.cells)))) }, { dst := some 83, pv := (pI (i : Int)) }, { dst := some 84, pv := (.one (.eptr (.sl 5 (v.map SVote.cells)) i 0)) }, { dst := some 85, pv := (.agg [cI (v.getD i default).f0, cI (v.getD i default).f1, cS (v.getD i default).f2, cI (v.getD i default).f3, cS (v.getD i default).f4]) }, { dst := some 86, pv := (pB (decide (((qcVotes (⟨(v.getD 0 default).f0, (v.getD 0 default).f1, (v.getD 0 default).f2, bitsOf (voteWhos v) l.f0, voteTags v⟩ : SQc)).getD i default) = (v.getD i default)))) }, { dst := some 87, pv := (pB (!(decide (((qcVotes (⟨(v.getD 0 default).f0, (v.getD 0 default).f1, (v.getD 0 default).f2, bitsOf (voteWhos v) l.f0, voteTags v⟩ : SQc)).getD i default) = (v.getD i default))))) }] (by kernel_rfl) (by kernel_rfl) ?_ ?_
        ·
         refine .cons (fun E hA_ => by have g10 : E.get 10 = (.one (.d (.sl 5 ((qcVotes (⟨(v.getD 0 default).f0, (v.getD 0 default).f1, (v.getD 0 default).f2, bitsOf (voteWhos v) l.f0, voteTags v⟩ : SQc)).map SVote.cells)))) := (hA_.get 10 (by kernel_rfl)).trans (by kernel_rfl); exact OpStep.plain rfl (Step.move (p := (.one (.d (.sl 5 ((qcVotes (⟨(v.getD 0 default).f0, (v.getD 0 default).f1, (v.getD 0 default).f2, bitsOf (voteWhos v) l.f0, voteTags v⟩ : SQc)).map SVote.cells))))) (t := 78) rfl rfl (by exact lt_ok rfl) (show Env.ev E (.tmp 10) = _ from g10.trans rfl))) ?_
         refine .cons (fun E hA_ => by have g11 : E.get 11 = (pI (i : Int)) := (hA_.get 11 (by kernel_rfl)).trans (by kernel_rfl); exact OpStep.plain rfl (Step.move (p := (pI (i : Int))) (t := 79) rfl rfl (by exact lt_ok rfl) (show Env.ev E (.tmp 11) = _ from g11.trans rfl))) ?_
         refine .cons (fun E hA_ => by have g78 : E.get 78 = (.one (.d (.sl 5 ((qcVotes (⟨(v.getD 0 default).f0, (v.getD 0 default).f1, (v.getD 0 default).f2, bitsOf (voteWhos v) l.f0, voteTags v⟩ : SQc)).map SVote.cells)))) := (hA_.get 78 (by kernel_rfl)).trans (by kernel_rfl); have g79 : E.get 79 = (pI (i : Int)) := (hA_.get 79 (by kernel_rfl)).trans (by kernel_rfl); exact OpStep.plain rfl (Step.index (e := 64) (z := 5) (i := (i : Int)) (t := 80) rfl rfl (by exact lt_ok rfl) (by kernel_rfl) (show Env.ev E (.tmp 78) = _ from g78.trans rfl) rfl rfl (lt_ok rfl) (show Env.ev E (.tmp 79) = _ from g79.trans rfl) (by first | omega | (simp; omega)) (by simp only [D.size]; first | omega | (simp; omega)))) ?_
         refine .cons (fun E hA_ => by have g80 : E.get 80 = (.one (.eptr (.sl 5 ((qcVotes (⟨(v.getD 0 default).f0, (v.getD 0 default).f1, (v.getD 0 default).f2, bitsOf (voteWhos v) l.f0, voteTags v⟩ : SQc)).map SVote.cells)) i 0)) := (hA_.get 80 (by kernel_rfl)).trans (by kernel_rfl); exact OpStep.plain rfl (Step.load_agg (n := 5) (cs := [cI ((qcVotes (⟨(v.getD 0 default).f0, (v.getD 0 default).f1, (v.getD 0 default).f2, bitsOf (voteWhos v) l.f0, voteTags v⟩ : SQc)).getD i default).f0, cI ((qcVotes (⟨(v.getD 0 default).f0, (v.getD 0 default).f1, (v.getD 0 default).f2, bitsOf (voteWhos v) l.f0, voteTags v⟩ : SQc)).getD i default).f1, cS ((qcVotes (⟨(v.getD 0 default).f0, (v.getD 0 default).f1, (v.getD 0 default).f2, bitsOf (voteWhos v) l.f0, voteTags v⟩ : SQc)).getD i default).f2, cI ((qcVotes (⟨(v.getD 0 default).f0, (v.getD 0 default).f1, (v.getD 0 default).f2, bitsOf (voteWhos v) l.f0, voteTags v⟩ : SQc)).getD i default).f3, cS ((qcVotes (⟨(v.getD 0 default).f0, (v.getD 0 default).f1, (v.getD 0 default).f2, bitsOf (voteWhos v) l.f0, voteTags v⟩ : SQc)).getD i default).f4]) (t := 81) rfl rfl (by exact lt_ok rfl) (by kernel_rfl) (show Env.ev E (.tmp 80) = _ from g80.trans rfl) rfl (by simp only [List.range, List.range.loop, List.map_cons, List.map_nil]; rw [cell_map default (by first | omega | (simp; omega)), cell_map default (by first | omega | (simp; omega)), cell_map default (by first | omega | (simp; omega)), cell_map default (by first | omega | (simp; omega)), cell_map default (by first | omega | (simp; omega))]; rfl))) ?_
         refine .cons (fun E hA_ => by have g1 : E.get 1 = (.one (.d (.sl 5 (v.map SVote.cells)))) := (hA_.get 1 (by kernel_rfl)).trans (by kernel_rfl); exact OpStep.plain rfl (Step.move (p := (.one (.d (.sl 5 (v.map SVote.cells))))) (t := 82) rfl rfl (by exact lt_ok rfl) (show Env.ev E (.tmp 1) = _ from g1.trans rfl))) ?_
         refine .cons (fun E hA_ => by have g11 : E.get 11 = (pI (i : Int)) := (hA_.get 11 (by kernel_rfl)).trans (by kernel_rfl); exact OpStep.plain rfl (Step.move (p := (pI (i : Int))) (t := 83) rfl rfl (by exact lt_ok rfl) (show Env.ev E (.tmp 11) = _ from g11.trans rfl))) ?_
         refine .cons (fun E hA_ => by have g82 : E.get 82 = (.one (.d (.sl 5 (v.map SVote.cells)))) := (hA_.get 82 (by kernel_rfl)).trans (by kernel_rfl); have g83 : E.get 83 = (pI (i : Int)) := (hA_.get 83 (by kernel_rfl)).trans (by kernel_rfl); exact OpStep.plain rfl (Step.index (e := 64) (z := 5) (i := (i : Int)) (t := 84) rfl rfl (by exact lt_ok rfl) (by kernel_rfl) (show Env.ev E (.tmp 82) = _ from g82.trans rfl) rfl rfl (lt_ok rfl) (show Env.ev E (.tmp 83) = _ from g83.trans rfl) (by first | omega | (simp; omega)) (by simp only [D.size]; first | omega | (simp; omega)))) ?_
         refine .cons (fun E hA_ => by have g84 : E.get 84 = (.one (.eptr (.sl 5 (v.map SVote.cells)) i 0)) := (hA_.get 84 (by kernel_rfl)).trans (by kernel_rfl); exact OpStep.plain rfl (Step.load_agg (n := 5) (cs := [cI (v.getD i default).f0, cI (v.getD i default).f1, cS (v.getD i default).f2, cI (v.getD i default).f3, cS (v.getD i default).f4]) (t := 85) rfl rfl (by exact lt_ok rfl) (by kernel_rfl) (show Env.ev E (.tmp 84) = _ from g84.trans rfl) rfl (by simp only [List.range, List.range.loop, List.map_cons, List.map_nil]; rw [cell_map default (by first | omega | (simp; omega)), cell_map default (by first | omega | (simp; omega)), cell_map default (by first | omega | (simp; omega)), cell_map default (by first | omega | (simp; omega)), cell_map default (by first | omega | (simp; omega))]; rfl))) ?_
         refine .cons (fun E hA_ => by have g81 : E.get 81 = (.agg [cI ((qcVotes (⟨(v.getD 0 default).f0, (v.getD 0 default).f1, (v.getD 0 default).f2, bitsOf (voteWhos v) l.f0, voteTags v⟩ : SQc)).getD i default).f0, cI ((qcVotes (⟨(v.getD 0 default).f0, (v.getD 0 default).f1, (v.getD 0 default).f2, bitsOf (voteWhos v) l.f0, voteTags v⟩ : SQc)).getD i default).f1, cS ((qcVotes (⟨(v.getD 0 default).f0, (v.getD 0 default).f1, (v.getD 0 default).f2, bitsOf (voteWhos v) l.f0, voteTags v⟩ : SQc)).getD i default).f2, cI ((qcVotes (⟨(v.getD 0 default).f0, (v.getD 0 default).f1, (v.getD 0 default).f2, bitsOf (voteWhos v) l.f0, voteTags v⟩ : SQc)).getD i default).f3, cS ((qcVotes (⟨(v.getD 0 default).f0, (v.getD 0 default).f1, (v.getD 0 default).f2, bitsOf (voteWhos v) l.f0, voteTags v⟩ : SQc)).getD i default).f4]) := (hA_.get 81 (by kernel_rfl)).trans (by kernel_rfl); have g85 : E.get 85 = (.agg [cI (v.getD i default).f0, cI (v.getD i default).f1, cS (v.getD i default).f2, cI (v.getD i default).f3, cS (v.getD i default).f4]) := (hA_.get 85 (by kernel_rfl)).trans (by kernel_rfl); exact OpStep.plain rfl (Step.call (f := 98) (xs := [.tmp 81, .tmp 85]) (ps := [(.agg [cI ((qcVotes (⟨(v.getD 0 default).f0, (v.getD 0 default).f1, (v.getD 0 default).f2, bitsOf (voteWhos v) l.f0, voteTags v⟩ : SQc)).getD i default).f0, cI ((qcVotes (⟨(v.getD 0 default).f0, (v.getD 0 default).f1, (v.getD 0 default).f2, bitsOf (voteWhos v) l.f0, voteTags v⟩ : SQc)).getD i default).f1, cS ((qcVotes (⟨(v.getD 0 default).f0, (v.getD 0 default).f1, (v.getD 0 default).f2, bitsOf (voteWhos v) l.f0, voteTags v⟩ : SQc)).getD i default).f2, cI ((qcVotes (⟨(v.getD 0 default).f0, (v.getD 0 default).f1, (v.getD 0 default).f2, bitsOf (voteWhos v) l.f0, voteTags v⟩ : SQc)).getD i default).f3, cS ((qcVotes (⟨(v.getD 0 default).f0, (v.getD 0 default).f1, (v.getD 0 default).f2, bitsOf (voteWhos v) l.f0, voteTags v⟩ : SQc)).getD i default).f4]), (.agg [cI (v.getD i default).f0, cI (v.getD i default).f1, cS (v.getD i default).f2, cI (v.getD i default).f3, cS (v.getD i default).f4])]) false (g := .func 98) (t := 86) rfl rfl (by exact lt_ok rfl) rfl (by kernel_rfl) (evs_cons (show Env.ev E (.tmp 81) = _ from g81.trans rfl) (evs_cons (show Env.ev E (.tmp 85) = _ from g85.trans rfl) (rfl))) (.cons (.agg (.cons (.d _) (.cons (.d _) (.cons (.d _) (.cons (.d _) (.cons (.d _) .nil)))))) (.cons (.agg (.cons (.d _) (.cons (.d _) (.cons (.d _) (.cons (.d _) (.cons (.d _) .nil)))))) .nil)) (ok_impl_VoteSame ((qcVotes (⟨(v.getD 0 default).f0, (v.getD 0 default).f1, (v.getD 0 default).f2, bitsOf (voteWhos v) l.f0, voteTags v⟩ : SQc)).getD i default) (v.getD i default) (by first | assumption | exact mem_getD h0_ (by omega) | exact mem_getD h1_ (by omega) | exact m0_ (by omega) | exact m1_ (by omega) | exact (m0_ (by omega)).2.2 | exact (m1_ (by omega)).2.2) (by first | assumption | exact mem_getD h0_ (by omega) | exact mem_getD h1_ (by omega) | exact m0_ (by omega) | exact m1_ (by omega) | exact (m0_ (by omega)).2.2 | exact (m1_ (by omega)).2.2)) (.inr rfl) (freshRows_of _ _ (fun x_ hx_ => hA_.fresh x_ (by exact hx_))) (by simp) rfl)) ?_
         refine .cons (fun E hA_ => by have g86 : E.get 86 = (pB (decide (((qcVotes (⟨(v.getD 0 default).f0, (v.getD 0 default).f1, (v.getD 0 default).f2, bitsOf (voteWhos v) l.f0, voteTags v⟩ : SQc)).getD i default) = (v.getD i default)))) := (hA_.get 86 (by kernel_rfl)).trans (by kernel_rfl); exact OpStep.plain rfl (Step.not (b := (decide (((qcVotes (⟨(v.getD 0 default).f0, (v.getD 0 default).f1, (v.getD 0 default).f2, bitsOf (voteWhos v) l.f0, voteTags v⟩ : SQc)).getD i default) = (v.getD i default)))) (t := 87) rfl rfl (by exact lt_ok rfl) (show Env.ev E (.tmp 86) = _ from g86.trans rfl))) ?_
         exact .nil _ _
        refine TL.weaken (E' := { tm := [(1, (.one (.d (.sl 5 (v.map SVote.cells))))), (4, (.one (.ptr 4 0))), (6, (.one (.ptr 6 0))), (10, (.one (.d (.sl 5 ((qcVotes (⟨(v.getD 0 default).f0, (v.getD 0 default).f1, (v.getD 0 default).f2, bitsOf (voteWhos v) l.f0, voteTags v⟩ : SQc)).map SVote.cells))))), (74, (pI (v.length : Int))), (75, (pI (i : Int))), (76, (pB (decide ((i : Int) < (v.length : Int))))), (77, (pI (i : Int))), (11, (pI (i : Int))), (78, (.one (.d (.sl 5 ((qcVotes (⟨(v.getD 0 default).f0, (v.getD 0 default).f1, (v.getD 0 default).f2, bitsOf (voteWhos v) l.f0, voteTags v⟩ : SQc)).map SVote.cells))))), (79, (pI (i : Int))), (80, (.one (.eptr (.sl 5 ((qcVotes (⟨(v.getD 0 default).f0, (v.getD 0 default).f1, (v.getD 0 default).f2, bitsOf (voteWhos v) l.f0, voteTags v⟩ : SQc)).map SVote.cells)) i 0))), (81, (.agg [cI ((qcVotes (⟨(v.getD 0 default).f0, (v.getD 0 default).f1, (v.getD 0 default).f2, bitsOf (voteWhos v) l.f0, voteTags v⟩ : SQc)).getD i default).f0, cI ((qcVotes (⟨(v.getD 0 default).f0, (v.getD 0 default).f1, (v.getD 0 default).f2, bitsOf (voteWhos v) l.f0, voteTags v⟩ : SQc)).getD i default).f1, cS ((qcVotes (⟨(v.getD 0 default).f0, (v.getD 0 default).f1, (v.getD 0 default).f2, bitsOf (voteWhos v) l.f0, voteTags v⟩ : SQc)).getD i default).f2, cI ((qcVotes (⟨(v.getD 0 default).f0, (v.getD 0 default).f1, (v.getD 0 default).f2, bitsOf (voteWhos v) l.f0, voteTags v⟩ : SQc)).getD i default).f3, cS ((qcVotes (⟨(v.getD 0 default).f0, (v.getD 0 default).f1, (v.getD 0 default).f2, bitsOf (voteWhos v) l.f0, voteTags v⟩ : SQc)).getD i default).f4])), (82, (.one (.d (.sl 5 (v.map SVote.cells))))), (83, (pI (i : Int))), (84, (.one (.eptr (.sl 5 (v.map SVote.cells)) i 0))), (85, (.agg [cI (v.getD i default).f0, cI (v.getD i default).f1, cS (v.getD i default).f2, cI (v.getD i default).f3, cS (v.getD i default).f4])), (86, (pB (decide (((qcVotes (⟨(v.getD 0 default).f0, (v.getD 0 default).f1, (v.getD 0 default).f2, bitsOf (voteWhos v) l.f0, voteTags v⟩ : SQc)).getD i default) = (v.getD i default))))), (87, (pB (!(decide (((qcVotes (⟨(v.getD 0 default).f0, (v.getD 0 default).f1, (v.getD 0 default).f2, bitsOf (voteWhos v) l.f0, voteTags v⟩ : SQc)).getD i default) = (v.getD i default))))))], rows := [(1028, (5, (.ints .u8 (v.getD 0 default).f2))), (30, (3, (.ints .i64 (voteWhos v)))), (100604, (22, (.bss (voteTags v)))), (1055, (5, (.ints .u8 (bitsOf (voteWhos v) l.f0))))], boxes := [(2, (44, [cI l.f0, cI l.f1, cI l.f2, cI l.f3, cI l.f4])), (4, (29, [cI 0, cI 0, .nil, .nil, .nil])), (6, (29, [cI (v.getD 0 default).f0, cI (v.getD 0 default).f1, .row 1028 [], .row 1055 [], .row 100604 []]))] }) (Env.le_mk ⟨by kernel_rfl, by kernel_rfl, by kernel_rfl, by kernel_rfl, by kernel_rfl, by kernel_rfl, by kernel_rfl, by kernel_rfl, by kernel_rfl, by kernel_rfl, by kernel_rfl, by kernel_rfl, by kernel_rfl, by kernel_rfl, by kernel_rfl, by kernel_rfl, by kernel_rfl, by kernel_rfl, by kernel_rfl, trivial⟩ ⟨by kernel_rfl, by kernel_rfl, by kernel_rfl, by kernel_rfl, trivial⟩ ⟨by kernel_rfl, by kernel_rfl, by kernel_rfl, trivial⟩) ?_
        refine TL.nil ?_
        refine T.cond (b := !(decide (((qcVotes (⟨(v.getD 0 default).f0, (v.getD 0 default).f1, (v.getD 0 default).f2, bitsOf (voteWhos v) l.f0, voteTags v⟩ : SQc)).getD i default) = (v.getD i default)))) rfl (fun h9 => ?_) (fun h9 => ?_)
        ·
         replace h9 : (decide (((qcVotes (⟨(v.getD 0 default).f0, (v.getD 0 default).f1, (v.getD 0 default).f2, bitsOf (voteWhos v) l.f0, voteTags v⟩ : SQc)).getD i default) = (v.getD i default))) = false := by simpa only [Bool.not_eq_true', Bool.not_eq_false'] using h9
         replace h9 := of_decide_eq_false h9
         refine T.seq ?_
         refine T.region ?_
         refine TL.c (Step.build (zs := [.int .i64 0, .int .i64 0, .slice none 0 0, .slice none 0 0, .slice none 0 0]) (places := [(0, 1), (1, 1), (2, 1), (3, 1), (4, 1)]) (pss := []) (ps' := [cI 0, cI 0, .nil, .nil, .nil]) rfl rfl (lt_ok rfl) (by kernel_rfl) .nil rfl rfl rfl) ?_
         refine TL.c (Step.store_box (n := 5) (p := (.agg [cI 0, cI 0, .nil, .nil, .nil])) (qs := [cI 0, cI 0, .nil, .nil, .nil]) (ps' := [cI 0, cI 0, .nil, .nil, .nil]) rfl rfl (by kernel_rfl) rfl rfl rfl rfl rfl rfl (le_ok rfl) rfl) ?_
         refine TL.as (pB false) ?_
         refine TL.nil ?_
         refine T.ret ?_
         refine ⟨[(true, [cI 0, cI 0, .nil, .nil, .nil]), (false, [.d (.bool false)])], (.cons rfl (.cons rfl .nil)), rfl, [], (RetC.rd' ?_ (RetC.rd' ?_ (RetC.nilown' rfl ?_ (by first | exact trivial | exact D.wf_nil _) (RetC.nilown' rfl ?_ (by first | exact trivial | exact D.wf_nil _) (RetC.nilown' rfl ?_ (by first | exact trivial | exact D.wf_nil _) (RetC.rd' ?_ .nil))))))⟩ <;> (first | (congr 1; first | (rw [qcFrom_yes (qcFromOk_iff.2 ⟨by omega, by assumption, (show qcVotes (⟨(v.getD 0 default).f0, (v.getD 0 default).f1, (v.getD 0 default).f2, bitsOf (voteWhos v) l.f0, voteTags v⟩ : SQc) = v from take_all hx2 (by omega) hx3)⟩)]; done) | (rw [qcFrom_yes (qcFromOk_iff.2 ⟨by omega, by assumption, (show qcVotes (⟨(v.getD 0 default).f0, (v.getD 0 default).f1, (v.getD 0 default).f2, bitsOf (voteWhos v) l.f0, voteTags v⟩ : SQc) = v from take_all hx2 (by omega) hx3)⟩)]; rfl) | (rw [qcFrom_no (Bool.eq_false_iff.2 fun hq_ => by obtain ⟨q1_, q2_, q3_⟩ := qcFromOk_iff.1 hq_; have e_ : qcVotes (⟨(v.getD 0 default).f0, (v.getD 0 default).f1, (v.getD 0 default).f2, bitsOf (voteWhos v) l.f0, voteTags v⟩ : SQc) = v := q3_; have e2_ := congrArg List.length e_; first | omega | exact bool_ne q2_ (by assumption) | exact bool_ne (qcOk_lim' q2_) (by assumption) | exact bool_ne (qcOf_bits q2_) (by assumption) | exact absurd (congrArg (fun x => x.getD i default) e_) (by assumption) | exact absurd (congrArg (fun x => x.getD i default) e_.symm) (by assumption))]; rfl) | (symm; exact (qcFromOk_iff.2 ⟨by omega, by assumption, (show qcVotes (⟨(v.getD 0 default).f0, (v.getD 0 default).f1, (v.getD 0 default).f2, bitsOf (voteWhos v) l.f0, voteTags v⟩ : SQc) = v from take_all hx2 (by omega) hx3)⟩)) | (symm; exact (Bool.eq_false_iff.2 fun hq_ => by obtain ⟨q1_, q2_, q3_⟩ := qcFromOk_iff.1 hq_; have e_ : qcVotes (⟨(v.getD 0 default).f0, (v.getD 0 default).f1, (v.getD 0 default).f2, bitsOf (voteWhos v) l.f0, voteTags v⟩ : SQc) = v := q3_; have e2_ := congrArg List.length e_; first | omega | exact bool_ne q2_ (by assumption) | exact bool_ne (qcOk_lim' q2_) (by assumption) | exact bool_ne (qcOf_bits q2_) (by assumption) | exact absurd (congrArg (fun x => x.getD i default) e_) (by assumption) | exact absurd (congrArg (fun x => x.getD i default) e_.symm) (by assumption)))) | (simp only [D.size, List.length_map]; rw [qcFrom_no (Bool.eq_false_iff.2 fun hq_ => by obtain ⟨q1_, q2_, q3_⟩ := qcFromOk_iff.1 hq_; have e_ : qcVotes (⟨(v.getD 0 default).f0, (v.getD 0 default).f1, (v.getD 0 default).f2, bitsOf (voteWhos v) l.f0, voteTags v⟩ : SQc) = v := q3_; have e2_ := congrArg List.length e_; first | omega | exact bool_ne q2_ (by assumption) | exact bool_ne (qcOk_lim' q2_) (by assumption) | exact bool_ne (qcOf_bits q2_) (by assumption) | exact absurd (congrArg (fun x => x.getD i default) e_) (by assumption) | exact absurd (congrArg (fun x => x.getD i default) e_.symm) (by assumption))]; rfl))
        ·
         replace h9 : (decide (((qcVotes (⟨(v.getD 0 default).f0, (v.getD 0 default).f1, (v.getD 0 default).f2, bitsOf (voteWhos v) l.f0, voteTags v⟩ : SQc)).getD i default) = (v.getD i default))) = true := by simpa only [Bool.not_eq_true', Bool.not_eq_false'] using h9
         replace h9 := of_decide_eq_true h9
         refine T.skip ?_
         refine T.region ?_
         refine TL.c (Step.bin (r := .int .i64 ((i : Int) + 1)) rfl rfl (lt_ok rfl) rfl rfl (Bin.add (a := (i : Int)) (b := 1) (by first | exact wrap_ok (by first | omega | (simp; omega)) (by first | omega | (simp; omega)) | rfl))) ?_
         refine TL.mv (pI ((i : Int) + 1)) ?_
         refine TL.nil ?_
         refine ⟨i + 1, by (refine ⟨by omega, hx2, take_step (d := default) hx2 (by omega) hx3 (by assumption)⟩), by first | omega | (dsimp only; omega), Env.le_mk ⟨rfl, rfl, rfl, rfl, rfl, ?_, trivial⟩ ⟨rfl, rfl, rfl, rfl, trivial⟩ ⟨rfl, rfl, rfl, trivial⟩⟩ <;> (first | rfl | (refine congrArg (fun n => PV.one (.d (.int .i64 n))) ?_; first | rfl | omega | (simp; done)))
       ·
        replace h8 := of_decide_eq_false h8
        refine T.exit ?_
        refine T.seq ?_
        refine T.region ?_
        refine TL.c (Step.load_box_agg (n := 5) (qs := [cI (v.getD 0 default).f0, cI (v.getD 0 default).f1, .row 1028 [], .row 1055 [], .row 100604 []]) rfl rfl (lt_ok rfl) (by kernel_rfl) rfl rfl rfl rfl) ?_
        refine TL.c (Step.store_box (n := 5) (p := (.agg [cI (v.getD 0 default).f0, cI (v.getD 0 default).f1, .row 1028 [], .row 1055 [], .row 100604 []])) (qs := [cI (v.getD 0 default).f0, cI (v.getD 0 default).f1, .row 1028 [], .row 1055 [], .row 100604 []]) (ps' := [cI (v.getD 0 default).f0, cI (v.getD 0 default).f1, .row 1028 [], .row 1055 [], .row 100604 []]) rfl rfl (by kernel_rfl) rfl rfl rfl rfl rfl rfl (le_ok rfl) rfl) ?_
        refine TL.as (pB true) ?_
        refine TL.nil ?_
        refine T.ret ?_
        refine ⟨[(true, [cI (v.getD 0 default).f0, cI (v.getD 0 default).f1, .row 1028 [], .row 1055 [], .row 100604 []]), (false, [.d (.bool true)])], (.cons rfl (.cons rfl .nil)), rfl, [1028, 1055, 100604], (RetC.rd' ?_ (RetC.rd' ?_ (RetC.own' rfl ?_ rfl (RetC.own' rfl ?_ rfl (RetC.own' rfl ?_ rfl (RetC.rd' ?_ .nil))))))⟩ <;> (first | (congr 1; first | (rw [qcFrom_yes (qcFromOk_iff.2 ⟨by omega, by assumption, (show qcVotes (⟨(v.getD 0 default).f0, (v.getD 0 default).f1, (v.getD 0 default).f2, bitsOf (voteWhos v) l.f0, voteTags v⟩ : SQc) = v from take_all hx2 (by omega) hx3)⟩)]; done) | (rw [qcFrom_yes (qcFromOk_iff.2 ⟨by omega, by assumption, (show qcVotes (⟨(v.getD 0 default).f0, (v.getD 0 default).f1, (v.getD 0 default).f2, bitsOf (voteWhos v) l.f0, voteTags v⟩ : SQc) = v from take_all hx2 (by omega) hx3)⟩)]; rfl) | (rw [qcFrom_no (Bool.eq_false_iff.2 fun hq_ => by obtain ⟨q1_, q2_, q3_⟩ := qcFromOk_iff.1 hq_; have e_ : qcVotes (⟨(v.getD 0 default).f0, (v.getD 0 default).f1, (v.getD 0 default).f2, bitsOf (voteWhos v) l.f0, voteTags v⟩ : SQc) = v := q3_; have e2_ := congrArg List.length e_; first | omega | exact bool_ne q2_ (by assumption) | exact bool_ne (qcOk_lim' q2_) (by assumption) | exact bool_ne (qcOf_bits q2_) (by assumption) | exact absurd (congrArg (fun x => x.getD i default) e_) (by assumption) | exact absurd (congrArg (fun x => x.getD i default) e_.symm) (by assumption))]; rfl) | (symm; exact (qcFromOk_iff.2 ⟨by omega, by assumption, (show qcVotes (⟨(v.getD 0 default).f0, (v.getD 0 default).f1, (v.getD 0 default).f2, bitsOf (voteWhos v) l.f0, voteTags v⟩ : SQc) = v from take_all hx2 (by omega) hx3)⟩)) | (symm; exact (Bool.eq_false_iff.2 fun hq_ => by obtain ⟨q1_, q2_, q3_⟩ := qcFromOk_iff.1 hq_; have e_ : qcVotes (⟨(v.getD 0 default).f0, (v.getD 0 default).f1, (v.getD 0 default).f2, bitsOf (voteWhos v) l.f0, voteTags v⟩ : SQc) = v := q3_; have e2_ := congrArg List.length e_; first | omega | exact bool_ne q2_ (by assumption) | exact bool_ne (qcOk_lim' q2_) (by assumption) | exact bool_ne (qcOf_bits q2_) (by assumption) | exact absurd (congrArg (fun x => x.getD i default) e_) (by assumption) | exact absurd (congrArg (fun x => x.getD i default) e_.symm) (by assumption)))) | (simp only [D.size, List.length_map]; rw [qcFrom_no (Bool.eq_false_iff.2 fun hq_ => by obtain ⟨q1_, q2_, q3_⟩ := qcFromOk_iff.1 hq_; have e_ : qcVotes (⟨(v.getD 0 default).f0, (v.getD 0 default).f1, (v.getD 0 default).f2, bitsOf (voteWhos v) l.f0, voteTags v⟩ : SQc) = v := q3_; have e2_ := congrArg List.length e_; first | omega | exact bool_ne q2_ (by assumption) | exact bool_ne (qcOk_lim' q2_) (by assumption) | exact bool_ne (qcOf_bits q2_) (by assumption) | exact absurd (congrArg (fun x => x.getD i default) e_) (by assumption) | exact absurd (congrArg (fun x => x.getD i default) e_.symm) (by assumption))]; rfl))
theorem ok_laws_heldByteS (a : List Int) (b : List Int) (k : Int) (h0_ : 0 ≤ k) (h1_ : k + (a.length : Int) ≤ 4611686018427387904) (h2_ : b = mkB a k) : RO Try.prog 33 [.one (.ints .u8 b), .one (.int .i64 k)] [(false, [.rd (.int .i64 (k + (a.length : Int)))])] := by
 refine RO.intro Try.func33 rfl 22 rfl (le_ok rfl) fun w Z => ?_
 refine T.bnd 0 0 rfl rfl fun hb_0_0 => ?_
 simp only [D.size, List.length_map] at hb_0_0
 have hl_ : b.length = a.length := by rw [h2_, mkL_length]
 have hg_ : ∀ i, i < a.length → b.getD i 0 = (k + (i : Int)) % 256 := fun i hi => by rw [h2_, mkL_getD _ _ _ _ hi]; simp only [cntL_one_take a i (by omega)]
 refine T.seq ?_
 refine T.region ?_
 refine TL.as (pI 0) ?_
 refine TL.nil ?_
 refine T.seq ?_
 refine T.seq ?_
 refine T.region ?_
 refine TL.as (pI 0) ?_
 refine TL.nil ?_
 refine T.block ?_
 refine T.loop (ι := Nat) (fun xx_ => { tm := [(0, (pS b)), (5, (pI (xx_ : Int))), (1, (pI (k + (xx_ : Int))))], rows := [], boxes := [] }) (fun xx_ => xx_ ≤ a.length) (fun xx_ => a.length - xx_) 0 ?_ ?_ ?_
 · refine Env.le_mk ⟨rfl, ?_, ?_, trivial⟩ trivial trivial <;> (first | rfl | (refine congrArg (fun n => PV.one (.d (.int .i64 n))) ?_; first | omega | (simp; done) | (simp [cntL]; done)))
 · exact Nat.zero_le _
 ·
  intro i hx
  try dsimp only at hx ⊢
  refine T.seq ?_
  refine T.seq ?_
  refine T.region ?_
  refine TL.mv (pI (i : Int)) ?_
  refine TL.mv (pS b) ?_
  refine TL.c (Step.len (e := 5) (z := 1) (d := (.ints .u8 b)) rfl rfl (lt_ok rfl) (by kernel_rfl) rfl rfl) ?_
  refine TL.c (Step.bin rfl rfl (lt_ok rfl) rfl rfl (Bin.lss (k := .i64) (a := (i : Int)) (b := (b.length : Int)))) ?_
  refine TL.nil ?_
  refine T.cond (b := decide ((i : Int) < (b.length : Int))) rfl (fun h1 => ?_) (fun h1 => ?_)
  ·
   replace h1 := of_decide_eq_true h1
   refine T.skip ?_
   refine T.seq ?_
   refine T.block ?_
   refine T.seq ?_
   refine T.seq ?_
   refine T.region ?_
   refine TL.mv (pS b) ?_
   refine TL.mv (pI (i : Int)) ?_
   refine TL.c (Step.index (e := 5) (z := 1) (i := (i : Int)) rfl rfl (lt_ok rfl) (by kernel_rfl) rfl rfl rfl (lt_ok rfl) rfl (by first | omega | (simp; omega)) (by simp only [D.size]; first | omega | (simp; omega))) ?_
   refine TL.c (Step.load (e := (.int .u8 (b.getD i 0))) rfl rfl (lt_ok rfl) (by kernel_rfl) rfl rfl) ?_
   refine TL.mv (pI (k + (i : Int))) ?_
   refine TL.c (Step.conv (c := ((k + (i : Int)) % 256)) rfl rfl (lt_ok rfl) (by kernel_rfl) (by kernel_rfl) rfl (wrap_byte _)) ?_
   refine TL.c (Step.bin rfl rfl (lt_ok rfl) rfl rfl (Bin.neq (k := .u8) (a := (b.getD i 0)) (b := ((k + (i : Int)) % 256)))) ?_
   refine TL.nil ?_
   refine T.cond (b := decide ((b.getD i 0) ≠ ((k + (i : Int)) % 256))) rfl (fun h2 => ?_) (fun h2 => ?_)
   ·
    replace h2 := of_decide_eq_true h2
    refine T.seq ?_
    refine T.region ?_
    refine TL.as (pI (-1)) ?_
    refine TL.nil ?_
    refine T.ret ?_
    refine ⟨[(false, [cI (-1)])], (.cons rfl .nil), rfl, [], (RetC.rd' ?_ .nil)⟩ <;> (first | (congr 1; omega) | (exfalso; have := hg_ i (by omega); omega))
   ·
    replace h2 := of_decide_eq_false h2
    refine T.skip ?_
    refine T.region ?_
    refine TL.mv (pI (k + (i : Int))) ?_
    refine TL.c (Step.bin (r := .int .i64 ((k + (i : Int)) + 1)) rfl rfl (lt_ok rfl) rfl rfl (Bin.add (a := (k + (i : Int))) (b := 1) (by first | exact wrap_ok (by first | omega | (simp; omega)) (by first | omega | (simp; omega)) | rfl))) ?_
    refine TL.as (pI ((k + (i : Int)) + 1)) ?_
    refine TL.nil ?_
    refine T.region ?_
    refine TL.mv (pI (i : Int)) ?_
    refine TL.c (Step.bin (r := .int .i64 ((i : Int) + 1)) rfl rfl (lt_ok rfl) rfl rfl (Bin.add (a := (i : Int)) (b := 1) (by first | exact wrap_ok (by first | omega | (simp; omega)) (by first | omega | (simp; omega)) | rfl))) ?_
    refine TL.as (pI ((i : Int) + 1)) ?_
    refine TL.nil ?_
    refine ⟨i + 1, by omega, by first | omega | (dsimp only; omega), Env.le_mk ⟨rfl, ?_, ?_, trivial⟩ trivial trivial⟩ <;> (first | rfl | (refine congrArg (fun n => PV.one (.d (.int .i64 n))) ?_; first | omega | (simp; done) | (simp [cntL]; done)))
  ·
   replace h1 := of_decide_eq_false h1
   refine T.exit ?_
   refine T.seq ?_
   refine T.region ?_
   refine TL.mv (pI (k + (i : Int))) ?_
   refine TL.as (pI (k + (i : Int))) ?_
   refine TL.nil ?_
   refine T.ret ?_
   refine ⟨[(false, [cI (k + (i : Int))])], (.cons rfl .nil), rfl, [], (RetC.rd' ?_ .nil)⟩ <;> (first | (congr 1; omega) | (exfalso; have := hg_ i (by omega); omega))
theorem ok_laws_heldByteSS (a : List (List Int)) (b : List (List Int)) (k : Int) (h0_ : 0 ≤ k) (h1_ : k + cntL (fun x : List Int => (x.length : Int)) a ≤ 4611686018427387904) (h2_ : b = mkBs a k) : RO Try.prog 99 [.one (.bss b), .one (.int .i64 k)] [(false, [.rd (.int .i64 (k + cntL (fun x : List Int => (x.length : Int)) a))])] := by
 refine RO.intro Try.func99 rfl 21 rfl (le_ok rfl) fun w Z => ?_
 refine T.bnd 0 0 rfl rfl fun hb_0_0 => ?_
 simp only [D.size, List.length_map] at hb_0_0
 have hl_ : b.length = a.length := by rw [h2_, mkL_length]
 have hg_ : ∀ i, i < a.length → b.getD i [] = mkB (a.getD i []) (k + cntL (fun x : List Int => (x.length : Int)) (a.take i)) := fun i hi => by rw [h2_, mkL_getD _ _ _ _ hi]
 refine T.seq ?_
 refine T.region ?_
 refine TL.as (pI 0) ?_
 refine TL.nil ?_
 refine T.seq ?_
 refine T.seq ?_
 refine T.region ?_
 refine TL.as (pI 0) ?_
 refine TL.nil ?_
 refine T.block ?_
 refine T.loop (ι := Nat) (fun xx_ => { tm := [(0, (.one (.d (.bss b)))), (5, (pI (xx_ : Int))), (1, (pI (k + cntL (fun x : List Int => (x.length : Int)) (a.take xx_))))], rows := [], boxes := [] }) (fun xx_ => xx_ ≤ a.length) (fun xx_ => a.length - xx_) 0 ?_ ?_ ?_
 · refine Env.le_mk ⟨rfl, ?_, ?_, trivial⟩ trivial trivial <;> (first | rfl | (refine congrArg (fun n => PV.one (.d (.int .i64 n))) ?_; first | omega | (simp; done) | (simp [cntL]; done)))
 · exact Nat.zero_le _
 ·
  intro i hx
  try dsimp only at hx ⊢
  refine T.seq ?_
  refine T.seq ?_
  refine T.region ?_
  refine TL.mv (pI (i : Int)) ?_
  refine TL.mv (.one (.d (.bss b))) ?_
  refine TL.c (Step.len (e := 22) (z := 1) (d := (.bss b)) rfl rfl (lt_ok rfl) (by kernel_rfl) rfl rfl) ?_
  refine TL.c (Step.bin rfl rfl (lt_ok rfl) rfl rfl (Bin.lss (k := .i64) (a := (i : Int)) (b := (b.length : Int)))) ?_
  refine TL.nil ?_
  refine T.cond (b := decide ((i : Int) < (b.length : Int))) rfl (fun h1 => ?_) (fun h1 => ?_)
  ·
   replace h1 := of_decide_eq_true h1
   have hc1 := cntL_take_le (cnt := (fun x : List Int => (x.length : Int))) (fun x => by omega) a (i + 1)
   have hc2 := cntL_take_succ (cnt := (fun x : List Int => (x.length : Int))) (i := i) [] (show i < a.length by omega)
   have hc3 := cntL_nonneg (cnt := (fun x : List Int => (x.length : Int))) (fun x => by omega) (a.take i)
   have he_ := hg_ i (by omega)
   try dsimp only at hc2
   refine T.skip ?_
   refine T.seq ?_
   refine T.block ?_
   refine T.seq ?_
   refine T.region ?_
   refine TL.mv (.one (.d (.bss b))) ?_
   refine TL.mv (pI (i : Int)) ?_
   refine TL.c (Step.index (e := 22) (z := 1) (i := (i : Int)) rfl rfl (lt_ok rfl) (by kernel_rfl) rfl rfl rfl (lt_ok rfl) rfl (by first | omega | (simp; omega)) (by simp only [D.size]; first | omega | (simp; omega))) ?_
   refine TL.c (Step.load (e := (.ints .u8 (b.getD i []))) rfl rfl (lt_ok rfl) (by kernel_rfl) rfl rfl) ?_
   refine TL.mv (pI (k + cntL (fun x : List Int => (x.length : Int)) (a.take i))) ?_
   refine TL.c (Step.cl (xs := [.tmp 15, .tmp 16]) (ps := [(pS (b.getD i [])), (pI (k + cntL (fun x : List Int => (x.length : Int)) (a.take i)))]) (g := .func 33) false (.cons (.one (.d _)) (.cons (.one (.d _)) .nil)) (ok_laws_heldByteS (a.getD i []) (b.getD i []) (k + cntL (fun x : List Int => (x.length : Int)) (a.take i)) (by omega) (by first | omega | (have := (by assumption); omega)) (by first | rfl | assumption | (repeat' (first | rfl | apply And.intro))))) ?_
   refine TL.as (pI ((k + cntL (fun x : List Int => (x.length : Int)) (a.take i)) + ((a.getD i []).length : Int))) ?_
   refine TL.nil ?_
   refine T.seq ?_
   refine T.region ?_
   refine TL.mv (pI ((k + cntL (fun x : List Int => (x.length : Int)) (a.take i)) + ((a.getD i []).length : Int))) ?_
   refine TL.c (Step.bin rfl rfl (lt_ok rfl) rfl rfl (Bin.lss (k := .i64) (a := ((k + cntL (fun x : List Int => (x.length : Int)) (a.take i)) + ((a.getD i []).length : Int))) (b := 0))) ?_
   refine TL.known 19 (c := false) (decide_eq_false (by omega)) rfl ?_
   refine TL.nil ?_
   refine T.cond (b := false) rfl (fun h2_ => absurd h2_ (by simp)) (fun h2_ => ?_)
   refine T.skip ?_
   refine T.region ?_
   refine TL.mv (pI (i : Int)) ?_
   refine TL.c (Step.bin (r := .int .i64 ((i : Int) + 1)) rfl rfl (lt_ok rfl) rfl rfl (Bin.add (a := (i : Int)) (b := 1) (by first | exact wrap_ok (by first | omega | (simp; omega)) (by first | omega | (simp; omega)) | rfl))) ?_
   refine TL.as (pI ((i : Int) + 1)) ?_
   refine TL.nil ?_
   refine ⟨i + 1, by omega, by first | omega | (dsimp only; omega), Env.le_mk ⟨rfl, ?_, ?_, trivial⟩ trivial trivial⟩ <;> (first | rfl | (refine congrArg (fun n => PV.one (.d (.int .i64 n))) ?_; first | omega | (simp; done) | (simp [cntL]; done)))
  ·
   replace h1 := of_decide_eq_false h1
   refine T.exit ?_
   refine T.seq ?_
   refine T.region ?_
   refine TL.mv (pI (k + cntL (fun x : List Int => (x.length : Int)) (a.take i))) ?_
   refine TL.as (pI (k + cntL (fun x : List Int => (x.length : Int)) (a.take i))) ?_
   refine TL.nil ?_
   refine T.ret ?_
   refine ⟨[(false, [cI (k + cntL (fun x : List Int => (x.length : Int)) (a.take i))])], (.cons rfl .nil), rfl, [], (RetC.rd' ?_ .nil)⟩ <;> (first | (congr 1; rw [cntL_all (by omega)]) | (exfalso; omega))
theorem ok_laws_heldQc (a : SQc) (b : SQc) (k : Int) (h0_ : 0 ≤ k) (h1_ : k + a.cm ≤ 4611686018427387904) (h2_ : SQc.hm a b k) : RO Try.prog 38 [.agg b.cells, .one (.int .i64 k)] [(false, [.rd (.int .i64 (k + a.cm))])] := by
 refine RO.intro Try.func38 rfl 24 rfl (le_ok rfl) fun w Z => ?_
 obtain ⟨p2, p3, p4⟩ := h2_
 have n4 := cntBs_nonneg a.f4
 simp only [SQc.cm] at h1_
 refine T.seq ?_
 refine T.region ?_
 refine TL.c (Step.box (p := (.agg [cI b.f0, cI b.f1, cS b.f2, cS b.f3, .d (.bss b.f4)])) (ps := [cI b.f0, cI b.f1, cS b.f2, cS b.f3, .d (.bss b.f4)]) rfl rfl (lt_ok rfl) rfl rfl rfl rfl rfl) ?_
 refine TL.as (pI 0) ?_
 refine TL.nil ?_
 refine T.seq ?_
 refine T.region ?_
 refine TL.c (Step.fieldAddr (q := 0) (off := 2) (n := 1) (one := true) rfl rfl (lt_ok rfl) (by kernel_rfl) (Nat.succ_ne_zero _) rfl) ?_
 refine TL.c (Step.load_box (c := cS b.f2) rfl rfl (lt_ok rfl) (by kernel_rfl) rfl rfl rfl) ?_
 refine TL.mv (pI k) ?_
 refine TL.c (Step.cl (xs := [.tmp 6, .tmp 7]) (ps := [(pS b.f2), (pI k)]) (g := .func 33) false (.cons (.one (.d _)) (.cons (.one (.d _)) .nil)) (ok_laws_heldByteS a.f2 b.f2 k (by omega) (by first | omega | (have := (by assumption); omega)) (by first | rfl | assumption | (repeat' (first | rfl | apply And.intro))))) ?_
 refine TL.as (pI (k + (a.f2.length : Int))) ?_
 refine TL.nil ?_
 refine T.seq ?_
 refine T.seq ?_
 refine T.region ?_
 refine TL.mv (pI (k + (a.f2.length : Int))) ?_
 refine TL.c (Step.bin rfl rfl (lt_ok rfl) rfl rfl (Bin.lss (k := .i64) (a := (k + (a.f2.length : Int))) (b := 0))) ?_
 refine TL.known 10 (c := false) (decide_eq_false (by omega)) rfl ?_
 refine TL.nil ?_
 refine T.cond (b := false) rfl (fun h1_ => absurd h1_ (by simp)) (fun h1_ => ?_)
 refine T.skip ?_
 refine T.seq ?_
 refine T.region ?_
 refine TL.c (Step.fieldAddr (q := 0) (off := 3) (n := 1) (one := true) rfl rfl (lt_ok rfl) (by kernel_rfl) (Nat.succ_ne_zero _) rfl) ?_
 refine TL.c (Step.load_box (c := cS b.f3) rfl rfl (lt_ok rfl) (by kernel_rfl) rfl rfl rfl) ?_
 refine TL.mv (pI (k + (a.f2.length : Int))) ?_
 refine TL.c (Step.cl (xs := [.tmp 12, .tmp 13]) (ps := [(pS b.f3), (pI (k + (a.f2.length : Int)))]) (g := .func 33) false (.cons (.one (.d _)) (.cons (.one (.d _)) .nil)) (ok_laws_heldByteS a.f3 b.f3 (k + (a.f2.length : Int)) (by omega) (by first | omega | (have := (by assumption); omega)) (by first | rfl | assumption | (repeat' (first | rfl | apply And.intro))))) ?_
 refine TL.as (pI ((k + (a.f2.length : Int)) + (a.f3.length : Int))) ?_
 refine TL.nil ?_
 refine T.seq ?_
 refine T.seq ?_
 refine T.region ?_
 refine TL.mv (pI ((k + (a.f2.length : Int)) + (a.f3.length : Int))) ?_
 refine TL.c (Step.bin rfl rfl (lt_ok rfl) rfl rfl (Bin.lss (k := .i64) (a := ((k + (a.f2.length : Int)) + (a.f3.length : Int))) (b := 0))) ?_
 refine TL.known 16 (c := false) (decide_eq_false (by omega)) rfl ?_
 refine TL.nil ?_
 refine T.cond (b := false) rfl (fun h2_ => absurd h2_ (by simp)) (fun h2_ => ?_)
 refine T.skip ?_
 refine T.seq ?_
 refine T.region ?_
 refine TL.c (Step.fieldAddr (q := 0) (off := 4) (n := 1) (one := true) rfl rfl (lt_ok rfl) (by kernel_rfl) (Nat.succ_ne_zero _) rfl) ?_
 refine TL.c (Step.load_box (c := .d (.bss b.f4)) rfl rfl (lt_ok rfl) (by kernel_rfl) rfl rfl rfl) ?_
 refine TL.mv (pI ((k + (a.f2.length : Int)) + (a.f3.length : Int))) ?_
 have nn3 := cntBs_nonneg a.f4
 refine TL.c (Step.cl (xs := [.tmp 18, .tmp 19]) (ps := [(.one (.d (.bss b.f4))), (pI ((k + (a.f2.length : Int)) + (a.f3.length : Int)))]) (g := .func 99) false (.cons (.one (.d _)) (.cons (.one (.d _)) .nil)) (ok_laws_heldByteSS a.f4 b.f4 ((k + (a.f2.length : Int)) + (a.f3.length : Int)) (by omega) (by first | omega | (have := cntBs_le (xs := a.f4) (by assumption); omega)) (by first | rfl | assumption | (repeat' (first | rfl | apply And.intro))))) ?_
 refine TL.as (pI (((k + (a.f2.length : Int)) + (a.f3.length : Int)) + cntL (fun x : List Int => (x.length : Int)) a.f4)) ?_
 refine TL.nil ?_
 refine T.seq ?_
 refine T.seq ?_
 refine T.region ?_
 refine TL.mv (pI (((k + (a.f2.length : Int)) + (a.f3.length : Int)) + cntL (fun x : List Int => (x.length : Int)) a.f4)) ?_
 refine TL.c (Step.bin rfl rfl (lt_ok rfl) rfl rfl (Bin.lss (k := .i64) (a := (((k + (a.f2.length : Int)) + (a.f3.length : Int)) + cntL (fun x : List Int => (x.length : Int)) a.f4)) (b := 0))) ?_
 refine TL.known 22 (c := false) (decide_eq_false (by omega)) rfl ?_
 refine TL.nil ?_
 refine T.cond (b := false) rfl (fun h4_ => absurd h4_ (by simp)) (fun h4_ => ?_)
 refine T.skip ?_
 refine T.seq ?_
 refine T.region ?_
 refine TL.mv (pI (((k + (a.f2.length : Int)) + (a.f3.length : Int)) + cntL (fun x : List Int => (x.length : Int)) a.f4)) ?_
 refine TL.as (pI (((k + (a.f2.length : Int)) + (a.f3.length : Int)) + cntL (fun x : List Int => (x.length : Int)) a.f4)) ?_
 refine TL.nil ?_
 refine T.ret ?_
 refine ⟨[(false, [cI (((k + (a.f2.length : Int)) + (a.f3.length : Int)) + cntL (fun x : List Int => (x.length : Int)) a.f4)])], (.cons rfl .nil), rfl, [], (RetC.rd' ?_ .nil)⟩ <;> (first | rfl | (congr 1; simp only [SQc.cm]; omega))
theorem ok_laws_FnExactQcFrom (aL : SLimits) (aV : List SVote) (h0_ : aL.ok) (h1_ : ∀ y ∈ aV, SVote.ok y) : RO Try.prog 5 [.agg aL.cells, .one (.sl 5 (aV.map SVote.cells))] [(false, [.rd (.bool true)])] := by
 refine RO.intro Try.func5 rfl 104 rfl (le_ok rfl) fun w Z => ?_
 refine T.bnd 1 0 rfl rfl fun hb_1_0 => ?_
 simp only [D.size, List.length_map] at hb_1_0
 refine T.seq ?_
 refine T.region ?_
 refine TL.c (Step.box (p := (.agg [cI aL.f0, cI aL.f1, cI aL.f2, cI aL.f3, cI aL.f4])) (ps := [cI aL.f0, cI aL.f1, cI aL.f2, cI aL.f3, cI aL.f4]) rfl rfl (lt_ok rfl) rfl rfl rfl rfl rfl) ?_
 refine TL.as (pB false) ?_
 refine TL.nil ?_
 refine T.seq ?_
 refine T.region ?_
 refine TL.as (pI 1048576) ?_
 refine TL.nil ?_
 refine T.seq ?_
 refine T.region ?_
 refine TL.mv (.one (.d (.sl 5 (aV.map SVote.cells)))) ?_
 refine TL.mv (pI 1048576) ?_
 refine TL.c (Step.cl (xs := [.tmp 16, .tmp 17]) (ps := [(.one (.d (.sl 5 (aV.map SVote.cells)))), (pI 1048576)]) (g := .func 34) false (.cons (.one (.d _)) (.cons (.one (.d _)) .nil)) (ok_laws_szVoteS aV 1048576 (by omega) (by omega))) ?_
 refine TL.as (pI (szLs SVote.sz aV 1048576)) ?_
 refine TL.nil ?_
 refine T.seq ?_
 refine T.seq ?_
 refine T.region ?_
 refine TL.mv (pI (szLs SVote.sz aV 1048576)) ?_
 refine TL.c (Step.bin rfl rfl (lt_ok rfl) rfl rfl (Bin.lss (k := .i64) (a := (szLs SVote.sz aV 1048576)) (b := 0))) ?_
 refine TL.nil ?_
 refine T.cond (b := decide ((szLs SVote.sz aV 1048576) < 0)) rfl (fun h2 => ?_) (fun h2 => ?_)
 ·
  replace h2 := of_decide_eq_true h2
  refine T.seq ?_
  refine T.region ?_
  refine TL.as (pB true) ?_
  refine TL.nil ?_
  refine T.ret ?_
  exact ⟨[(false, [.d (.bool true)])], (.cons rfl .nil), rfl, [], (RetC.rd' rfl .nil)⟩
 ·
  replace h2 := of_decide_eq_false h2
  have z1_le : szLs SVote.sz aV 1048576 ≤ 1048576 := szLs_le (fun x l h => SVote.sz_le x h) _ (by omega)
  have z1_sm := szLs_sm (p := SVote.sm) (fun x l h => SVote.sz_le x h) (fun x l h h0 hl => SVote.sz_sm x h0 hl h) (by omega : (0 : Int) ≤ szLs SVote.sz aV 1048576) (by omega : (1048576 : Int) ≤ 1048576)
  have s0l_ := z1_sm.1
  have s0m_ := z1_sm.2
  refine T.skip ?_
  refine T.seq ?_
  refine T.region ?_
  refine TL.c (Step.load_box_agg (n := 5) (qs := [cI aL.f0, cI aL.f1, cI aL.f2, cI aL.f3, cI aL.f4]) rfl rfl (lt_ok rfl) (by kernel_rfl) rfl rfl rfl rfl) ?_
  refine TL.c (Step.cl (xs := [.tmp 22]) (ps := [(.agg [cI aL.f0, cI aL.f1, cI aL.f2, cI aL.f3, cI aL.f4])]) (g := .func 26) false (.cons (.agg (.cons (.d _) (.cons (.d _) (.cons (.d _) (.cons (.d _) (.cons (.d _) .nil)))))) .nil) (ok_laws_toLimits aL)) ?_
  refine TL.mv (.one (.d (.sl 5 (aV.map SVote.cells)))) ?_
  refine TL.c (Step.cl (xs := [.tmp 24]) (ps := [(.one (.d (.sl 5 (aV.map SVote.cells))))]) (g := .func 36) false (.cons (.one (.d _)) .nil) (ok_laws_toVoteS aV (by first | assumption | exact ⟨‹_›, ‹_›⟩ | exact mem_getD h0_.2 (by omega)))) ?_
  have nn3 := @qcFrom_sm aL aV (by assumption) (by assumption)
  refine TL.c (Step.cl (xs := [.tmp 23, .tmp 25]) (ps := [(.agg [cI aL.f0, cI aL.f1, cI aL.f2, cI aL.f3, cI aL.f4]), (.one (.row 1025 []))]) (g := .func 35) false (.cons (.agg (.cons (.d _) (.cons (.d _) (.cons (.d _) (.cons (.d _) (.cons (.d _) .nil)))))) (.cons (.one (.row rfl rfl rfl rfl)) .nil)) (ok_spec_QcFrom aL aV (by assumption) (by first | assumption | omega) (by assumption) (by first | assumption | exact h0_.1 | exact (‹l.ok›).1))) ?_
  refine TL.mv (.tup [(true, [cI (qcFrom aL aV).f0, cI (qcFrom aL aV).f1, .row 3026 [], .row 4026 [], .row 5026 []]), (false, [.d (.bool (qcFromOk aL aV))])]) ?_
  refine TL.c (Step.extract (p := (.agg [cI (qcFrom aL aV).f0, cI (qcFrom aL aV).f1, .row 3026 [], .row 4026 [], .row 5026 []])) rfl rfl (lt_ok rfl) rfl rfl) ?_
  refine TL.c (Step.extract (p := (pB (qcFromOk aL aV))) rfl rfl (lt_ok rfl) rfl rfl) ?_
  refine TL.c (Step.alloc (cs := [.int .i64 0, .int .i64 0, .slice none 0 0, .slice none 0 0, .slice none 0 0]) (ps := [cI 0, cI 0, .nil, .nil, .nil]) rfl rfl (lt_ok rfl) (by kernel_rfl) rfl rfl rfl rfl) ?_
  refine TL.c (Step.store_box (n := 5) (p := (.agg [cI (qcFrom aL aV).f0, cI (qcFrom aL aV).f1, .row 3026 [], .row 4026 [], .row 5026 []])) (qs := [cI (qcFrom aL aV).f0, cI (qcFrom aL aV).f1, .row 3026 [], .row 4026 [], .row 5026 []]) (ps' := [cI (qcFrom aL aV).f0, cI (qcFrom aL aV).f1, .row 3026 [], .row 4026 [], .row 5026 []]) rfl rfl (by kernel_rfl) rfl rfl rfl rfl rfl rfl (le_ok rfl) rfl) ?_
  refine TL.as (pB (qcFromOk aL aV)) ?_
  refine TL.nil ?_
  refine T.seq ?_
  refine T.region ?_
  refine TL.mv (.one (.d (.sl 5 (aV.map SVote.cells)))) ?_
  refine TL.c (Step.cl (xs := [.tmp 29]) (ps := [(.one (.d (.sl 5 (aV.map SVote.cells))))]) (g := .func 36) false (.cons (.one (.d _)) .nil) (ok_laws_toVoteS aV (by first | assumption | exact ⟨‹_›, ‹_›⟩ | exact mem_getD h0_.2 (by omega)))) ?_
  refine TL.as (.one (.row 1030 [])) ?_
  refine TL.nil ?_
  refine T.seq ?_
  refine T.region ?_
  refine TL.c (Step.load_box_agg (n := 5) (qs := [cI aL.f0, cI aL.f1, cI aL.f2, cI aL.f3, cI aL.f4]) rfl rfl (lt_ok rfl) (by kernel_rfl) rfl rfl rfl rfl) ?_
  refine TL.c (Step.cl (xs := [.tmp 32]) (ps := [(.agg [cI aL.f0, cI aL.f1, cI aL.f2, cI aL.f3, cI aL.f4])]) (g := .func 26) false (.cons (.agg (.cons (.d _) (.cons (.d _) (.cons (.d _) (.cons (.d _) (.cons (.d _) .nil)))))) .nil) (ok_laws_toLimits aL)) ?_
  refine TL.mv (.one (.row 1030 [])) ?_
  have nn4 := @qcFrom_sm aL aV (by assumption) (by assumption)
  refine TL.c (Step.cl (xs := [.tmp 33, .tmp 34]) (ps := [(.agg [cI aL.f0, cI aL.f1, cI aL.f2, cI aL.f3, cI aL.f4]), (.one (.row 1030 []))]) (g := .func 37) false (.cons (.agg (.cons (.d _) (.cons (.d _) (.cons (.d _) (.cons (.d _) (.cons (.d _) .nil)))))) (.cons (.one (.row rfl rfl rfl rfl)) .nil)) (ok_impl_QcFrom aL aV (by assumption) (by first | assumption | omega) (by assumption) (by first | assumption | exact h0_.1 | exact (‹l.ok›).1))) ?_
  refine TL.mv (.tup [(true, [cI (qcFrom aL aV).f0, cI (qcFrom aL aV).f1, .row 3035 [], .row 4035 [], .row 5035 []]), (false, [.d (.bool (qcFromOk aL aV))])]) ?_
  refine TL.c (Step.extract (p := (.agg [cI (qcFrom aL aV).f0, cI (qcFrom aL aV).f1, .row 3035 [], .row 4035 [], .row 5035 []])) rfl rfl (lt_ok rfl) rfl rfl) ?_
  refine TL.c (Step.extract (p := (pB (qcFromOk aL aV))) rfl rfl (lt_ok rfl) rfl rfl) ?_
  refine TL.c (Step.alloc (cs := [.int .i64 0, .int .i64 0, .slice none 0 0, .slice none 0 0, .slice none 0 0]) (ps := [cI 0, cI 0, .nil, .nil, .nil]) rfl rfl (lt_ok rfl) (by kernel_rfl) rfl rfl rfl rfl) ?_
  refine TL.c (Step.store_box (n := 5) (p := (.agg [cI (qcFrom aL aV).f0, cI (qcFrom aL aV).f1, .row 3035 [], .row 4035 [], .row 5035 []])) (qs := [cI (qcFrom aL aV).f0, cI (qcFrom aL aV).f1, .row 3035 [], .row 4035 [], .row 5035 []]) (ps' := [cI (qcFrom aL aV).f0, cI (qcFrom aL aV).f1, .row 3035 [], .row 4035 [], .row 5035 []]) rfl rfl (by kernel_rfl) rfl rfl rfl rfl rfl rfl (le_ok rfl) rfl) ?_
  refine TL.as (pB (qcFromOk aL aV)) ?_
  refine TL.nil ?_
  refine T.weaken (E' := { tm := [(1, (.one (.d (.sl 5 (aV.map SVote.cells))))), (2, (.one (.ptr 2 0))), (4, (pB false)), (6, (.one (.ptr 6 0))), (7, (pB (qcFromOk aL aV))), (8, (.one (.row 1030 []))), (9, (.one (.ptr 9 0))), (10, (pB (qcFromOk aL aV)))], rows := [(3026, (5, (.ints .u8 (qcFrom aL aV).f2))), (4026, (5, (.ints .u8 (qcFrom aL aV).f3))), (5026, (22, (.bss (qcFrom aL aV).f4))), (1030, (64, (.sl 5 (aV.map SVote.cells)))), (3035, (5, (.ints .u8 (qcFrom aL aV).f2))), (4035, (5, (.ints .u8 (qcFrom aL aV).f3))), (5035, (22, (.bss (qcFrom aL aV).f4)))], boxes := [(9, (29, [cI (qcFrom aL aV).f0, cI (qcFrom aL aV).f1, .row 3035 [], .row 4035 [], .row 5035 []])), (2, (37, [cI aL.f0, cI aL.f1, cI aL.f2, cI aL.f3, cI aL.f4])), (6, (29, [cI (qcFrom aL aV).f0, cI (qcFrom aL aV).f1, .row 3026 [], .row 4026 [], .row 5026 []]))] }) (Env.le_mk ⟨by kernel_rfl, by kernel_rfl, by kernel_rfl, by kernel_rfl, by kernel_rfl, by kernel_rfl, by kernel_rfl, by kernel_rfl, trivial⟩ ⟨by kernel_rfl, by kernel_rfl, by kernel_rfl, by kernel_rfl, by kernel_rfl, by kernel_rfl, by kernel_rfl, trivial⟩ ⟨by kernel_rfl, by kernel_rfl, by kernel_rfl, trivial⟩) ?_
  refine T.seq ?_
  refine T.seq ?_
  refine T.region ?_
  refine TL.c (Step.load_box_agg (n := 5) (qs := [cI (qcFrom aL aV).f0, cI (qcFrom aL aV).f1, .row 3035 [], .row 4035 [], .row 5035 []]) rfl rfl (lt_ok rfl) (by kernel_rfl) rfl rfl rfl rfl) ?_
  refine TL.c (Step.load_box_agg (n := 5) (qs := [cI (qcFrom aL aV).f0, cI (qcFrom aL aV).f1, .row 3026 [], .row 4026 [], .row 5026 []]) rfl rfl (lt_ok rfl) (by kernel_rfl) rfl rfl rfl rfl) ?_
  refine TL.c (Step.cl (xs := [.tmp 38, .tmp 39]) (ps := [(.agg [cI (qcFrom aL aV).f0, cI (qcFrom aL aV).f1, .row 3035 [], .row 4035 [], .row 5035 []]), (.agg [cI (qcFrom aL aV).f0, cI (qcFrom aL aV).f1, .row 3026 [], .row 4026 [], .row 5026 []])]) (g := .func 20) false (.cons (.agg (.cons (.d _) (.cons (.d _) (.cons (.row rfl rfl rfl rfl) (.cons (.row rfl rfl rfl rfl) (.cons (.row rfl rfl rfl rfl) .nil)))))) (.cons (.agg (.cons (.d _) (.cons (.d _) (.cons (.row rfl rfl rfl rfl) (.cons (.row rfl rfl rfl rfl) (.cons (.row rfl rfl rfl rfl) .nil)))))) .nil)) (ok_laws_eqQc (qcFrom aL aV) (qcFrom aL aV))) ?_
  refine TL.known 40 (c := true) (by simp) rfl ?_
  refine TL.c (Step.not (b := true) rfl rfl (lt_ok rfl) rfl) ?_
  refine TL.mv (pB false) ?_
  refine TL.gm 42 (pB (qcFromOk aL aV)) ?_
  refine TL.gm 42 (pB (qcFromOk aL aV)) ?_
  refine TL.gy 42 (Step.bneq (b := (qcFromOk aL aV)) (c := (qcFromOk aL aV)) rfl rfl (lt_ok rfl) (by kernel_rfl) rfl rfl) ?_
  refine TL.known 45 (c := false) (by simp) rfl ?_
  refine TL.pk false (pB false) ?_
  refine TL.nil ?_
  refine T.cond (b := false) rfl (fun h5_ => absurd h5_ (by simp)) (fun h5_ => ?_)
  refine T.skip ?_
  refine T.seq ?_
  refine T.seq ?_
  refine T.region ?_
  refine TL.mv (.one (.row 1030 [])) ?_
  refine TL.mv (.one (.d (.sl 5 (aV.map SVote.cells)))) ?_
  refine TL.c (Step.cl (xs := [.tmp 48]) (ps := [(.one (.d (.sl 5 (aV.map SVote.cells))))]) (g := .func 36) false (.cons (.one (.d _)) .nil) (ok_laws_toVoteS aV (by first | assumption | exact ⟨‹_›, ‹_›⟩ | exact mem_getD h0_.2 (by omega)))) ?_
  refine TL.c (Step.cl (xs := [.tmp 47, .tmp 49]) (ps := [(.one (.row 1030 [])), (.one (.row 1049 []))]) (g := .func 19) false (.cons (.one (.row rfl rfl rfl rfl)) (.cons (.one (.row rfl rfl rfl rfl)) .nil)) (ok_laws_eqVoteS aV aV)) ?_
  refine TL.known 50 (c := true) (by simp) rfl ?_
  refine TL.c (Step.not (b := true) rfl rfl (lt_ok rfl) rfl) ?_
  refine TL.nil ?_
  refine T.cond (b := false) rfl (fun h6_ => absurd h6_ (by simp)) (fun h6_ => ?_)
  refine T.skip ?_
  refine T.seq ?_
  refine T.region ?_
  refine TL.as (pI 1) ?_
  refine TL.nil ?_
  refine T.seq ?_
  refine T.region ?_
  refine TL.mv (.one (.row 1030 [])) ?_
  refine TL.mv (pI 1) ?_
  have nn7 := cntL_nonneg SVote.ce_nn aV
  refine TL.c (Step.callM2 (xs := [.tmp 52, .tmp 53]) (ps := [(.one (.row 1030 [])), (pI 1)]) (js := [(1030, (.sl 5 ((mkL SVote.ce SVote.me aV 1).map SVote.cells)))]) (g := .func 22) (ok_laws_markVoteS aV 1 (by omega) (by first | omega | (have := SVote.cL_le (xs := aV) (by assumption); omega))) rfl rfl (lt_ok rfl) rfl (by kernel_rfl) rfl rfl (.row (T := 64) (d := (.sl 5 (aV.map SVote.cells))) (e' := (.sl 5 ((mkL SVote.ce SVote.me aV 1).map SVote.cells))) (d' := (.sl 5 ((mkL SVote.ce SVote.me aV 1).map SVote.cells))) rfl rfl rfl rfl rfl (by simp [D.size, mkL_length]) rfl rfl (.d .nil)) rfl) ?_
  refine TL.as (pI (1 + cntL SVote.ce aV)) ?_
  refine TL.nil ?_
  refine T.seq ?_
  refine T.seq ?_
  refine T.region ?_
  refine TL.mv (pI (1 + cntL SVote.ce aV)) ?_
  refine TL.c (Step.bin rfl rfl (lt_ok rfl) rfl rfl (Bin.lss (k := .i64) (a := (1 + cntL SVote.ce aV)) (b := 0))) ?_
  refine TL.known 56 (c := false) (decide_eq_false (by omega)) rfl ?_
  refine TL.mv (pB false) ?_
  refine TL.gy 57 (Step.load_box_agg (n := 5) (qs := [cI (qcFrom aL aV).f0, cI (qcFrom aL aV).f1, .row 3035 [], .row 4035 [], .row 5035 []]) rfl rfl (lt_ok rfl) (by kernel_rfl) rfl rfl rfl rfl) ?_
  refine TL.gy 57 (Step.load_box_agg (n := 5) (qs := [cI (qcFrom aL aV).f0, cI (qcFrom aL aV).f1, .row 3026 [], .row 4026 [], .row 5026 []]) rfl rfl (lt_ok rfl) (by kernel_rfl) rfl rfl rfl rfl) ?_
  refine TL.gy 57 (Step.cl (xs := [.tmp 58, .tmp 59]) (ps := [(.agg [cI (qcFrom aL aV).f0, cI (qcFrom aL aV).f1, .row 3035 [], .row 4035 [], .row 5035 []]), (.agg [cI (qcFrom aL aV).f0, cI (qcFrom aL aV).f1, .row 3026 [], .row 4026 [], .row 5026 []])]) (g := .func 20) false (.cons (.agg (.cons (.d _) (.cons (.d _) (.cons (.row rfl rfl rfl rfl) (.cons (.row rfl rfl rfl rfl) (.cons (.row rfl rfl rfl rfl) .nil)))))) (.cons (.agg (.cons (.d _) (.cons (.d _) (.cons (.row rfl rfl rfl rfl) (.cons (.row rfl rfl rfl rfl) (.cons (.row rfl rfl rfl rfl) .nil)))))) .nil)) (ok_laws_eqQc (qcFrom aL aV) (qcFrom aL aV))) ?_
  refine TL.known 60 (c := true) (by simp) rfl ?_
  refine TL.gy 57 (Step.not (b := true) rfl rfl (lt_ok rfl) rfl) ?_
  refine TL.pk false (pB false) ?_
  refine TL.mv (pB false) ?_
  refine TL.gm 63 (pB (qcFromOk aL aV)) ?_
  refine TL.gm 63 (pB (qcFromOk aL aV)) ?_
  refine TL.gy 63 (Step.bneq (b := (qcFromOk aL aV)) (c := (qcFromOk aL aV)) rfl rfl (lt_ok rfl) (by kernel_rfl) rfl rfl) ?_
  refine TL.known 66 (c := false) (by simp) rfl ?_
  refine TL.pk false (pB false) ?_
  refine TL.nil ?_
  refine T.cond (b := false) rfl (fun h8_ => absurd h8_ (by simp)) (fun h8_ => ?_)
  refine T.skip ?_
  refine T.seq ?_
  refine T.region ?_
  refine TL.as (pI 1) ?_
  refine TL.nil ?_
  refine T.seq ?_
  refine T.region ?_
  refine TL.c (Step.load_box_agg (n := 5) (qs := [cI (qcFrom aL aV).f0, cI (qcFrom aL aV).f1, .row 3035 [], .row 4035 [], .row 5035 []]) rfl rfl (lt_ok rfl) (by kernel_rfl) rfl rfl rfl rfl) ?_
  refine TL.mv (pI 1) ?_
  have nn9 := SQc.cm_nn (qcFrom aL aV)
  refine TL.c (Step.callM2 (xs := [.tmp 68, .tmp 69]) (ps := [(.agg [cI (qcFrom aL aV).f0, cI (qcFrom aL aV).f1, .row 3035 [], .row 4035 [], .row 5035 []]), (pI 1)]) (js := [(3035, (.ints .u8 (mkB (qcFrom aL aV).f2 1))), (4035, (.ints .u8 (mkB (qcFrom aL aV).f3 (1 + ((qcFrom aL aV).f2.length : Int))))), (5035, (.bss (mkBs (qcFrom aL aV).f4 ((1 + ((qcFrom aL aV).f2.length : Int)) + ((qcFrom aL aV).f3.length : Int)))))]) (g := .func 21) (ok_laws_markQc (qcFrom aL aV) 1 (by omega) (by first | omega | (have := SQc.cm_le (x := (qcFrom aL aV)) (by assumption); omega))) rfl rfl (lt_ok rfl) rfl (by kernel_rfl) rfl rfl (.d (.d (.row (T := 5) (d := (.ints .u8 (qcFrom aL aV).f2)) (e' := (.ints .u8 (mkB (qcFrom aL aV).f2 1))) (d' := (.ints .u8 (mkB (qcFrom aL aV).f2 1))) rfl rfl rfl rfl rfl (by simp [D.size, mkL_length]) rfl rfl (.row (T := 5) (d := (.ints .u8 (qcFrom aL aV).f3)) (e' := (.ints .u8 (mkB (qcFrom aL aV).f3 (1 + ((qcFrom aL aV).f2.length : Int))))) (d' := (.ints .u8 (mkB (qcFrom aL aV).f3 (1 + ((qcFrom aL aV).f2.length : Int))))) rfl rfl rfl rfl rfl (by simp [D.size, mkL_length]) rfl rfl (.row (T := 22) (d := (.bss (qcFrom aL aV).f4)) (e' := (.bss (mkBs (qcFrom aL aV).f4 ((1 + ((qcFrom aL aV).f2.length : Int)) + ((qcFrom aL aV).f3.length : Int))))) (d' := (.bss (mkBs (qcFrom aL aV).f4 ((1 + ((qcFrom aL aV).f2.length : Int)) + ((qcFrom aL aV).f3.length : Int))))) rfl rfl rfl rfl rfl (by simp [D.size, mkL_length]) rfl rfl (.d .nil)))))) rfl) ?_
  refine TL.as (pI (1 + (qcFrom aL aV).cm)) ?_
  refine TL.nil ?_
  refine T.seq ?_
  refine T.region ?_
  refine TL.as (pI 1) ?_
  refine TL.nil ?_
  refine T.seq ?_
  refine T.region ?_
  refine TL.c (Step.load_box_agg (n := 5) (qs := [cI (qcFrom aL aV).f0, cI (qcFrom aL aV).f1, .row 3035 [], .row 4035 [], .row 5035 []]) rfl rfl (lt_ok rfl) (by kernel_rfl) rfl rfl rfl rfl) ?_
  refine TL.mv (pI 1) ?_
  have nn10 := SQc.cm_nn (qcFrom aL aV)
  refine TL.c (Step.cl (xs := [.tmp 71, .tmp 72]) (ps := [(.agg [cI (qcFrom aL aV).f0, cI (qcFrom aL aV).f1, .row 3035 [], .row 4035 [], .row 5035 []]), (pI 1)]) (g := .func 38) false (.cons (.agg (.cons (.d _) (.cons (.d _) (.cons (.row rfl rfl rfl rfl) (.cons (.row rfl rfl rfl rfl) (.cons (.row rfl rfl rfl rfl) .nil)))))) (.cons (.one (.d _)) .nil)) (ok_laws_heldQc (qcFrom aL aV) (⟨(qcFrom aL aV).f0, (qcFrom aL aV).f1, mkB (qcFrom aL aV).f2 1, mkB (qcFrom aL aV).f3 (1 + ((qcFrom aL aV).f2.length : Int)), mkBs (qcFrom aL aV).f4 ((1 + ((qcFrom aL aV).f2.length : Int)) + ((qcFrom aL aV).f3.length : Int))⟩ : SQc) 1 (by omega) (by first | omega | (have := SQc.cm_le (x := (qcFrom aL aV)) (by assumption); omega)) (by first | rfl | assumption | (repeat' (first | rfl | apply And.intro))))) ?_
  refine TL.as (pI (1 + (qcFrom aL aV).cm)) ?_
  refine TL.nil ?_
  refine T.weaken (E' := { tm := [(1, (.one (.d (.sl 5 (aV.map SVote.cells))))), (2, (.one (.ptr 2 0))), (4, (pB false)), (6, (.one (.ptr 6 0))), (7, (pB (qcFromOk aL aV))), (9, (.one (.ptr 9 0))), (12, (pI (1 + (qcFrom aL aV).cm))), (13, (pI (1 + (qcFrom aL aV).cm)))], rows := [(3026, (5, (.ints .u8 (qcFrom aL aV).f2))), (4026, (5, (.ints .u8 (qcFrom aL aV).f3))), (5026, (22, (.bss (qcFrom aL aV).f4))), (3035, (5, (.ints .u8 (mkB (qcFrom aL aV).f2 1)))), (4035, (5, (.ints .u8 (mkB (qcFrom aL aV).f3 (1 + ((qcFrom aL aV).f2.length : Int)))))), (5035, (22, (.bss (mkBs (qcFrom aL aV).f4 ((1 + ((qcFrom aL aV).f2.length : Int)) + ((qcFrom aL aV).f3.length : Int))))))], boxes := [(9, (29, [cI (qcFrom aL aV).f0, cI (qcFrom aL aV).f1, .row 3035 [], .row 4035 [], .row 5035 []])), (2, (37, [cI aL.f0, cI aL.f1, cI aL.f2, cI aL.f3, cI aL.f4])), (6, (29, [cI (qcFrom aL aV).f0, cI (qcFrom aL aV).f1, .row 3026 [], .row 4026 [], .row 5026 []]))] }) (Env.le_mk ⟨by kernel_rfl, by kernel_rfl, by kernel_rfl, by kernel_rfl, by kernel_rfl, by kernel_rfl, by kernel_rfl, by kernel_rfl, trivial⟩ ⟨by kernel_rfl, by kernel_rfl, by kernel_rfl, by kernel_rfl, by kernel_rfl, by kernel_rfl, trivial⟩ ⟨by kernel_rfl, by kernel_rfl, by kernel_rfl, trivial⟩) ?_
  refine T.seq ?_
  refine T.seq ?_
  refine T.region ?_
  refine TL.mv (pI (1 + (qcFrom aL aV).cm)) ?_
  refine TL.c (Step.bin rfl rfl (lt_ok rfl) rfl rfl (Bin.lss (k := .i64) (a := (1 + (qcFrom aL aV).cm)) (b := 0))) ?_
  refine TL.known 75 (c := false) (decide_eq_false (by omega)) rfl ?_
  refine TL.nil ?_
  refine T.cond (b := false) rfl (fun h11_ => absurd h11_ (by simp)) (fun h11_ => ?_)
  refine T.skip ?_
  refine T.seq ?_
  refine T.seq ?_
  refine T.region ?_
  refine TL.mv (pI (1 + (qcFrom aL aV).cm)) ?_
  refine TL.mv (pI (1 + (qcFrom aL aV).cm)) ?_
  refine TL.c (Step.bin rfl rfl (lt_ok rfl) rfl rfl (Bin.neq (k := .i64) (a := (1 + (qcFrom aL aV).cm)) (b := (1 + (qcFrom aL aV).cm)))) ?_
  refine TL.known 78 (c := false) (by simp) rfl ?_
  refine TL.nil ?_
  refine T.cond (b := false) rfl (fun h12_ => absurd h12_ (by simp)) (fun h12_ => ?_)
  refine T.skip ?_
  refine T.seq ?_
  refine T.region ?_
  refine TL.c (Step.load_box_agg (n := 5) (qs := [cI aL.f0, cI aL.f1, cI aL.f2, cI aL.f3, cI aL.f4]) rfl rfl (lt_ok rfl) (by kernel_rfl) rfl rfl rfl rfl) ?_
  refine TL.c (Step.cl (xs := [.tmp 80]) (ps := [(.agg [cI aL.f0, cI aL.f1, cI aL.f2, cI aL.f3, cI aL.f4])]) (g := .func 26) false (.cons (.agg (.cons (.d _) (.cons (.d _) (.cons (.d _) (.cons (.d _) (.cons (.d _) .nil)))))) .nil) (ok_laws_toLimits aL)) ?_
  refine TL.mv (.one (.d (.sl 5 (aV.map SVote.cells)))) ?_
  refine TL.c (Step.cl (xs := [.tmp 82]) (ps := [(.one (.d (.sl 5 (aV.map SVote.cells))))]) (g := .func 36) false (.cons (.one (.d _)) .nil) (ok_laws_toVoteS aV (by first | assumption | exact ⟨‹_›, ‹_›⟩ | exact mem_getD h0_.2 (by omega)))) ?_
  have nn13 := @qcFrom_sm aL aV (by assumption) (by assumption)
  refine TL.c (Step.cl (xs := [.tmp 81, .tmp 83]) (ps := [(.agg [cI aL.f0, cI aL.f1, cI aL.f2, cI aL.f3, cI aL.f4]), (.one (.row 1083 []))]) (g := .func 37) false (.cons (.agg (.cons (.d _) (.cons (.d _) (.cons (.d _) (.cons (.d _) (.cons (.d _) .nil)))))) (.cons (.one (.row rfl rfl rfl rfl)) .nil)) (ok_impl_QcFrom aL aV (by assumption) (by first | assumption | omega) (by assumption) (by first | assumption | exact h0_.1 | exact (‹l.ok›).1))) ?_
  refine TL.mv (.tup [(true, [cI (qcFrom aL aV).f0, cI (qcFrom aL aV).f1, .row 3084 [], .row 4084 [], .row 5084 []]), (false, [.d (.bool (qcFromOk aL aV))])]) ?_
  refine TL.c (Step.extract (p := (.agg [cI (qcFrom aL aV).f0, cI (qcFrom aL aV).f1, .row 3084 [], .row 4084 [], .row 5084 []])) rfl rfl (lt_ok rfl) rfl rfl) ?_
  refine TL.c (Step.extract (p := (pB (qcFromOk aL aV))) rfl rfl (lt_ok rfl) rfl rfl) ?_
  refine TL.c (Step.alloc (cs := [.int .i64 0, .int .i64 0, .slice none 0 0, .slice none 0 0, .slice none 0 0]) (ps := [cI 0, cI 0, .nil, .nil, .nil]) rfl rfl (lt_ok rfl) (by kernel_rfl) rfl rfl rfl rfl) ?_
  refine TL.c (Step.store_box (n := 5) (p := (.agg [cI (qcFrom aL aV).f0, cI (qcFrom aL aV).f1, .row 3084 [], .row 4084 [], .row 5084 []])) (qs := [cI (qcFrom aL aV).f0, cI (qcFrom aL aV).f1, .row 3084 [], .row 4084 [], .row 5084 []]) (ps' := [cI (qcFrom aL aV).f0, cI (qcFrom aL aV).f1, .row 3084 [], .row 4084 [], .row 5084 []]) rfl rfl (by kernel_rfl) rfl rfl rfl rfl rfl rfl (le_ok rfl) rfl) ?_
  refine TL.as (pB (qcFromOk aL aV)) ?_
  refine TL.nil ?_
  refine T.seq ?_
  refine T.seq ?_
  refine T.region ?_
  refine TL.c (Step.load_box_agg (n := 5) (qs := [cI (qcFrom aL aV).f0, cI (qcFrom aL aV).f1, .row 3084 [], .row 4084 [], .row 5084 []]) rfl rfl (lt_ok rfl) (by kernel_rfl) rfl rfl rfl rfl) ?_
  refine TL.c (Step.load_box_agg (n := 5) (qs := [cI (qcFrom aL aV).f0, cI (qcFrom aL aV).f1, .row 3026 [], .row 4026 [], .row 5026 []]) rfl rfl (lt_ok rfl) (by kernel_rfl) rfl rfl rfl rfl) ?_
  refine TL.c (Step.cl (xs := [.tmp 87, .tmp 88]) (ps := [(.agg [cI (qcFrom aL aV).f0, cI (qcFrom aL aV).f1, .row 3084 [], .row 4084 [], .row 5084 []]), (.agg [cI (qcFrom aL aV).f0, cI (qcFrom aL aV).f1, .row 3026 [], .row 4026 [], .row 5026 []])]) (g := .func 20) false (.cons (.agg (.cons (.d _) (.cons (.d _) (.cons (.row rfl rfl rfl rfl) (.cons (.row rfl rfl rfl rfl) (.cons (.row rfl rfl rfl rfl) .nil)))))) (.cons (.agg (.cons (.d _) (.cons (.d _) (.cons (.row rfl rfl rfl rfl) (.cons (.row rfl rfl rfl rfl) (.cons (.row rfl rfl rfl rfl) .nil)))))) .nil)) (ok_laws_eqQc (qcFrom aL aV) (qcFrom aL aV))) ?_
  refine TL.known 89 (c := true) (by simp) rfl ?_
  refine TL.c (Step.not (b := true) rfl rfl (lt_ok rfl) rfl) ?_
  refine TL.mv (pB false) ?_
  refine TL.gm 91 (pB (qcFromOk aL aV)) ?_
  refine TL.gm 91 (pB (qcFromOk aL aV)) ?_
  refine TL.gy 91 (Step.bneq (b := (qcFromOk aL aV)) (c := (qcFromOk aL aV)) rfl rfl (lt_ok rfl) (by kernel_rfl) rfl rfl) ?_
  refine TL.known 94 (c := false) (by simp) rfl ?_
  refine TL.pk false (pB false) ?_
  refine TL.nil ?_
  refine T.cond (b := false) rfl (fun h14_ => absurd h14_ (by simp)) (fun h14_ => ?_)
  refine T.skip ?_
  refine T.seq ?_
  refine T.region ?_
  refine TL.as (pI 1) ?_
  refine TL.nil ?_
  refine T.seq ?_
  refine T.region ?_
  refine TL.c (Step.load_box_agg (n := 5) (qs := [cI (qcFrom aL aV).f0, cI (qcFrom aL aV).f1, .row 3035 [], .row 4035 [], .row 5035 []]) rfl rfl (lt_ok rfl) (by kernel_rfl) rfl rfl rfl rfl) ?_
  refine TL.mv (pI 1) ?_
  have nn15 := SQc.cm_nn (qcFrom aL aV)
  refine TL.c (Step.cl (xs := [.tmp 96, .tmp 97]) (ps := [(.agg [cI (qcFrom aL aV).f0, cI (qcFrom aL aV).f1, .row 3035 [], .row 4035 [], .row 5035 []]), (pI 1)]) (g := .func 38) false (.cons (.agg (.cons (.d _) (.cons (.d _) (.cons (.row rfl rfl rfl rfl) (.cons (.row rfl rfl rfl rfl) (.cons (.row rfl rfl rfl rfl) .nil)))))) (.cons (.one (.d _)) .nil)) (ok_laws_heldQc (qcFrom aL aV) (⟨(qcFrom aL aV).f0, (qcFrom aL aV).f1, mkB (qcFrom aL aV).f2 1, mkB (qcFrom aL aV).f3 (1 + ((qcFrom aL aV).f2.length : Int)), mkBs (qcFrom aL aV).f4 ((1 + ((qcFrom aL aV).f2.length : Int)) + ((qcFrom aL aV).f3.length : Int))⟩ : SQc) 1 (by omega) (by first | omega | (have := SQc.cm_le (x := (qcFrom aL aV)) (by assumption); omega)) (by first | rfl | assumption | (repeat' (first | rfl | apply And.intro))))) ?_
  refine TL.as (pI (1 + (qcFrom aL aV).cm)) ?_
  refine TL.nil ?_
  refine T.weaken (E' := { tm := [(4, (pB false)), (12, (pI (1 + (qcFrom aL aV).cm))), (13, (pI (1 + (qcFrom aL aV).cm)))], rows := [], boxes := [] }) (Env.le_mk ⟨by kernel_rfl, by kernel_rfl, by kernel_rfl, trivial⟩ trivial trivial) ?_
  refine T.seq ?_
  refine T.seq ?_
  refine T.region ?_
  refine TL.mv (pI (1 + (qcFrom aL aV).cm)) ?_
  refine TL.c (Step.bin rfl rfl (lt_ok rfl) rfl rfl (Bin.lss (k := .i64) (a := (1 + (qcFrom aL aV).cm)) (b := 0))) ?_
  refine TL.known 100 (c := false) (decide_eq_false (by omega)) rfl ?_
  refine TL.nil ?_
  refine T.cond (b := false) rfl (fun h16_ => absurd h16_ (by simp)) (fun h16_ => ?_)
  refine T.skip ?_
  refine T.seq ?_
  refine T.seq ?_
  refine T.region ?_
  refine TL.mv (pI (1 + (qcFrom aL aV).cm)) ?_
  refine TL.mv (pI (1 + (qcFrom aL aV).cm)) ?_
  refine TL.c (Step.bin rfl rfl (lt_ok rfl) rfl rfl (Bin.neq (k := .i64) (a := (1 + (qcFrom aL aV).cm)) (b := (1 + (qcFrom aL aV).cm)))) ?_
  refine TL.known 103 (c := false) (by simp) rfl ?_
  refine TL.nil ?_
  refine T.cond (b := false) rfl (fun h17_ => absurd h17_ (by simp)) (fun h17_ => ?_)
  refine T.skip ?_
  refine T.seq ?_
  refine T.region ?_
  refine TL.as (pB true) ?_
  refine TL.nil ?_
  refine T.ret ?_
  exact ⟨[(false, [.d (.bool true)])], (.cons rfl .nil), rfl, [], (RetC.rd' rfl .nil)⟩
end Go.Proofs.Ythaagegnobegjaa.Rf
