/- The functions that FnExactQcVotes calls, each held to what it answers. Printed by a program of this session; Lean checks it. -/
import Derived.Test.YthaagegnobegjaaProg
import Derived.Test.YthaagegnobegjaaRf26
import Derived.Test.YthaagegnobegjaaRFnExactQcVotesx0
namespace Go.Proofs.Ythaagegnobegjaa.Rf
open Go.RowKit
set_option linter.unusedVariables false
set_option linter.unnecessarySimpa false
set_option linter.unusedSimpArgs false
set_option maxRecDepth 100000
set_option maxHeartbeats 4000000
theorem ok_laws_FnExactQcVotes (aQ : SQc) (h0_ : aQ.ok) : RO Try.prog 3 [.agg aQ.cells] [(false, [.rd (.bool true)])] := by
 refine RO.intro Try.func3 rfl 69 rfl (le_ok rfl) fun w Z => ?_
 refine T.seq ?_
 refine T.region ?_
 refine TL.cons rfl (Step.box (p := (.agg [.d (.int .i64 aQ.f0), .d (.int .i64 aQ.f1), .d (.ints .u8 aQ.f2), .d (.ints .u8 aQ.f3), .d (.bss aQ.f4)])) (ps := [.d (.int .i64 aQ.f0), .d (.int .i64 aQ.f1), .d (.ints .u8 aQ.f2), .d (.ints .u8 aQ.f3), .d (.bss aQ.f4)]) rfl rfl (lt_ok rfl) rfl rfl rfl rfl rfl) ?_
 refine TL.cons rfl (Step.assign (p := (.one (.d (.bool false)))) rfl rfl (lt_ok rfl) rfl) ?_
 refine TL.nil ?_
 refine T.seq ?_
 refine T.region ?_
 refine TL.cons rfl (Step.assign (p := (.one (.d (.int .i64 1048576)))) rfl rfl (lt_ok rfl) rfl) ?_
 refine TL.nil ?_
 refine T.seq ?_
 refine T.region ?_
 refine TL.cons rfl (Step.load_box_agg (n := 5) (qs := [.d (.int .i64 aQ.f0), .d (.int .i64 aQ.f1), .d (.ints .u8 aQ.f2), .d (.ints .u8 aQ.f3), .d (.bss aQ.f4)]) rfl rfl (lt_ok rfl) (by kernel_rfl) rfl rfl rfl rfl) ?_
 refine TL.cons rfl (Step.move (p := (.one (.d (.int .i64 1048576)))) rfl rfl (lt_ok rfl) rfl) ?_
 refine TL.cons rfl (Step.call (f := 15) (xs := [.tmp 11, .tmp 12]) (ps := [(.agg [.d (.int .i64 aQ.f0), .d (.int .i64 aQ.f1), .d (.ints .u8 aQ.f2), .d (.ints .u8 aQ.f3), .d (.bss aQ.f4)]), (.one (.d (.int .i64 1048576)))]) false (g := .func 15) rfl rfl (lt_ok rfl) rfl (by kernel_rfl) rfl (.cons (.agg (.cons (.d _) (.cons (.d _) (.cons (.d _) (.cons (.d _) (.cons (.d _) .nil)))))) (.cons (.one (.d _)) .nil)) (ok_laws_szQc aQ 1048576 (by omega) (by omega)) (.inr rfl) rfl (by simp) rfl) ?_
 refine TL.cons rfl (Step.assign (p := (.one (.d (.int .i64 (aQ.sz 1048576))))) rfl rfl (lt_ok rfl) rfl) ?_
 refine TL.nil ?_
 refine T.seq ?_
 refine T.seq ?_
 refine T.region ?_
 refine TL.cons rfl (Step.move (p := (.one (.d (.int .i64 (aQ.sz 1048576))))) rfl rfl (lt_ok rfl) rfl) ?_
 refine TL.cons rfl (Step.bin rfl rfl (lt_ok rfl) rfl rfl (Bin.lss (k := .i64) (a := (aQ.sz 1048576)) (b := 0))) ?_
 refine TL.nil ?_
 refine T.cond (b := decide ((aQ.sz 1048576) < 0)) rfl (fun h2 => ?_) (fun h2 => ?_)
 ·
  replace h2 := of_decide_eq_true h2
  refine T.seq ?_
  refine T.region ?_
  refine TL.cons rfl (Step.assign (p := (.one (.d (.bool true)))) rfl rfl (lt_ok rfl) rfl) ?_
  refine TL.nil ?_
  refine T.ret ?_
  exact ⟨[(false, [.d (.bool true)])], (.cons rfl .nil), rfl, [], (RetC.rd' (by rfl) .nil)⟩
 ·
  replace h2 := of_decide_eq_false h2
  have z1_le : aQ.sz 1048576 ≤ 1048576 := SQc.sz_le _ (by omega)
  have z1_sm := SQc.sz_sm _ (by omega : (0 : Int) ≤ 1048576) (by omega : (1048576 : Int) ≤ 1048576) (by omega : (0 : Int) ≤ aQ.sz 1048576)
  have osm := qcVotes_sm z1_sm
  refine T.skip ?_
  refine T.seq ?_
  refine T.region ?_
  refine TL.cons rfl (Step.load_box_agg (n := 5) (qs := [.d (.int .i64 aQ.f0), .d (.int .i64 aQ.f1), .d (.ints .u8 aQ.f2), .d (.ints .u8 aQ.f3), .d (.bss aQ.f4)]) rfl rfl (lt_ok rfl) (by kernel_rfl) rfl rfl rfl rfl) ?_
  refine TL.cons rfl (Step.call (f := 17) (xs := [.tmp 16]) (ps := [(.agg [.d (.int .i64 aQ.f0), .d (.int .i64 aQ.f1), .d (.ints .u8 aQ.f2), .d (.ints .u8 aQ.f3), .d (.bss aQ.f4)])]) false (g := .func 17) rfl rfl (lt_ok rfl) rfl (by kernel_rfl) rfl (.cons (.agg (.cons (.d _) (.cons (.d _) (.cons (.d _) (.cons (.d _) (.cons (.d _) .nil)))))) .nil) (ok_laws_toQc aQ (by first | assumption | exact ⟨‹_›, ‹_›⟩ | (refine mem_getD (p := SQc.sm) h0_.2 (by omega)) | exact mem_getD h0_.2 (by omega))) (.inr rfl) rfl (by simp) rfl) ?_
  refine TL.cons rfl (Step.call (f := 16) (xs := [.tmp 17]) (ps := [(.agg [.d (.int .i64 aQ.f0), .d (.int .i64 aQ.f1), .row 3017 [], .row 4017 [], .row 5017 []])]) false (g := .func 16) rfl rfl (lt_ok rfl) rfl (by kernel_rfl) rfl (.cons (.agg (.cons (.d _) (.cons (.d _) (.cons (.row rfl rfl rfl rfl) (.cons (.row rfl rfl rfl rfl) (.cons (.row rfl rfl rfl rfl) .nil)))))) .nil) (ok_spec_QcVotes aQ (by assumption) (by assumption)) (.inr rfl) rfl (by simp) rfl) ?_
  refine TL.cons rfl (Step.assign (p := (.one (.row 1018 []))) rfl rfl (lt_ok rfl) rfl) ?_
  refine TL.nil ?_
  refine T.seq ?_
  refine T.region ?_
  refine TL.cons rfl (Step.load_box_agg (n := 5) (qs := [.d (.int .i64 aQ.f0), .d (.int .i64 aQ.f1), .d (.ints .u8 aQ.f2), .d (.ints .u8 aQ.f3), .d (.bss aQ.f4)]) rfl rfl (lt_ok rfl) (by kernel_rfl) rfl rfl rfl rfl) ?_
  refine TL.cons rfl (Step.call (f := 17) (xs := [.tmp 19]) (ps := [(.agg [.d (.int .i64 aQ.f0), .d (.int .i64 aQ.f1), .d (.ints .u8 aQ.f2), .d (.ints .u8 aQ.f3), .d (.bss aQ.f4)])]) false (g := .func 17) rfl rfl (lt_ok rfl) rfl (by kernel_rfl) rfl (.cons (.agg (.cons (.d _) (.cons (.d _) (.cons (.d _) (.cons (.d _) (.cons (.d _) .nil)))))) .nil) (ok_laws_toQc aQ (by first | assumption | exact ⟨‹_›, ‹_›⟩ | (refine mem_getD (p := SQc.sm) h0_.2 (by omega)) | exact mem_getD h0_.2 (by omega))) (.inr rfl) rfl (by simp) rfl) ?_
  refine TL.cons rfl (Step.alloc (cs := [.int .i64 0, .int .i64 0, .slice none 0 0, .slice none 0 0, .slice none 0 0]) (ps := [.d (.int .i64 0), .d (.int .i64 0), .nil, .nil, .nil]) rfl rfl (lt_ok rfl) (by kernel_rfl) rfl rfl rfl rfl) ?_
  refine TL.cons rfl (Step.store_box (n := 5) (p := (.agg [.d (.int .i64 aQ.f0), .d (.int .i64 aQ.f1), .row 3020 [], .row 4020 [], .row 5020 []])) (qs := [.d (.int .i64 aQ.f0), .d (.int .i64 aQ.f1), .row 3020 [], .row 4020 [], .row 5020 []]) (ps' := [.d (.int .i64 aQ.f0), .d (.int .i64 aQ.f1), .row 3020 [], .row 4020 [], .row 5020 []]) rfl rfl (by kernel_rfl) rfl rfl rfl rfl rfl rfl (le_ok rfl) rfl) ?_
  refine TL.nil ?_
  refine T.seq ?_
  refine T.region ?_
  refine TL.cons rfl (Step.load_box_agg (n := 5) (qs := [.d (.int .i64 aQ.f0), .d (.int .i64 aQ.f1), .row 3020 [], .row 4020 [], .row 5020 []]) rfl rfl (lt_ok rfl) (by kernel_rfl) rfl rfl rfl rfl) ?_
  refine TL.cons rfl (Step.call (f := 18) (xs := [.tmp 21]) (ps := [(.agg [.d (.int .i64 aQ.f0), .d (.int .i64 aQ.f1), .row 3020 [], .row 4020 [], .row 5020 []])]) false (g := .func 18) rfl rfl (lt_ok rfl) rfl (by kernel_rfl) rfl (.cons (.agg (.cons (.d _) (.cons (.d _) (.cons (.row rfl rfl rfl rfl) (.cons (.row rfl rfl rfl rfl) (.cons (.row rfl rfl rfl rfl) .nil)))))) .nil) (ok_impl_QcVotes aQ (by assumption) (by assumption)) (.inr rfl) rfl (by simp) rfl) ?_
  refine TL.cons rfl (Step.assign (p := (.one (.row 1022 []))) rfl rfl (lt_ok rfl) rfl) ?_
  refine TL.nil ?_
  refine T.seq ?_
  refine T.seq ?_
  refine T.region ?_
  refine TL.cons rfl (Step.move (p := (.one (.row 1022 []))) rfl rfl (lt_ok rfl) rfl) ?_
  refine TL.cons rfl (Step.move (p := (.one (.row 1018 []))) rfl rfl (lt_ok rfl) rfl) ?_
  refine TL.cons rfl (Step.call (f := 19) (xs := [.tmp 23, .tmp 24]) (ps := [(.one (.row 1022 [])), (.one (.row 1018 []))]) false (g := .func 19) rfl rfl (lt_ok rfl) rfl (by kernel_rfl) rfl (.cons (.one (.row rfl rfl rfl rfl)) (.cons (.one (.row rfl rfl rfl rfl)) .nil)) (ok_laws_eqVoteS (qcVotes aQ) (qcVotes aQ)) (.inr rfl) rfl (by simp) rfl) ?_
  refine TL.known 25 (c := true) (by simp) rfl ?_
  refine TL.cons rfl (Step.not (b := true) rfl rfl (lt_ok rfl) rfl) ?_
  refine TL.nil ?_
  refine T.cond (b := false) rfl (fun h3_ => absurd h3_ (by simp)) (fun h3_ => ?_)
  refine T.skip ?_
  refine T.seq ?_
  refine T.seq ?_
  refine T.draw [⟨27, (.agg [.d (.int .i64 aQ.f0), .d (.int .i64 aQ.f1), .row 3020 [], .row 4020 [], .row 5020 []]), []⟩, ⟨28, (.agg [.d (.int .i64 aQ.f0), .d (.int .i64 aQ.f1), .d (.ints .u8 aQ.f2), .d (.ints .u8 aQ.f3), .d (.bss aQ.f4)]), []⟩, ⟨29, (.agg [.d (.int .i64 aQ.f0), .d (.int .i64 aQ.f1), .row 3029 [], .row 4029 [], .row 5029 []]), [(5029, (22, (.bss aQ.f4))), (4029, (5, (.ints .u8 aQ.f3))), (3029, (5, (.ints .u8 aQ.f2)))]⟩, ⟨30, (.one (.d (.bool true))), []⟩, ⟨31, (.one (.d (.bool false))), []⟩] (by kernel_rfl) (by kernel_rfl) ?_ ?_
  ·
   refine .cons (fun E hA_ => by have g5 := hA_.get 5 (by decide); exact OpStep.plain rfl (Step.load_box_agg (n := 5) (qs := [.d (.int .i64 aQ.f0), .d (.int .i64 aQ.f1), .row 3020 [], .row 4020 [], .row 5020 []]) (t := 27) rfl rfl (by exact lt_ok rfl) (by kernel_rfl) (show Env.ev E (.tmp 5) = _ from g5.trans rfl) (by exact hA_.box rfl) rfl rfl)) ?_
   refine .cons (fun E hA_ => by have g1 := hA_.get 1 (by decide); exact OpStep.plain rfl (Step.load_box_agg (n := 5) (qs := [.d (.int .i64 aQ.f0), .d (.int .i64 aQ.f1), .d (.ints .u8 aQ.f2), .d (.ints .u8 aQ.f3), .d (.bss aQ.f4)]) (t := 28) rfl rfl (by exact lt_ok rfl) (by kernel_rfl) (show Env.ev E (.tmp 1) = _ from g1.trans rfl) (by exact hA_.box rfl) rfl rfl)) ?_
   refine .cons (fun E hA_ => by have g28 := hA_.get 28 (by decide); exact OpStep.plain rfl (Step.call (f := 17) (xs := [.tmp 28]) (ps := [(.agg [.d (.int .i64 aQ.f0), .d (.int .i64 aQ.f1), .d (.ints .u8 aQ.f2), .d (.ints .u8 aQ.f3), .d (.bss aQ.f4)])]) false (g := .func 17) (t := 29) rfl rfl (by exact lt_ok rfl) rfl (by kernel_rfl) (evs_cons (show Env.ev E (.tmp 28) = _ from g28.trans rfl) (rfl)) (.cons (.agg (.cons (.d _) (.cons (.d _) (.cons (.d _) (.cons (.d _) (.cons (.d _) .nil)))))) .nil) (ok_laws_toQc aQ (by first | assumption | exact ⟨‹_›, ‹_›⟩ | (refine mem_getD (p := SQc.sm) h0_.2 (by omega)) | exact mem_getD h0_.2 (by omega))) (.inr rfl) (At.freshRows hA_ rfl) (by simp) rfl)) ?_
   refine .cons (fun E hA_ => by have g27 := hA_.get 27 (by decide); have g29 := hA_.get 29 (by decide); exact OpStep.plain rfl (Step.to (E1 := E.set 30 (.one (.d (.bool (decide (aQ = aQ)))))) (congrArg (fun b_ => E.set 30 (.one (.d (.bool b_)))) (by simp : (decide (aQ = aQ)) = true)) (Step.call (f := 20) (xs := [.tmp 27, .tmp 29]) (ps := [(.agg [.d (.int .i64 aQ.f0), .d (.int .i64 aQ.f1), .row 3020 [], .row 4020 [], .row 5020 []]), (.agg [.d (.int .i64 aQ.f0), .d (.int .i64 aQ.f1), .row 3029 [], .row 4029 [], .row 5029 []])]) false (g := .func 20) (t := 30) rfl rfl (by exact lt_ok rfl) rfl (by kernel_rfl) (evs_cons (show Env.ev E (.tmp 27) = _ from g27.trans rfl) (evs_cons (show Env.ev E (.tmp 29) = _ from g29.trans rfl) (rfl))) (.cons (.agg (.cons (.d _) (.cons (.d _) (.cons (.row rfl (by exact (hA_.row 3020 (by kernel_rfl)).trans rfl) rfl rfl) (.cons (.row rfl (by exact (hA_.row 4020 (by kernel_rfl)).trans rfl) rfl rfl) (.cons (.row rfl (by exact (hA_.row 5020 (by kernel_rfl)).trans rfl) rfl rfl) .nil)))))) (.cons (.agg (.cons (.d _) (.cons (.d _) (.cons (.row rfl (by exact (hA_.row 3029 (by kernel_rfl)).trans rfl) rfl rfl) (.cons (.row rfl (by exact (hA_.row 4029 (by kernel_rfl)).trans rfl) rfl rfl) (.cons (.row rfl (by exact (hA_.row 5029 (by kernel_rfl)).trans rfl) rfl rfl) .nil)))))) .nil)) (ok_laws_eqQc aQ aQ) (.inr rfl) (At.freshRows hA_ rfl) (by simp) rfl))) ?_
   refine .cons (fun E hA_ => by have g30 := hA_.get 30 (by decide); exact OpStep.plain rfl (Step.not (b := true) (t := 31) rfl rfl (by exact lt_ok rfl) (show Env.ev E (.tmp 30) = _ from g30.trans rfl))) ?_
   exact .nil _ _
  refine TL.nil ?_
  refine T.weaken (E' := { tm := [(1, (.one (.ptr 1 0))), (2, (.one (.d (.bool false)))), (4, (.one (.row 1018 []))), (5, (.one (.ptr 5 0))), (6, (.one (.row 1022 []))), (31, (.one (.d (.bool false))))], rows := [(1018, (64, (.sl 5 ((qcVotes aQ).map SVote.cells)))), (3020, (5, (.ints .u8 aQ.f2))), (4020, (5, (.ints .u8 aQ.f3))), (5020, (22, (.bss aQ.f4))), (1022, (64, (.sl 5 ((qcVotes aQ).map SVote.cells))))], boxes := [(1, (25, [.d (.int .i64 aQ.f0), .d (.int .i64 aQ.f1), .d (.ints .u8 aQ.f2), .d (.ints .u8 aQ.f3), .d (.bss aQ.f4)])), (5, (29, [.d (.int .i64 aQ.f0), .d (.int .i64 aQ.f1), .row 3020 [], .row 4020 [], .row 5020 []]))] }) (Env.le_mk ⟨by kernel_rfl, by kernel_rfl, by kernel_rfl, by kernel_rfl, by kernel_rfl, by kernel_rfl, trivial⟩ ⟨by kernel_rfl, by kernel_rfl, by kernel_rfl, by kernel_rfl, by kernel_rfl, trivial⟩ ⟨by kernel_rfl, by kernel_rfl, trivial⟩) ?_
  refine T.cond (b := false) rfl (fun h4_ => absurd h4_ (by simp)) (fun h4_ => ?_)
  refine T.skip ?_
  refine T.seq ?_
  refine T.region ?_
  refine TL.cons rfl (Step.assign (p := (.one (.d (.int .i64 1)))) rfl rfl (lt_ok rfl) rfl) ?_
  refine TL.nil ?_
  refine T.seq ?_
  refine T.region ?_
  refine TL.cons rfl (Step.load_box_agg (n := 5) (qs := [.d (.int .i64 aQ.f0), .d (.int .i64 aQ.f1), .row 3020 [], .row 4020 [], .row 5020 []]) rfl rfl (lt_ok rfl) (by kernel_rfl) rfl rfl rfl rfl) ?_
  refine TL.cons rfl (Step.move (p := (.one (.d (.int .i64 1)))) rfl rfl (lt_ok rfl) rfl) ?_
  have nn5 := SQc.cm_nn aQ
  refine TL.cons rfl (Step.callM (f := 21) (xs := [.tmp 32, .tmp 33]) (ps := [(.agg [.d (.int .i64 aQ.f0), .d (.int .i64 aQ.f1), .row 3020 [], .row 4020 [], .row 5020 []]), (.one (.d (.int .i64 1)))]) (args := [.agg [.rd (.int .i64 aQ.f0), .rd (.int .i64 aQ.f1), .mk (.ints .u8 aQ.f2) (.ints .u8 (mkB aQ.f2 1)), .mk (.ints .u8 aQ.f3) (.ints .u8 (mkB aQ.f3 (1 + (aQ.f2.length : Int)))), .mk (.bss aQ.f4) (.bss (mkBs aQ.f4 ((1 + (aQ.f2.length : Int)) + (aQ.f3.length : Int))))], .one (.rd (.int .i64 1))]) (js := [(3020, (.ints .u8 (mkB aQ.f2 1))), (4020, (.ints .u8 (mkB aQ.f3 (1 + (aQ.f2.length : Int))))), (5020, (.bss (mkBs aQ.f4 ((1 + (aQ.f2.length : Int)) + (aQ.f3.length : Int)))))]) (x := (.int .i64 (1 + aQ.cm))) (g := .func 21) rfl rfl (lt_ok rfl) rfl (by kernel_rfl) rfl rfl (.d (.d (.row (T := 5) (d := (.ints .u8 aQ.f2)) (e' := (.ints .u8 (mkB aQ.f2 1))) (d' := (.ints .u8 (mkB aQ.f2 1))) rfl rfl rfl rfl rfl (by simp [D.size, mkL_length]) rfl rfl (.row (T := 5) (d := (.ints .u8 aQ.f3)) (e' := (.ints .u8 (mkB aQ.f3 (1 + (aQ.f2.length : Int))))) (d' := (.ints .u8 (mkB aQ.f3 (1 + (aQ.f2.length : Int))))) rfl rfl rfl rfl rfl (by simp [D.size, mkL_length]) rfl rfl (.row (T := 22) (d := (.bss aQ.f4)) (e' := (.bss (mkBs aQ.f4 ((1 + (aQ.f2.length : Int)) + (aQ.f3.length : Int))))) (d' := (.bss (mkBs aQ.f4 ((1 + (aQ.f2.length : Int)) + (aQ.f3.length : Int))))) rfl rfl rfl rfl rfl (by simp [D.size, mkL_length]) rfl rfl (.d .nil)))))) (ok_laws_markQc aQ 1 (by omega) (by first | omega | (have := SQc.cm_le (x := aQ) (by assumption); omega))) rfl) ?_
  refine TL.cons rfl (Step.assign (p := (.one (.d (.int .i64 (1 + aQ.cm))))) rfl rfl (lt_ok rfl) rfl) ?_
  refine TL.nil ?_
  refine T.seq ?_
  refine T.seq ?_
  refine T.region ?_
  refine TL.cons rfl (Step.move (p := (.one (.d (.int .i64 (1 + aQ.cm))))) rfl rfl (lt_ok rfl) rfl) ?_
  refine TL.cons rfl (Step.bin rfl rfl (lt_ok rfl) rfl rfl (Bin.lss (k := .i64) (a := (1 + aQ.cm)) (b := 0))) ?_
  refine TL.known 36 (c := false) (decide_eq_false (by omega)) rfl ?_
  refine TL.cons rfl (Step.move (p := (.one (.d (.bool false)))) rfl rfl (lt_ok rfl) rfl) ?_
  refine TL.gyes 37 rfl rfl (lt_ok rfl) rfl (Step.move (p := (.one (.row 1022 []))) rfl rfl (lt_ok rfl) rfl) ?_
  refine TL.gyes 37 rfl rfl (lt_ok rfl) rfl (Step.move (p := (.one (.row 1018 []))) rfl rfl (lt_ok rfl) rfl) ?_
  refine TL.gyes 37 rfl rfl (lt_ok rfl) rfl (Step.call (f := 19) (xs := [.tmp 38, .tmp 39]) (ps := [(.one (.row 1022 [])), (.one (.row 1018 []))]) false (g := .func 19) rfl rfl (lt_ok rfl) rfl (by kernel_rfl) rfl (.cons (.one (.row rfl rfl rfl rfl)) (.cons (.one (.row rfl rfl rfl rfl)) .nil)) (ok_laws_eqVoteS (qcVotes aQ) (qcVotes aQ)) (.inr rfl) rfl (by simp) rfl) ?_
  refine TL.known 40 (c := true) (by simp) rfl ?_
  refine TL.gyes 37 rfl rfl (lt_ok rfl) rfl (Step.not (b := true) rfl rfl (lt_ok rfl) rfl) ?_
  refine TL.cons rfl (Step.pick (b := false) (p := (.one (.d (.bool false)))) rfl rfl (lt_ok rfl) rfl rfl) ?_
  refine TL.nil ?_
  refine T.cond (b := false) rfl (fun h6_ => absurd h6_ (by simp)) (fun h6_ => ?_)
  refine T.skip ?_
  refine T.seq ?_
  refine T.region ?_
  refine TL.cons rfl (Step.assign (p := (.one (.d (.int .i64 1)))) rfl rfl (lt_ok rfl) rfl) ?_
  refine TL.nil ?_
  refine T.seq ?_
  refine T.region ?_
  refine TL.cons rfl (Step.move (p := (.one (.row 1022 []))) rfl rfl (lt_ok rfl) rfl) ?_
  refine TL.cons rfl (Step.move (p := (.one (.d (.int .i64 1)))) rfl rfl (lt_ok rfl) rfl) ?_
  have nn7 := cntL_nonneg SVote.ce_nn (qcVotes aQ)
  refine TL.cons rfl (Step.callM (f := 22) (xs := [.tmp 43, .tmp 44]) (ps := [(.one (.row 1022 [])), (.one (.d (.int .i64 1)))]) (args := [.one (.mk (.sl 5 ((qcVotes aQ).map SVote.cells)) (.sl 5 ((mkL SVote.ce SVote.me (qcVotes aQ) 1).map SVote.cells))), .one (.rd (.int .i64 1))]) (js := [(1022, (.sl 5 ((mkL SVote.ce SVote.me (qcVotes aQ) 1).map SVote.cells)))]) (x := (.int .i64 (1 + cntL SVote.ce (qcVotes aQ)))) (g := .func 22) rfl rfl (lt_ok rfl) rfl (by kernel_rfl) rfl rfl (.row (T := 64) (d := (.sl 5 ((qcVotes aQ).map SVote.cells))) (e' := (.sl 5 ((mkL SVote.ce SVote.me (qcVotes aQ) 1).map SVote.cells))) (d' := (.sl 5 ((mkL SVote.ce SVote.me (qcVotes aQ) 1).map SVote.cells))) rfl rfl rfl rfl rfl (by simp [D.size, mkL_length]) rfl rfl (.d .nil)) (ok_laws_markVoteS (qcVotes aQ) 1 (by omega) (by first | omega | (have := SVote.cL_le (xs := (qcVotes aQ)) (by assumption); omega))) rfl) ?_
  refine TL.cons rfl (Step.assign (p := (.one (.d (.int .i64 (1 + cntL SVote.ce (qcVotes aQ)))))) rfl rfl (lt_ok rfl) rfl) ?_
  refine TL.nil ?_
  refine T.seq ?_
  refine T.region ?_
  refine TL.cons rfl (Step.assign (p := (.one (.d (.int .i64 1)))) rfl rfl (lt_ok rfl) rfl) ?_
  refine TL.nil ?_
  refine T.seq ?_
  refine T.region ?_
  refine TL.cons rfl (Step.move (p := (.one (.row 1022 []))) rfl rfl (lt_ok rfl) rfl) ?_
  refine TL.cons rfl (Step.move (p := (.one (.d (.int .i64 1)))) rfl rfl (lt_ok rfl) rfl) ?_
  have nn8 := cntL_nonneg SVote.ce_nn (qcVotes aQ)
  refine TL.cons rfl (Step.call (f := 23) (xs := [.tmp 46, .tmp 47]) (ps := [(.one (.row 1022 [])), (.one (.d (.int .i64 1)))]) false (g := .func 23) rfl rfl (lt_ok rfl) rfl (by kernel_rfl) rfl (.cons (.one (.row rfl rfl rfl rfl)) (.cons (.one (.d _)) .nil)) (ok_laws_heldVoteS (qcVotes aQ) (mkL SVote.ce SVote.me (qcVotes aQ) 1) 1 (by omega) (by first | omega | (have := SVote.cL_le (xs := (qcVotes aQ)) (by assumption); omega)) (by first | rfl | assumption | (repeat' (first | rfl | apply And.intro)))) (.inr rfl) rfl (by simp) rfl) ?_
  refine TL.cons rfl (Step.assign (p := (.one (.d (.int .i64 (1 + cntL SVote.ce (qcVotes aQ)))))) rfl rfl (lt_ok rfl) rfl) ?_
  refine TL.nil ?_
  refine T.seq ?_
  refine T.seq ?_
  refine T.region ?_
  refine TL.cons rfl (Step.move (p := (.one (.d (.int .i64 (1 + cntL SVote.ce (qcVotes aQ)))))) rfl rfl (lt_ok rfl) rfl) ?_
  refine TL.cons rfl (Step.bin rfl rfl (lt_ok rfl) rfl rfl (Bin.lss (k := .i64) (a := (1 + cntL SVote.ce (qcVotes aQ))) (b := 0))) ?_
  refine TL.known 50 (c := false) (decide_eq_false (by omega)) rfl ?_
  refine TL.nil ?_
  refine T.cond (b := false) rfl (fun h9_ => absurd h9_ (by simp)) (fun h9_ => ?_)
  refine T.skip ?_
  refine T.seq ?_
  refine T.seq ?_
  refine T.region ?_
  refine TL.cons rfl (Step.move (p := (.one (.d (.int .i64 (1 + cntL SVote.ce (qcVotes aQ)))))) rfl rfl (lt_ok rfl) rfl) ?_
  refine TL.cons rfl (Step.move (p := (.one (.d (.int .i64 (1 + cntL SVote.ce (qcVotes aQ)))))) rfl rfl (lt_ok rfl) rfl) ?_
  refine TL.cons rfl (Step.bin rfl rfl (lt_ok rfl) rfl rfl (Bin.neq (k := .i64) (a := (1 + cntL SVote.ce (qcVotes aQ))) (b := (1 + cntL SVote.ce (qcVotes aQ))))) ?_
  refine TL.known 53 (c := false) (by simp) rfl ?_
  refine TL.nil ?_
  refine T.cond (b := false) rfl (fun h10_ => absurd h10_ (by simp)) (fun h10_ => ?_)
  refine T.skip ?_
  refine T.seq ?_
  refine T.region ?_
  refine TL.cons rfl (Step.load_box_agg (n := 5) (qs := [.d (.int .i64 aQ.f0), .d (.int .i64 aQ.f1), .d (.ints .u8 aQ.f2), .d (.ints .u8 aQ.f3), .d (.bss aQ.f4)]) rfl rfl (lt_ok rfl) (by kernel_rfl) rfl rfl rfl rfl) ?_
  refine TL.cons rfl (Step.call (f := 17) (xs := [.tmp 54]) (ps := [(.agg [.d (.int .i64 aQ.f0), .d (.int .i64 aQ.f1), .d (.ints .u8 aQ.f2), .d (.ints .u8 aQ.f3), .d (.bss aQ.f4)])]) false (g := .func 17) rfl rfl (lt_ok rfl) rfl (by kernel_rfl) rfl (.cons (.agg (.cons (.d _) (.cons (.d _) (.cons (.d _) (.cons (.d _) (.cons (.d _) .nil)))))) .nil) (ok_laws_toQc aQ (by first | assumption | exact ⟨‹_›, ‹_›⟩ | (refine mem_getD (p := SQc.sm) h0_.2 (by omega)) | exact mem_getD h0_.2 (by omega))) (.inr rfl) rfl (by simp) rfl) ?_
  refine TL.cons rfl (Step.call (f := 18) (xs := [.tmp 55]) (ps := [(.agg [.d (.int .i64 aQ.f0), .d (.int .i64 aQ.f1), .row 3055 [], .row 4055 [], .row 5055 []])]) false (g := .func 18) rfl rfl (lt_ok rfl) rfl (by kernel_rfl) rfl (.cons (.agg (.cons (.d _) (.cons (.d _) (.cons (.row rfl rfl rfl rfl) (.cons (.row rfl rfl rfl rfl) (.cons (.row rfl rfl rfl rfl) .nil)))))) .nil) (ok_impl_QcVotes aQ (by assumption) (by assumption)) (.inr rfl) rfl (by simp) rfl) ?_
  refine TL.cons rfl (Step.assign (p := (.one (.row 1056 []))) rfl rfl (lt_ok rfl) rfl) ?_
  refine TL.nil ?_
  refine T.seq ?_
  refine T.seq ?_
  refine T.region ?_
  refine TL.cons rfl (Step.move (p := (.one (.row 1056 []))) rfl rfl (lt_ok rfl) rfl) ?_
  refine TL.cons rfl (Step.move (p := (.one (.row 1018 []))) rfl rfl (lt_ok rfl) rfl) ?_
  refine TL.cons rfl (Step.call (f := 19) (xs := [.tmp 57, .tmp 58]) (ps := [(.one (.row 1056 [])), (.one (.row 1018 []))]) false (g := .func 19) rfl rfl (lt_ok rfl) rfl (by kernel_rfl) rfl (.cons (.one (.row rfl rfl rfl rfl)) (.cons (.one (.row rfl rfl rfl rfl)) .nil)) (ok_laws_eqVoteS (qcVotes aQ) (qcVotes aQ)) (.inr rfl) rfl (by simp) rfl) ?_
  refine TL.known 59 (c := true) (by simp) rfl ?_
  refine TL.cons rfl (Step.not (b := true) rfl rfl (lt_ok rfl) rfl) ?_
  refine TL.nil ?_
  refine T.cond (b := false) rfl (fun h11_ => absurd h11_ (by simp)) (fun h11_ => ?_)
  refine T.skip ?_
  refine T.seq ?_
  refine T.region ?_
  refine TL.cons rfl (Step.assign (p := (.one (.d (.int .i64 1)))) rfl rfl (lt_ok rfl) rfl) ?_
  refine TL.nil ?_
  refine T.seq ?_
  refine T.region ?_
  refine TL.cons rfl (Step.move (p := (.one (.row 1022 []))) rfl rfl (lt_ok rfl) rfl) ?_
  refine TL.cons rfl (Step.move (p := (.one (.d (.int .i64 1)))) rfl rfl (lt_ok rfl) rfl) ?_
  have nn12 := cntL_nonneg SVote.ce_nn (qcVotes aQ)
  refine TL.cons rfl (Step.call (f := 23) (xs := [.tmp 61, .tmp 62]) (ps := [(.one (.row 1022 [])), (.one (.d (.int .i64 1)))]) false (g := .func 23) rfl rfl (lt_ok rfl) rfl (by kernel_rfl) rfl (.cons (.one (.row rfl rfl rfl rfl)) (.cons (.one (.d _)) .nil)) (ok_laws_heldVoteS (qcVotes aQ) (mkL SVote.ce SVote.me (qcVotes aQ) 1) 1 (by omega) (by first | omega | (have := SVote.cL_le (xs := (qcVotes aQ)) (by assumption); omega)) (by first | rfl | assumption | (repeat' (first | rfl | apply And.intro)))) (.inr rfl) rfl (by simp) rfl) ?_
  refine TL.cons rfl (Step.assign (p := (.one (.d (.int .i64 (1 + cntL SVote.ce (qcVotes aQ)))))) rfl rfl (lt_ok rfl) rfl) ?_
  refine TL.nil ?_
  refine T.seq ?_
  refine T.seq ?_
  refine T.region ?_
  refine TL.cons rfl (Step.move (p := (.one (.d (.int .i64 (1 + cntL SVote.ce (qcVotes aQ)))))) rfl rfl (lt_ok rfl) rfl) ?_
  refine TL.cons rfl (Step.bin rfl rfl (lt_ok rfl) rfl rfl (Bin.lss (k := .i64) (a := (1 + cntL SVote.ce (qcVotes aQ))) (b := 0))) ?_
  refine TL.known 65 (c := false) (decide_eq_false (by omega)) rfl ?_
  refine TL.nil ?_
  refine T.cond (b := false) rfl (fun h13_ => absurd h13_ (by simp)) (fun h13_ => ?_)
  refine T.skip ?_
  refine T.seq ?_
  refine T.seq ?_
  refine T.region ?_
  refine TL.cons rfl (Step.move (p := (.one (.d (.int .i64 (1 + cntL SVote.ce (qcVotes aQ)))))) rfl rfl (lt_ok rfl) rfl) ?_
  refine TL.cons rfl (Step.move (p := (.one (.d (.int .i64 (1 + cntL SVote.ce (qcVotes aQ)))))) rfl rfl (lt_ok rfl) rfl) ?_
  refine TL.cons rfl (Step.bin rfl rfl (lt_ok rfl) rfl rfl (Bin.neq (k := .i64) (a := (1 + cntL SVote.ce (qcVotes aQ))) (b := (1 + cntL SVote.ce (qcVotes aQ))))) ?_
  refine TL.known 68 (c := false) (by simp) rfl ?_
  refine TL.nil ?_
  refine T.cond (b := false) rfl (fun h14_ => absurd h14_ (by simp)) (fun h14_ => ?_)
  refine T.skip ?_
  refine T.seq ?_
  refine T.region ?_
  refine TL.cons rfl (Step.assign (p := (.one (.d (.bool true)))) rfl rfl (lt_ok rfl) rfl) ?_
  refine TL.nil ?_
  refine T.ret ?_
  exact ⟨[(false, [.d (.bool true)])], (.cons rfl .nil), rfl, [], (RetC.rd' (by rfl) .nil)⟩
end Go.Proofs.Ythaagegnobegjaa.Rf
