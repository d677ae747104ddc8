/- The functions that FnExactGetBlock calls, each held to what it answers. Printed by a program of this session; Lean checks it. -/
import Derived.Test.YtlcmflenbddliaaProg
import Derived.Test.YtlcmflenbddliaaRFnExactGetBlockx0
namespace Go.Proofs.Ytlcmflenbddliaa.Rf
open Go.RowKit
set_option linter.unusedVariables false
set_option linter.unnecessarySimpa false
set_option linter.unusedSimpArgs false
set_option maxRecDepth 100000
set_option maxHeartbeats 4000000
theorem ok_spec_l13Get (b : List Int) (s : SRS) (l : SLimits) (h0_ : U8s b) (h1_ : b.length ≤ 1048576) : BX Try.prog 90 [.bx, .rd (.agg [(.int .i64 l.f0), (.int .i64 l.f1), (.int .i64 l.f2), (.int .i64 l.f3), (.int .i64 l.f4)])] 110 [.rd (.ints .u8 b), .rd (.int .i64 s.f0), .rd (.int .i64 s.f1)] [.rd (.ints .u8 b), .rd (.int .i64 (rdHead l b s).1.f0), .rd (.int .i64 (rdHead l b s).1.f1)] [(true, [.rd (.int .i64 (rdHead l b s).2.f0), .rd (.int .i64 (rdHead l b s).2.f1), .rd (.int .i64 (rdHead l b s).2.f2), .own 5 (.ints .u8 (rdHead l b s).2.f3), .own 5 (.ints .u8 (rdHead l b s).2.f4), .rd (.int .i64 (rdHead l b s).2.f5.f0), .rd (.int .i64 (rdHead l b s).2.f5.f1), .own 5 (.ints .u8 (rdHead l b s).2.f5.f2), .own 5 (.ints .u8 (rdHead l b s).2.f5.f3), .own 24 (.bss (rdHead l b s).2.f5.f4)])] := by
 refine BX.intro Try.func90 rfl 43 rfl (le_ok rfl) (le_ok rfl) fun w Z IX pin hp => ?_
 refine T.seq ?_
 refine T.region ?_
 refine TL.c (Step.bx [cI l.f0, cI l.f1, cI l.f2, cI l.f3, cI l.f4]) ?_
 refine TL.c (Step.al [cI 0, cI 0, cI 0, .nil, .nil, cI 0, cI 0, .nil, .nil, .nil]) ?_
 refine TL.nil ?_
 refine T.seq ?_
 refine T.region ?_
 refine TL.mv (.one (.ptr 800 0)) ?_
 have nn1 := @rdNum_bd b (by assumption) s
 refine TL.c (Step.callX2 (b := 800) (xs := [.tmp 6]) (ps := [(.one (.ptr 800 0))]) (bps := [cS b, cI s.f0, cI s.f1]) (ss := []) (g := .func 131) (ok_spec_l11Var b s (by assumption) (by first | omega | assumption | (simp only [List.length_append] at *; omega))) rfl rfl (lt_ok rfl) rfl (by kernel_rfl) rfl (.cons (.bx) .nil) rfl (.rd (.rd (.rd .nil))) rfl rfl (fun x hx => by have := hp x hx; omega) rfl) ?_
 refine TL.c (Step.build (zs := [.int .i64 0, .int .i64 0, .int .i64 0, .slice none 0 0, .slice none 0 0, .int .i64 0, .int .i64 0, .slice none 0 0, .slice none 0 0, .slice none 0 0]) (places := [(0, 1), (1, 1), (2, 1), (3, 1), (4, 1), (5, 5)]) (pss := [(0, [cI (rdNum b s).2])]) (ps' := [cI (rdNum b s).2, cI 0, cI 0, .nil, .nil, cI 0, cI 0, .nil, .nil, .nil]) rfl rfl (lt_ok rfl) (by kernel_rfl) (.cons ⟨rfl, rfl⟩ .nil) rfl rfl rfl) ?_
 refine TL.c (Step.al [cI 0, cI 0, cI 0, .nil, .nil, cI 0, cI 0, .nil, .nil, .nil]) ?_
 refine TL.c (Step.sb 10 [cI (rdNum b s).2, cI 0, cI 0, .nil, .nil, cI 0, cI 0, .nil, .nil, .nil]) ?_
 refine TL.nil ?_
 refine T.seq ?_
 refine T.region ?_
 refine TL.mv (.one (.ptr 800 0)) ?_
 have nn2 := @rdNum_bd b (by assumption) (rdNum b s).1
 refine TL.c (Step.callX2 (b := 800) (xs := [.tmp 9]) (ps := [(.one (.ptr 800 0))]) (bps := [cS b, cI (rdNum b s).1.f0, cI (rdNum b s).1.f1]) (ss := []) (g := .func 131) (ok_spec_l11Var b (rdNum b s).1 (by assumption) (by first | omega | assumption | (simp only [List.length_append] at *; omega))) rfl rfl (lt_ok rfl) rfl (by kernel_rfl) rfl (.cons (.bx) .nil) rfl (.rd (.rd (.rd .nil))) rfl rfl (fun x hx => by have := hp x hx; omega) rfl) ?_
 refine TL.c (Step.fd 1 1 true) ?_
 refine TL.c (Step.sb 1 [cI (rdNum b s).2, cI (rdNum b (rdNum b s).1).2, cI 0, .nil, .nil, cI 0, cI 0, .nil, .nil, .nil]) ?_
 refine TL.nil ?_
 refine T.seq ?_
 refine T.region ?_
 refine TL.mv (.one (.ptr 800 0)) ?_
 refine TL.c (Step.fd 1 1 true) ?_
 refine TL.c (Step.lb (.d (.int .i64 (rdNum b (rdNum b s).1).2))) ?_
 refine TL.b _ (Bin.eql (k := .i64) (a := (rdNum b (rdNum b s).1).2) (b := 0)) ?_
 refine TL.c (Step.callX2 (b := 800) (xs := [.tmp 12, .tmp 15, .const (.int .i64 5)]) (ps := [(.one (.ptr 800 0)), (pB (decide ((rdNum b (rdNum b s).1).2 = 0))), (pI 5)]) (bps := [cS b, cI (rdNum b (rdNum b s).1).1.f0, cI (rdNum b (rdNum b s).1).1.f1]) (ss := []) (g := .func 140) (ok_spec_l11Fail (decide ((rdNum b (rdNum b s).1).2 ≠ 0)) b (rdNum b (rdNum b s).1).1 (decide ((rdNum b (rdNum b s).1).2 = 0)) 5 (by assumption) (by first | omega | assumption | (simp only [List.length_append] at *; omega)) (by first | rfl | (rw [Bool.eq_iff_iff]; simp only [Bool.not_eq_true', Bool.not_eq_false', decide_eq_true_eq, decide_eq_false_iff_not]; omega) | (simp; done))) rfl rfl (lt_ok rfl) rfl (by kernel_rfl) rfl (.cons (.bx) (.cons (.rd (.one (.d _))) (.cons (.rd (.one (.d _))) .nil))) rfl (.rd (.rd (.rd .nil))) rfl rfl (fun x hx => by have := hp x hx; omega) rfl) ?_
 refine TL.nil ?_
 refine T.seq ?_
 refine T.region ?_
 refine TL.mv (.one (.ptr 800 0)) ?_
 have nn3 := @rdNum_bd b (by assumption) (rdMust (rdNum b (rdNum b s).1).1 (decide ((rdNum b (rdNum b s).1).2 ≠ 0)) 5)
 refine TL.c (Step.callX2 (b := 800) (xs := [.tmp 17]) (ps := [(.one (.ptr 800 0))]) (bps := [cS b, cI (rdMust (rdNum b (rdNum b s).1).1 (decide ((rdNum b (rdNum b s).1).2 ≠ 0)) 5).f0, cI (rdMust (rdNum b (rdNum b s).1).1 (decide ((rdNum b (rdNum b s).1).2 ≠ 0)) 5).f1]) (ss := []) (g := .func 131) (ok_spec_l11Var b (rdMust (rdNum b (rdNum b s).1).1 (decide ((rdNum b (rdNum b s).1).2 ≠ 0)) 5) (by assumption) (by first | omega | assumption | (simp only [List.length_append] at *; omega))) rfl rfl (lt_ok rfl) rfl (by kernel_rfl) rfl (.cons (.bx) .nil) rfl (.rd (.rd (.rd .nil))) rfl rfl (fun x hx => by have := hp x hx; omega) rfl) ?_
 refine TL.c (Step.fd 2 1 true) ?_
 refine TL.c (Step.sb 1 [cI (rdNum b s).2, cI (rdNum b (rdNum b s).1).2, cI (rdNum b (rdMust (rdNum b (rdNum b s).1).1 (decide ((rdNum b (rdNum b s).1).2 ≠ 0)) 5)).2, .nil, .nil, cI 0, cI 0, .nil, .nil, .nil]) ?_
 refine TL.nil ?_
 refine T.seq ?_
 refine T.region ?_
 refine TL.mv (.one (.ptr 800 0)) ?_
 refine TL.c (Step.fd 2 1 true) ?_
 refine TL.c (Step.lb (.d (.int .i64 (rdNum b (rdMust (rdNum b (rdNum b s).1).1 (decide ((rdNum b (rdNum b s).1).2 ≠ 0)) 5)).2))) ?_
 refine TL.c (Step.fd 0 1 true) ?_
 refine TL.c (Step.lb (.d (.int .i64 l.f0))) ?_
 refine TL.b _ (Bin.geq (k := .i64) (a := (rdNum b (rdMust (rdNum b (rdNum b s).1).1 (decide ((rdNum b (rdNum b s).1).2 ≠ 0)) 5)).2) (b := l.f0)) ?_
 refine TL.c (Step.callX2 (b := 800) (xs := [.tmp 20, .tmp 25, .const (.int .i64 5)]) (ps := [(.one (.ptr 800 0)), (pB (decide (l.f0 ≤ (rdNum b (rdMust (rdNum b (rdNum b s).1).1 (decide ((rdNum b (rdNum b s).1).2 ≠ 0)) 5)).2))), (pI 5)]) (bps := [cS b, cI (rdNum b (rdMust (rdNum b (rdNum b s).1).1 (decide ((rdNum b (rdNum b s).1).2 ≠ 0)) 5)).1.f0, cI (rdNum b (rdMust (rdNum b (rdNum b s).1).1 (decide ((rdNum b (rdNum b s).1).2 ≠ 0)) 5)).1.f1]) (ss := []) (g := .func 140) (ok_spec_l11Fail (decide ((rdNum b (rdMust (rdNum b (rdNum b s).1).1 (decide ((rdNum b (rdNum b s).1).2 ≠ 0)) 5)).2 < l.f0)) b (rdNum b (rdMust (rdNum b (rdNum b s).1).1 (decide ((rdNum b (rdNum b s).1).2 ≠ 0)) 5)).1 (decide (l.f0 ≤ (rdNum b (rdMust (rdNum b (rdNum b s).1).1 (decide ((rdNum b (rdNum b s).1).2 ≠ 0)) 5)).2)) 5 (by assumption) (by first | omega | assumption | (simp only [List.length_append] at *; omega)) (by first | rfl | (rw [Bool.eq_iff_iff]; simp only [Bool.not_eq_true', Bool.not_eq_false', decide_eq_true_eq, decide_eq_false_iff_not]; omega) | (simp; done))) rfl rfl (lt_ok rfl) rfl (by kernel_rfl) rfl (.cons (.bx) (.cons (.rd (.one (.d _))) (.cons (.rd (.one (.d _))) .nil))) rfl (.rd (.rd (.rd .nil))) rfl rfl (fun x hx => by have := hp x hx; omega) rfl) ?_
 refine TL.nil ?_
 refine T.seq ?_
 refine T.region ?_
 refine TL.mv (.one (.ptr 800 0)) ?_
 have nn4 := rdRaw_len b (rdMust (rdNum b (rdMust (rdNum b (rdNum b s).1).1 (decide ((rdNum b (rdNum b s).1).2 ≠ 0)) 5)).1 (decide ((rdNum b (rdMust (rdNum b (rdNum b s).1).1 (decide ((rdNum b (rdNum b s).1).2 ≠ 0)) 5)).2 < l.f0)) 5) 32
 refine TL.c (Step.callX2 (b := 800) (xs := [.tmp 27]) (ps := [(.one (.ptr 800 0))]) (bps := [cS b, cI (rdMust (rdNum b (rdMust (rdNum b (rdNum b s).1).1 (decide ((rdNum b (rdNum b s).1).2 ≠ 0)) 5)).1 (decide ((rdNum b (rdMust (rdNum b (rdNum b s).1).1 (decide ((rdNum b (rdNum b s).1).2 ≠ 0)) 5)).2 < l.f0)) 5).f0, cI (rdMust (rdNum b (rdMust (rdNum b (rdNum b s).1).1 (decide ((rdNum b (rdNum b s).1).2 ≠ 0)) 5)).1 (decide ((rdNum b (rdMust (rdNum b (rdNum b s).1).1 (decide ((rdNum b (rdNum b s).1).2 ≠ 0)) 5)).2 < l.f0)) 5).f1]) (ss := []) (g := .func 132) (ok_spec_l11Raw b (rdMust (rdNum b (rdMust (rdNum b (rdNum b s).1).1 (decide ((rdNum b (rdNum b s).1).2 ≠ 0)) 5)).1 (decide ((rdNum b (rdMust (rdNum b (rdNum b s).1).1 (decide ((rdNum b (rdNum b s).1).2 ≠ 0)) 5)).2 < l.f0)) 5) (by assumption) (by first | omega | assumption | (simp only [List.length_append] at *; omega))) rfl rfl (lt_ok rfl) rfl (by kernel_rfl) rfl (.cons (.bx) .nil) rfl (.rd (.rd (.rd .nil))) rfl rfl (fun x hx => by have := hp x hx; omega) rfl) ?_
 refine TL.c (Step.fd 3 1 true) ?_
 refine TL.c (Step.sb 1 [cI (rdNum b s).2, cI (rdNum b (rdNum b s).1).2, cI (rdNum b (rdMust (rdNum b (rdNum b s).1).1 (decide ((rdNum b (rdNum b s).1).2 ≠ 0)) 5)).2, .row 4028 [], .nil, cI 0, cI 0, .nil, .nil, .nil]) ?_
 refine TL.nil ?_
 refine T.seq ?_
 refine T.region ?_
 refine TL.mv (.one (.ptr 800 0)) ?_
 have nn5 := rdRaw_len b (rdRaw b (rdMust (rdNum b (rdMust (rdNum b (rdNum b s).1).1 (decide ((rdNum b (rdNum b s).1).2 ≠ 0)) 5)).1 (decide ((rdNum b (rdMust (rdNum b (rdNum b s).1).1 (decide ((rdNum b (rdNum b s).1).2 ≠ 0)) 5)).2 < l.f0)) 5) 32).1 32
 refine TL.c (Step.callX2 (b := 800) (xs := [.tmp 30]) (ps := [(.one (.ptr 800 0))]) (bps := [cS b, cI (rdRaw b (rdMust (rdNum b (rdMust (rdNum b (rdNum b s).1).1 (decide ((rdNum b (rdNum b s).1).2 ≠ 0)) 5)).1 (decide ((rdNum b (rdMust (rdNum b (rdNum b s).1).1 (decide ((rdNum b (rdNum b s).1).2 ≠ 0)) 5)).2 < l.f0)) 5) 32).1.f0, cI (rdRaw b (rdMust (rdNum b (rdMust (rdNum b (rdNum b s).1).1 (decide ((rdNum b (rdNum b s).1).2 ≠ 0)) 5)).1 (decide ((rdNum b (rdMust (rdNum b (rdNum b s).1).1 (decide ((rdNum b (rdNum b s).1).2 ≠ 0)) 5)).2 < l.f0)) 5) 32).1.f1]) (ss := []) (g := .func 132) (ok_spec_l11Raw b (rdRaw b (rdMust (rdNum b (rdMust (rdNum b (rdNum b s).1).1 (decide ((rdNum b (rdNum b s).1).2 ≠ 0)) 5)).1 (decide ((rdNum b (rdMust (rdNum b (rdNum b s).1).1 (decide ((rdNum b (rdNum b s).1).2 ≠ 0)) 5)).2 < l.f0)) 5) 32).1 (by assumption) (by first | omega | assumption | (simp only [List.length_append] at *; omega))) rfl rfl (lt_ok rfl) rfl (by kernel_rfl) rfl (.cons (.bx) .nil) rfl (.rd (.rd (.rd .nil))) rfl rfl (fun x hx => by have := hp x hx; omega) rfl) ?_
 refine TL.c (Step.fd 4 1 true) ?_
 refine TL.c (Step.sb 1 [cI (rdNum b s).2, cI (rdNum b (rdNum b s).1).2, cI (rdNum b (rdMust (rdNum b (rdNum b s).1).1 (decide ((rdNum b (rdNum b s).1).2 ≠ 0)) 5)).2, .row 4028 [], .row 4031 [], cI 0, cI 0, .nil, .nil, .nil]) ?_
 refine TL.nil ?_
 refine T.seq ?_
 refine T.region ?_
 refine TL.mv (.one (.ptr 800 0)) ?_
 refine TL.c (Step.lba 5 [cI l.f0, cI l.f1, cI l.f2, cI l.f3, cI l.f4]) ?_
 have nn6 := @rdQc_sm l b (rdRaw b (rdRaw b (rdMust (rdNum b (rdMust (rdNum b (rdNum b s).1).1 (decide ((rdNum b (rdNum b s).1).2 ≠ 0)) 5)).1 (decide ((rdNum b (rdMust (rdNum b (rdNum b s).1).1 (decide ((rdNum b (rdNum b s).1).2 ≠ 0)) 5)).2 < l.f0)) 5) 32).1 32).1 (by first | assumption | omega)
 have nn7 := @rdQc_ok l b (rdRaw b (rdRaw b (rdMust (rdNum b (rdMust (rdNum b (rdNum b s).1).1 (decide ((rdNum b (rdNum b s).1).2 ≠ 0)) 5)).1 (decide ((rdNum b (rdMust (rdNum b (rdNum b s).1).1 (decide ((rdNum b (rdNum b s).1).2 ≠ 0)) 5)).2 < l.f0)) 5) 32).1 32).1 (by assumption)
 refine TL.c (Step.callX2 (b := 800) (xs := [.tmp 33, .tmp 34]) (ps := [(.one (.ptr 800 0)), (.agg [cI l.f0, cI l.f1, cI l.f2, cI l.f3, cI l.f4])]) (bps := [cS b, cI (rdRaw b (rdRaw b (rdMust (rdNum b (rdMust (rdNum b (rdNum b s).1).1 (decide ((rdNum b (rdNum b s).1).2 ≠ 0)) 5)).1 (decide ((rdNum b (rdMust (rdNum b (rdNum b s).1).1 (decide ((rdNum b (rdNum b s).1).2 ≠ 0)) 5)).2 < l.f0)) 5) 32).1 32).1.f0, cI (rdRaw b (rdRaw b (rdMust (rdNum b (rdMust (rdNum b (rdNum b s).1).1 (decide ((rdNum b (rdNum b s).1).2 ≠ 0)) 5)).1 (decide ((rdNum b (rdMust (rdNum b (rdNum b s).1).1 (decide ((rdNum b (rdNum b s).1).2 ≠ 0)) 5)).2 < l.f0)) 5) 32).1 32).1.f1]) (ss := []) (g := .func 87) (ok_spec_l12Get b (rdRaw b (rdRaw b (rdMust (rdNum b (rdMust (rdNum b (rdNum b s).1).1 (decide ((rdNum b (rdNum b s).1).2 ≠ 0)) 5)).1 (decide ((rdNum b (rdMust (rdNum b (rdNum b s).1).1 (decide ((rdNum b (rdNum b s).1).2 ≠ 0)) 5)).2 < l.f0)) 5) 32).1 32).1 l (by assumption) (by first | omega | assumption | (simp only [List.length_append] at *; omega))) rfl rfl (lt_ok rfl) rfl (by kernel_rfl) rfl (.cons (.bx) (.cons (.rd (.agg (.cons (.d _) (.cons (.d _) (.cons (.d _) (.cons (.d _) (.cons (.d _) .nil))))))) .nil)) rfl (.rd (.rd (.rd .nil))) rfl rfl (fun x hx => by have := hp x hx; omega) rfl) ?_
 refine TL.c (Step.fd 5 5 false) ?_
 refine TL.c (Step.sb 5 [cI (rdNum b s).2, cI (rdNum b (rdNum b s).1).2, cI (rdNum b (rdMust (rdNum b (rdNum b s).1).1 (decide ((rdNum b (rdNum b s).1).2 ≠ 0)) 5)).2, .row 4028 [], .row 4031 [], cI (rdQc l b (rdRaw b (rdRaw b (rdMust (rdNum b (rdMust (rdNum b (rdNum b s).1).1 (decide ((rdNum b (rdNum b s).1).2 ≠ 0)) 5)).1 (decide ((rdNum b (rdMust (rdNum b (rdNum b s).1).1 (decide ((rdNum b (rdNum b s).1).2 ≠ 0)) 5)).2 < l.f0)) 5) 32).1 32).1).2.f0, cI (rdQc l b (rdRaw b (rdRaw b (rdMust (rdNum b (rdMust (rdNum b (rdNum b s).1).1 (decide ((rdNum b (rdNum b s).1).2 ≠ 0)) 5)).1 (decide ((rdNum b (rdMust (rdNum b (rdNum b s).1).1 (decide ((rdNum b (rdNum b s).1).2 ≠ 0)) 5)).2 < l.f0)) 5) 32).1 32).1).2.f1, .row 6035 [], .row 7035 [], .row 8035 []]) ?_
 refine TL.nil ?_
 refine T.seq ?_
 refine T.region ?_
 refine TL.mv (.one (.ptr 800 0)) ?_
 refine TL.c (Step.lba 10 [cI (rdNum b s).2, cI (rdNum b (rdNum b s).1).2, cI (rdNum b (rdMust (rdNum b (rdNum b s).1).1 (decide ((rdNum b (rdNum b s).1).2 ≠ 0)) 5)).2, .row 4028 [], .row 4031 [], cI (rdQc l b (rdRaw b (rdRaw b (rdMust (rdNum b (rdMust (rdNum b (rdNum b s).1).1 (decide ((rdNum b (rdNum b s).1).2 ≠ 0)) 5)).1 (decide ((rdNum b (rdMust (rdNum b (rdNum b s).1).1 (decide ((rdNum b (rdNum b s).1).2 ≠ 0)) 5)).2 < l.f0)) 5) 32).1 32).1).2.f0, cI (rdQc l b (rdRaw b (rdRaw b (rdMust (rdNum b (rdMust (rdNum b (rdNum b s).1).1 (decide ((rdNum b (rdNum b s).1).2 ≠ 0)) 5)).1 (decide ((rdNum b (rdMust (rdNum b (rdNum b s).1).1 (decide ((rdNum b (rdNum b s).1).2 ≠ 0)) 5)).2 < l.f0)) 5) 32).1 32).1).2.f1, .row 6035 [], .row 7035 [], .row 8035 []]) ?_
 refine TL.c (Step.call (f := 141) (xs := [.tmp 38]) (ps := [(.agg [cI (rdNum b s).2, cI (rdNum b (rdNum b s).1).2, cI (rdNum b (rdMust (rdNum b (rdNum b s).1).1 (decide ((rdNum b (rdNum b s).1).2 ≠ 0)) 5)).2, .row 4028 [], .row 4031 [], cI (rdQc l b (rdRaw b (rdRaw b (rdMust (rdNum b (rdMust (rdNum b (rdNum b s).1).1 (decide ((rdNum b (rdNum b s).1).2 ≠ 0)) 5)).1 (decide ((rdNum b (rdMust (rdNum b (rdNum b s).1).1 (decide ((rdNum b (rdNum b s).1).2 ≠ 0)) 5)).2 < l.f0)) 5) 32).1 32).1).2.f0, cI (rdQc l b (rdRaw b (rdRaw b (rdMust (rdNum b (rdMust (rdNum b (rdNum b s).1).1 (decide ((rdNum b (rdNum b s).1).2 ≠ 0)) 5)).1 (decide ((rdNum b (rdMust (rdNum b (rdNum b s).1).1 (decide ((rdNum b (rdNum b s).1).2 ≠ 0)) 5)).2 < l.f0)) 5) 32).1 32).1).2.f1, .row 6035 [], .row 7035 [], .row 8035 []])]) false (g := .func 141) rfl rfl (lt_ok rfl) rfl (by kernel_rfl) rfl (.cons (.agg (.cons (.d _) (.cons (.d _) (.cons (.d _) (.cons (.row rfl rfl rfl rfl) (.cons (.row rfl rfl rfl rfl) (.cons (.d _) (.cons (.d _) (.cons (.row rfl rfl rfl rfl) (.cons (.row rfl rfl rfl rfl) (.cons (.row rfl rfl rfl rfl) .nil))))))))))) .nil) (ok_spec_l13Fits (⟨(rdNum b s).2, (rdNum b (rdNum b s).1).2, (rdNum b (rdMust (rdNum b (rdNum b s).1).1 (decide ((rdNum b (rdNum b s).1).2 ≠ 0)) 5)).2, (rdRaw b (rdMust (rdNum b (rdMust (rdNum b (rdNum b s).1).1 (decide ((rdNum b (rdNum b s).1).2 ≠ 0)) 5)).1 (decide ((rdNum b (rdMust (rdNum b (rdNum b s).1).1 (decide ((rdNum b (rdNum b s).1).2 ≠ 0)) 5)).2 < l.f0)) 5) 32).2, (rdRaw b (rdRaw b (rdMust (rdNum b (rdMust (rdNum b (rdNum b s).1).1 (decide ((rdNum b (rdNum b s).1).2 ≠ 0)) 5)).1 (decide ((rdNum b (rdMust (rdNum b (rdNum b s).1).1 (decide ((rdNum b (rdNum b s).1).2 ≠ 0)) 5)).2 < l.f0)) 5) 32).1 32).2, (rdQc l b (rdRaw b (rdRaw b (rdMust (rdNum b (rdMust (rdNum b (rdNum b s).1).1 (decide ((rdNum b (rdNum b s).1).2 ≠ 0)) 5)).1 (decide ((rdNum b (rdMust (rdNum b (rdNum b s).1).1 (decide ((rdNum b (rdNum b s).1).2 ≠ 0)) 5)).2 < l.f0)) 5) 32).1 32).1).2⟩ : SHead) (by first | assumption | exact rdHead_ok (l := l) (s := s) h0_)) (.inr rfl) rfl (fun x hx => by have := hp x hx; omega) rfl) ?_
 refine TL.c (Step.not (b := (headFits (⟨(rdNum b s).2, (rdNum b (rdNum b s).1).2, (rdNum b (rdMust (rdNum b (rdNum b s).1).1 (decide ((rdNum b (rdNum b s).1).2 ≠ 0)) 5)).2, (rdRaw b (rdMust (rdNum b (rdMust (rdNum b (rdNum b s).1).1 (decide ((rdNum b (rdNum b s).1).2 ≠ 0)) 5)).1 (decide ((rdNum b (rdMust (rdNum b (rdNum b s).1).1 (decide ((rdNum b (rdNum b s).1).2 ≠ 0)) 5)).2 < l.f0)) 5) 32).2, (rdRaw b (rdRaw b (rdMust (rdNum b (rdMust (rdNum b (rdNum b s).1).1 (decide ((rdNum b (rdNum b s).1).2 ≠ 0)) 5)).1 (decide ((rdNum b (rdMust (rdNum b (rdNum b s).1).1 (decide ((rdNum b (rdNum b s).1).2 ≠ 0)) 5)).2 < l.f0)) 5) 32).1 32).2, (rdQc l b (rdRaw b (rdRaw b (rdMust (rdNum b (rdMust (rdNum b (rdNum b s).1).1 (decide ((rdNum b (rdNum b s).1).2 ≠ 0)) 5)).1 (decide ((rdNum b (rdMust (rdNum b (rdNum b s).1).1 (decide ((rdNum b (rdNum b s).1).2 ≠ 0)) 5)).2 < l.f0)) 5) 32).1 32).1).2⟩ : SHead))) rfl rfl (lt_ok rfl) rfl) ?_
 refine TL.c (Step.callX2 (b := 800) (xs := [.tmp 37, .tmp 40, .const (.int .i64 6)]) (ps := [(.one (.ptr 800 0)), (pB (!(headFits (⟨(rdNum b s).2, (rdNum b (rdNum b s).1).2, (rdNum b (rdMust (rdNum b (rdNum b s).1).1 (decide ((rdNum b (rdNum b s).1).2 ≠ 0)) 5)).2, (rdRaw b (rdMust (rdNum b (rdMust (rdNum b (rdNum b s).1).1 (decide ((rdNum b (rdNum b s).1).2 ≠ 0)) 5)).1 (decide ((rdNum b (rdMust (rdNum b (rdNum b s).1).1 (decide ((rdNum b (rdNum b s).1).2 ≠ 0)) 5)).2 < l.f0)) 5) 32).2, (rdRaw b (rdRaw b (rdMust (rdNum b (rdMust (rdNum b (rdNum b s).1).1 (decide ((rdNum b (rdNum b s).1).2 ≠ 0)) 5)).1 (decide ((rdNum b (rdMust (rdNum b (rdNum b s).1).1 (decide ((rdNum b (rdNum b s).1).2 ≠ 0)) 5)).2 < l.f0)) 5) 32).1 32).2, (rdQc l b (rdRaw b (rdRaw b (rdMust (rdNum b (rdMust (rdNum b (rdNum b s).1).1 (decide ((rdNum b (rdNum b s).1).2 ≠ 0)) 5)).1 (decide ((rdNum b (rdMust (rdNum b (rdNum b s).1).1 (decide ((rdNum b (rdNum b s).1).2 ≠ 0)) 5)).2 < l.f0)) 5) 32).1 32).1).2⟩ : SHead)))), (pI 6)]) (bps := [cS b, cI (rdQc l b (rdRaw b (rdRaw b (rdMust (rdNum b (rdMust (rdNum b (rdNum b s).1).1 (decide ((rdNum b (rdNum b s).1).2 ≠ 0)) 5)).1 (decide ((rdNum b (rdMust (rdNum b (rdNum b s).1).1 (decide ((rdNum b (rdNum b s).1).2 ≠ 0)) 5)).2 < l.f0)) 5) 32).1 32).1).1.f0, cI (rdQc l b (rdRaw b (rdRaw b (rdMust (rdNum b (rdMust (rdNum b (rdNum b s).1).1 (decide ((rdNum b (rdNum b s).1).2 ≠ 0)) 5)).1 (decide ((rdNum b (rdMust (rdNum b (rdNum b s).1).1 (decide ((rdNum b (rdNum b s).1).2 ≠ 0)) 5)).2 < l.f0)) 5) 32).1 32).1).1.f1]) (ss := []) (g := .func 140) (ok_spec_l11Fail (headFits (⟨(rdNum b s).2, (rdNum b (rdNum b s).1).2, (rdNum b (rdMust (rdNum b (rdNum b s).1).1 (decide ((rdNum b (rdNum b s).1).2 ≠ 0)) 5)).2, (rdRaw b (rdMust (rdNum b (rdMust (rdNum b (rdNum b s).1).1 (decide ((rdNum b (rdNum b s).1).2 ≠ 0)) 5)).1 (decide ((rdNum b (rdMust (rdNum b (rdNum b s).1).1 (decide ((rdNum b (rdNum b s).1).2 ≠ 0)) 5)).2 < l.f0)) 5) 32).2, (rdRaw b (rdRaw b (rdMust (rdNum b (rdMust (rdNum b (rdNum b s).1).1 (decide ((rdNum b (rdNum b s).1).2 ≠ 0)) 5)).1 (decide ((rdNum b (rdMust (rdNum b (rdNum b s).1).1 (decide ((rdNum b (rdNum b s).1).2 ≠ 0)) 5)).2 < l.f0)) 5) 32).1 32).2, (rdQc l b (rdRaw b (rdRaw b (rdMust (rdNum b (rdMust (rdNum b (rdNum b s).1).1 (decide ((rdNum b (rdNum b s).1).2 ≠ 0)) 5)).1 (decide ((rdNum b (rdMust (rdNum b (rdNum b s).1).1 (decide ((rdNum b (rdNum b s).1).2 ≠ 0)) 5)).2 < l.f0)) 5) 32).1 32).1).2⟩ : SHead)) b (rdQc l b (rdRaw b (rdRaw b (rdMust (rdNum b (rdMust (rdNum b (rdNum b s).1).1 (decide ((rdNum b (rdNum b s).1).2 ≠ 0)) 5)).1 (decide ((rdNum b (rdMust (rdNum b (rdNum b s).1).1 (decide ((rdNum b (rdNum b s).1).2 ≠ 0)) 5)).2 < l.f0)) 5) 32).1 32).1).1 (!(headFits (⟨(rdNum b s).2, (rdNum b (rdNum b s).1).2, (rdNum b (rdMust (rdNum b (rdNum b s).1).1 (decide ((rdNum b (rdNum b s).1).2 ≠ 0)) 5)).2, (rdRaw b (rdMust (rdNum b (rdMust (rdNum b (rdNum b s).1).1 (decide ((rdNum b (rdNum b s).1).2 ≠ 0)) 5)).1 (decide ((rdNum b (rdMust (rdNum b (rdNum b s).1).1 (decide ((rdNum b (rdNum b s).1).2 ≠ 0)) 5)).2 < l.f0)) 5) 32).2, (rdRaw b (rdRaw b (rdMust (rdNum b (rdMust (rdNum b (rdNum b s).1).1 (decide ((rdNum b (rdNum b s).1).2 ≠ 0)) 5)).1 (decide ((rdNum b (rdMust (rdNum b (rdNum b s).1).1 (decide ((rdNum b (rdNum b s).1).2 ≠ 0)) 5)).2 < l.f0)) 5) 32).1 32).2, (rdQc l b (rdRaw b (rdRaw b (rdMust (rdNum b (rdMust (rdNum b (rdNum b s).1).1 (decide ((rdNum b (rdNum b s).1).2 ≠ 0)) 5)).1 (decide ((rdNum b (rdMust (rdNum b (rdNum b s).1).1 (decide ((rdNum b (rdNum b s).1).2 ≠ 0)) 5)).2 < l.f0)) 5) 32).1 32).1).2⟩ : SHead))) 6 (by assumption) (by first | omega | assumption | (simp only [List.length_append] at *; omega)) (by first | rfl | (rw [Bool.eq_iff_iff]; simp only [Bool.not_eq_true', Bool.not_eq_false', decide_eq_true_eq, decide_eq_false_iff_not]; omega) | (simp; done))) rfl rfl (lt_ok rfl) rfl (by kernel_rfl) rfl (.cons (.bx) (.cons (.rd (.one (.d _))) (.cons (.rd (.one (.d _))) .nil))) rfl (.rd (.rd (.rd .nil))) rfl rfl (fun x hx => by have := hp x hx; omega) rfl) ?_
 refine TL.nil ?_
 refine T.wk [(4, (.one (.ptr 4 0))), (5, (.one (.ptr 5 0)))] [(4028, (5, (.ints .u8 (rdRaw b (rdMust (rdNum b (rdMust (rdNum b (rdNum b s).1).1 (decide ((rdNum b (rdNum b s).1).2 ≠ 0)) 5)).1 (decide ((rdNum b (rdMust (rdNum b (rdNum b s).1).1 (decide ((rdNum b (rdNum b s).1).2 ≠ 0)) 5)).2 < l.f0)) 5) 32).2))), (4031, (5, (.ints .u8 (rdRaw b (rdRaw b (rdMust (rdNum b (rdMust (rdNum b (rdNum b s).1).1 (decide ((rdNum b (rdNum b s).1).2 ≠ 0)) 5)).1 (decide ((rdNum b (rdMust (rdNum b (rdNum b s).1).1 (decide ((rdNum b (rdNum b s).1).2 ≠ 0)) 5)).2 < l.f0)) 5) 32).1 32).2))), (6035, (5, (.ints .u8 (rdQc l b (rdRaw b (rdRaw b (rdMust (rdNum b (rdMust (rdNum b (rdNum b s).1).1 (decide ((rdNum b (rdNum b s).1).2 ≠ 0)) 5)).1 (decide ((rdNum b (rdMust (rdNum b (rdNum b s).1).1 (decide ((rdNum b (rdNum b s).1).2 ≠ 0)) 5)).2 < l.f0)) 5) 32).1 32).1).2.f2))), (7035, (5, (.ints .u8 (rdQc l b (rdRaw b (rdRaw b (rdMust (rdNum b (rdMust (rdNum b (rdNum b s).1).1 (decide ((rdNum b (rdNum b s).1).2 ≠ 0)) 5)).1 (decide ((rdNum b (rdMust (rdNum b (rdNum b s).1).1 (decide ((rdNum b (rdNum b s).1).2 ≠ 0)) 5)).2 < l.f0)) 5) 32).1 32).1).2.f3))), (8035, (24, (.bss (rdQc l b (rdRaw b (rdRaw b (rdMust (rdNum b (rdMust (rdNum b (rdNum b s).1).1 (decide ((rdNum b (rdNum b s).1).2 ≠ 0)) 5)).1 (decide ((rdNum b (rdMust (rdNum b (rdNum b s).1).1 (decide ((rdNum b (rdNum b s).1).2 ≠ 0)) 5)).2 < l.f0)) 5) 32).1 32).1).2.f4)))] [(800, (110, [cS b, cI (rdMust (rdQc l b (rdRaw b (rdRaw b (rdMust (rdNum b (rdMust (rdNum b (rdNum b s).1).1 (decide ((rdNum b (rdNum b s).1).2 ≠ 0)) 5)).1 (decide ((rdNum b (rdMust (rdNum b (rdNum b s).1).1 (decide ((rdNum b (rdNum b s).1).2 ≠ 0)) 5)).2 < l.f0)) 5) 32).1 32).1).1 (headFits (⟨(rdNum b s).2, (rdNum b (rdNum b s).1).2, (rdNum b (rdMust (rdNum b (rdNum b s).1).1 (decide ((rdNum b (rdNum b s).1).2 ≠ 0)) 5)).2, (rdRaw b (rdMust (rdNum b (rdMust (rdNum b (rdNum b s).1).1 (decide ((rdNum b (rdNum b s).1).2 ≠ 0)) 5)).1 (decide ((rdNum b (rdMust (rdNum b (rdNum b s).1).1 (decide ((rdNum b (rdNum b s).1).2 ≠ 0)) 5)).2 < l.f0)) 5) 32).2, (rdRaw b (rdRaw b (rdMust (rdNum b (rdMust (rdNum b (rdNum b s).1).1 (decide ((rdNum b (rdNum b s).1).2 ≠ 0)) 5)).1 (decide ((rdNum b (rdMust (rdNum b (rdNum b s).1).1 (decide ((rdNum b (rdNum b s).1).2 ≠ 0)) 5)).2 < l.f0)) 5) 32).1 32).2, (rdQc l b (rdRaw b (rdRaw b (rdMust (rdNum b (rdMust (rdNum b (rdNum b s).1).1 (decide ((rdNum b (rdNum b s).1).2 ≠ 0)) 5)).1 (decide ((rdNum b (rdMust (rdNum b (rdNum b s).1).1 (decide ((rdNum b (rdNum b s).1).2 ≠ 0)) 5)).2 < l.f0)) 5) 32).1 32).1).2⟩ : SHead)) 6).f0, cI (rdMust (rdQc l b (rdRaw b (rdRaw b (rdMust (rdNum b (rdMust (rdNum b (rdNum b s).1).1 (decide ((rdNum b (rdNum b s).1).2 ≠ 0)) 5)).1 (decide ((rdNum b (rdMust (rdNum b (rdNum b s).1).1 (decide ((rdNum b (rdNum b s).1).2 ≠ 0)) 5)).2 < l.f0)) 5) 32).1 32).1).1 (headFits (⟨(rdNum b s).2, (rdNum b (rdNum b s).1).2, (rdNum b (rdMust (rdNum b (rdNum b s).1).1 (decide ((rdNum b (rdNum b s).1).2 ≠ 0)) 5)).2, (rdRaw b (rdMust (rdNum b (rdMust (rdNum b (rdNum b s).1).1 (decide ((rdNum b (rdNum b s).1).2 ≠ 0)) 5)).1 (decide ((rdNum b (rdMust (rdNum b (rdNum b s).1).1 (decide ((rdNum b (rdNum b s).1).2 ≠ 0)) 5)).2 < l.f0)) 5) 32).2, (rdRaw b (rdRaw b (rdMust (rdNum b (rdMust (rdNum b (rdNum b s).1).1 (decide ((rdNum b (rdNum b s).1).2 ≠ 0)) 5)).1 (decide ((rdNum b (rdMust (rdNum b (rdNum b s).1).1 (decide ((rdNum b (rdNum b s).1).2 ≠ 0)) 5)).2 < l.f0)) 5) 32).1 32).2, (rdQc l b (rdRaw b (rdRaw b (rdMust (rdNum b (rdMust (rdNum b (rdNum b s).1).1 (decide ((rdNum b (rdNum b s).1).2 ≠ 0)) 5)).1 (decide ((rdNum b (rdMust (rdNum b (rdNum b s).1).1 (decide ((rdNum b (rdNum b s).1).2 ≠ 0)) 5)).2 < l.f0)) 5) 32).1 32).1).2⟩ : SHead)) 6).f1])), (4, (54, [cI 0, cI 0, cI 0, .nil, .nil, cI 0, cI 0, .nil, .nil, .nil])), (5, (54, [cI (rdNum b s).2, cI (rdNum b (rdNum b s).1).2, cI (rdNum b (rdMust (rdNum b (rdNum b s).1).1 (decide ((rdNum b (rdNum b s).1).2 ≠ 0)) 5)).2, .row 4028 [], .row 4031 [], cI (rdQc l b (rdRaw b (rdRaw b (rdMust (rdNum b (rdMust (rdNum b (rdNum b s).1).1 (decide ((rdNum b (rdNum b s).1).2 ≠ 0)) 5)).1 (decide ((rdNum b (rdMust (rdNum b (rdNum b s).1).1 (decide ((rdNum b (rdNum b s).1).2 ≠ 0)) 5)).2 < l.f0)) 5) 32).1 32).1).2.f0, cI (rdQc l b (rdRaw b (rdRaw b (rdMust (rdNum b (rdMust (rdNum b (rdNum b s).1).1 (decide ((rdNum b (rdNum b s).1).2 ≠ 0)) 5)).1 (decide ((rdNum b (rdMust (rdNum b (rdNum b s).1).1 (decide ((rdNum b (rdNum b s).1).2 ≠ 0)) 5)).2 < l.f0)) 5) 32).1 32).1).2.f1, .row 6035 [], .row 7035 [], .row 8035 []]))] ?_
 refine T.seq ?_
 refine T.region ?_
 refine TL.c (Step.lba 10 [cI (rdNum b s).2, cI (rdNum b (rdNum b s).1).2, cI (rdNum b (rdMust (rdNum b (rdNum b s).1).1 (decide ((rdNum b (rdNum b s).1).2 ≠ 0)) 5)).2, .row 4028 [], .row 4031 [], cI (rdQc l b (rdRaw b (rdRaw b (rdMust (rdNum b (rdMust (rdNum b (rdNum b s).1).1 (decide ((rdNum b (rdNum b s).1).2 ≠ 0)) 5)).1 (decide ((rdNum b (rdMust (rdNum b (rdNum b s).1).1 (decide ((rdNum b (rdNum b s).1).2 ≠ 0)) 5)).2 < l.f0)) 5) 32).1 32).1).2.f0, cI (rdQc l b (rdRaw b (rdRaw b (rdMust (rdNum b (rdMust (rdNum b (rdNum b s).1).1 (decide ((rdNum b (rdNum b s).1).2 ≠ 0)) 5)).1 (decide ((rdNum b (rdMust (rdNum b (rdNum b s).1).1 (decide ((rdNum b (rdNum b s).1).2 ≠ 0)) 5)).2 < l.f0)) 5) 32).1 32).1).2.f1, .row 6035 [], .row 7035 [], .row 8035 []]) ?_
 refine TL.c (Step.sb 10 [cI (rdNum b s).2, cI (rdNum b (rdNum b s).1).2, cI (rdNum b (rdMust (rdNum b (rdNum b s).1).1 (decide ((rdNum b (rdNum b s).1).2 ≠ 0)) 5)).2, .row 4028 [], .row 4031 [], cI (rdQc l b (rdRaw b (rdRaw b (rdMust (rdNum b (rdMust (rdNum b (rdNum b s).1).1 (decide ((rdNum b (rdNum b s).1).2 ≠ 0)) 5)).1 (decide ((rdNum b (rdMust (rdNum b (rdNum b s).1).1 (decide ((rdNum b (rdNum b s).1).2 ≠ 0)) 5)).2 < l.f0)) 5) 32).1 32).1).2.f0, cI (rdQc l b (rdRaw b (rdRaw b (rdMust (rdNum b (rdMust (rdNum b (rdNum b s).1).1 (decide ((rdNum b (rdNum b s).1).2 ≠ 0)) 5)).1 (decide ((rdNum b (rdMust (rdNum b (rdNum b s).1).1 (decide ((rdNum b (rdNum b s).1).2 ≠ 0)) 5)).2 < l.f0)) 5) 32).1 32).1).2.f1, .row 6035 [], .row 7035 [], .row 8035 []]) ?_
 refine TL.nil ?_
 refine T.ret ?_
 refine ⟨[cS b, cI (rdMust (rdQc l b (rdRaw b (rdRaw b (rdMust (rdNum b (rdMust (rdNum b (rdNum b s).1).1 (decide ((rdNum b (rdNum b s).1).2 ≠ 0)) 5)).1 (decide ((rdNum b (rdMust (rdNum b (rdNum b s).1).1 (decide ((rdNum b (rdNum b s).1).2 ≠ 0)) 5)).2 < l.f0)) 5) 32).1 32).1).1 (headFits (⟨(rdNum b s).2, (rdNum b (rdNum b s).1).2, (rdNum b (rdMust (rdNum b (rdNum b s).1).1 (decide ((rdNum b (rdNum b s).1).2 ≠ 0)) 5)).2, (rdRaw b (rdMust (rdNum b (rdMust (rdNum b (rdNum b s).1).1 (decide ((rdNum b (rdNum b s).1).2 ≠ 0)) 5)).1 (decide ((rdNum b (rdMust (rdNum b (rdNum b s).1).1 (decide ((rdNum b (rdNum b s).1).2 ≠ 0)) 5)).2 < l.f0)) 5) 32).2, (rdRaw b (rdRaw b (rdMust (rdNum b (rdMust (rdNum b (rdNum b s).1).1 (decide ((rdNum b (rdNum b s).1).2 ≠ 0)) 5)).1 (decide ((rdNum b (rdMust (rdNum b (rdNum b s).1).1 (decide ((rdNum b (rdNum b s).1).2 ≠ 0)) 5)).2 < l.f0)) 5) 32).1 32).2, (rdQc l b (rdRaw b (rdRaw b (rdMust (rdNum b (rdMust (rdNum b (rdNum b s).1).1 (decide ((rdNum b (rdNum b s).1).2 ≠ 0)) 5)).1 (decide ((rdNum b (rdMust (rdNum b (rdNum b s).1).1 (decide ((rdNum b (rdNum b s).1).2 ≠ 0)) 5)).2 < l.f0)) 5) 32).1 32).1).2⟩ : SHead)) 6).f0, cI (rdMust (rdQc l b (rdRaw b (rdRaw b (rdMust (rdNum b (rdMust (rdNum b (rdNum b s).1).1 (decide ((rdNum b (rdNum b s).1).2 ≠ 0)) 5)).1 (decide ((rdNum b (rdMust (rdNum b (rdNum b s).1).1 (decide ((rdNum b (rdNum b s).1).2 ≠ 0)) 5)).2 < l.f0)) 5) 32).1 32).1).1 (headFits (⟨(rdNum b s).2, (rdNum b (rdNum b s).1).2, (rdNum b (rdMust (rdNum b (rdNum b s).1).1 (decide ((rdNum b (rdNum b s).1).2 ≠ 0)) 5)).2, (rdRaw b (rdMust (rdNum b (rdMust (rdNum b (rdNum b s).1).1 (decide ((rdNum b (rdNum b s).1).2 ≠ 0)) 5)).1 (decide ((rdNum b (rdMust (rdNum b (rdNum b s).1).1 (decide ((rdNum b (rdNum b s).1).2 ≠ 0)) 5)).2 < l.f0)) 5) 32).2, (rdRaw b (rdRaw b (rdMust (rdNum b (rdMust (rdNum b (rdNum b s).1).1 (decide ((rdNum b (rdNum b s).1).2 ≠ 0)) 5)).1 (decide ((rdNum b (rdMust (rdNum b (rdNum b s).1).1 (decide ((rdNum b (rdNum b s).1).2 ≠ 0)) 5)).2 < l.f0)) 5) 32).1 32).2, (rdQc l b (rdRaw b (rdRaw b (rdMust (rdNum b (rdMust (rdNum b (rdNum b s).1).1 (decide ((rdNum b (rdNum b s).1).2 ≠ 0)) 5)).1 (decide ((rdNum b (rdMust (rdNum b (rdNum b s).1).1 (decide ((rdNum b (rdNum b s).1).2 ≠ 0)) 5)).2 < l.f0)) 5) 32).1 32).1).2⟩ : SHead)) 6).f1], [(true, [cI (rdNum b s).2, cI (rdNum b (rdNum b s).1).2, cI (rdNum b (rdMust (rdNum b (rdNum b s).1).1 (decide ((rdNum b (rdNum b s).1).2 ≠ 0)) 5)).2, .row 4028 [], .row 4031 [], cI (rdQc l b (rdRaw b (rdRaw b (rdMust (rdNum b (rdMust (rdNum b (rdNum b s).1).1 (decide ((rdNum b (rdNum b s).1).2 ≠ 0)) 5)).1 (decide ((rdNum b (rdMust (rdNum b (rdNum b s).1).1 (decide ((rdNum b (rdNum b s).1).2 ≠ 0)) 5)).2 < l.f0)) 5) 32).1 32).1).2.f0, cI (rdQc l b (rdRaw b (rdRaw b (rdMust (rdNum b (rdMust (rdNum b (rdNum b s).1).1 (decide ((rdNum b (rdNum b s).1).2 ≠ 0)) 5)).1 (decide ((rdNum b (rdMust (rdNum b (rdNum b s).1).1 (decide ((rdNum b (rdNum b s).1).2 ≠ 0)) 5)).2 < l.f0)) 5) 32).1 32).1).2.f1, .row 6035 [], .row 7035 [], .row 8035 []])], rfl, rfl, (.cons rfl .nil), rfl, [4028, 4031, 6035, 7035, 8035], (RetC.r rfl (RetC.r ?_ (RetC.r ?_ (RetC.r ?_ (RetC.r ?_ (RetC.r ?_ (RetC.o ?_ (RetC.o ?_ (RetC.r ?_ (RetC.r ?_ (RetC.o ?_ (RetC.o ?_ (RetC.o ?_ .nil)))))))))))))⟩ <;> (rfl)
theorem ok_spec_ShaInit  : RO Try.prog 147 [] [(false, [.own 3 (.ints .i64 shaInit)])] := by
 refine RO.intro Try.func147 rfl 2 rfl (le_ok rfl) fun w Z => ?_
 refine T.seq ?_
 refine T.region ?_
 refine TL.as (.one (.nil)) ?_
 refine TL.nil ?_
 refine T.seq ?_
 refine T.region ?_
 refine TL.c (Step.lit (e := 3) (z := 1) (by_ := 8) (xs := [.const (.int .i64 1779033703), .const (.int .i64 3144134277), .const (.int .i64 1013904242), .const (.int .i64 2773480762), .const (.int .i64 1359893119), .const (.int .i64 2600822924), .const (.int .i64 528734635), .const (.int .i64 1541459225)]) (pss := [[cI 1779033703], [cI 3144134277], [cI 1013904242], [cI 2773480762], [cI 1359893119], [cI 2600822924], [cI 528734635], [cI 1541459225]]) (es := [(.int .i64 1779033703), (.int .i64 3144134277), (.int .i64 1013904242), (.int .i64 2773480762), (.int .i64 1359893119), (.int .i64 2600822924), (.int .i64 528734635), (.int .i64 1541459225)]) (ss := []) (d := (.ints .i64 [1779033703, 3144134277, 1013904242, 2773480762, 1359893119, 2600822924, 528734635, 1541459225])) rfl rfl (lt_ok rfl) (by kernel_rfl) rfl rfl (.cons rfl (.cons rfl (.cons rfl (.cons rfl (.cons rfl (.cons rfl (.cons rfl (.cons rfl .nil)))))))) (by simp) (le_ok rfl) (le_ok rfl) rfl (.val rfl (.val rfl (.val rfl (.val rfl (.val rfl (.val rfl (.val rfl (.val rfl .nil)))))))) rfl (by simp) (by simp) rfl trivial rfl rfl) ?_
 refine TL.as (.one (.row 1 [])) ?_
 refine TL.nil ?_
 refine T.ret ?_
 refine ⟨[(false, [.row 1 []])], (.cons rfl .nil), rfl, [1], (RetC.o ?_ .nil)⟩ <;> (rfl)
theorem ok_spec_ShaPad (b : List Int) (h0_ : b.length ≤ 17592186040000) : RO Try.prog 148 [.one (.ints .u8 b)] [(false, [.own 5 (.ints .u8 (shaPad b))])] := by
 refine RO.intro Try.func148 rfl 33 rfl (le_ok rfl) fun w Z => ?_
 refine T.bnd 0 0 rfl rfl fun hb_0_0 => ?_
 simp only [D.size, List.length_map] at hb_0_0
 refine T.seq ?_
 refine T.region ?_
 refine TL.as (.one (.nil)) ?_
 refine TL.nil ?_
 refine T.seq ?_
 refine T.region ?_
 refine TL.mv (pS b) ?_
 refine TL.c (Step.cl (xs := [.tmp 6]) (ps := [(pS b)]) (g := .func 160) false (.cons (.one (.d _)) .nil) (ok_spec_l01Copy b (by first | omega | assumption | (simp only [List.length_take, List.length_drop]; omega)))) ?_
 refine TL.c (Step.lit (e := 5) (z := 1) (by_ := 1) (xs := [.const (.int .u8 128)]) (pss := [[.d (.int .u8 128)]]) (es := [(.int .u8 128)]) (ss := []) (d := (.ints .u8 [128])) rfl rfl (lt_ok rfl) (by kernel_rfl) rfl rfl (.cons rfl .nil) (by simp) (le_ok rfl) (le_ok rfl) rfl (.val rfl .nil) rfl (by simp) (by simp) rfl trivial rfl rfl) ?_
 refine TL.c (Step.append (e := 5) (z := 1) (by_ := 1) (d := (.ints .u8 b)) (dy := (.ints .u8 [128])) (d' := (.ints .u8 (b ++ [128]))) (ss := []) rfl rfl (lt_ok rfl) (by kernel_rfl) rfl rfl rfl (lt_ok rfl) rfl (.copy rfl rfl rfl (by simp [D.flat, D.val])) (by simp) rfl (by simp only [D.size, List.length_map]; first | omega | (simp only [List.length_append, List.length_cons, List.length_nil]; omega) | (simp; omega) | (simp only [List.length_append] at *; omega)) (by simp only [D.size, List.length_map]; first | omega | (simp only [List.length_append, List.length_cons, List.length_nil]; omega) | (simp; omega) | (simp only [List.length_append] at *; omega)) (by simp)) ?_
 refine TL.as (.one (.row 1007 [])) ?_
 refine TL.nil ?_
 refine T.seq ?_
 refine T.block ?_
 refine T.loop (ι := Nat) (fun xx_ => { tm := [(0, (pS b)), (2, (.one (.nil))), (3, (.one (.row 1007 [])))], rows := [(1007, (5, (.ints .u8 (b ++ [128] ++ List.replicate xx_ 0)))), (8, (5, (.ints .u8 [128])))], boxes := [] }) (fun xx_ => xx_ ≤ padK b.length) (fun xx_ => padK b.length - xx_) 0 ?_ ?_ ?_
 · refine Env.le_mk ⟨rfl, rfl, rfl, trivial⟩ ⟨?_, rfl, trivial⟩ trivial <;> (first | rfl | (refine congrArg (fun x => some (_, D.ints .u8 x)) ?_; first | (simp; done) | (rw [List.replicate_succ', List.append_assoc, List.append_assoc]; first | done | rfl) | (simp only [List.append_assoc, List.replicate_succ', padB]; done) | (rw [show i = padK b.length from by unfold padK; omega]; simp [padB]; done)) | (refine congrArg (fun n => PV.one (.d (.int .i64 n))) ?_; first | rfl | omega | (simp; done)))
 · exact Nat.zero_le _
 intro i hx
 try dsimp only at hx ⊢
 have hl_ : (b ++ [128] ++ List.replicate i 0).length = b.length + 1 + i := by simp; omega
 have hk_ : padK b.length ≤ 63 := by unfold padK; omega
 refine T.seq ?_
 refine T.seq ?_
 refine T.region ?_
 refine TL.mv (.one (.row 1007 [])) ?_
 refine TL.c (Step.len (e := 5) (z := 1) (d := (.ints .u8 (b ++ [128] ++ List.replicate i 0))) rfl rfl (lt_ok rfl) (by kernel_rfl) rfl rfl) ?_
 refine TL.c (Step.bin (r := .int .i64 (((b ++ [128] ++ List.replicate i 0).length : Int) % 64)) rfl rfl (lt_ok rfl) rfl rfl (Bin.rem (k := .i64) (a := ((b ++ [128] ++ List.replicate i 0).length : Int)) (b := 64) (by decide) (Int.tmod_eq_emod_of_nonneg (by first | omega | (simp; omega))))) ?_
 refine TL.b _ (Bin.neq (k := .i64) (a := (((b ++ [128] ++ List.replicate i 0).length : Int) % 64)) (b := 56)) ?_
 refine TL.nil ?_
 refine T.ci rfl (fun h1 => ?_) (fun h1 => ?_)
 ·
  refine T.skip ?_
  refine T.block ?_
  refine T.region ?_
  refine TL.mv (.one (.row 1007 [])) ?_
  refine TL.c (Step.lit (e := 5) (z := 1) (by_ := 1) (xs := [.const (.int .u8 0)]) (pss := [[.d (.int .u8 0)]]) (es := [(.int .u8 0)]) (ss := []) (d := (.ints .u8 [0])) rfl rfl (lt_ok rfl) (by kernel_rfl) rfl rfl (.cons rfl .nil) (by simp) (le_ok rfl) (le_ok rfl) rfl (.val rfl .nil) rfl (by simp) (by simp) rfl trivial rfl rfl) ?_
  refine TL.c (Step.append (e := 5) (z := 1) (by_ := 1) (d := (.ints .u8 (b ++ [128] ++ List.replicate i 0))) (dy := (.ints .u8 [0])) (d' := (.ints .u8 ((b ++ [128] ++ List.replicate i 0) ++ [0]))) (ss := []) rfl rfl (lt_ok rfl) (by kernel_rfl) rfl rfl rfl (lt_ok rfl) rfl (.copy rfl rfl rfl (by simp [D.flat, D.val])) (by simp) rfl (by simp only [D.size, List.length_map]; first | omega | (simp only [List.length_append, List.length_cons, List.length_nil]; omega) | (simp; omega) | (simp only [List.length_append] at *; omega)) (by simp only [D.size, List.length_map]; first | omega | (simp only [List.length_append, List.length_cons, List.length_nil]; omega) | (simp; omega) | (simp only [List.length_append] at *; omega)) (by simp)) ?_
  refine TL.as (.one (.row 1007 [])) ?_
  refine TL.nil ?_
  refine ⟨i + 1, by (unfold padK at *; omega), by (unfold padK at *; omega), Env.le_mk ⟨rfl, rfl, rfl, trivial⟩ ⟨?_, rfl, trivial⟩ trivial⟩ <;> (first | rfl | (refine congrArg (fun x => some (_, D.ints .u8 x)) ?_; first | (simp; done) | (rw [List.replicate_succ', List.append_assoc, List.append_assoc]; first | done | rfl) | (simp only [List.append_assoc, List.replicate_succ', padB]; done) | (rw [show i = padK b.length from by unfold padK; omega]; simp [padB]; done)) | (refine congrArg (fun n => PV.one (.d (.int .i64 n))) ?_; first | rfl | omega | (simp; done)))
 refine T.exit ?_
 refine T.seq ?_
 refine T.region ?_
 refine TL.mv (pS b) ?_
 refine TL.c (Step.len (e := 5) (z := 1) (d := (.ints .u8 b)) rfl rfl (lt_ok rfl) (by kernel_rfl) rfl rfl) ?_
 refine TL.c (Step.bin (r := .int .i64 (8 * (b.length : Int))) rfl rfl (lt_ok rfl) rfl rfl (Bin.mul (a := 8) (b := (b.length : Int)) (by first | exact wrap_ok (by first | omega | (simp; omega)) (by first | omega | (simp; omega)) | rfl))) ?_
 refine TL.as (pI (8 * (b.length : Int))) ?_
 refine TL.nil ?_
 refine T.seq ?_
 refine T.seq ?_
 refine T.region ?_
 refine TL.as (pI 7) ?_
 refine TL.nil ?_
 refine T.block ?_
 refine T.loop (ι := Nat) (fun xx_ => { tm := [(2, (.one (.nil))), (4, (pI (8 * (b.length : Int)))), (3, (.one (.row 1007 []))), (5, (pI (7 - (xx_ : Int))))], rows := [(1007, (5, (.ints .u8 (b ++ [128] ++ List.replicate (padK b.length) 0 ++ padB b.length xx_)))), (8, (5, (.ints .u8 [128])))], boxes := [] }) (fun xx_ => xx_ ≤ 8) (fun xx_ => 8 - xx_) 0 ?_ ?_ ?_
 · refine Env.le_mk ⟨rfl, rfl, rfl, ?_, trivial⟩ ⟨?_, rfl, trivial⟩ trivial <;> (first | rfl | (refine congrArg (fun x => some (_, D.ints .u8 x)) ?_; first | (simp; done) | (rw [List.replicate_succ', List.append_assoc, List.append_assoc]; first | done | rfl) | (simp only [List.append_assoc, List.replicate_succ', padB]; done) | (rw [show i = padK b.length from by unfold padK at *; omega]; simp [padB]; done)) | (refine congrArg (fun n => PV.one (.d (.int .i64 n))) ?_; first | rfl | omega | (simp; done)))
 · exact Nat.zero_le _
 intro i hx
 try dsimp only at hx ⊢
 have hl_ : (b ++ [128] ++ List.replicate (padK b.length) 0 ++ padB b.length i).length = b.length + 1 + padK b.length + i := by simp [padB_len]; omega
 have hl3_ := padB_len b.length i
 have hk_ : padK b.length ≤ 63 := by unfold padK; omega
 refine T.seq ?_
 refine T.seq ?_
 refine T.region ?_
 refine TL.mv (pI (7 - (i : Int))) ?_
 refine TL.b _ (Bin.geq (k := .i64) (a := (7 - (i : Int))) (b := 0)) ?_
 refine TL.nil ?_
 refine T.ci rfl (fun h2 => ?_) (fun h2 => ?_)
 ·
  refine T.skip ?_
  refine T.seq ?_
  refine T.block ?_
  refine T.region ?_
  refine TL.mv (.one (.row 1007 [])) ?_
  refine TL.mv (pI (8 * (b.length : Int))) ?_
  refine TL.mv (pI (7 - (i : Int))) ?_
  refine TL.c (Step.bin (r := .int .i64 (8 * (7 - (i : Int)))) rfl rfl (lt_ok rfl) rfl rfl (Bin.mul (a := 8) (b := (7 - (i : Int))) (by first | exact wrap_ok (by first | omega | (simp; omega)) (by first | omega | (simp; omega)) | rfl))) ?_
  refine TL.c (Step.bin (r := .int .i64 (bshr (8 * (b.length : Int)) (8 * (7 - (i : Int))))) rfl rfl (lt_ok rfl) rfl rfl (Bin.shr (k := .i64) (k' := .i64) (a := (8 * (b.length : Int))) (b := (8 * (7 - (i : Int)))) (by first | omega | (simp; omega)) (rfl))) ?_
  refine TL.c (Step.conv (c := ((bshr (8 * (b.length : Int)) (8 * (7 - (i : Int)))) % 256)) rfl rfl (lt_ok rfl) (by kernel_rfl) (by kernel_rfl) rfl (wrap_byte _)) ?_
  refine TL.c (Step.lit (e := 5) (z := 1) (by_ := 1) (xs := [.tmp 29]) (pss := [[.d (.int .u8 ((bshr (8 * (b.length : Int)) (8 * (7 - (i : Int)))) % 256))]]) (es := [(.int .u8 ((bshr (8 * (b.length : Int)) (8 * (7 - (i : Int)))) % 256))]) (ss := []) (d := (.ints .u8 [(bshr (8 * (b.length : Int)) (8 * (7 - (i : Int)))) % 256])) rfl rfl (lt_ok rfl) (by kernel_rfl) rfl rfl (.cons rfl .nil) (by simp) (le_ok rfl) (le_ok rfl) rfl (.val rfl .nil) rfl (by simp) (by simp) rfl trivial rfl rfl) ?_
  refine TL.c (Step.append (e := 5) (z := 1) (by_ := 1) (d := (.ints .u8 (b ++ [128] ++ List.replicate (padK b.length) 0 ++ padB b.length i))) (dy := (.ints .u8 [(bshr (8 * (b.length : Int)) (8 * (7 - (i : Int)))) % 256])) (d' := (.ints .u8 ((b ++ [128] ++ List.replicate (padK b.length) 0 ++ padB b.length i) ++ [(bshr (8 * (b.length : Int)) (8 * (7 - (i : Int)))) % 256]))) (ss := []) rfl rfl (lt_ok rfl) (by kernel_rfl) rfl rfl rfl (lt_ok rfl) rfl (.copy rfl rfl rfl (by simp [D.flat, D.val])) (by simp) rfl (by simp only [D.size, List.length_map]; first | omega | (simp only [List.length_append, List.length_cons, List.length_nil]; omega) | (simp; omega) | (simp only [List.length_append] at *; omega)) (by simp only [D.size, List.length_map]; first | omega | (simp only [List.length_append, List.length_cons, List.length_nil]; omega) | (simp; omega) | (simp only [List.length_append] at *; omega)) (by simp)) ?_
  refine TL.as (.one (.row 1007 [])) ?_
  refine TL.nil ?_
  refine T.region ?_
  refine TL.mv (pI (7 - (i : Int))) ?_
  refine TL.c (Step.bin (r := .int .i64 ((7 - (i : Int)) - 1)) rfl rfl (lt_ok rfl) rfl rfl (Bin.sub (a := (7 - (i : Int))) (b := 1) (by first | exact wrap_ok (by first | omega | (simp; omega)) (by first | omega | (simp; omega)) | rfl))) ?_
  refine TL.as (pI ((7 - (i : Int)) - 1)) ?_
  refine TL.nil ?_
  refine ⟨i + 1, by omega, by omega, Env.le_mk ⟨rfl, rfl, rfl, ?_, trivial⟩ ⟨?_, rfl, trivial⟩ trivial⟩ <;> (first | rfl | (refine congrArg (fun x => some (_, D.ints .u8 x)) ?_; first | (simp; done) | (rw [List.replicate_succ', List.append_assoc, List.append_assoc]; first | done | rfl) | (simp only [List.append_assoc, List.replicate_succ', padB]; done) | (rw [show i = padK b.length from by unfold padK at *; omega]; simp [padB]; done)) | (refine congrArg (fun n => PV.one (.d (.int .i64 n))) ?_; first | rfl | omega | (simp; done)))
 refine T.exit ?_
 refine T.seq ?_
 refine T.region ?_
 refine TL.mv (.one (.row 1007 [])) ?_
 refine TL.as (.one (.row 1007 [])) ?_
 refine TL.nil ?_
 refine T.ret ?_
 refine ⟨[(false, [.row 1007 []])], (.cons rfl .nil), rfl, [1007], (RetC.o ?_ .nil)⟩ <;> ((congr 1; unfold shaPad; rw [show i = 8 from by omega]))
theorem ok_spec_l04Word (x : Int) : RO Try.prog 186 [.one (.int .i64 x)] [(false, [.rd (.bool (decide (0 ≤ x ∧ x ≤ 4294967295)))])] := by
 refine RO.intro Try.func186 rfl 5 rfl (le_ok rfl) fun w Z => ?_
 refine T.seq ?_
 refine T.region ?_
 refine TL.as (pB false) ?_
 refine TL.nil ?_
 refine T.seq ?_
 refine T.region ?_
 refine TL.mv (pI x) ?_
 refine TL.c (Step.cl (xs := [.tmp 3, .const (.int .i64 0), .const (.int .i64 4294967295)]) (ps := [(pI x), (pI 0), (pI 4294967295)]) (g := .func 114) false (.cons (.one (.d _)) (.cons (.one (.d _)) (.cons (.one (.d _)) .nil))) (ok_spec_l01In x 0 4294967295)) ?_
 refine TL.as (pB (decide (0 ≤ x ∧ x ≤ 4294967295))) ?_
 refine TL.nil ?_
 refine T.ret ?_
 exact ⟨[(false, [.d (.bool (decide (0 ≤ x ∧ x ≤ 4294967295)))])], (.cons rfl .nil), rfl, [], (RetC.rd' rfl .nil)⟩
theorem ok_spec_l04Turn (x : Int) (n : Int) (h0_ : 0 ≤ n ∧ n ≤ 31) : RO Try.prog 187 [.one (.int .i64 x), .one (.int .i64 n)] [(false, [.rd (.int .i64 (turnW x n))])] := by
 refine RO.intro Try.func187 rfl 14 rfl (le_ok rfl) fun w Z => ?_
 refine T.seq ?_
 refine T.region ?_
 refine TL.as (pI 0) ?_
 refine TL.nil ?_
 refine T.seq ?_
 refine T.draw [⟨5, (pI x), []⟩, ⟨6, (pI n), []⟩, ⟨7, (pI (bshr x n)), []⟩, ⟨8, (pI x), []⟩, ⟨9, (pI n), []⟩, ⟨10, (pI (32 - n)), []⟩, ⟨11, (pI (bshl x (32 - n))), []⟩, ⟨12, (pI (bor (bshr x n) (bshl x (32 - n)))), []⟩, ⟨13, (pI (band (bor (bshr x n) (bshl x (32 - n))) 4294967295)), []⟩, ⟨4, (pI (band (bor (bshr x n) (bshl x (32 - n))) 4294967295)), []⟩] (by kernel_rfl) (by kernel_rfl) ?_ ?_
 ·
  refine .cons (fun E A => A.mv 0 5) ?_
  refine .cons (fun E A => A.mv 1 6) ?_
  refine .cons (fun E A => OpStep.plain rfl (Step.bd (r := .int .i64 (bshr x n)) 7 (A.g 5 rfl) (A.g 6 rfl) (Bin.shr (k := .i64) (k' := .i64) (a := x) (b := n) (by first | omega | (simp; omega)) (rfl)))) ?_
  refine .cons (fun E A => A.mv 0 8) ?_
  refine .cons (fun E A => A.mv 1 9) ?_
  refine .cons (fun E A => OpStep.plain rfl (Step.bd (r := .int .i64 (32 - n)) 10 rfl (A.g 9 rfl) (Bin.sub (a := 32) (b := n) (by first | exact wrap_ok (by first | omega | (simp; omega)) (by first | omega | (simp; omega)) | rfl)))) ?_
  refine .cons (fun E A => OpStep.plain rfl (Step.bd (r := .int .i64 (bshl x (32 - n))) 11 (A.g 8 rfl) (A.g 10 rfl) (Bin.shl (k := .i64) (k' := .i64) (a := x) (b := (32 - n)) (by first | omega | (simp; omega)) (rfl)))) ?_
  refine .cons (fun E A => OpStep.plain rfl (Step.bd (r := .int .i64 (bor (bshr x n) (bshl x (32 - n)))) 12 (A.g 7 rfl) (A.g 11 rfl) (Bin.or (k := .i64) (a := (bshr x n)) (b := (bshl x (32 - n))) (rfl)))) ?_
  refine .cons (fun E A => OpStep.plain rfl (Step.bd (r := .int .i64 (band (bor (bshr x n) (bshl x (32 - n))) 4294967295)) 13 (A.g 12 rfl) rfl (Bin.and (k := .i64) (a := (bor (bshr x n) (bshl x (32 - n)))) (b := 4294967295) (rfl)))) ?_
  refine .cons (fun E A => A.as 13 4) ?_
  exact .nil _ _
 refine TL.nil ?_
 refine T.ret ?_
 refine ⟨[(false, [cI (band (bor (bshr x n) (bshl x (32 - n))) 4294967295)])], (.cons rfl .nil), rfl, [], (RetC.r ?_ .nil)⟩ <;> (rfl)
theorem ok_spec_l04K  : RO Try.prog 188 [] [(false, [.own 3 (.ints .i64 shaK)])] := by
 refine RO.intro Try.func188 rfl 2 rfl (le_ok rfl) fun w Z => ?_
 refine T.seq ?_
 refine T.region ?_
 refine TL.as (.one (.nil)) ?_
 refine TL.nil ?_
 refine T.seq ?_
 refine T.region ?_
 refine TL.c (Step.lit (e := 3) (z := 1) (by_ := 8) (xs := [.const (.int .i64 1116352408), .const (.int .i64 1899447441), .const (.int .i64 3049323471), .const (.int .i64 3921009573), .const (.int .i64 961987163), .const (.int .i64 1508970993), .const (.int .i64 2453635748), .const (.int .i64 2870763221), .const (.int .i64 3624381080), .const (.int .i64 310598401), .const (.int .i64 607225278), .const (.int .i64 1426881987), .const (.int .i64 1925078388), .const (.int .i64 2162078206), .const (.int .i64 2614888103), .const (.int .i64 3248222580), .const (.int .i64 3835390401), .const (.int .i64 4022224774), .const (.int .i64 264347078), .const (.int .i64 604807628), .const (.int .i64 770255983), .const (.int .i64 1249150122), .const (.int .i64 1555081692), .const (.int .i64 1996064986), .const (.int .i64 2554220882), .const (.int .i64 2821834349), .const (.int .i64 2952996808), .const (.int .i64 3210313671), .const (.int .i64 3336571891), .const (.int .i64 3584528711), .const (.int .i64 113926993), .const (.int .i64 338241895), .const (.int .i64 666307205), .const (.int .i64 773529912), .const (.int .i64 1294757372), .const (.int .i64 1396182291), .const (.int .i64 1695183700), .const (.int .i64 1986661051), .const (.int .i64 2177026350), .const (.int .i64 2456956037), .const (.int .i64 2730485921), .const (.int .i64 2820302411), .const (.int .i64 3259730800), .const (.int .i64 3345764771), .const (.int .i64 3516065817), .const (.int .i64 3600352804), .const (.int .i64 4094571909), .const (.int .i64 275423344), .const (.int .i64 430227734), .const (.int .i64 506948616), .const (.int .i64 659060556), .const (.int .i64 883997877), .const (.int .i64 958139571), .const (.int .i64 1322822218), .const (.int .i64 1537002063), .const (.int .i64 1747873779), .const (.int .i64 1955562222), .const (.int .i64 2024104815), .const (.int .i64 2227730452), .const (.int .i64 2361852424), .const (.int .i64 2428436474), .const (.int .i64 2756734187), .const (.int .i64 3204031479), .const (.int .i64 3329325298)]) (pss := [[cI 1116352408], [cI 1899447441], [cI 3049323471], [cI 3921009573], [cI 961987163], [cI 1508970993], [cI 2453635748], [cI 2870763221], [cI 3624381080], [cI 310598401], [cI 607225278], [cI 1426881987], [cI 1925078388], [cI 2162078206], [cI 2614888103], [cI 3248222580], [cI 3835390401], [cI 4022224774], [cI 264347078], [cI 604807628], [cI 770255983], [cI 1249150122], [cI 1555081692], [cI 1996064986], [cI 2554220882], [cI 2821834349], [cI 2952996808], [cI 3210313671], [cI 3336571891], [cI 3584528711], [cI 113926993], [cI 338241895], [cI 666307205], [cI 773529912], [cI 1294757372], [cI 1396182291], [cI 1695183700], [cI 1986661051], [cI 2177026350], [cI 2456956037], [cI 2730485921], [cI 2820302411], [cI 3259730800], [cI 3345764771], [cI 3516065817], [cI 3600352804], [cI 4094571909], [cI 275423344], [cI 430227734], [cI 506948616], [cI 659060556], [cI 883997877], [cI 958139571], [cI 1322822218], [cI 1537002063], [cI 1747873779], [cI 1955562222], [cI 2024104815], [cI 2227730452], [cI 2361852424], [cI 2428436474], [cI 2756734187], [cI 3204031479], [cI 3329325298]]) (es := [(.int .i64 1116352408), (.int .i64 1899447441), (.int .i64 3049323471), (.int .i64 3921009573), (.int .i64 961987163), (.int .i64 1508970993), (.int .i64 2453635748), (.int .i64 2870763221), (.int .i64 3624381080), (.int .i64 310598401), (.int .i64 607225278), (.int .i64 1426881987), (.int .i64 1925078388), (.int .i64 2162078206), (.int .i64 2614888103), (.int .i64 3248222580), (.int .i64 3835390401), (.int .i64 4022224774), (.int .i64 264347078), (.int .i64 604807628), (.int .i64 770255983), (.int .i64 1249150122), (.int .i64 1555081692), (.int .i64 1996064986), (.int .i64 2554220882), (.int .i64 2821834349), (.int .i64 2952996808), (.int .i64 3210313671), (.int .i64 3336571891), (.int .i64 3584528711), (.int .i64 113926993), (.int .i64 338241895), (.int .i64 666307205), (.int .i64 773529912), (.int .i64 1294757372), (.int .i64 1396182291), (.int .i64 1695183700), (.int .i64 1986661051), (.int .i64 2177026350), (.int .i64 2456956037), (.int .i64 2730485921), (.int .i64 2820302411), (.int .i64 3259730800), (.int .i64 3345764771), (.int .i64 3516065817), (.int .i64 3600352804), (.int .i64 4094571909), (.int .i64 275423344), (.int .i64 430227734), (.int .i64 506948616), (.int .i64 659060556), (.int .i64 883997877), (.int .i64 958139571), (.int .i64 1322822218), (.int .i64 1537002063), (.int .i64 1747873779), (.int .i64 1955562222), (.int .i64 2024104815), (.int .i64 2227730452), (.int .i64 2361852424), (.int .i64 2428436474), (.int .i64 2756734187), (.int .i64 3204031479), (.int .i64 3329325298)]) (ss := []) (d := (.ints .i64 [1116352408, 1899447441, 3049323471, 3921009573, 961987163, 1508970993, 2453635748, 2870763221, 3624381080, 310598401, 607225278, 1426881987, 1925078388, 2162078206, 2614888103, 3248222580, 3835390401, 4022224774, 264347078, 604807628, 770255983, 1249150122, 1555081692, 1996064986, 2554220882, 2821834349, 2952996808, 3210313671, 3336571891, 3584528711, 113926993, 338241895, 666307205, 773529912, 1294757372, 1396182291, 1695183700, 1986661051, 2177026350, 2456956037, 2730485921, 2820302411, 3259730800, 3345764771, 3516065817, 3600352804, 4094571909, 275423344, 430227734, 506948616, 659060556, 883997877, 958139571, 1322822218, 1537002063, 1747873779, 1955562222, 2024104815, 2227730452, 2361852424, 2428436474, 2756734187, 3204031479, 3329325298])) rfl rfl (lt_ok rfl) (by kernel_rfl) rfl rfl (.cons rfl (.cons rfl (.cons rfl (.cons rfl (.cons rfl (.cons rfl (.cons rfl (.cons rfl (.cons rfl (.cons rfl (.cons rfl (.cons rfl (.cons rfl (.cons rfl (.cons rfl (.cons rfl (.cons rfl (.cons rfl (.cons rfl (.cons rfl (.cons rfl (.cons rfl (.cons rfl (.cons rfl (.cons rfl (.cons rfl (.cons rfl (.cons rfl (.cons rfl (.cons rfl (.cons rfl (.cons rfl (.cons rfl (.cons rfl (.cons rfl (.cons rfl (.cons rfl (.cons rfl (.cons rfl (.cons rfl (.cons rfl (.cons rfl (.cons rfl (.cons rfl (.cons rfl (.cons rfl (.cons rfl (.cons rfl (.cons rfl (.cons rfl (.cons rfl (.cons rfl (.cons rfl (.cons rfl (.cons rfl (.cons rfl (.cons rfl (.cons rfl (.cons rfl (.cons rfl (.cons rfl (.cons rfl (.cons rfl (.cons rfl .nil)))))))))))))))))))))))))))))))))))))))))))))))))))))))))))))))) (by simp) (le_ok rfl) (le_ok rfl) rfl (.val rfl (.val rfl (.val rfl (.val rfl (.val rfl (.val rfl (.val rfl (.val rfl (.val rfl (.val rfl (.val rfl (.val rfl (.val rfl (.val rfl (.val rfl (.val rfl (.val rfl (.val rfl (.val rfl (.val rfl (.val rfl (.val rfl (.val rfl (.val rfl (.val rfl (.val rfl (.val rfl (.val rfl (.val rfl (.val rfl (.val rfl (.val rfl (.val rfl (.val rfl (.val rfl (.val rfl (.val rfl (.val rfl (.val rfl (.val rfl (.val rfl (.val rfl (.val rfl (.val rfl (.val rfl (.val rfl (.val rfl (.val rfl (.val rfl (.val rfl (.val rfl (.val rfl (.val rfl (.val rfl (.val rfl (.val rfl (.val rfl (.val rfl (.val rfl (.val rfl (.val rfl (.val rfl (.val rfl (.val rfl .nil)))))))))))))))))))))))))))))))))))))))))))))))))))))))))))))))) rfl (by simp) (by simp) rfl trivial rfl rfl) ?_
 refine TL.as (.one (.row 1 [])) ?_
 refine TL.nil ?_
 refine T.ret ?_
 refine ⟨[(false, [.row 1 []])], (.cons rfl .nil), rfl, [1], (RetC.o ?_ .nil)⟩ <;> (rfl)
theorem ok_spec_ShaBlock (h : List Int) (b : List Int) (h0_ : U8s b) : RO Try.prog 149 [.one (.ints .i64 h), .one (.ints .u8 b)] [(false, [.own 3 (.ints .i64 (shaBlock h b))])] := by
 refine RO.intro Try.func149 rfl 254 rfl (le_ok rfl) fun w Z => ?_
 refine T.bnd 0 0 rfl rfl fun hb_0_0 => ?_
 simp only [D.size, List.length_map] at hb_0_0
 refine T.bnd 1 0 rfl rfl fun hb_1_0 => ?_
 simp only [D.size, List.length_map] at hb_1_0
 refine T.seq ?_
 refine T.region ?_
 refine TL.as (.one (.nil)) ?_
 refine TL.nil ?_
 refine T.seq ?_
 refine T.seq ?_
 refine T.region ?_
 refine TL.mv (.one (.d (.ints .i64 h))) ?_
 refine TL.c (Step.len (e := 3) (z := 1) (d := (.ints .i64 h)) rfl rfl (lt_ok rfl) (by kernel_rfl) rfl rfl) ?_
 refine TL.b _ (Bin.neq (k := .i64) (a := (h.length : Int)) (b := 8)) ?_
 refine TL.mv (pB (decide ((h.length : Int) ≠ 8))) ?_
 rcases Bool.eq_false_or_eq_true (decide ((h.length : Int) ≠ 8)) with hb1 | hb1
 ·
  refine TL.known 26 hb1 rfl ?_
  have hb1' := hb1
  replace hb1' := of_decide_eq_true hb1'
  refine TL.gf 26 ?_
  refine TL.gf 26 ?_
  refine TL.gf 26 ?_
  refine TL.pk true (pB true) ?_
  refine TL.nil ?_
  refine T.ct ?_
  refine T.seq ?_
  refine T.region ?_
  refine TL.as (.one (.nil)) ?_
  refine TL.nil ?_
  refine T.ret ?_
  refine ⟨[(false, [.nil])], (.cons rfl .nil), rfl, [], (RetC.nn ?_ .nil)⟩ <;> (first | (rw [shaBlock_yes (h := h) (b := b) ⟨by omega, by omega, hwo_⟩, show i = 8 from by omega]; done) | (simp only [D.size]; first | (rw [shaBlock_no (fun h_ => by have := h_.1; have := h_.2.1; omega)]; rfl) | (rw [shaBlock_no (fun h_ => by have := h_.2.2; rw [words_no (i := i) (by omega) (by omega)] at this; cases this)]; rfl)))
 refine TL.known 26 hb1 rfl ?_
 have hb1' := hb1
 replace hb1' := of_decide_eq_false hb1'
 refine TL.gm 26 (pS b) ?_
 refine TL.gy 26 (Step.len (e := 5) (z := 1) (d := (.ints .u8 b)) rfl rfl (lt_ok rfl) (by kernel_rfl) rfl rfl) ?_
 refine TL.gy 26 (Step.bin rfl rfl (lt_ok rfl) rfl rfl (Bin.neq (k := .i64) (a := (b.length : Int)) (b := 64))) ?_
 refine TL.pk false (pB (decide ((b.length : Int) ≠ 64))) ?_
 refine TL.nil ?_
 refine T.ci rfl (fun h2 => ?_) (fun h2 => ?_)
 ·
  refine T.seq ?_
  refine T.region ?_
  refine TL.as (.one (.nil)) ?_
  refine TL.nil ?_
  refine T.ret ?_
  refine ⟨[(false, [.nil])], (.cons rfl .nil), rfl, [], (RetC.nn ?_ .nil)⟩ <;> (first | (rw [shaBlock_yes (h := h) (b := b) ⟨by omega, by omega, hwo_⟩, show i = 8 from by omega]; done) | (simp only [D.size]; first | (rw [shaBlock_no (fun h_ => by have := h_.1; have := h_.2.1; omega)]; rfl) | (rw [shaBlock_no (fun h_ => by have := h_.2.2; rw [words_no (i := i) (by omega) (by omega)] at this; cases this)]; rfl)))
 refine T.skip ?_
 refine T.seq ?_
 refine T.seq ?_
 refine T.region ?_
 refine TL.mv (.one (.d (.ints .i64 h))) ?_
 refine TL.c (Step.len (e := 3) (z := 1) (d := (.ints .i64 h)) rfl rfl (lt_ok rfl) (by kernel_rfl) rfl rfl) ?_
 refine TL.mv (pI 0) ?_
 refine TL.nil ?_
 refine T.block ?_
 refine T.loop (ι := Nat) (fun xx_ => { tm := [(0, (.one (.d (.ints .i64 h)))), (1, (pS b)), (31, (.one (.d (.ints .i64 h)))), (32, (pI (h.length : Int))), (33, (pI (xx_ : Int)))], rows := [], boxes := [] }) (fun xx_ => xx_ ≤ h.length ∧ wordsOk (h.take xx_) = true) (fun xx_ => h.length - xx_) 0 ?_ ?_ ?_
 · refine Env.le_mk ⟨rfl, rfl, rfl, rfl, ?_, trivial⟩ trivial trivial <;> (first | rfl | (simp; done) | (congr 3; omega))
 · (refine ⟨Nat.zero_le _, by rw [List.take_zero]; rfl⟩)
 intro i hx
 try dsimp only at hx ⊢
 obtain ⟨hx1, hx2⟩ := hx
 refine T.seq ?_
 refine T.region ?_
 refine TL.b _ (Bin.lss (k := .i64) (a := (i : Int)) (b := (h.length : Int))) ?_
 refine TL.nil ?_
 refine T.seq ?_
 refine T.ci rfl (fun h3 => ?_) (fun h3 => ?_)
 ·
  refine T.skip ?_
  refine T.seq ?_
  refine T.block ?_
  refine T.seq ?_
  refine T.region ?_
  refine TL.c (Step.index (e := 3) (z := 1) (i := (i : Int)) rfl rfl (lt_ok rfl) (by kernel_rfl) rfl rfl rfl (lt_ok rfl) rfl (by first | omega | (simp; omega) | (simp [w16_len, wN_len]; omega)) (by simp only [D.size]; first | omega | (simp; omega) | (simp [w16_len, wN_len]; omega))) ?_
  refine TL.c (Step.load (e := (.int .i64 (h.getD i 0))) rfl rfl (lt_ok rfl) (by kernel_rfl) rfl rfl) ?_
  refine TL.as (pI (h.getD i 0)) ?_
  refine TL.nil ?_
  refine T.seq ?_
  refine T.region ?_
  refine TL.mv (pI (h.getD i 0)) ?_
  refine TL.c (Step.cl (xs := [.tmp 37]) (ps := [(pI (h.getD i 0))]) (g := .func 186) false (.cons (.one (.d _)) .nil) (ok_spec_l04Word (h.getD i 0))) ?_
  refine TL.c (Step.not (b := (decide (0 ≤ (h.getD i 0) ∧ (h.getD i 0) ≤ 4294967295))) rfl rfl (lt_ok rfl) rfl) ?_
  refine TL.nil ?_
  refine T.cni rfl (fun h4 => ?_) (fun h4 => ?_)
  ·
   refine T.seq ?_
   refine T.region ?_
   refine TL.as (.one (.nil)) ?_
   refine TL.nil ?_
   refine T.ret ?_
   refine ⟨[(false, [.nil])], (.cons rfl .nil), rfl, [], (RetC.nn ?_ .nil)⟩ <;> (first | (rw [shaBlock_yes (h := h) (b := b) ⟨by omega, by omega, hwo_⟩, show i = 8 from by omega]; done) | (simp only [D.size]; first | (rw [shaBlock_no (fun h_ => by have := h_.1; have := h_.2.1; omega)]; rfl) | (rw [shaBlock_no (fun h_ => by have := h_.2.2; rw [words_no (i := i) (by omega) (by omega)] at this; cases this)]; rfl)))
  refine T.skip ?_
  refine T.region ?_
  refine TL.c (Step.bin (r := .int .i64 ((i : Int) + 1)) rfl rfl (lt_ok rfl) rfl rfl (Bin.add (a := (i : Int)) (b := 1) (by first | exact wrap_ok (by first | omega | (simp; omega) | (simp [w16_len, wN_len]; omega)) (by first | omega | (simp; omega) | (simp [w16_len, wN_len]; omega)) | rfl))) ?_
  refine TL.mv (pI ((i : Int) + 1)) ?_
  refine TL.nil ?_
  refine ⟨i + 1, by (refine ⟨by omega, words_step (by omega) hx2 (by omega)⟩), by first | omega | (dsimp only; omega), Env.le_mk ⟨rfl, rfl, rfl, rfl, ?_, trivial⟩ trivial trivial⟩ <;> (first | rfl | (simp; done) | (congr 3; omega))
 refine T.exit ?_
 refine T.seq ?_
 refine T.region ?_
 refine TL.c (Step.lit (e := 3) (z := 1) (by_ := 8) (xs := []) (pss := []) (es := []) (ss := []) (d := (.ints .i64 [])) rfl rfl (lt_ok rfl) (by kernel_rfl) rfl rfl .nil (by simp) (le_ok rfl) (le_ok rfl) rfl .nil rfl (by simp) (by simp) rfl trivial rfl rfl) ?_
 refine TL.as (.one (.row 41 [])) ?_
 refine TL.nil ?_
 refine T.seq ?_
 refine T.seq ?_
 refine T.region ?_
 refine TL.as (pI 0) ?_
 refine TL.nil ?_
 refine T.block ?_
 refine T.loop (ι := Nat) (fun xx_ => { tm := [(0, (.one (.d (.ints .i64 h)))), (1, (pS b)), (8, (pI (4 * (xx_ : Int)))), (7, (.one (.row 41 [])))], rows := [(41, (3, (.ints .i64 (w16 b xx_))))], boxes := [] }) (fun xx_ => xx_ ≤ 16) (fun xx_ => 16 - xx_) 0 ?_ ?_ ?_
 · refine Env.le_mk ⟨rfl, rfl, ?_, rfl, trivial⟩ ⟨?_, trivial⟩ trivial <;> (first | rfl | (refine congrArg (fun x => some (_, D.ints .i64 x)) ?_; first | rfl | fail) | (refine congrArg (fun n => PV.one (.d (.int .i64 n))) ?_; first | rfl | omega | (simp; done)))
 · exact Nat.zero_le _
 intro i hx
 try dsimp only at hx ⊢
 have hwo_ : wordsOk h = true := by rw [List.take_of_length_le (by omega)] at hx2; exact hx2
 have hl_ := w16_len b i
 have hu0_ := getD_u8 h0_ (4 * (i : Int)).toNat
 have hu1_ := getD_u8 h0_ (4 * (i : Int) + 1).toNat
 have hu2_ := getD_u8 h0_ (4 * (i : Int) + 2).toNat
 have hu3_ := getD_u8 h0_ (4 * (i : Int) + 3).toNat
 refine T.seq ?_
 refine T.seq ?_
 refine T.region ?_
 refine TL.mv (pI (4 * (i : Int))) ?_
 refine TL.b _ (Bin.lss (k := .i64) (a := (4 * (i : Int))) (b := 64)) ?_
 refine TL.nil ?_
 refine T.ci rfl (fun h5 => ?_) (fun h5 => ?_)
 ·
  refine T.skip ?_
  refine T.seq ?_
  refine T.block ?_
  obtain ⟨y6, hy6_⟩ : ∃ y_, y_ = bshl (b.getD (4 * (i : Int)).toNat 0) 24 := ⟨_, rfl⟩
  obtain ⟨y7, hy7_⟩ : ∃ y_, y_ = bshl (b.getD ((4 * (i : Int)) + 1).toNat 0) 16 := ⟨_, rfl⟩
  obtain ⟨y8, hy8_⟩ : ∃ y_, y_ = bshl (b.getD ((4 * (i : Int)) + 2).toNat 0) 8 := ⟨_, rfl⟩
  obtain ⟨y9, hy9_⟩ : ∃ y_, y_ = bor (bor (bor y6 y7) y8) (b.getD ((4 * (i : Int)) + 3).toNat 0) := ⟨_, rfl⟩
  refine T.draw [⟨46, (.one (.row 41 [])), []⟩, ⟨47, (pS b), []⟩, ⟨48, (pI (4 * (i : Int))), []⟩, ⟨49, (.one (.eptr (.ints .u8 b) (4 * (i : Int)).toNat 0)), []⟩, ⟨50, (.one (.d (.int .u8 (b.getD (4 * (i : Int)).toNat 0)))), []⟩, ⟨51, (pI (b.getD (4 * (i : Int)).toNat 0)), []⟩, ⟨52, (pI y6), []⟩, ⟨53, (pS b), []⟩, ⟨54, (pI (4 * (i : Int))), []⟩, ⟨55, (pI ((4 * (i : Int)) + 1)), []⟩, ⟨56, (.one (.eptr (.ints .u8 b) ((4 * (i : Int)) + 1).toNat 0)), []⟩, ⟨57, (.one (.d (.int .u8 (b.getD ((4 * (i : Int)) + 1).toNat 0)))), []⟩, ⟨58, (pI (b.getD ((4 * (i : Int)) + 1).toNat 0)), []⟩, ⟨59, (pI y7), []⟩, ⟨60, (pI (bor y6 y7)), []⟩, ⟨61, (pS b), []⟩, ⟨62, (pI (4 * (i : Int))), []⟩, ⟨63, (pI ((4 * (i : Int)) + 2)), []⟩, ⟨64, (.one (.eptr (.ints .u8 b) ((4 * (i : Int)) + 2).toNat 0)), []⟩, ⟨65, (.one (.d (.int .u8 (b.getD ((4 * (i : Int)) + 2).toNat 0)))), []⟩, ⟨66, (pI (b.getD ((4 * (i : Int)) + 2).toNat 0)), []⟩, ⟨67, (pI y8), []⟩, ⟨68, (pI (bor (bor y6 y7) y8)), []⟩, ⟨69, (pS b), []⟩, ⟨70, (pI (4 * (i : Int))), []⟩, ⟨71, (pI ((4 * (i : Int)) + 3)), []⟩, ⟨72, (.one (.eptr (.ints .u8 b) ((4 * (i : Int)) + 3).toNat 0)), []⟩, ⟨73, (.one (.d (.int .u8 (b.getD ((4 * (i : Int)) + 3).toNat 0)))), []⟩, ⟨74, (pI (b.getD ((4 * (i : Int)) + 3).toNat 0)), []⟩, ⟨75, (pI y9), []⟩, ⟨76, (.one (.d (.ints .i64 [y9]))), []⟩] (by kernel_rfl) (by kernel_rfl) ?_ ?_
  ·
   refine .cons (fun E A => A.mv 7 46) ?_
   refine .cons (fun E A => A.mv 1 47) ?_
   refine .cons (fun E A => A.mv 8 48) ?_
   refine .cons (fun E A => OpStep.plain rfl (Step.index (e := 5) (z := 1) (i := (4 * (i : Int))) (t := 49) rfl rfl (by exact lt_ok rfl) (by kernel_rfl) (A.g 47 rfl) rfl rfl (lt_ok rfl) (A.g 48 rfl) (by first | omega | (simp; omega) | (simp [w16_len, wN_len]; omega)) (by simp only [D.size]; first | omega | (simp; omega) | (simp [w16_len, wN_len]; omega)))) ?_
   refine .cons (fun E A => OpStep.plain rfl (Step.load (e := (.int .u8 (b.getD (4 * (i : Int)).toNat 0))) (t := 50) rfl rfl (by exact lt_ok rfl) (by kernel_rfl) (A.g 49 rfl) rfl)) ?_
   refine .cons (fun E A => OpStep.plain rfl (Step.conv (c := (b.getD (4 * (i : Int)).toNat 0)) (t := 51) rfl rfl (by exact lt_ok rfl) (by kernel_rfl) (by kernel_rfl) (A.g 50 rfl) (wrap_ok (by first | omega | (simp; omega) | (simp [w16_len, wN_len]; omega)) (by first | omega | (simp; omega) | (simp [w16_len, wN_len]; omega))))) ?_
   refine .cons (fun E A => OpStep.plain rfl (Step.bd (r := .int .i64 y6) 52 (A.g 51 rfl) rfl (Bin.shl (k := .i64) (k' := .u64) (a := (b.getD (4 * (i : Int)).toNat 0)) (b := 24) (by first | omega | (simp; omega) | (simp [w16_len, wN_len]; omega)) (hy6_.symm)))) ?_
   refine .cons (fun E A => A.mv 1 53) ?_
   refine .cons (fun E A => A.mv 8 54) ?_
   refine .cons (fun E A => OpStep.plain rfl (Step.bd (r := .int .i64 ((4 * (i : Int)) + 1)) 55 (A.g 54 rfl) rfl (Bin.add (a := (4 * (i : Int))) (b := 1) (by first | exact wrap_ok (by first | omega | (simp; omega) | (simp [w16_len, wN_len]; omega)) (by first | omega | (simp; omega) | (simp [w16_len, wN_len]; omega)) | rfl)))) ?_
   refine .cons (fun E A => OpStep.plain rfl (Step.index (e := 5) (z := 1) (i := ((4 * (i : Int)) + 1)) (t := 56) rfl rfl (by exact lt_ok rfl) (by kernel_rfl) (A.g 53 rfl) rfl rfl (lt_ok rfl) (A.g 55 rfl) (by first | omega | (simp; omega) | (simp [w16_len, wN_len]; omega)) (by simp only [D.size]; first | omega | (simp; omega) | (simp [w16_len, wN_len]; omega)))) ?_
   refine .cons (fun E A => OpStep.plain rfl (Step.load (e := (.int .u8 (b.getD ((4 * (i : Int)) + 1).toNat 0))) (t := 57) rfl rfl (by exact lt_ok rfl) (by kernel_rfl) (A.g 56 rfl) rfl)) ?_
   refine .cons (fun E A => OpStep.plain rfl (Step.conv (c := (b.getD ((4 * (i : Int)) + 1).toNat 0)) (t := 58) rfl rfl (by exact lt_ok rfl) (by kernel_rfl) (by kernel_rfl) (A.g 57 rfl) (wrap_ok (by first | omega | (simp; omega) | (simp [w16_len, wN_len]; omega)) (by first | omega | (simp; omega) | (simp [w16_len, wN_len]; omega))))) ?_
   refine .cons (fun E A => OpStep.plain rfl (Step.bd (r := .int .i64 y7) 59 (A.g 58 rfl) rfl (Bin.shl (k := .i64) (k' := .u64) (a := (b.getD ((4 * (i : Int)) + 1).toNat 0)) (b := 16) (by first | omega | (simp; omega) | (simp [w16_len, wN_len]; omega)) (hy7_.symm)))) ?_
   refine .cons (fun E A => OpStep.plain rfl (Step.bd (r := .int .i64 (bor y6 y7)) 60 (A.g 52 rfl) (A.g 59 rfl) (Bin.or (k := .i64) (a := y6) (b := y7) (rfl)))) ?_
   refine .cons (fun E A => A.mv 1 61) ?_
   refine .cons (fun E A => A.mv 8 62) ?_
   refine .cons (fun E A => OpStep.plain rfl (Step.bd (r := .int .i64 ((4 * (i : Int)) + 2)) 63 (A.g 62 rfl) rfl (Bin.add (a := (4 * (i : Int))) (b := 2) (by first | exact wrap_ok (by first | omega | (simp; omega) | (simp [w16_len, wN_len]; omega)) (by first | omega | (simp; omega) | (simp [w16_len, wN_len]; omega)) | rfl)))) ?_
   refine .cons (fun E A => OpStep.plain rfl (Step.index (e := 5) (z := 1) (i := ((4 * (i : Int)) + 2)) (t := 64) rfl rfl (by exact lt_ok rfl) (by kernel_rfl) (A.g 61 rfl) rfl rfl (lt_ok rfl) (A.g 63 rfl) (by first | omega | (simp; omega) | (simp [w16_len, wN_len]; omega)) (by simp only [D.size]; first | omega | (simp; omega) | (simp [w16_len, wN_len]; omega)))) ?_
   refine .cons (fun E A => OpStep.plain rfl (Step.load (e := (.int .u8 (b.getD ((4 * (i : Int)) + 2).toNat 0))) (t := 65) rfl rfl (by exact lt_ok rfl) (by kernel_rfl) (A.g 64 rfl) rfl)) ?_
   refine .cons (fun E A => OpStep.plain rfl (Step.conv (c := (b.getD ((4 * (i : Int)) + 2).toNat 0)) (t := 66) rfl rfl (by exact lt_ok rfl) (by kernel_rfl) (by kernel_rfl) (A.g 65 rfl) (wrap_ok (by first | omega | (simp; omega) | (simp [w16_len, wN_len]; omega)) (by first | omega | (simp; omega) | (simp [w16_len, wN_len]; omega))))) ?_
   refine .cons (fun E A => OpStep.plain rfl (Step.bd (r := .int .i64 y8) 67 (A.g 66 rfl) rfl (Bin.shl (k := .i64) (k' := .u64) (a := (b.getD ((4 * (i : Int)) + 2).toNat 0)) (b := 8) (by first | omega | (simp; omega) | (simp [w16_len, wN_len]; omega)) (hy8_.symm)))) ?_
   refine .cons (fun E A => OpStep.plain rfl (Step.bd (r := .int .i64 (bor (bor y6 y7) y8)) 68 (A.g 60 rfl) (A.g 67 rfl) (Bin.or (k := .i64) (a := (bor y6 y7)) (b := y8) (rfl)))) ?_
   refine .cons (fun E A => A.mv 1 69) ?_
   refine .cons (fun E A => A.mv 8 70) ?_
   refine .cons (fun E A => OpStep.plain rfl (Step.bd (r := .int .i64 ((4 * (i : Int)) + 3)) 71 (A.g 70 rfl) rfl (Bin.add (a := (4 * (i : Int))) (b := 3) (by first | exact wrap_ok (by first | omega | (simp; omega) | (simp [w16_len, wN_len]; omega)) (by first | omega | (simp; omega) | (simp [w16_len, wN_len]; omega)) | rfl)))) ?_
   refine .cons (fun E A => OpStep.plain rfl (Step.index (e := 5) (z := 1) (i := ((4 * (i : Int)) + 3)) (t := 72) rfl rfl (by exact lt_ok rfl) (by kernel_rfl) (A.g 69 rfl) rfl rfl (lt_ok rfl) (A.g 71 rfl) (by first | omega | (simp; omega) | (simp [w16_len, wN_len]; omega)) (by simp only [D.size]; first | omega | (simp; omega) | (simp [w16_len, wN_len]; omega)))) ?_
   refine .cons (fun E A => OpStep.plain rfl (Step.load (e := (.int .u8 (b.getD ((4 * (i : Int)) + 3).toNat 0))) (t := 73) rfl rfl (by exact lt_ok rfl) (by kernel_rfl) (A.g 72 rfl) rfl)) ?_
   refine .cons (fun E A => OpStep.plain rfl (Step.conv (c := (b.getD ((4 * (i : Int)) + 3).toNat 0)) (t := 74) rfl rfl (by exact lt_ok rfl) (by kernel_rfl) (by kernel_rfl) (A.g 73 rfl) (wrap_ok (by first | omega | (simp; omega) | (simp [w16_len, wN_len]; omega)) (by first | omega | (simp; omega) | (simp [w16_len, wN_len]; omega))))) ?_
   refine .cons (fun E A => OpStep.plain rfl (Step.bd (r := .int .i64 y9) 75 (A.g 68 rfl) (A.g 74 rfl) (Bin.or (k := .i64) (a := (bor (bor y6 y7) y8)) (b := (b.getD ((4 * (i : Int)) + 3).toNat 0)) (hy9_.symm)))) ?_
   refine .cons (fun E A => OpStep.plain rfl (Step.lit_d (e := 3) (z := 1) (by_ := 8) (xs := [.tmp 75]) (pss := [[cI y9]]) (ds := [(.int .i64 y9)]) (d := (.ints .i64 [y9])) (t := 76) rfl rfl (by exact lt_ok rfl) (by kernel_rfl) rfl rfl (.cons (by exact (congrArg PV.flat (A.g 75 rfl)).trans rfl) .nil) (by simp) (le_ok rfl) (le_ok rfl) rfl rfl trivial rfl rfl)) ?_
   exact .nil _ _
  refine TL.c (Step.append (e := 3) (z := 1) (by_ := 8) (d := (.ints .i64 (w16 b i))) (dy := (.ints .i64 [y9])) (d' := (.ints .i64 ((w16 b i) ++ [y9]))) (ss := []) rfl rfl (lt_ok rfl) (by kernel_rfl) rfl rfl rfl (lt_ok rfl) rfl (.froz rfl (by simp [D.flat, D.val])) (by simp) rfl (by simp only [D.size, List.length_map]; first | omega | (simp only [List.length_append, List.length_cons, List.length_nil]; omega) | (simp; omega) | (simp only [List.length_append] at *; omega)) (by simp only [D.size, List.length_map]; first | omega | (simp only [List.length_append, List.length_cons, List.length_nil]; omega) | (simp; omega) | (simp only [List.length_append] at *; omega)) (by simp)) ?_
  refine TL.as (.one (.row 41 [])) ?_
  refine TL.nil ?_
  refine T.region ?_
  refine TL.mv (pI (4 * (i : Int))) ?_
  refine TL.c (Step.bin (r := .int .i64 ((4 * (i : Int)) + 4)) rfl rfl (lt_ok rfl) rfl rfl (Bin.add (a := (4 * (i : Int))) (b := 4) (by first | exact wrap_ok (by first | omega | (simp; omega) | (simp [w16_len, wN_len]; omega)) (by first | omega | (simp; omega) | (simp [w16_len, wN_len]; omega)) | rfl))) ?_
  refine TL.as (pI ((4 * (i : Int)) + 4)) ?_
  refine TL.nil ?_
  subst hy9_ hy8_ hy7_ hy6_
  refine ⟨i + 1, by omega, by first | omega | (dsimp only; omega), Env.le_mk ⟨rfl, rfl, ?_, rfl, trivial⟩ ⟨?_, trivial⟩ trivial⟩ <;> (first | rfl | (refine congrArg (fun x => some (_, D.ints .i64 x)) ?_; first | rfl | fail) | (refine congrArg (fun n => PV.one (.d (.int .i64 n))) ?_; first | rfl | omega | (simp; done)))
 refine T.exit ?_
 refine T.seq ?_
 refine T.seq ?_
 refine T.region ?_
 refine TL.as (pI 16) ?_
 refine TL.nil ?_
 refine T.block ?_
 refine T.loop (ι := Nat) (fun xx_ => { tm := [(0, (.one (.d (.ints .i64 h)))), (9, (pI (16 + (xx_ : Int)))), (7, (.one (.row 41 [])))], rows := [(41, (3, (.ints .i64 (wN b xx_))))], boxes := [] }) (fun xx_ => xx_ ≤ 48) (fun xx_ => 48 - xx_) 0 ?_ ?_ ?_
 · refine Env.le_mk ⟨rfl, ?_, rfl, trivial⟩ ⟨?_, trivial⟩ trivial <;> (first | exact congrArg (fun x => some (_, D.ints .i64 (w16 b x))) (show i = 16 by omega) | rfl | (refine congrArg (fun x => some (_, D.ints .i64 x)) ?_; first | rfl | fail) | (refine congrArg (fun n => PV.one (.d (.int .i64 n))) ?_; first | rfl | omega | (simp; done)))
 · exact Nat.zero_le _
 intro i hx
 try dsimp only at hx ⊢
 have hl_ := wN_len b i
 refine T.seq ?_
 refine T.seq ?_
 refine T.region ?_
 refine TL.mv (pI (16 + (i : Int))) ?_
 refine TL.b _ (Bin.lss (k := .i64) (a := (16 + (i : Int))) (b := 64)) ?_
 refine TL.nil ?_
 refine T.ci rfl (fun h10 => ?_) (fun h10 => ?_)
 ·
  refine T.skip ?_
  refine T.seq ?_
  refine T.block ?_
  refine T.seq ?_
  refine T.region ?_
  refine TL.mv (.one (.row 41 [])) ?_
  refine TL.mv (pI (16 + (i : Int))) ?_
  refine TL.c (Step.bin (r := .int .i64 ((16 + (i : Int)) - 15)) rfl rfl (lt_ok rfl) rfl rfl (Bin.sub (a := (16 + (i : Int))) (b := 15) (by first | exact wrap_ok (by first | omega | (simp; omega) | (simp [w16_len, wN_len]; omega)) (by first | omega | (simp; omega) | (simp [w16_len, wN_len]; omega)) | rfl))) ?_
  refine TL.c (Step.index_row (e := 3) (z := 1) (i := ((16 + (i : Int)) - 15)) rfl rfl (lt_ok rfl) (by kernel_rfl) rfl rfl rfl rfl (lt_ok rfl) rfl (by first | omega | (simp; omega) | (simp [w16_len, wN_len]; omega)) (by simp only [D.at_, D.cell, D.size]; first | omega | (simp; omega) | (simp [w16_len, wN_len]; omega))) ?_
  refine TL.c (Step.load_row (c := cI ((wN b i).getD ((16 + (i : Int)) - 15).toNat 0)) rfl rfl (lt_ok rfl) (by kernel_rfl) rfl rfl rfl) ?_
  refine TL.as (pI ((wN b i).getD ((16 + (i : Int)) - 15).toNat 0)) ?_
  refine TL.nil ?_
  refine T.seq ?_
  refine T.region ?_
  refine TL.mv (.one (.row 41 [])) ?_
  refine TL.mv (pI (16 + (i : Int))) ?_
  refine TL.c (Step.bin (r := .int .i64 ((16 + (i : Int)) - 2)) rfl rfl (lt_ok rfl) rfl rfl (Bin.sub (a := (16 + (i : Int))) (b := 2) (by first | exact wrap_ok (by first | omega | (simp; omega) | (simp [w16_len, wN_len]; omega)) (by first | omega | (simp; omega) | (simp [w16_len, wN_len]; omega)) | rfl))) ?_
  refine TL.c (Step.index_row (e := 3) (z := 1) (i := ((16 + (i : Int)) - 2)) rfl rfl (lt_ok rfl) (by kernel_rfl) rfl rfl rfl rfl (lt_ok rfl) rfl (by first | omega | (simp; omega) | (simp [w16_len, wN_len]; omega)) (by simp only [D.at_, D.cell, D.size]; first | omega | (simp; omega) | (simp [w16_len, wN_len]; omega))) ?_
  refine TL.c (Step.load_row (c := cI ((wN b i).getD ((16 + (i : Int)) - 2).toNat 0)) rfl rfl (lt_ok rfl) (by kernel_rfl) rfl rfl rfl) ?_
  refine TL.as (pI ((wN b i).getD ((16 + (i : Int)) - 2).toNat 0)) ?_
  refine TL.nil ?_
  refine T.seq ?_
  refine T.region ?_
  refine TL.mv (pI ((wN b i).getD ((16 + (i : Int)) - 15).toNat 0)) ?_
  refine TL.c (Step.cl (xs := [.tmp 92, .const (.int .i64 7)]) (ps := [(pI ((wN b i).getD ((16 + (i : Int)) - 15).toNat 0)), (pI 7)]) (g := .func 187) false (.cons (.one (.d _)) (.cons (.one (.d _)) .nil)) (ok_spec_l04Turn ((wN b i).getD ((16 + (i : Int)) - 15).toNat 0) 7 (by first | omega | decide))) ?_
  refine TL.mv (pI ((wN b i).getD ((16 + (i : Int)) - 15).toNat 0)) ?_
  refine TL.c (Step.cl (xs := [.tmp 94, .const (.int .i64 18)]) (ps := [(pI ((wN b i).getD ((16 + (i : Int)) - 15).toNat 0)), (pI 18)]) (g := .func 187) false (.cons (.one (.d _)) (.cons (.one (.d _)) .nil)) (ok_spec_l04Turn ((wN b i).getD ((16 + (i : Int)) - 15).toNat 0) 18 (by first | omega | decide))) ?_
  obtain ⟨y11, hy11_⟩ : ∃ y_, y_ = bxor (turnW ((wN b i).getD ((16 + (i : Int)) - 15).toNat 0) 7) (turnW ((wN b i).getD ((16 + (i : Int)) - 15).toNat 0) 18) := ⟨_, rfl⟩
  refine TL.c (Step.bin (r := .int .i64 y11) rfl rfl (lt_ok rfl) rfl rfl (Bin.xor (k := .i64) (a := (turnW ((wN b i).getD ((16 + (i : Int)) - 15).toNat 0) 7)) (b := (turnW ((wN b i).getD ((16 + (i : Int)) - 15).toNat 0) 18)) (hy11_.symm))) ?_
  refine TL.mv (pI ((wN b i).getD ((16 + (i : Int)) - 15).toNat 0)) ?_
  obtain ⟨y12, hy12_⟩ : ∃ y_, y_ = bshr ((wN b i).getD ((16 + (i : Int)) - 15).toNat 0) 3 := ⟨_, rfl⟩
  refine TL.c (Step.bin (r := .int .i64 y12) rfl rfl (lt_ok rfl) rfl rfl (Bin.shr (k := .i64) (k' := .u64) (a := ((wN b i).getD ((16 + (i : Int)) - 15).toNat 0)) (b := 3) (by first | omega | (simp; omega) | (simp [w16_len, wN_len]; omega)) (hy12_.symm))) ?_
  refine TL.c (Step.bin (r := .int .i64 (bxor y11 y12)) rfl rfl (lt_ok rfl) rfl rfl (Bin.xor (k := .i64) (a := y11) (b := y12) (rfl))) ?_
  refine TL.as (pI (bxor y11 y12)) ?_
  refine TL.nil ?_
  refine T.seq ?_
  refine T.region ?_
  refine TL.mv (pI ((wN b i).getD ((16 + (i : Int)) - 2).toNat 0)) ?_
  refine TL.c (Step.cl (xs := [.tmp 100, .const (.int .i64 17)]) (ps := [(pI ((wN b i).getD ((16 + (i : Int)) - 2).toNat 0)), (pI 17)]) (g := .func 187) false (.cons (.one (.d _)) (.cons (.one (.d _)) .nil)) (ok_spec_l04Turn ((wN b i).getD ((16 + (i : Int)) - 2).toNat 0) 17 (by first | omega | decide))) ?_
  refine TL.mv (pI ((wN b i).getD ((16 + (i : Int)) - 2).toNat 0)) ?_
  refine TL.c (Step.cl (xs := [.tmp 102, .const (.int .i64 19)]) (ps := [(pI ((wN b i).getD ((16 + (i : Int)) - 2).toNat 0)), (pI 19)]) (g := .func 187) false (.cons (.one (.d _)) (.cons (.one (.d _)) .nil)) (ok_spec_l04Turn ((wN b i).getD ((16 + (i : Int)) - 2).toNat 0) 19 (by first | omega | decide))) ?_
  obtain ⟨y13, hy13_⟩ : ∃ y_, y_ = bxor (turnW ((wN b i).getD ((16 + (i : Int)) - 2).toNat 0) 17) (turnW ((wN b i).getD ((16 + (i : Int)) - 2).toNat 0) 19) := ⟨_, rfl⟩
  refine TL.c (Step.bin (r := .int .i64 y13) rfl rfl (lt_ok rfl) rfl rfl (Bin.xor (k := .i64) (a := (turnW ((wN b i).getD ((16 + (i : Int)) - 2).toNat 0) 17)) (b := (turnW ((wN b i).getD ((16 + (i : Int)) - 2).toNat 0) 19)) (hy13_.symm))) ?_
  refine TL.mv (pI ((wN b i).getD ((16 + (i : Int)) - 2).toNat 0)) ?_
  obtain ⟨y14, hy14_⟩ : ∃ y_, y_ = bshr ((wN b i).getD ((16 + (i : Int)) - 2).toNat 0) 10 := ⟨_, rfl⟩
  refine TL.c (Step.bin (r := .int .i64 y14) rfl rfl (lt_ok rfl) rfl rfl (Bin.shr (k := .i64) (k' := .u64) (a := ((wN b i).getD ((16 + (i : Int)) - 2).toNat 0)) (b := 10) (by first | omega | (simp; omega) | (simp [w16_len, wN_len]; omega)) (hy14_.symm))) ?_
  refine TL.c (Step.bin (r := .int .i64 (bxor y13 y14)) rfl rfl (lt_ok rfl) rfl rfl (Bin.xor (k := .i64) (a := y13) (b := y14) (rfl))) ?_
  refine TL.as (pI (bxor y13 y14)) ?_
  refine TL.nil ?_
  obtain ⟨y15, hy15_⟩ : ∃ y_, y_ = wadd ((wN b i).getD ((16 + (i : Int)) - 16).toNat 0) (bxor y11 y12) := ⟨_, rfl⟩
  obtain ⟨y16, hy16_⟩ : ∃ y_, y_ = wadd y15 ((wN b i).getD ((16 + (i : Int)) - 7).toNat 0) := ⟨_, rfl⟩
  obtain ⟨y17, hy17_⟩ : ∃ y_, y_ = band (wadd y16 (bxor y13 y14)) 4294967295 := ⟨_, rfl⟩
  refine T.draw [⟨108, (.one (.row 41 [])), []⟩, ⟨109, (.one (.row 41 [])), []⟩, ⟨110, (pI (16 + (i : Int))), []⟩, ⟨111, (pI ((16 + (i : Int)) - 16)), []⟩, ⟨112, (.one (.rptr 41 [] ((16 + (i : Int)) - 16).toNat 0)), []⟩, ⟨113, (pI ((wN b i).getD ((16 + (i : Int)) - 16).toNat 0)), []⟩, ⟨114, (pI (bxor y11 y12)), []⟩, ⟨115, (pI y15), []⟩, ⟨116, (.one (.row 41 [])), []⟩, ⟨117, (pI (16 + (i : Int))), []⟩, ⟨118, (pI ((16 + (i : Int)) - 7)), []⟩, ⟨119, (.one (.rptr 41 [] ((16 + (i : Int)) - 7).toNat 0)), []⟩, ⟨120, (pI ((wN b i).getD ((16 + (i : Int)) - 7).toNat 0)), []⟩, ⟨121, (pI y16), []⟩, ⟨122, (pI (bxor y13 y14)), []⟩, ⟨123, (pI (wadd y16 (bxor y13 y14))), []⟩, ⟨124, (pI y17), []⟩, ⟨125, (.one (.d (.ints .i64 [y17]))), []⟩] (by kernel_rfl) (by kernel_rfl) ?_ ?_
  ·
   refine .cons (fun E A => A.mv 7 108) ?_
   refine .cons (fun E A => A.mv 7 109) ?_
   refine .cons (fun E A => A.mv 9 110) ?_
   refine .cons (fun E A => OpStep.plain rfl (Step.bd (r := .int .i64 ((16 + (i : Int)) - 16)) 111 (A.g 110 rfl) rfl (Bin.sub (a := (16 + (i : Int))) (b := 16) (by first | exact wrap_ok (by first | omega | (simp; omega) | (simp [w16_len, wN_len]; omega)) (by first | omega | (simp; omega) | (simp [w16_len, wN_len]; omega)) | rfl)))) ?_
   refine .cons (fun E A => OpStep.plain rfl (Step.index_row (e := 3) (z := 1) (i := ((16 + (i : Int)) - 16)) (t := 112) rfl rfl (by exact lt_ok rfl) (by kernel_rfl) (A.g 109 rfl) (by exact (A.row 41 (by kernel_rfl)).trans rfl) rfl rfl (lt_ok rfl) (A.g 111 rfl) (by first | omega | (simp; omega) | (simp [w16_len, wN_len]; omega)) (by simp only [D.at_, D.cell, D.size]; first | omega | (simp; omega) | (simp [w16_len, wN_len]; omega)))) ?_
   refine .cons (fun E A => OpStep.plain rfl (Step.load_row (c := cI ((wN b i).getD ((16 + (i : Int)) - 16).toNat 0)) (t := 113) rfl rfl (by exact lt_ok rfl) (by kernel_rfl) (A.g 112 rfl) (by exact (A.row 41 (by kernel_rfl)).trans rfl) rfl)) ?_
   refine .cons (fun E A => A.mv 12 114) ?_
   refine .cons (fun E A => OpStep.plain rfl (Step.bd (r := .int .i64 y15) 115 (A.g 113 rfl) (A.g 114 rfl) (Bin.add (k := .i64) (a := ((wN b i).getD ((16 + (i : Int)) - 16).toNat 0)) (b := (bxor y11 y12)) (hy15_.symm)))) ?_
   refine .cons (fun E A => A.mv 7 116) ?_
   refine .cons (fun E A => A.mv 9 117) ?_
   refine .cons (fun E A => OpStep.plain rfl (Step.bd (r := .int .i64 ((16 + (i : Int)) - 7)) 118 (A.g 117 rfl) rfl (Bin.sub (a := (16 + (i : Int))) (b := 7) (by first | exact wrap_ok (by first | omega | (simp; omega) | (simp [w16_len, wN_len]; omega)) (by first | omega | (simp; omega) | (simp [w16_len, wN_len]; omega)) | rfl)))) ?_
   refine .cons (fun E A => OpStep.plain rfl (Step.index_row (e := 3) (z := 1) (i := ((16 + (i : Int)) - 7)) (t := 119) rfl rfl (by exact lt_ok rfl) (by kernel_rfl) (A.g 116 rfl) (by exact (A.row 41 (by kernel_rfl)).trans rfl) rfl rfl (lt_ok rfl) (A.g 118 rfl) (by first | omega | (simp; omega) | (simp [w16_len, wN_len]; omega)) (by simp only [D.at_, D.cell, D.size]; first | omega | (simp; omega) | (simp [w16_len, wN_len]; omega)))) ?_
   refine .cons (fun E A => OpStep.plain rfl (Step.load_row (c := cI ((wN b i).getD ((16 + (i : Int)) - 7).toNat 0)) (t := 120) rfl rfl (by exact lt_ok rfl) (by kernel_rfl) (A.g 119 rfl) (by exact (A.row 41 (by kernel_rfl)).trans rfl) rfl)) ?_
   refine .cons (fun E A => OpStep.plain rfl (Step.bd (r := .int .i64 y16) 121 (A.g 115 rfl) (A.g 120 rfl) (Bin.add (k := .i64) (a := y15) (b := ((wN b i).getD ((16 + (i : Int)) - 7).toNat 0)) (hy16_.symm)))) ?_
   refine .cons (fun E A => A.mv 13 122) ?_
   refine .cons (fun E A => OpStep.plain rfl (Step.bd (r := .int .i64 (wadd y16 (bxor y13 y14))) 123 (A.g 121 rfl) (A.g 122 rfl) (Bin.add (k := .i64) (a := y16) (b := (bxor y13 y14)) (rfl)))) ?_
   refine .cons (fun E A => OpStep.plain rfl (Step.bd (r := .int .i64 y17) 124 (A.g 123 rfl) rfl (Bin.and (k := .i64) (a := (wadd y16 (bxor y13 y14))) (b := 4294967295) (hy17_.symm)))) ?_
   refine .cons (fun E A => OpStep.plain rfl (Step.lit_d (e := 3) (z := 1) (by_ := 8) (xs := [.tmp 124]) (pss := [[cI y17]]) (ds := [(.int .i64 y17)]) (d := (.ints .i64 [y17])) (t := 125) rfl rfl (by exact lt_ok rfl) (by kernel_rfl) rfl rfl (.cons (by exact (congrArg PV.flat (A.g 124 rfl)).trans rfl) .nil) (by simp) (le_ok rfl) (le_ok rfl) rfl rfl trivial rfl rfl)) ?_
   exact .nil _ _
  refine TL.c (Step.append (e := 3) (z := 1) (by_ := 8) (d := (.ints .i64 (wN b i))) (dy := (.ints .i64 [y17])) (d' := (.ints .i64 ((wN b i) ++ [y17]))) (ss := []) rfl rfl (lt_ok rfl) (by kernel_rfl) rfl rfl rfl (lt_ok rfl) rfl (.froz rfl (by simp [D.flat, D.val])) (by simp) rfl (by simp only [D.size, List.length_map]; first | omega | (simp only [List.length_append, List.length_cons, List.length_nil]; omega) | (simp; omega) | (simp only [List.length_append] at *; omega)) (by simp only [D.size, List.length_map]; first | omega | (simp only [List.length_append, List.length_cons, List.length_nil]; omega) | (simp; omega) | (simp only [List.length_append] at *; omega)) (by simp)) ?_
  refine TL.as (.one (.row 41 [])) ?_
  refine TL.nil ?_
  refine T.region ?_
  refine TL.mv (pI (16 + (i : Int))) ?_
  refine TL.c (Step.bin (r := .int .i64 ((16 + (i : Int)) + 1)) rfl rfl (lt_ok rfl) rfl rfl (Bin.add (a := (16 + (i : Int))) (b := 1) (by first | exact wrap_ok (by first | omega | (simp; omega) | (simp [w16_len, wN_len]; omega)) (by first | omega | (simp; omega) | (simp [w16_len, wN_len]; omega)) | rfl))) ?_
  refine TL.as (pI ((16 + (i : Int)) + 1)) ?_
  refine TL.nil ?_
  subst hy17_ hy16_ hy15_ hy14_ hy13_ hy12_ hy11_
  refine ⟨i + 1, by omega, by first | omega | (dsimp only; omega), Env.le_mk ⟨rfl, ?_, rfl, trivial⟩ ⟨?_, trivial⟩ trivial⟩ <;> (first | exact congrArg (fun x => some (_, D.ints .i64 (w16 b x))) (show i = 16 by omega) | rfl | (refine congrArg (fun x => some (_, D.ints .i64 x)) ?_; first | rfl | fail) | (refine congrArg (fun n => PV.one (.d (.int .i64 n))) ?_; first | rfl | omega | (simp; done)))
 refine T.exit ?_
 refine T.seq ?_
 refine T.region ?_
 refine TL.c (Step.cl (xs := []) (ps := []) (g := .func 188) false .nil (ok_spec_l04K )) ?_
 refine TL.as (.one (.row 1127 [])) ?_
 refine TL.nil ?_
 refine T.seq ?_
 refine T.region ?_
 refine TL.c (Step.lit (e := 3) (z := 1) (by_ := 8) (xs := []) (pss := []) (es := []) (ss := []) (d := (.ints .i64 [])) rfl rfl (lt_ok rfl) (by kernel_rfl) rfl rfl .nil (by simp) (le_ok rfl) (le_ok rfl) rfl .nil rfl (by simp) (by simp) rfl trivial rfl rfl) ?_
 refine TL.mv (.one (.d (.ints .i64 h))) ?_
 refine TL.c (Step.append (e := 3) (z := 1) (by_ := 8) (d := (.ints .i64 [])) (dy := (.ints .i64 h)) (d' := (.ints .i64 ([] ++ h))) (ss := []) rfl rfl (lt_ok rfl) (by kernel_rfl) rfl rfl rfl (lt_ok rfl) rfl (.froz rfl (by simp [D.flat, D.val])) (by simp) rfl (by simp only [D.size, List.length_map]; first | omega | (simp only [List.length_append, List.length_cons, List.length_nil]; omega) | (simp; omega) | (simp only [List.length_append] at *; omega)) (by simp only [D.size, List.length_map]; first | omega | (simp only [List.length_append, List.length_cons, List.length_nil]; omega) | (simp; omega) | (simp only [List.length_append] at *; omega)) (by simp)) ?_
 refine TL.as (.one (.row 128 [])) ?_
 refine TL.nil ?_
 refine T.seq ?_
 refine T.seq ?_
 refine T.region ?_
 refine TL.freeze (r := 128) rfl (fun _ h => h) ?_
 refine TL.as (pI 0) ?_
 refine TL.nil ?_
 refine T.block ?_
 refine T.loop (ι := Nat) (fun xx_ => { tm := [(0, (.one (.d (.ints .i64 h)))), (7, (.one (.row 41 []))), (14, (.one (.row 1127 []))), (16, (pI (xx_ : Int))), (15, (.one (.d (.ints .i64 (vN h (wN b 48) xx_)))))], rows := [(41, (3, (.ints .i64 (wN b 48)))), (1127, (3, (.ints .i64 shaK)))], boxes := [] }) (fun xx_ => xx_ ≤ 64) (fun xx_ => 64 - xx_) 0 ?_ ?_ ?_
 · refine Env.le_mk ⟨rfl, rfl, rfl, ?_, ?_, trivial⟩ ⟨?_, rfl, trivial⟩ trivial <;> (first | exact congrArg (fun x => some (_, D.ints .i64 (wN b x))) (show i = 48 by omega) | rfl | (refine congrArg (fun x => some (_, D.ints .i64 x)) ?_; first | rfl | fail) | (refine congrArg (fun n => PV.one (.d (.int .i64 n))) ?_; first | rfl | omega | (simp; done)))
 · exact Nat.zero_le _
 intro i hx
 try dsimp only at hx ⊢
 have hl_ := wN_len b 48
 have hvl_ := vN_len (h := h) (w := wN b 48) (by omega) i
 have hkl_ : shaK.length = 64 := rfl
 refine T.seq ?_
 refine T.seq ?_
 refine T.region ?_
 refine TL.mv (pI (i : Int)) ?_
 refine TL.b _ (Bin.lss (k := .i64) (a := (i : Int)) (b := 64)) ?_
 refine TL.nil ?_
 refine T.ci rfl (fun h18 => ?_) (fun h18 => ?_)
 ·
  refine T.skip ?_
  refine T.seq ?_
  refine T.block ?_
  refine T.seq ?_
  refine T.region ?_
  refine TL.mv (.one (.d (.ints .i64 (vN h (wN b 48) i)))) ?_
  refine TL.c (Step.index (e := 3) (z := 1) (i := 4) rfl rfl (lt_ok rfl) (by kernel_rfl) rfl rfl rfl (lt_ok rfl) rfl (by first | omega | (simp; omega) | (simp [w16_len, wN_len]; omega)) (by simp only [D.size]; first | omega | (simp; omega) | (simp [w16_len, wN_len]; omega))) ?_
  refine TL.c (Step.load (e := (.int .i64 ((vN h (wN b 48) i).getD 4 0))) rfl rfl (lt_ok rfl) (by kernel_rfl) rfl rfl) ?_
  refine TL.as (pI ((vN h (wN b 48) i).getD 4 0)) ?_
  refine TL.nil ?_
  refine T.seq ?_
  refine T.region ?_
  refine TL.mv (.one (.d (.ints .i64 (vN h (wN b 48) i)))) ?_
  refine TL.c (Step.index (e := 3) (z := 1) (i := 0) rfl rfl (lt_ok rfl) (by kernel_rfl) rfl rfl rfl (lt_ok rfl) rfl (by first | omega | (simp; omega) | (simp [w16_len, wN_len]; omega)) (by simp only [D.size]; first | omega | (simp; omega) | (simp [w16_len, wN_len]; omega))) ?_
  refine TL.c (Step.load (e := (.int .i64 ((vN h (wN b 48) i).getD 0 0))) rfl rfl (lt_ok rfl) (by kernel_rfl) rfl rfl) ?_
  refine TL.as (pI ((vN h (wN b 48) i).getD 0 0)) ?_
  refine TL.nil ?_
  refine T.seq ?_
  obtain ⟨y19, hy19_⟩ : ∃ y_, y_ = bxor (turnW ((vN h (wN b 48) i).getD 4 0) 6) (turnW ((vN h (wN b 48) i).getD 4 0) 11) := ⟨_, rfl⟩
  obtain ⟨y20, hy20_⟩ : ∃ y_, y_ = bxor y19 (turnW ((vN h (wN b 48) i).getD 4 0) 25) := ⟨_, rfl⟩
  obtain ⟨y21, hy21_⟩ : ∃ y_, y_ = wadd ((vN h (wN b 48) i).getD 7 0) y20 := ⟨_, rfl⟩
  obtain ⟨y22, hy22_⟩ : ∃ y_, y_ = band ((vN h (wN b 48) i).getD 4 0) ((vN h (wN b 48) i).getD 5 0) := ⟨_, rfl⟩
  obtain ⟨y23, hy23_⟩ : ∃ y_, y_ = bxor 4294967295 ((vN h (wN b 48) i).getD 4 0) := ⟨_, rfl⟩
  obtain ⟨y24, hy24_⟩ : ∃ y_, y_ = band y23 ((vN h (wN b 48) i).getD 6 0) := ⟨_, rfl⟩
  obtain ⟨y25, hy25_⟩ : ∃ y_, y_ = wadd (wadd y21 (bxor y22 y24)) (shaK.getD i 0) := ⟨_, rfl⟩
  obtain ⟨y26, hy26_⟩ : ∃ y_, y_ = wadd y25 ((wN b 48).getD i 0) := ⟨_, rfl⟩
  refine T.draw [⟨141, (.one (.d (.ints .i64 (vN h (wN b 48) i)))), []⟩, ⟨142, (.one (.eptr (.ints .i64 (vN h (wN b 48) i)) 7 0)), []⟩, ⟨143, (pI ((vN h (wN b 48) i).getD 7 0)), []⟩, ⟨144, (pI ((vN h (wN b 48) i).getD 4 0)), []⟩, ⟨145, (pI (turnW ((vN h (wN b 48) i).getD 4 0) 6)), []⟩, ⟨146, (pI ((vN h (wN b 48) i).getD 4 0)), []⟩, ⟨147, (pI (turnW ((vN h (wN b 48) i).getD 4 0) 11)), []⟩, ⟨148, (pI y19), []⟩, ⟨149, (pI ((vN h (wN b 48) i).getD 4 0)), []⟩, ⟨150, (pI (turnW ((vN h (wN b 48) i).getD 4 0) 25)), []⟩, ⟨151, (pI y20), []⟩, ⟨152, (pI y21), []⟩, ⟨153, (pI ((vN h (wN b 48) i).getD 4 0)), []⟩, ⟨154, (.one (.d (.ints .i64 (vN h (wN b 48) i)))), []⟩, ⟨155, (.one (.eptr (.ints .i64 (vN h (wN b 48) i)) 5 0)), []⟩, ⟨156, (pI ((vN h (wN b 48) i).getD 5 0)), []⟩, ⟨157, (pI y22), []⟩, ⟨158, (pI ((vN h (wN b 48) i).getD 4 0)), []⟩, ⟨159, (pI y23), []⟩, ⟨160, (.one (.d (.ints .i64 (vN h (wN b 48) i)))), []⟩, ⟨161, (.one (.eptr (.ints .i64 (vN h (wN b 48) i)) 6 0)), []⟩, ⟨162, (pI ((vN h (wN b 48) i).getD 6 0)), []⟩, ⟨163, (pI y24), []⟩, ⟨164, (pI (bxor y22 y24)), []⟩, ⟨165, (pI (wadd y21 (bxor y22 y24))), []⟩, ⟨166, (.one (.row 1127 [])), []⟩, ⟨167, (pI (i : Int)), []⟩, ⟨168, (.one (.rptr 1127 [] i 0)), []⟩, ⟨169, (pI (shaK.getD i 0)), []⟩, ⟨170, (pI y25), []⟩, ⟨171, (.one (.row 41 [])), []⟩, ⟨172, (pI (i : Int)), []⟩, ⟨173, (.one (.rptr 41 [] i 0)), []⟩, ⟨174, (pI ((wN b 48).getD i 0)), []⟩, ⟨175, (pI y26), []⟩, ⟨19, (pI y26), []⟩] (by kernel_rfl) (by kernel_rfl) ?_ ?_
  ·
   refine .cons (fun E A => A.mv 15 141) ?_
   refine .cons (fun E A => OpStep.plain rfl (Step.index (e := 3) (z := 1) (i := 7) (t := 142) rfl rfl (by exact lt_ok rfl) (by kernel_rfl) (A.g 141 rfl) rfl rfl (lt_ok rfl) rfl (by first | omega | (simp; omega) | (simp [w16_len, wN_len]; omega)) (by simp only [D.size]; first | omega | (simp; omega) | (simp [w16_len, wN_len]; omega)))) ?_
   refine .cons (fun E A => OpStep.plain rfl (Step.load (e := (.int .i64 ((vN h (wN b 48) i).getD 7 0))) (t := 143) rfl rfl (by exact lt_ok rfl) (by kernel_rfl) (A.g 142 rfl) rfl)) ?_
   refine .cons (fun E A => A.mv 17 144) ?_
   refine .cons (fun E A => OpStep.plain rfl (Step.cd (xs := [.tmp 144, .const (.int .i64 6)]) (ps := [(pI ((vN h (wN b 48) i).getD 4 0)), (pI 6)]) (g := .func 187) false 145 (evs_cons (A.g 144 rfl) (evs_cons rfl (rfl))) (.cons (.one (.d _)) (.cons (.one (.d _)) .nil)) (ok_spec_l04Turn ((vN h (wN b 48) i).getD 4 0) 6 (by first | omega | decide)) (At.freshRows A rfl))) ?_
   refine .cons (fun E A => A.mv 17 146) ?_
   refine .cons (fun E A => OpStep.plain rfl (Step.cd (xs := [.tmp 146, .const (.int .i64 11)]) (ps := [(pI ((vN h (wN b 48) i).getD 4 0)), (pI 11)]) (g := .func 187) false 147 (evs_cons (A.g 146 rfl) (evs_cons rfl (rfl))) (.cons (.one (.d _)) (.cons (.one (.d _)) .nil)) (ok_spec_l04Turn ((vN h (wN b 48) i).getD 4 0) 11 (by first | omega | decide)) (At.freshRows A rfl))) ?_
   refine .cons (fun E A => OpStep.plain rfl (Step.bd (r := .int .i64 y19) 148 (A.g 145 rfl) (A.g 147 rfl) (Bin.xor (k := .i64) (a := (turnW ((vN h (wN b 48) i).getD 4 0) 6)) (b := (turnW ((vN h (wN b 48) i).getD 4 0) 11)) (hy19_.symm)))) ?_
   refine .cons (fun E A => A.mv 17 149) ?_
   refine .cons (fun E A => OpStep.plain rfl (Step.cd (xs := [.tmp 149, .const (.int .i64 25)]) (ps := [(pI ((vN h (wN b 48) i).getD 4 0)), (pI 25)]) (g := .func 187) false 150 (evs_cons (A.g 149 rfl) (evs_cons rfl (rfl))) (.cons (.one (.d _)) (.cons (.one (.d _)) .nil)) (ok_spec_l04Turn ((vN h (wN b 48) i).getD 4 0) 25 (by first | omega | decide)) (At.freshRows A rfl))) ?_
   refine .cons (fun E A => OpStep.plain rfl (Step.bd (r := .int .i64 y20) 151 (A.g 148 rfl) (A.g 150 rfl) (Bin.xor (k := .i64) (a := y19) (b := (turnW ((vN h (wN b 48) i).getD 4 0) 25)) (hy20_.symm)))) ?_
   refine .cons (fun E A => OpStep.plain rfl (Step.bd (r := .int .i64 y21) 152 (A.g 143 rfl) (A.g 151 rfl) (Bin.add (k := .i64) (a := ((vN h (wN b 48) i).getD 7 0)) (b := y20) (hy21_.symm)))) ?_
   refine .cons (fun E A => A.mv 17 153) ?_
   refine .cons (fun E A => A.mv 15 154) ?_
   refine .cons (fun E A => OpStep.plain rfl (Step.index (e := 3) (z := 1) (i := 5) (t := 155) rfl rfl (by exact lt_ok rfl) (by kernel_rfl) (A.g 154 rfl) rfl rfl (lt_ok rfl) rfl (by first | omega | (simp; omega) | (simp [w16_len, wN_len]; omega)) (by simp only [D.size]; first | omega | (simp; omega) | (simp [w16_len, wN_len]; omega)))) ?_
   refine .cons (fun E A => OpStep.plain rfl (Step.load (e := (.int .i64 ((vN h (wN b 48) i).getD 5 0))) (t := 156) rfl rfl (by exact lt_ok rfl) (by kernel_rfl) (A.g 155 rfl) rfl)) ?_
   refine .cons (fun E A => OpStep.plain rfl (Step.bd (r := .int .i64 y22) 157 (A.g 153 rfl) (A.g 156 rfl) (Bin.and (k := .i64) (a := ((vN h (wN b 48) i).getD 4 0)) (b := ((vN h (wN b 48) i).getD 5 0)) (hy22_.symm)))) ?_
   refine .cons (fun E A => A.mv 17 158) ?_
   refine .cons (fun E A => OpStep.plain rfl (Step.bd (r := .int .i64 y23) 159 rfl (A.g 158 rfl) (Bin.xor (k := .i64) (a := 4294967295) (b := ((vN h (wN b 48) i).getD 4 0)) (hy23_.symm)))) ?_
   refine .cons (fun E A => A.mv 15 160) ?_
   refine .cons (fun E A => OpStep.plain rfl (Step.index (e := 3) (z := 1) (i := 6) (t := 161) rfl rfl (by exact lt_ok rfl) (by kernel_rfl) (A.g 160 rfl) rfl rfl (lt_ok rfl) rfl (by first | omega | (simp; omega) | (simp [w16_len, wN_len]; omega)) (by simp only [D.size]; first | omega | (simp; omega) | (simp [w16_len, wN_len]; omega)))) ?_
   refine .cons (fun E A => OpStep.plain rfl (Step.load (e := (.int .i64 ((vN h (wN b 48) i).getD 6 0))) (t := 162) rfl rfl (by exact lt_ok rfl) (by kernel_rfl) (A.g 161 rfl) rfl)) ?_
   refine .cons (fun E A => OpStep.plain rfl (Step.bd (r := .int .i64 y24) 163 (A.g 159 rfl) (A.g 162 rfl) (Bin.and (k := .i64) (a := y23) (b := ((vN h (wN b 48) i).getD 6 0)) (hy24_.symm)))) ?_
   refine .cons (fun E A => OpStep.plain rfl (Step.bd (r := .int .i64 (bxor y22 y24)) 164 (A.g 157 rfl) (A.g 163 rfl) (Bin.xor (k := .i64) (a := y22) (b := y24) (rfl)))) ?_
   refine .cons (fun E A => OpStep.plain rfl (Step.bd (r := .int .i64 (wadd y21 (bxor y22 y24))) 165 (A.g 152 rfl) (A.g 164 rfl) (Bin.add (k := .i64) (a := y21) (b := (bxor y22 y24)) (rfl)))) ?_
   refine .cons (fun E A => A.mv 14 166) ?_
   refine .cons (fun E A => A.mv 16 167) ?_
   refine .cons (fun E A => OpStep.plain rfl (Step.index_row (e := 3) (z := 1) (i := (i : Int)) (t := 168) rfl rfl (by exact lt_ok rfl) (by kernel_rfl) (A.g 166 rfl) (by exact (A.row 1127 (by kernel_rfl)).trans rfl) rfl rfl (lt_ok rfl) (A.g 167 rfl) (by first | omega | (simp; omega) | (simp [w16_len, wN_len]; omega)) (by simp only [D.at_, D.cell, D.size]; first | omega | (simp; omega) | (simp [w16_len, wN_len]; omega)))) ?_
   refine .cons (fun E A => OpStep.plain rfl (Step.load_row (c := cI (shaK.getD i 0)) (t := 169) rfl rfl (by exact lt_ok rfl) (by kernel_rfl) (A.g 168 rfl) (by exact (A.row 1127 (by kernel_rfl)).trans rfl) rfl)) ?_
   refine .cons (fun E A => OpStep.plain rfl (Step.bd (r := .int .i64 y25) 170 (A.g 165 rfl) (A.g 169 rfl) (Bin.add (k := .i64) (a := (wadd y21 (bxor y22 y24))) (b := (shaK.getD i 0)) (hy25_.symm)))) ?_
   refine .cons (fun E A => A.mv 7 171) ?_
   refine .cons (fun E A => A.mv 16 172) ?_
   refine .cons (fun E A => OpStep.plain rfl (Step.index_row (e := 3) (z := 1) (i := (i : Int)) (t := 173) rfl rfl (by exact lt_ok rfl) (by kernel_rfl) (A.g 171 rfl) (by exact (A.row 41 (by kernel_rfl)).trans rfl) rfl rfl (lt_ok rfl) (A.g 172 rfl) (by first | omega | (simp; omega) | (simp [w16_len, wN_len]; omega)) (by simp only [D.at_, D.cell, D.size]; first | omega | (simp; omega) | (simp [w16_len, wN_len]; omega)))) ?_
   refine .cons (fun E A => OpStep.plain rfl (Step.load_row (c := cI ((wN b 48).getD i 0)) (t := 174) rfl rfl (by exact lt_ok rfl) (by kernel_rfl) (A.g 173 rfl) (by exact (A.row 41 (by kernel_rfl)).trans rfl) rfl)) ?_
   refine .cons (fun E A => OpStep.plain rfl (Step.bd (r := .int .i64 y26) 175 (A.g 170 rfl) (A.g 174 rfl) (Bin.add (k := .i64) (a := y25) (b := ((wN b 48).getD i 0)) (hy26_.symm)))) ?_
   refine .cons (fun E A => A.as 175 19) ?_
   exact .nil _ _
  refine TL.nil ?_
  refine T.seq ?_
  obtain ⟨y27, hy27_⟩ : ∃ y_, y_ = bxor (turnW ((vN h (wN b 48) i).getD 0 0) 2) (turnW ((vN h (wN b 48) i).getD 0 0) 13) := ⟨_, rfl⟩
  obtain ⟨y28, hy28_⟩ : ∃ y_, y_ = bxor y27 (turnW ((vN h (wN b 48) i).getD 0 0) 22) := ⟨_, rfl⟩
  obtain ⟨y29, hy29_⟩ : ∃ y_, y_ = band ((vN h (wN b 48) i).getD 0 0) ((vN h (wN b 48) i).getD 1 0) := ⟨_, rfl⟩
  obtain ⟨y30, hy30_⟩ : ∃ y_, y_ = band ((vN h (wN b 48) i).getD 0 0) ((vN h (wN b 48) i).getD 2 0) := ⟨_, rfl⟩
  obtain ⟨y31, hy31_⟩ : ∃ y_, y_ = band ((vN h (wN b 48) i).getD 1 0) ((vN h (wN b 48) i).getD 2 0) := ⟨_, rfl⟩
  obtain ⟨y32, hy32_⟩ : ∃ y_, y_ = wadd y28 (bxor (bxor y29 y30) y31) := ⟨_, rfl⟩
  refine T.draw [⟨176, (pI ((vN h (wN b 48) i).getD 0 0)), []⟩, ⟨177, (pI (turnW ((vN h (wN b 48) i).getD 0 0) 2)), []⟩, ⟨178, (pI ((vN h (wN b 48) i).getD 0 0)), []⟩, ⟨179, (pI (turnW ((vN h (wN b 48) i).getD 0 0) 13)), []⟩, ⟨180, (pI y27), []⟩, ⟨181, (pI ((vN h (wN b 48) i).getD 0 0)), []⟩, ⟨182, (pI (turnW ((vN h (wN b 48) i).getD 0 0) 22)), []⟩, ⟨183, (pI y28), []⟩, ⟨184, (pI ((vN h (wN b 48) i).getD 0 0)), []⟩, ⟨185, (.one (.d (.ints .i64 (vN h (wN b 48) i)))), []⟩, ⟨186, (.one (.eptr (.ints .i64 (vN h (wN b 48) i)) 1 0)), []⟩, ⟨187, (pI ((vN h (wN b 48) i).getD 1 0)), []⟩, ⟨188, (pI y29), []⟩, ⟨189, (pI ((vN h (wN b 48) i).getD 0 0)), []⟩, ⟨190, (.one (.d (.ints .i64 (vN h (wN b 48) i)))), []⟩, ⟨191, (.one (.eptr (.ints .i64 (vN h (wN b 48) i)) 2 0)), []⟩, ⟨192, (pI ((vN h (wN b 48) i).getD 2 0)), []⟩, ⟨193, (pI y30), []⟩, ⟨194, (pI (bxor y29 y30)), []⟩, ⟨195, (.one (.d (.ints .i64 (vN h (wN b 48) i)))), []⟩, ⟨196, (.one (.eptr (.ints .i64 (vN h (wN b 48) i)) 1 0)), []⟩, ⟨197, (pI ((vN h (wN b 48) i).getD 1 0)), []⟩, ⟨198, (.one (.d (.ints .i64 (vN h (wN b 48) i)))), []⟩, ⟨199, (.one (.eptr (.ints .i64 (vN h (wN b 48) i)) 2 0)), []⟩, ⟨200, (pI ((vN h (wN b 48) i).getD 2 0)), []⟩, ⟨201, (pI y31), []⟩, ⟨202, (pI (bxor (bxor y29 y30) y31)), []⟩, ⟨203, (pI y32), []⟩, ⟨20, (pI y32), []⟩] (by kernel_rfl) (by kernel_rfl) ?_ ?_
  ·
   refine .cons (fun E A => A.mv 18 176) ?_
   refine .cons (fun E A => OpStep.plain rfl (Step.cd (xs := [.tmp 176, .const (.int .i64 2)]) (ps := [(pI ((vN h (wN b 48) i).getD 0 0)), (pI 2)]) (g := .func 187) false 177 (evs_cons (A.g 176 rfl) (evs_cons rfl (rfl))) (.cons (.one (.d _)) (.cons (.one (.d _)) .nil)) (ok_spec_l04Turn ((vN h (wN b 48) i).getD 0 0) 2 (by first | omega | decide)) (At.freshRows A rfl))) ?_
   refine .cons (fun E A => A.mv 18 178) ?_
   refine .cons (fun E A => OpStep.plain rfl (Step.cd (xs := [.tmp 178, .const (.int .i64 13)]) (ps := [(pI ((vN h (wN b 48) i).getD 0 0)), (pI 13)]) (g := .func 187) false 179 (evs_cons (A.g 178 rfl) (evs_cons rfl (rfl))) (.cons (.one (.d _)) (.cons (.one (.d _)) .nil)) (ok_spec_l04Turn ((vN h (wN b 48) i).getD 0 0) 13 (by first | omega | decide)) (At.freshRows A rfl))) ?_
   refine .cons (fun E A => OpStep.plain rfl (Step.bd (r := .int .i64 y27) 180 (A.g 177 rfl) (A.g 179 rfl) (Bin.xor (k := .i64) (a := (turnW ((vN h (wN b 48) i).getD 0 0) 2)) (b := (turnW ((vN h (wN b 48) i).getD 0 0) 13)) (hy27_.symm)))) ?_
   refine .cons (fun E A => A.mv 18 181) ?_
   refine .cons (fun E A => OpStep.plain rfl (Step.cd (xs := [.tmp 181, .const (.int .i64 22)]) (ps := [(pI ((vN h (wN b 48) i).getD 0 0)), (pI 22)]) (g := .func 187) false 182 (evs_cons (A.g 181 rfl) (evs_cons rfl (rfl))) (.cons (.one (.d _)) (.cons (.one (.d _)) .nil)) (ok_spec_l04Turn ((vN h (wN b 48) i).getD 0 0) 22 (by first | omega | decide)) (At.freshRows A rfl))) ?_
   refine .cons (fun E A => OpStep.plain rfl (Step.bd (r := .int .i64 y28) 183 (A.g 180 rfl) (A.g 182 rfl) (Bin.xor (k := .i64) (a := y27) (b := (turnW ((vN h (wN b 48) i).getD 0 0) 22)) (hy28_.symm)))) ?_
   refine .cons (fun E A => A.mv 18 184) ?_
   refine .cons (fun E A => A.mv 15 185) ?_
   refine .cons (fun E A => OpStep.plain rfl (Step.index (e := 3) (z := 1) (i := 1) (t := 186) rfl rfl (by exact lt_ok rfl) (by kernel_rfl) (A.g 185 rfl) rfl rfl (lt_ok rfl) rfl (by first | omega | (simp; omega) | (simp [w16_len, wN_len]; omega)) (by simp only [D.size]; first | omega | (simp; omega) | (simp [w16_len, wN_len]; omega)))) ?_
   refine .cons (fun E A => OpStep.plain rfl (Step.load (e := (.int .i64 ((vN h (wN b 48) i).getD 1 0))) (t := 187) rfl rfl (by exact lt_ok rfl) (by kernel_rfl) (A.g 186 rfl) rfl)) ?_
   refine .cons (fun E A => OpStep.plain rfl (Step.bd (r := .int .i64 y29) 188 (A.g 184 rfl) (A.g 187 rfl) (Bin.and (k := .i64) (a := ((vN h (wN b 48) i).getD 0 0)) (b := ((vN h (wN b 48) i).getD 1 0)) (hy29_.symm)))) ?_
   refine .cons (fun E A => A.mv 18 189) ?_
   refine .cons (fun E A => A.mv 15 190) ?_
   refine .cons (fun E A => OpStep.plain rfl (Step.index (e := 3) (z := 1) (i := 2) (t := 191) rfl rfl (by exact lt_ok rfl) (by kernel_rfl) (A.g 190 rfl) rfl rfl (lt_ok rfl) rfl (by first | omega | (simp; omega) | (simp [w16_len, wN_len]; omega)) (by simp only [D.size]; first | omega | (simp; omega) | (simp [w16_len, wN_len]; omega)))) ?_
   refine .cons (fun E A => OpStep.plain rfl (Step.load (e := (.int .i64 ((vN h (wN b 48) i).getD 2 0))) (t := 192) rfl rfl (by exact lt_ok rfl) (by kernel_rfl) (A.g 191 rfl) rfl)) ?_
   refine .cons (fun E A => OpStep.plain rfl (Step.bd (r := .int .i64 y30) 193 (A.g 189 rfl) (A.g 192 rfl) (Bin.and (k := .i64) (a := ((vN h (wN b 48) i).getD 0 0)) (b := ((vN h (wN b 48) i).getD 2 0)) (hy30_.symm)))) ?_
   refine .cons (fun E A => OpStep.plain rfl (Step.bd (r := .int .i64 (bxor y29 y30)) 194 (A.g 188 rfl) (A.g 193 rfl) (Bin.xor (k := .i64) (a := y29) (b := y30) (rfl)))) ?_
   refine .cons (fun E A => A.mv 15 195) ?_
   refine .cons (fun E A => OpStep.plain rfl (Step.index (e := 3) (z := 1) (i := 1) (t := 196) rfl rfl (by exact lt_ok rfl) (by kernel_rfl) (A.g 195 rfl) rfl rfl (lt_ok rfl) rfl (by first | omega | (simp; omega) | (simp [w16_len, wN_len]; omega)) (by simp only [D.size]; first | omega | (simp; omega) | (simp [w16_len, wN_len]; omega)))) ?_
   refine .cons (fun E A => OpStep.plain rfl (Step.load (e := (.int .i64 ((vN h (wN b 48) i).getD 1 0))) (t := 197) rfl rfl (by exact lt_ok rfl) (by kernel_rfl) (A.g 196 rfl) rfl)) ?_
   refine .cons (fun E A => A.mv 15 198) ?_
   refine .cons (fun E A => OpStep.plain rfl (Step.index (e := 3) (z := 1) (i := 2) (t := 199) rfl rfl (by exact lt_ok rfl) (by kernel_rfl) (A.g 198 rfl) rfl rfl (lt_ok rfl) rfl (by first | omega | (simp; omega) | (simp [w16_len, wN_len]; omega)) (by simp only [D.size]; first | omega | (simp; omega) | (simp [w16_len, wN_len]; omega)))) ?_
   refine .cons (fun E A => OpStep.plain rfl (Step.load (e := (.int .i64 ((vN h (wN b 48) i).getD 2 0))) (t := 200) rfl rfl (by exact lt_ok rfl) (by kernel_rfl) (A.g 199 rfl) rfl)) ?_
   refine .cons (fun E A => OpStep.plain rfl (Step.bd (r := .int .i64 y31) 201 (A.g 197 rfl) (A.g 200 rfl) (Bin.and (k := .i64) (a := ((vN h (wN b 48) i).getD 1 0)) (b := ((vN h (wN b 48) i).getD 2 0)) (hy31_.symm)))) ?_
   refine .cons (fun E A => OpStep.plain rfl (Step.bd (r := .int .i64 (bxor (bxor y29 y30) y31)) 202 (A.g 194 rfl) (A.g 201 rfl) (Bin.xor (k := .i64) (a := (bxor y29 y30)) (b := y31) (rfl)))) ?_
   refine .cons (fun E A => OpStep.plain rfl (Step.bd (r := .int .i64 y32) 203 (A.g 183 rfl) (A.g 202 rfl) (Bin.add (k := .i64) (a := y28) (b := (bxor (bxor y29 y30) y31)) (hy32_.symm)))) ?_
   refine .cons (fun E A => A.as 203 20) ?_
   exact .nil _ _
  refine TL.nil ?_
  refine T.wk [(0, (.one (.d (.ints .i64 h)))), (7, (.one (.row 41 []))), (14, (.one (.row 1127 []))), (16, (pI (i : Int))), (15, (.one (.d (.ints .i64 (vN h (wN b 48) i))))), (19, (pI y26)), (20, (pI y32))] [(41, (3, (.ints .i64 (wN b 48)))), (1127, (3, (.ints .i64 shaK)))] [] ?_
  obtain ⟨y33, hy33_⟩ : ∃ y_, y_ = band (wadd y26 y32) 4294967295 := ⟨_, rfl⟩
  obtain ⟨y34, hy34_⟩ : ∃ y_, y_ = wadd ((vN h (wN b 48) i).getD 3 0) y26 := ⟨_, rfl⟩
  refine T.draw [⟨204, (pI y26), []⟩, ⟨205, (pI y32), []⟩, ⟨206, (pI (wadd y26 y32)), []⟩, ⟨207, (pI y33), []⟩, ⟨208, (.one (.d (.ints .i64 (vN h (wN b 48) i)))), []⟩, ⟨209, (.one (.eptr (.ints .i64 (vN h (wN b 48) i)) 0 0)), []⟩, ⟨210, (pI ((vN h (wN b 48) i).getD 0 0)), []⟩, ⟨211, (.one (.d (.ints .i64 (vN h (wN b 48) i)))), []⟩, ⟨212, (.one (.eptr (.ints .i64 (vN h (wN b 48) i)) 1 0)), []⟩, ⟨213, (pI ((vN h (wN b 48) i).getD 1 0)), []⟩, ⟨214, (.one (.d (.ints .i64 (vN h (wN b 48) i)))), []⟩, ⟨215, (.one (.eptr (.ints .i64 (vN h (wN b 48) i)) 2 0)), []⟩, ⟨216, (pI ((vN h (wN b 48) i).getD 2 0)), []⟩, ⟨217, (.one (.d (.ints .i64 (vN h (wN b 48) i)))), []⟩, ⟨218, (.one (.eptr (.ints .i64 (vN h (wN b 48) i)) 3 0)), []⟩, ⟨219, (pI ((vN h (wN b 48) i).getD 3 0)), []⟩, ⟨220, (pI y26), []⟩, ⟨221, (pI y34), []⟩, ⟨222, (pI (band y34 4294967295)), []⟩, ⟨223, (.one (.d (.ints .i64 (vN h (wN b 48) i)))), []⟩, ⟨224, (.one (.eptr (.ints .i64 (vN h (wN b 48) i)) 4 0)), []⟩, ⟨225, (pI ((vN h (wN b 48) i).getD 4 0)), []⟩, ⟨226, (.one (.d (.ints .i64 (vN h (wN b 48) i)))), []⟩, ⟨227, (.one (.eptr (.ints .i64 (vN h (wN b 48) i)) 5 0)), []⟩, ⟨228, (pI ((vN h (wN b 48) i).getD 5 0)), []⟩, ⟨229, (.one (.d (.ints .i64 (vN h (wN b 48) i)))), []⟩, ⟨230, (.one (.eptr (.ints .i64 (vN h (wN b 48) i)) 6 0)), []⟩, ⟨231, (pI ((vN h (wN b 48) i).getD 6 0)), []⟩, ⟨232, (.one (.d (.ints .i64 [y33, (vN h (wN b 48) i).getD 0 0, (vN h (wN b 48) i).getD 1 0, (vN h (wN b 48) i).getD 2 0, band y34 4294967295, (vN h (wN b 48) i).getD 4 0, (vN h (wN b 48) i).getD 5 0, (vN h (wN b 48) i).getD 6 0]))), []⟩] (by kernel_rfl) (by kernel_rfl) ?_ ?_
  ·
   refine .cons (fun E A => A.mv 19 204) ?_
   refine .cons (fun E A => A.mv 20 205) ?_
   refine .cons (fun E A => OpStep.plain rfl (Step.bd (r := .int .i64 (wadd y26 y32)) 206 (A.g 204 rfl) (A.g 205 rfl) (Bin.add (k := .i64) (a := y26) (b := y32) (rfl)))) ?_
   refine .cons (fun E A => OpStep.plain rfl (Step.bd (r := .int .i64 y33) 207 (A.g 206 rfl) rfl (Bin.and (k := .i64) (a := (wadd y26 y32)) (b := 4294967295) (hy33_.symm)))) ?_
   refine .cons (fun E A => A.mv 15 208) ?_
   refine .cons (fun E A => OpStep.plain rfl (Step.index (e := 3) (z := 1) (i := 0) (t := 209) rfl rfl (by exact lt_ok rfl) (by kernel_rfl) (A.g 208 rfl) rfl rfl (lt_ok rfl) rfl (by first | omega | (simp; omega) | (simp [w16_len, wN_len]; omega)) (by simp only [D.size]; first | omega | (simp; omega) | (simp [w16_len, wN_len]; omega)))) ?_
   refine .cons (fun E A => OpStep.plain rfl (Step.load (e := (.int .i64 ((vN h (wN b 48) i).getD 0 0))) (t := 210) rfl rfl (by exact lt_ok rfl) (by kernel_rfl) (A.g 209 rfl) rfl)) ?_
   refine .cons (fun E A => A.mv 15 211) ?_
   refine .cons (fun E A => OpStep.plain rfl (Step.index (e := 3) (z := 1) (i := 1) (t := 212) rfl rfl (by exact lt_ok rfl) (by kernel_rfl) (A.g 211 rfl) rfl rfl (lt_ok rfl) rfl (by first | omega | (simp; omega) | (simp [w16_len, wN_len]; omega)) (by simp only [D.size]; first | omega | (simp; omega) | (simp [w16_len, wN_len]; omega)))) ?_
   refine .cons (fun E A => OpStep.plain rfl (Step.load (e := (.int .i64 ((vN h (wN b 48) i).getD 1 0))) (t := 213) rfl rfl (by exact lt_ok rfl) (by kernel_rfl) (A.g 212 rfl) rfl)) ?_
   refine .cons (fun E A => A.mv 15 214) ?_
   refine .cons (fun E A => OpStep.plain rfl (Step.index (e := 3) (z := 1) (i := 2) (t := 215) rfl rfl (by exact lt_ok rfl) (by kernel_rfl) (A.g 214 rfl) rfl rfl (lt_ok rfl) rfl (by first | omega | (simp; omega) | (simp [w16_len, wN_len]; omega)) (by simp only [D.size]; first | omega | (simp; omega) | (simp [w16_len, wN_len]; omega)))) ?_
   refine .cons (fun E A => OpStep.plain rfl (Step.load (e := (.int .i64 ((vN h (wN b 48) i).getD 2 0))) (t := 216) rfl rfl (by exact lt_ok rfl) (by kernel_rfl) (A.g 215 rfl) rfl)) ?_
   refine .cons (fun E A => A.mv 15 217) ?_
   refine .cons (fun E A => OpStep.plain rfl (Step.index (e := 3) (z := 1) (i := 3) (t := 218) rfl rfl (by exact lt_ok rfl) (by kernel_rfl) (A.g 217 rfl) rfl rfl (lt_ok rfl) rfl (by first | omega | (simp; omega) | (simp [w16_len, wN_len]; omega)) (by simp only [D.size]; first | omega | (simp; omega) | (simp [w16_len, wN_len]; omega)))) ?_
   refine .cons (fun E A => OpStep.plain rfl (Step.load (e := (.int .i64 ((vN h (wN b 48) i).getD 3 0))) (t := 219) rfl rfl (by exact lt_ok rfl) (by kernel_rfl) (A.g 218 rfl) rfl)) ?_
   refine .cons (fun E A => A.mv 19 220) ?_
   refine .cons (fun E A => OpStep.plain rfl (Step.bd (r := .int .i64 y34) 221 (A.g 219 rfl) (A.g 220 rfl) (Bin.add (k := .i64) (a := ((vN h (wN b 48) i).getD 3 0)) (b := y26) (hy34_.symm)))) ?_
   refine .cons (fun E A => OpStep.plain rfl (Step.bd (r := .int .i64 (band y34 4294967295)) 222 (A.g 221 rfl) rfl (Bin.and (k := .i64) (a := y34) (b := 4294967295) (rfl)))) ?_
   refine .cons (fun E A => A.mv 15 223) ?_
   refine .cons (fun E A => OpStep.plain rfl (Step.index (e := 3) (z := 1) (i := 4) (t := 224) rfl rfl (by exact lt_ok rfl) (by kernel_rfl) (A.g 223 rfl) rfl rfl (lt_ok rfl) rfl (by first | omega | (simp; omega) | (simp [w16_len, wN_len]; omega)) (by simp only [D.size]; first | omega | (simp; omega) | (simp [w16_len, wN_len]; omega)))) ?_
   refine .cons (fun E A => OpStep.plain rfl (Step.load (e := (.int .i64 ((vN h (wN b 48) i).getD 4 0))) (t := 225) rfl rfl (by exact lt_ok rfl) (by kernel_rfl) (A.g 224 rfl) rfl)) ?_
   refine .cons (fun E A => A.mv 15 226) ?_
   refine .cons (fun E A => OpStep.plain rfl (Step.index (e := 3) (z := 1) (i := 5) (t := 227) rfl rfl (by exact lt_ok rfl) (by kernel_rfl) (A.g 226 rfl) rfl rfl (lt_ok rfl) rfl (by first | omega | (simp; omega) | (simp [w16_len, wN_len]; omega)) (by simp only [D.size]; first | omega | (simp; omega) | (simp [w16_len, wN_len]; omega)))) ?_
   refine .cons (fun E A => OpStep.plain rfl (Step.load (e := (.int .i64 ((vN h (wN b 48) i).getD 5 0))) (t := 228) rfl rfl (by exact lt_ok rfl) (by kernel_rfl) (A.g 227 rfl) rfl)) ?_
   refine .cons (fun E A => A.mv 15 229) ?_
   refine .cons (fun E A => OpStep.plain rfl (Step.index (e := 3) (z := 1) (i := 6) (t := 230) rfl rfl (by exact lt_ok rfl) (by kernel_rfl) (A.g 229 rfl) rfl rfl (lt_ok rfl) rfl (by first | omega | (simp; omega) | (simp [w16_len, wN_len]; omega)) (by simp only [D.size]; first | omega | (simp; omega) | (simp [w16_len, wN_len]; omega)))) ?_
   refine .cons (fun E A => OpStep.plain rfl (Step.load (e := (.int .i64 ((vN h (wN b 48) i).getD 6 0))) (t := 231) rfl rfl (by exact lt_ok rfl) (by kernel_rfl) (A.g 230 rfl) rfl)) ?_
   refine .cons (fun E A => OpStep.plain rfl (Step.lit_d (e := 3) (z := 1) (by_ := 8) (xs := [.tmp 207, .tmp 210, .tmp 213, .tmp 216, .tmp 222, .tmp 225, .tmp 228, .tmp 231]) (pss := [[cI y33], [cI ((vN h (wN b 48) i).getD 0 0)], [cI ((vN h (wN b 48) i).getD 1 0)], [cI ((vN h (wN b 48) i).getD 2 0)], [cI (band y34 4294967295)], [cI ((vN h (wN b 48) i).getD 4 0)], [cI ((vN h (wN b 48) i).getD 5 0)], [cI ((vN h (wN b 48) i).getD 6 0)]]) (ds := [(.int .i64 y33), (.int .i64 ((vN h (wN b 48) i).getD 0 0)), (.int .i64 ((vN h (wN b 48) i).getD 1 0)), (.int .i64 ((vN h (wN b 48) i).getD 2 0)), (.int .i64 (band y34 4294967295)), (.int .i64 ((vN h (wN b 48) i).getD 4 0)), (.int .i64 ((vN h (wN b 48) i).getD 5 0)), (.int .i64 ((vN h (wN b 48) i).getD 6 0))]) (d := (.ints .i64 [y33, (vN h (wN b 48) i).getD 0 0, (vN h (wN b 48) i).getD 1 0, (vN h (wN b 48) i).getD 2 0, band y34 4294967295, (vN h (wN b 48) i).getD 4 0, (vN h (wN b 48) i).getD 5 0, (vN h (wN b 48) i).getD 6 0])) (t := 232) rfl rfl (by exact lt_ok rfl) (by kernel_rfl) rfl rfl (.cons (by exact (congrArg PV.flat (A.g 207 rfl)).trans rfl) (.cons (by exact (congrArg PV.flat (A.g 210 rfl)).trans rfl) (.cons (by exact (congrArg PV.flat (A.g 213 rfl)).trans rfl) (.cons (by exact (congrArg PV.flat (A.g 216 rfl)).trans rfl) (.cons (by exact (congrArg PV.flat (A.g 222 rfl)).trans rfl) (.cons (by exact (congrArg PV.flat (A.g 225 rfl)).trans rfl) (.cons (by exact (congrArg PV.flat (A.g 228 rfl)).trans rfl) (.cons (by exact (congrArg PV.flat (A.g 231 rfl)).trans rfl) .nil)))))))) (by simp) (le_ok rfl) (le_ok rfl) rfl rfl trivial rfl rfl)) ?_
   exact .nil _ _
  refine TL.as (.one (.d (.ints .i64 [y33, (vN h (wN b 48) i).getD 0 0, (vN h (wN b 48) i).getD 1 0, (vN h (wN b 48) i).getD 2 0, band y34 4294967295, (vN h (wN b 48) i).getD 4 0, (vN h (wN b 48) i).getD 5 0, (vN h (wN b 48) i).getD 6 0]))) ?_
  refine TL.nil ?_
  refine T.region ?_
  refine TL.mv (pI (i : Int)) ?_
  refine TL.c (Step.bin (r := .int .i64 ((i : Int) + 1)) rfl rfl (lt_ok rfl) rfl rfl (Bin.add (a := (i : Int)) (b := 1) (by first | exact wrap_ok (by first | omega | (simp; omega) | (simp [w16_len, wN_len]; omega)) (by first | omega | (simp; omega) | (simp [w16_len, wN_len]; omega)) | rfl))) ?_
  refine TL.as (pI ((i : Int) + 1)) ?_
  refine TL.nil ?_
  subst hy34_ hy33_ hy32_ hy31_ hy30_ hy29_ hy28_ hy27_ hy26_ hy25_ hy24_ hy23_ hy22_ hy21_ hy20_ hy19_
  refine ⟨i + 1, by omega, by first | omega | (dsimp only; omega), Env.le_mk ⟨rfl, rfl, rfl, ?_, ?_, trivial⟩ ⟨rfl, rfl, trivial⟩ trivial⟩ <;> (first | exact congrArg (fun x => some (_, D.ints .i64 (wN b x))) (show i = 48 by omega) | rfl | (refine congrArg (fun x => some (_, D.ints .i64 x)) ?_; first | rfl | fail) | (refine congrArg (fun n => PV.one (.d (.int .i64 n))) ?_; first | rfl | omega | (simp; done)))
 refine T.exit ?_
 refine T.seq ?_
 refine T.region ?_
 refine TL.c (Step.lit (e := 3) (z := 1) (by_ := 8) (xs := []) (pss := []) (es := []) (ss := []) (d := (.ints .i64 [])) rfl rfl (lt_ok rfl) (by kernel_rfl) rfl rfl .nil (by simp) (le_ok rfl) (le_ok rfl) rfl .nil rfl (by simp) (by simp) rfl trivial rfl rfl) ?_
 refine TL.as (.one (.row 233 [])) ?_
 refine TL.nil ?_
 refine T.seq ?_
 refine T.seq ?_
 refine T.region ?_
 refine TL.mv (.one (.d (.ints .i64 h))) ?_
 refine TL.c (Step.len (e := 3) (z := 1) (d := (.ints .i64 h)) rfl rfl (lt_ok rfl) (by kernel_rfl) rfl rfl) ?_
 refine TL.mv (pI 0) ?_
 refine TL.nil ?_
 refine T.block ?_
 refine T.loop (ι := Nat) (fun xx_ => { tm := [(0, (.one (.d (.ints .i64 h)))), (15, (.one (.d (.ints .i64 (vN h (wN b 48) 64))))), (235, (pI (h.length : Int))), (236, (pI (xx_ : Int))), (21, (.one (.row 233 [])))], rows := [(1127, (3, (.ints .i64 shaK))), (233, (3, (.ints .i64 (outs h (vN h (wN b 48) 64) xx_))))], boxes := [] }) (fun xx_ => xx_ ≤ 8) (fun xx_ => 8 - xx_) 0 ?_ ?_ ?_
 · refine Env.le_mk ⟨rfl, ?_, rfl, ?_, rfl, trivial⟩ ⟨rfl, ?_, trivial⟩ trivial <;> (first | (exact congrArg (fun x => some (_, D.ints .i64 (vN h (wN b 48) x))) (show i = 64 by omega)) | (exact congrArg (fun x => PV.one (.d (.ints .i64 (vN h (wN b 48) x)))) (show i = 64 by omega)) | rfl | (refine congrArg (fun x => some (_, D.ints .i64 x)) ?_; first | rfl | (rw [show i = 64 from by omega]; first | done | rfl)) | (refine congrArg (fun n => PV.one (.d (.int .i64 n))) ?_; first | rfl | omega | (simp; done)))
 · exact Nat.zero_le _
 intro i hx
 try dsimp only at hx ⊢
 have hvl_ := vN_len (h := h) (w := wN b 48) (by omega) 64
 have hol_ := outs_len h (vN h (wN b 48) 64) i
 refine T.seq ?_
 refine T.region ?_
 refine TL.b _ (Bin.lss (k := .i64) (a := (i : Int)) (b := (h.length : Int))) ?_
 refine TL.nil ?_
 refine T.seq ?_
 refine T.ci rfl (fun h35 => ?_) (fun h35 => ?_)
 ·
  refine T.skip ?_
  refine T.seq ?_
  refine T.block ?_
  refine T.seq ?_
  refine T.region ?_
  refine TL.mv (pI (i : Int)) ?_
  refine TL.as (pI (i : Int)) ?_
  refine TL.nil ?_
  obtain ⟨y36, hy36_⟩ : ∃ y_, y_ = wadd (h.getD i 0) ((vN h (wN b 48) 64).getD i 0) := ⟨_, rfl⟩
  refine T.draw [⟨239, (.one (.row 233 [])), []⟩, ⟨240, (.one (.d (.ints .i64 h))), []⟩, ⟨241, (pI (i : Int)), []⟩, ⟨242, (.one (.eptr (.ints .i64 h) i 0)), []⟩, ⟨243, (pI (h.getD i 0)), []⟩, ⟨244, (.one (.d (.ints .i64 (vN h (wN b 48) 64)))), []⟩, ⟨245, (pI (i : Int)), []⟩, ⟨246, (.one (.eptr (.ints .i64 (vN h (wN b 48) 64)) i 0)), []⟩, ⟨247, (pI ((vN h (wN b 48) 64).getD i 0)), []⟩, ⟨248, (pI y36), []⟩, ⟨249, (pI (band y36 4294967295)), []⟩, ⟨250, (.one (.d (.ints .i64 [band y36 4294967295]))), []⟩] (by kernel_rfl) (by kernel_rfl) ?_ ?_
  ·
   refine .cons (fun E A => A.mv 21 239) ?_
   refine .cons (fun E A => A.mv 0 240) ?_
   refine .cons (fun E A => A.mv 22 241) ?_
   refine .cons (fun E A => OpStep.plain rfl (Step.index (e := 3) (z := 1) (i := (i : Int)) (t := 242) rfl rfl (by exact lt_ok rfl) (by kernel_rfl) (A.g 240 rfl) rfl rfl (lt_ok rfl) (A.g 241 rfl) (by first | omega | (simp; omega) | (simp [w16_len, wN_len]; omega)) (by simp only [D.size]; first | omega | (simp; omega) | (simp [w16_len, wN_len]; omega)))) ?_
   refine .cons (fun E A => OpStep.plain rfl (Step.load (e := (.int .i64 (h.getD i 0))) (t := 243) rfl rfl (by exact lt_ok rfl) (by kernel_rfl) (A.g 242 rfl) rfl)) ?_
   refine .cons (fun E A => A.mv 15 244) ?_
   refine .cons (fun E A => A.mv 22 245) ?_
   refine .cons (fun E A => OpStep.plain rfl (Step.index (e := 3) (z := 1) (i := (i : Int)) (t := 246) rfl rfl (by exact lt_ok rfl) (by kernel_rfl) (A.g 244 rfl) rfl rfl (lt_ok rfl) (A.g 245 rfl) (by first | omega | (simp; omega) | (simp [w16_len, wN_len]; omega)) (by simp only [D.size]; first | omega | (simp; omega) | (simp [w16_len, wN_len]; omega)))) ?_
   refine .cons (fun E A => OpStep.plain rfl (Step.load (e := (.int .i64 ((vN h (wN b 48) 64).getD i 0))) (t := 247) rfl rfl (by exact lt_ok rfl) (by kernel_rfl) (A.g 246 rfl) rfl)) ?_
   refine .cons (fun E A => OpStep.plain rfl (Step.bd (r := .int .i64 y36) 248 (A.g 243 rfl) (A.g 247 rfl) (Bin.add (k := .i64) (a := (h.getD i 0)) (b := ((vN h (wN b 48) 64).getD i 0)) (hy36_.symm)))) ?_
   refine .cons (fun E A => OpStep.plain rfl (Step.bd (r := .int .i64 (band y36 4294967295)) 249 (A.g 248 rfl) rfl (Bin.and (k := .i64) (a := y36) (b := 4294967295) (rfl)))) ?_
   refine .cons (fun E A => OpStep.plain rfl (Step.lit_d (e := 3) (z := 1) (by_ := 8) (xs := [.tmp 249]) (pss := [[cI (band y36 4294967295)]]) (ds := [(.int .i64 (band y36 4294967295))]) (d := (.ints .i64 [band y36 4294967295])) (t := 250) rfl rfl (by exact lt_ok rfl) (by kernel_rfl) rfl rfl (.cons (by exact (congrArg PV.flat (A.g 249 rfl)).trans rfl) .nil) (by simp) (le_ok rfl) (le_ok rfl) rfl rfl trivial rfl rfl)) ?_
   exact .nil _ _
  refine TL.c (Step.append (e := 3) (z := 1) (by_ := 8) (d := (.ints .i64 (outs h (vN h (wN b 48) 64) i))) (dy := (.ints .i64 [band y36 4294967295])) (d' := (.ints .i64 ((outs h (vN h (wN b 48) 64) i) ++ [band y36 4294967295]))) (ss := []) rfl rfl (lt_ok rfl) (by kernel_rfl) rfl rfl rfl (lt_ok rfl) rfl (.froz rfl (by simp [D.flat, D.val])) (by simp) rfl (by simp only [D.size, List.length_map]; first | omega | (simp only [List.length_append, List.length_cons, List.length_nil]; omega) | (simp; omega) | (simp only [List.length_append] at *; omega)) (by simp only [D.size, List.length_map]; first | omega | (simp only [List.length_append, List.length_cons, List.length_nil]; omega) | (simp; omega) | (simp only [List.length_append] at *; omega)) (by simp)) ?_
  refine TL.as (.one (.row 233 [])) ?_
  refine TL.nil ?_
  refine T.region ?_
  refine TL.c (Step.bin (r := .int .i64 ((i : Int) + 1)) rfl rfl (lt_ok rfl) rfl rfl (Bin.add (a := (i : Int)) (b := 1) (by first | exact wrap_ok (by first | omega | (simp; omega) | (simp [w16_len, wN_len]; omega)) (by first | omega | (simp; omega) | (simp [w16_len, wN_len]; omega)) | rfl))) ?_
  refine TL.mv (pI ((i : Int) + 1)) ?_
  refine TL.nil ?_
  subst hy36_
  refine ⟨i + 1, by omega, by first | omega | (dsimp only; omega), Env.le_mk ⟨rfl, rfl, rfl, ?_, rfl, trivial⟩ ⟨rfl, ?_, trivial⟩ trivial⟩ <;> (first | (exact congrArg (fun x => some (_, D.ints .i64 (vN h (wN b 48) x))) (show i = 64 by omega)) | (exact congrArg (fun x => PV.one (.d (.ints .i64 (vN h (wN b 48) x)))) (show i = 64 by omega)) | rfl | (refine congrArg (fun x => some (_, D.ints .i64 x)) ?_; first | rfl | (rw [show i = 64 from by omega]; first | done | rfl)) | (refine congrArg (fun n => PV.one (.d (.int .i64 n))) ?_; first | rfl | omega | (simp; done)))
 refine T.exit ?_
 refine T.seq ?_
 refine T.region ?_
 refine TL.mv (.one (.row 233 [])) ?_
 refine TL.as (.one (.row 233 [])) ?_
 refine TL.nil ?_
 refine T.ret ?_
 refine ⟨[(false, [.row 233 []])], (.cons rfl .nil), rfl, [233], (RetC.o ?_ .nil)⟩ <;> (first | (rw [shaBlock_yes (h := h) (b := b) ⟨by omega, by omega, hwo_⟩, show i = 8 from by omega]; done) | (simp only [D.size]; first | (rw [shaBlock_no (fun h_ => by have := h_.1; have := h_.2.1; omega)]; rfl) | (rw [shaBlock_no (fun h_ => by have := h_.2.2; rw [words_no (i := i) (by omega) (by omega)] at this; cases this)]; rfl)))
theorem ok_spec_Sha (b : List Int) (h0_ : U8s b) (h1_ : b.length ≤ 17592186040000) : RO Try.prog 101 [.one (.ints .u8 b)] [(false, [.own 5 (.ints .u8 (sha b))])] := by
 refine RO.intro Try.func101 rfl 48 rfl (le_ok rfl) fun w Z => ?_
 refine T.bnd 0 0 rfl rfl fun hb_0_0 => ?_
 simp only [D.size, List.length_map] at hb_0_0
 refine T.seq ?_
 refine T.region ?_
 refine TL.as (.one (.nil)) ?_
 refine TL.nil ?_
 refine T.seq ?_
 refine T.region ?_
 refine TL.c (Step.cl (xs := []) (ps := []) (g := .func 147) false .nil (ok_spec_ShaInit )) ?_
 refine TL.as (.one (.row 1009 [])) ?_
 refine TL.ren 1009 600003 rfl (by simp) ?_
 refine TL.nil ?_
 refine T.seq ?_
 refine T.region ?_
 refine TL.mv (pS b) ?_
 have nn1 := shaPad_mod b
 refine TL.c (Step.cl (xs := [.tmp 10]) (ps := [(pS b)]) (g := .func 148) false (.cons (.one (.d _)) .nil) (ok_spec_ShaPad b (by first | omega | assumption | (simp only [List.length_append] at *; omega)))) ?_
 refine TL.freeze (r := 1011) rfl (fun _ h => h) ?_
 refine TL.as (pS (shaPad b)) ?_
 refine TL.nil ?_
 refine T.seq ?_
 refine T.seq ?_
 refine T.region ?_
 refine TL.as (pI 0) ?_
 refine TL.nil ?_
 refine T.block ?_
 refine T.loop (ι := Nat) (fun xx_ => { tm := [(2, (.one (.nil))), (4, (pS (shaPad b))), (5, (pI (64 * (xx_ : Int)))), (3, (.one (.row 600003 [])))], rows := [(600003, (3, (.ints .i64 (hN (shaPad b) xx_))))], boxes := [] }) (fun xx_ => 64 * xx_ ≤ (shaPad b).length) (fun xx_ => (shaPad b).length - 64 * xx_) 0 ?_ ?_ ?_
 · refine Env.le_mk ⟨rfl, rfl, ?_, rfl, trivial⟩ ⟨?_, trivial⟩ trivial <;> (first | rfl | (refine congrArg (fun n => PV.one (.d (.int .i64 n))) ?_; first | rfl | omega | (simp; done)))
 · exact Nat.zero_le _
 intro i hx
 try dsimp only at hx ⊢
 have hu_ := u8_sub (shaPad_u8 h0_)
 refine T.seq ?_
 refine T.seq ?_
 refine T.region ?_
 refine TL.mv (pI (64 * (i : Int))) ?_
 refine TL.mv (pS (shaPad b)) ?_
 refine TL.c (Step.len (e := 5) (z := 1) (d := (.ints .u8 (shaPad b))) rfl rfl (lt_ok rfl) (by kernel_rfl) rfl rfl) ?_
 refine TL.b _ (Bin.lss (k := .i64) (a := (64 * (i : Int))) (b := ((shaPad b).length : Int))) ?_
 refine TL.nil ?_
 refine T.ci rfl (fun h2 => ?_) (fun h2 => ?_)
 ·
  refine T.skip ?_
  refine T.seq ?_
  refine T.block ?_
  refine T.region ?_
  refine TL.mv (.one (.row 600003 [])) ?_
  refine TL.mv (pS (shaPad b)) ?_
  refine TL.mv (pI (64 * (i : Int))) ?_
  refine TL.mv (pI (64 * (i : Int))) ?_
  refine TL.c (Step.bin (r := .int .i64 ((64 * (i : Int)) + 64)) rfl rfl (lt_ok rfl) rfl rfl (Bin.add (a := (64 * (i : Int))) (b := 64) (by first | exact wrap_ok (by first | omega | (simp; omega)) (by first | omega | (simp; omega)) | rfl))) ?_
  refine TL.c (Step.slice (e := 5) (z := 1) (l := (64 * (i : Int)).toNat) (h := ((64 * (i : Int)) + 64).toNat) rfl rfl (lt_ok rfl) (by kernel_rfl) rfl rfl rfl ((.some (i := (64 * (i : Int))) rfl (by first | omega | (simp; omega)))) ((.some (i := ((64 * (i : Int)) + 64)) rfl (by first | omega | (simp; omega)))) (by first | omega | (simp; omega)) (by simp only [D.size]; first | omega | (simp; omega)) rfl) ?_
  have nn3 := shaBlock_len (hN (shaPad b) i) (((shaPad b).drop (64 * (i : Int)).toNat).take (((64 * (i : Int)) + 64).toNat - (64 * (i : Int)).toNat))
  refine TL.c (Step.cl (xs := [.tmp 18, .tmp 23]) (ps := [(.one (.row 600003 [])), (pS (((shaPad b).drop (64 * (i : Int)).toNat).take (((64 * (i : Int)) + 64).toNat - (64 * (i : Int)).toNat)))]) (g := .func 149) false (.cons (.one (.row rfl rfl rfl rfl)) (.cons (.one (.d _)) .nil)) (ok_spec_ShaBlock (hN (shaPad b) i) (((shaPad b).drop (64 * (i : Int)).toNat).take (((64 * (i : Int)) + 64).toNat - (64 * (i : Int)).toNat)) (by first | assumption | exact hu_ _ _))) ?_
  refine TL.as (.one (.row 1024 [])) ?_
  refine TL.weaken (Env.drops_le [600003] _) ?_
  refine TL.ren 1024 600003 rfl (by simp) ?_
  refine TL.nil ?_
  refine T.region ?_
  refine TL.mv (pI (64 * (i : Int))) ?_
  refine TL.c (Step.bin (r := .int .i64 ((64 * (i : Int)) + 64)) rfl rfl (lt_ok rfl) rfl rfl (Bin.add (a := (64 * (i : Int))) (b := 64) (by first | exact wrap_ok (by first | omega | (simp; omega)) (by first | omega | (simp; omega)) | rfl))) ?_
  refine TL.as (pI ((64 * (i : Int)) + 64)) ?_
  refine TL.nil ?_
  refine ⟨i + 1, by omega, by first | omega | (dsimp only; omega), Env.le_mk ⟨rfl, rfl, ?_, rfl, trivial⟩ ⟨?_, trivial⟩ trivial⟩ <;> (first | rfl | (refine congrArg (fun n => PV.one (.d (.int .i64 n))) ?_; first | rfl | omega | (simp; done)))
 refine T.exit ?_
 refine T.seq ?_
 refine T.region ?_
 refine TL.c (Step.lit (e := 5) (z := 1) (by_ := 1) (xs := []) (pss := []) (es := []) (ss := []) (d := (.ints .u8 [])) rfl rfl (lt_ok rfl) (by kernel_rfl) rfl rfl .nil (by simp) (le_ok rfl) (le_ok rfl) rfl .nil rfl (by simp) (by simp) rfl trivial rfl rfl) ?_
 refine TL.as (.one (.row 25 [])) ?_
 refine TL.nil ?_
 refine T.seq ?_
 refine T.seq ?_
 refine T.region ?_
 refine TL.mv (.one (.row 600003 [])) ?_
 refine TL.c (Step.len (e := 3) (z := 1) (d := (.ints .i64 (hN (shaPad b) i))) rfl rfl (lt_ok rfl) (by kernel_rfl) rfl rfl) ?_
 refine TL.mv (pI 0) ?_
 refine TL.nil ?_
 refine T.block ?_
 refine T.loop (ι := Nat) (fun xx_ => { tm := [(2, (.one (.nil))), (26, (.one (.row 600003 []))), (27, (pI ((shaH b).length : Int))), (28, (pI (xx_ : Int))), (6, (.one (.row 25 [])))], rows := [(600003, (3, (.ints .i64 (shaH b)))), (25, (5, (.ints .u8 (outB (shaH b) xx_))))], boxes := [] }) (fun xx_ => xx_ ≤ (shaH b).length) (fun xx_ => (shaH b).length - xx_) 0 ?_ ?_ ?_
 · refine Env.le_mk ⟨rfl, rfl, ?_, ?_, rfl, trivial⟩ ⟨?_, ?_, trivial⟩ trivial <;> (first | rfl | (refine congrArg (fun x => some (_, D.ints .i64 x)) ?_; unfold shaH; rw [show i = (shaPad b).length / 64 from by omega]) | (refine congrArg (fun n => PV.one (.d (.int .i64 n))) ?_; first | rfl | omega | (unfold shaH; rw [show i = (shaPad b).length / 64 from by omega]; first | done | rfl) | (simp; done)))
 · exact Nat.zero_le _
 intro i hx
 try dsimp only at hx ⊢
 have hl_ := outB_len (shaH b) i
 have hh_ : (shaH b).length ≤ 8 := hN_len _ _
 refine T.seq ?_
 refine T.region ?_
 refine TL.b _ (Bin.lss (k := .i64) (a := (i : Int)) (b := ((shaH b).length : Int))) ?_
 refine TL.nil ?_
 refine T.seq ?_
 refine T.ci rfl (fun h4 => ?_) (fun h4 => ?_)
 ·
  refine T.skip ?_
  refine T.seq ?_
  refine T.block ?_
  refine T.seq ?_
  refine T.region ?_
  refine TL.c (Step.index_row (e := 3) (z := 1) (i := (i : Int)) rfl rfl (lt_ok rfl) (by kernel_rfl) rfl rfl rfl rfl (lt_ok rfl) rfl (by first | omega | (simp; omega)) (by simp only [D.at_, D.cell, D.size]; first | omega | (simp; omega))) ?_
  refine TL.c (Step.load_row (c := cI ((shaH b).getD i 0)) rfl rfl (lt_ok rfl) (by kernel_rfl) rfl rfl rfl) ?_
  refine TL.as (pI ((shaH b).getD i 0)) ?_
  refine TL.nil ?_
  refine T.region ?_
  refine TL.mv (.one (.row 25 [])) ?_
  refine TL.mv (pI ((shaH b).getD i 0)) ?_
  refine TL.c (Step.bin (r := .int .i64 (bshr ((shaH b).getD i 0) 24)) rfl rfl (lt_ok rfl) rfl rfl (Bin.shr (k := .i64) (k' := .u64) (a := ((shaH b).getD i 0)) (b := 24) (by first | omega | (simp; omega)) (rfl))) ?_
  refine TL.c (Step.conv (c := ((bshr ((shaH b).getD i 0) 24) % 256)) rfl rfl (lt_ok rfl) (by kernel_rfl) (by kernel_rfl) rfl (wrap_byte _)) ?_
  refine TL.mv (pI ((shaH b).getD i 0)) ?_
  refine TL.c (Step.bin (r := .int .i64 (bshr ((shaH b).getD i 0) 16)) rfl rfl (lt_ok rfl) rfl rfl (Bin.shr (k := .i64) (k' := .u64) (a := ((shaH b).getD i 0)) (b := 16) (by first | omega | (simp; omega)) (rfl))) ?_
  refine TL.c (Step.conv (c := ((bshr ((shaH b).getD i 0) 16) % 256)) rfl rfl (lt_ok rfl) (by kernel_rfl) (by kernel_rfl) rfl (wrap_byte _)) ?_
  refine TL.mv (pI ((shaH b).getD i 0)) ?_
  refine TL.c (Step.bin (r := .int .i64 (bshr ((shaH b).getD i 0) 8)) rfl rfl (lt_ok rfl) rfl rfl (Bin.shr (k := .i64) (k' := .u64) (a := ((shaH b).getD i 0)) (b := 8) (by first | omega | (simp; omega)) (rfl))) ?_
  refine TL.c (Step.conv (c := ((bshr ((shaH b).getD i 0) 8) % 256)) rfl rfl (lt_ok rfl) (by kernel_rfl) (by kernel_rfl) rfl (wrap_byte _)) ?_
  refine TL.mv (pI ((shaH b).getD i 0)) ?_
  refine TL.c (Step.conv (c := (((shaH b).getD i 0) % 256)) rfl rfl (lt_ok rfl) (by kernel_rfl) (by kernel_rfl) rfl (wrap_byte _)) ?_
  refine TL.c (Step.lit (e := 5) (z := 1) (by_ := 1) (xs := [.tmp 35, .tmp 38, .tmp 41, .tmp 43]) (pss := [[.d (.int .u8 ((bshr ((shaH b).getD i 0) 24) % 256))], [.d (.int .u8 ((bshr ((shaH b).getD i 0) 16) % 256))], [.d (.int .u8 ((bshr ((shaH b).getD i 0) 8) % 256))], [.d (.int .u8 (((shaH b).getD i 0) % 256))]]) (es := [(.int .u8 ((bshr ((shaH b).getD i 0) 24) % 256)), (.int .u8 ((bshr ((shaH b).getD i 0) 16) % 256)), (.int .u8 ((bshr ((shaH b).getD i 0) 8) % 256)), (.int .u8 (((shaH b).getD i 0) % 256))]) (ss := []) (d := (.ints .u8 [(bshr ((shaH b).getD i 0) 24) % 256, (bshr ((shaH b).getD i 0) 16) % 256, (bshr ((shaH b).getD i 0) 8) % 256, ((shaH b).getD i 0) % 256])) rfl rfl (lt_ok rfl) (by kernel_rfl) rfl rfl (.cons rfl (.cons rfl (.cons rfl (.cons rfl .nil)))) (by simp) (le_ok rfl) (le_ok rfl) rfl (.val rfl (.val rfl (.val rfl (.val rfl .nil)))) rfl (by simp) (by simp) rfl trivial rfl rfl) ?_
  refine TL.c (Step.append (e := 5) (z := 1) (by_ := 1) (d := (.ints .u8 (outB (shaH b) i))) (dy := (.ints .u8 [(bshr ((shaH b).getD i 0) 24) % 256, (bshr ((shaH b).getD i 0) 16) % 256, (bshr ((shaH b).getD i 0) 8) % 256, ((shaH b).getD i 0) % 256])) (d' := (.ints .u8 ((outB (shaH b) i) ++ [(bshr ((shaH b).getD i 0) 24) % 256, (bshr ((shaH b).getD i 0) 16) % 256, (bshr ((shaH b).getD i 0) 8) % 256, ((shaH b).getD i 0) % 256]))) (ss := []) rfl rfl (lt_ok rfl) (by kernel_rfl) rfl rfl rfl (lt_ok rfl) rfl (.copy rfl rfl rfl (by simp [D.flat, D.val])) (by simp) rfl (by simp only [D.size, List.length_map]; first | omega | (simp only [List.length_append, List.length_cons, List.length_nil]; omega) | (simp; omega) | (simp only [List.length_append] at *; omega)) (by simp only [D.size, List.length_map]; first | omega | (simp only [List.length_append, List.length_cons, List.length_nil]; omega) | (simp; omega) | (simp only [List.length_append] at *; omega)) (by simp)) ?_
  refine TL.as (.one (.row 25 [])) ?_
  refine TL.nil ?_
  refine T.region ?_
  refine TL.c (Step.bin (r := .int .i64 ((i : Int) + 1)) rfl rfl (lt_ok rfl) rfl rfl (Bin.add (a := (i : Int)) (b := 1) (by first | exact wrap_ok (by first | omega | (simp; omega)) (by first | omega | (simp; omega)) | rfl))) ?_
  refine TL.mv (pI ((i : Int) + 1)) ?_
  refine TL.nil ?_
  refine ⟨i + 1, by omega, by first | omega | (dsimp only; omega), Env.le_mk ⟨rfl, rfl, rfl, ?_, rfl, trivial⟩ ⟨rfl, ?_, trivial⟩ trivial⟩ <;> (first | rfl | (refine congrArg (fun x => some (_, D.ints .i64 x)) ?_; unfold shaH; rw [show i = (shaPad b).length / 64 from by omega]) | (refine congrArg (fun n => PV.one (.d (.int .i64 n))) ?_; first | rfl | omega | (unfold shaH; rw [show i = (shaPad b).length / 64 from by omega]; first | done | rfl) | (simp; done)))
 refine T.exit ?_
 refine T.seq ?_
 refine T.region ?_
 refine TL.mv (.one (.row 25 [])) ?_
 refine TL.as (.one (.row 25 [])) ?_
 refine TL.nil ?_
 refine T.ret ?_
 refine ⟨[(false, [.row 25 []])], (.cons rfl .nil), rfl, [25], (RetC.o ?_ .nil)⟩ <;> ((congr 1; unfold sha; rw [show i = (shaH b).length from by omega]))
theorem ok_spec_LeafHash (x : List Int) (h0_ : U8s x) (h1_ : x.length ≤ 17592186030000) : RO Try.prog 109 [.one (.ints .u8 x)] [(false, [.own 5 (.ints .u8 (leafHash x))])] := by
 refine RO.intro Try.func109 rfl 7 rfl (le_ok rfl) fun w Z => ?_
 refine T.bnd 0 0 rfl rfl fun hb_0_0 => ?_
 simp only [D.size, List.length_map] at hb_0_0
 refine T.seq ?_
 refine T.region ?_
 refine TL.as (.one (.nil)) ?_
 refine TL.nil ?_
 refine T.seq ?_
 refine T.region ?_
 refine TL.c (Step.lit (e := 5) (z := 1) (by_ := 1) (xs := [.const (.int .u8 0)]) (pss := [[.d (.int .u8 0)]]) (es := [(.int .u8 0)]) (ss := []) (d := (.ints .u8 [0])) rfl rfl (lt_ok rfl) (by kernel_rfl) rfl rfl (.cons rfl .nil) (by simp) (le_ok rfl) (le_ok rfl) rfl (.val rfl .nil) rfl (by simp) (by simp) rfl trivial rfl rfl) ?_
 refine TL.mv (pS x) ?_
 refine TL.c (Step.append (e := 5) (z := 1) (by_ := 1) (d := (.ints .u8 [0])) (dy := (.ints .u8 x)) (d' := (.ints .u8 ([0] ++ x))) (ss := []) rfl rfl (lt_ok rfl) (by kernel_rfl) rfl rfl rfl (lt_ok rfl) rfl (.froz rfl (by simp [D.flat, D.val])) (by simp) rfl (by simp only [D.size, List.length_map]; first | omega | (simp only [List.length_append, List.length_cons, List.length_nil]; omega) | (simp; omega) | (simp only [List.length_append] at *; omega)) (by simp only [D.size, List.length_map]; first | omega | (simp only [List.length_append, List.length_cons, List.length_nil]; omega) | (simp; omega) | (simp only [List.length_append] at *; omega)) (by simp)) ?_
 have nn1 := sha_len ([0] ++ x)
 have nn2 := sha_u8 ([0] ++ x)
 refine TL.c (Step.cl (xs := [.tmp 5]) (ps := [(.one (.row 3 []))]) (g := .func 101) false (.cons (.one (.row rfl rfl rfl rfl)) .nil) (ok_spec_Sha ([0] ++ x) (by first | assumption | exact sha_u8 _ | exact treeRoot_u8 _ | exact nodeHash_u8 _ _ | exact leafHash_u8 _ | exact u8_cons (by decide) (by assumption) | exact mem_getD (p := U8s) (by assumption) (by omega) | exact u8_app (u8_cons (by decide) (by assumption)) (by assumption) | exact fun x hx => by cases hx | exact putHead_u8 u8_72 (by assumption)) (by first | omega | assumption | (simp only [List.length_append] at *; omega) | (simp; done) | (simp; omega)))) ?_
 refine TL.as (.one (.row 1006 [])) ?_
 refine TL.nil ?_
 refine T.ret ?_
 refine ⟨[(false, [.row 1006 []])], (.cons rfl .nil), rfl, [1006], (RetC.o ?_ .nil)⟩ <;> (rfl)
theorem ok_spec_SplitAt (n : Int) (h0_ : n ≤ 9223372036854775807) : RO Try.prog 115 [.one (.int .i64 n)] [(false, [.rd (.int .i64 (splitAtT n))])] := by
 refine RO.intro Try.func115 rfl 14 rfl (le_ok rfl) fun w Z => ?_
 refine T.seq ?_
 refine T.region ?_
 refine TL.as (pI 0) ?_
 refine TL.nil ?_
 refine T.seq ?_
 refine T.seq ?_
 refine T.region ?_
 refine TL.mv (pI n) ?_
 refine TL.b _ (Bin.lss (k := .i64) (a := n) (b := 2)) ?_
 refine TL.nil ?_
 refine T.ci rfl (fun h1 => ?_) (fun h1 => ?_)
 ·
  refine T.seq ?_
  refine T.region ?_
  refine TL.as (pI 0) ?_
  refine TL.nil ?_
  refine T.ret ?_
  refine ⟨[(false, [cI 0])], (.cons rfl .nil), rfl, [], (RetC.r ?_ .nil)⟩ <;> ((congr 1; unfold splitAtT; first | (rw [if_pos (by omega)]; done) | (rw [if_neg (by omega)]; rw [if_neg (by omega)] at hx4; exact hx4) | (rw [if_neg (by omega)]; omega)))
 refine T.skip ?_
 refine T.seq ?_
 refine T.region ?_
 refine TL.as (pI 1) ?_
 refine TL.nil ?_
 refine T.seq ?_
 refine T.block ?_
 refine T.loop (ι := Nat × Int) (fun xx_ => { tm := [(0, (pI n)), (2, (pI 0)), (3, (pI (xx_.2)))], rows := [], boxes := [] }) (fun xx_ => 1 ≤ (xx_.2) ∧ (xx_.2) < n ∧ n ≤ (xx_.2) + (xx_.1) ∧ splitGo (xx_.1) n (xx_.2) = splitAt n) (fun xx_ => (xx_.1)) (n.toNat, 1) ?_ ?_ ?_
 · refine Env.le_mk ⟨rfl, rfl, ?_, trivial⟩ trivial trivial <;> (first | rfl | (refine congrArg (fun n => PV.one (.d (.int .i64 n))) ?_; rfl))
 · (dsimp only; refine ⟨by omega, by omega, by omega, rfl⟩)
 intro xx_ hx
 obtain ⟨d, x⟩ := xx_
 try dsimp only at hx ⊢
 obtain ⟨hx1, hx2, hx3, hx4⟩ := hx
 obtain ⟨d', rfl⟩ : ∃ d', d = d' + 1 := ⟨d - 1, by omega⟩
 unfold splitGo at hx4
 refine T.seq ?_
 refine T.seq ?_
 refine T.region ?_
 refine TL.mv (pI x) ?_
 refine TL.mv (pI n) ?_
 refine TL.mv (pI x) ?_
 refine TL.c (Step.bin (r := .int .i64 (n - x)) rfl rfl (lt_ok rfl) rfl rfl (Bin.sub (a := n) (b := x) (by first | exact wrap_ok (by first | omega | (simp; omega)) (by first | omega | (simp; omega)) | rfl))) ?_
 refine TL.b _ (Bin.lss (k := .i64) (a := x) (b := (n - x))) ?_
 refine TL.nil ?_
 refine T.ci rfl (fun h2 => ?_) (fun h2 => ?_)
 ·
  refine T.skip ?_
  refine T.block ?_
  refine T.region ?_
  refine TL.mv (pI x) ?_
  refine TL.c (Step.bin (r := .int .i64 (2 * x)) rfl rfl (lt_ok rfl) rfl rfl (Bin.mul (a := 2) (b := x) (by first | exact wrap_ok (by first | omega | (simp; omega)) (by first | omega | (simp; omega)) | rfl))) ?_
  refine TL.as (pI (2 * x)) ?_
  refine TL.nil ?_
  refine ⟨(d', 2 * x), by (try dsimp only); (rw [if_pos (by omega)] at hx4; refine ⟨by omega, by omega, by omega, ?_⟩; first | exact hx4 | (rw [Int.mul_comm]; exact hx4)), by (dsimp only; omega), Env.le_mk ⟨rfl, rfl, ?_, trivial⟩ trivial trivial⟩ <;> (first | rfl | (refine congrArg (fun n => PV.one (.d (.int .i64 n))) ?_; rfl))
 refine T.exit ?_
 refine T.seq ?_
 refine T.region ?_
 refine TL.mv (pI x) ?_
 refine TL.as (pI x) ?_
 refine TL.nil ?_
 refine T.ret ?_
 refine ⟨[(false, [cI x])], (.cons rfl .nil), rfl, [], (RetC.r ?_ .nil)⟩ <;> ((congr 1; unfold splitAtT; first | (rw [if_pos (by omega)]; done) | (rw [if_neg (by omega)]; rw [if_neg (by omega)] at hx4; exact hx4) | (rw [if_neg (by omega)]; omega)))
theorem ok_spec_NodeHash (a : List Int) (b : List Int) (h0_ : U8s a) (h1_ : U8s b) (h2_ : a.length ≤ 1048576) (h3_ : b.length ≤ 1048576) : RO Try.prog 170 [.one (.ints .u8 a), .one (.ints .u8 b)] [(false, [.own 5 (.ints .u8 (nodeHash a b))])] := by
 refine RO.intro Try.func170 rfl 13 rfl (le_ok rfl) fun w Z => ?_
 refine T.bnd 0 0 rfl rfl fun hb_0_0 => ?_
 simp only [D.size, List.length_map] at hb_0_0
 refine T.bnd 1 0 rfl rfl fun hb_1_0 => ?_
 simp only [D.size, List.length_map] at hb_1_0
 refine T.seq ?_
 refine T.region ?_
 refine TL.as (.one (.nil)) ?_
 refine TL.nil ?_
 refine T.seq ?_
 refine T.region ?_
 refine TL.c (Step.lit (e := 5) (z := 1) (by_ := 1) (xs := [.const (.int .u8 1)]) (pss := [[.d (.int .u8 1)]]) (es := [(.int .u8 1)]) (ss := []) (d := (.ints .u8 [1])) rfl rfl (lt_ok rfl) (by kernel_rfl) rfl rfl (.cons rfl .nil) (by simp) (le_ok rfl) (le_ok rfl) rfl (.val rfl .nil) rfl (by simp) (by simp) rfl trivial rfl rfl) ?_
 refine TL.mv (pS a) ?_
 refine TL.c (Step.append (e := 5) (z := 1) (by_ := 1) (d := (.ints .u8 [1])) (dy := (.ints .u8 a)) (d' := (.ints .u8 ([1] ++ a))) (ss := []) rfl rfl (lt_ok rfl) (by kernel_rfl) rfl rfl rfl (lt_ok rfl) rfl (.froz rfl (by simp [D.flat, D.val])) (by simp) rfl (by simp only [D.size, List.length_map]; first | omega | (simp only [List.length_append, List.length_cons, List.length_nil]; omega) | (simp; omega) | (simp only [List.length_append] at *; omega)) (by simp only [D.size, List.length_map]; first | omega | (simp only [List.length_append, List.length_cons, List.length_nil]; omega) | (simp; omega) | (simp only [List.length_append] at *; omega)) (by simp)) ?_
 refine TL.as (.one (.row 6 [])) ?_
 refine TL.nil ?_
 refine T.seq ?_
 refine T.region ?_
 refine TL.mv (.one (.row 6 [])) ?_
 refine TL.mv (pS b) ?_
 refine TL.c (Step.append (e := 5) (z := 1) (by_ := 1) (d := (.ints .u8 ([1] ++ a))) (dy := (.ints .u8 b)) (d' := (.ints .u8 (([1] ++ a) ++ b))) (ss := []) rfl rfl (lt_ok rfl) (by kernel_rfl) rfl rfl rfl (lt_ok rfl) rfl (.froz rfl (by simp [D.flat, D.val])) (by simp) rfl (by simp only [D.size, List.length_map]; first | omega | (simp only [List.length_append, List.length_cons, List.length_nil]; omega) | (simp; omega) | (simp only [List.length_append] at *; omega)) (by simp only [D.size, List.length_map]; first | omega | (simp only [List.length_append, List.length_cons, List.length_nil]; omega) | (simp; omega) | (simp only [List.length_append] at *; omega)) (by simp)) ?_
 have nn1 := sha_len (([1] ++ a) ++ b)
 have nn2 := sha_u8 (([1] ++ a) ++ b)
 refine TL.c (Step.cl (xs := [.tmp 11]) (ps := [(.one (.row 6 []))]) (g := .func 101) false (.cons (.one (.row rfl rfl rfl rfl)) .nil) (ok_spec_Sha (([1] ++ a) ++ b) (by first | assumption | exact sha_u8 _ | exact treeRoot_u8 _ | exact nodeHash_u8 _ _ | exact leafHash_u8 _ | exact u8_cons (by decide) (by assumption) | exact mem_getD (p := U8s) (by assumption) (by omega) | exact u8_app (u8_cons (by decide) (by assumption)) (by assumption) | exact fun x hx => by cases hx | exact putHead_u8 u8_72 (by assumption)) (by first | omega | assumption | (simp only [List.length_append] at *; omega) | (simp; done) | (simp; omega)))) ?_
 refine TL.as (.one (.row 1012 [])) ?_
 refine TL.nil ?_
 refine T.ret ?_
 refine ⟨[(false, [.row 1012 []])], (.cons rfl .nil), rfl, [1012], (RetC.o ?_ .nil)⟩ <;> (rfl)
theorem ok_spec_TreeRoot_r (d_ : Nat) : ∀ (l : List (List Int)) (hd_ : l.length = d_) (h0_ : ∀ y ∈ l, U8s y) (h1_ : ∀ y ∈ l, y.length ≤ 1048576), RO Try.prog 116 [.one (.bss l)] [(false, [.own 5 (.ints .u8 (treeRoot l))])] := by
 refine Nat.strongRecOn d_ ?_
 intro d_ ih l hd_ h0_ h1_
 subst hd_
 refine RO.intro Try.func116 rfl 27 rfl (le_ok rfl) fun w Z => ?_
 refine T.bnd 0 0 rfl rfl fun hb_0_0 => ?_
 simp only [D.size, List.length_map] at hb_0_0
 have hsb_ := splitAtT_bd (l.length : Int)
 have hsl_ := splitAtT_le (l.length : Int)
 have hpt_ := part_len l
 have hy_ := mem_len h1_ 0
 refine T.seq ?_
 refine T.region ?_
 refine TL.as (.one (.nil)) ?_
 refine TL.nil ?_
 refine T.seq ?_
 refine T.seq ?_
 refine T.region ?_
 refine TL.mv (.one (.d (.bss l))) ?_
 refine TL.c (Step.len (e := 24) (z := 1) (d := (.bss l)) rfl rfl (lt_ok rfl) (by kernel_rfl) rfl rfl) ?_
 refine TL.b _ (Bin.eql (k := .i64) (a := (l.length : Int)) (b := 0)) ?_
 refine TL.nil ?_
 refine T.ci rfl (fun h1 => ?_) (fun h1 => ?_)
 ·
  refine T.seq ?_
  refine T.region ?_
  have nn2 := sha_len []
  have nn3 := sha_u8 []
  refine TL.c (Step.cl (xs := [.const (.slice none 0 0)]) (ps := [(.one (.nil))]) (g := .func 101) false (.cons (.one (.nil rfl rfl (by first | exact trivial | exact D.wf_nil _))) .nil) (ok_spec_Sha [] (by first | assumption | exact sha_u8 _ | exact treeRoot_u8 _ | exact nodeHash_u8 _ _ | exact leafHash_u8 _ | exact u8_cons (by decide) (by assumption) | exact mem_getD (p := U8s) (by assumption) (by omega) | exact u8_app (u8_cons (by decide) (by assumption)) (by assumption) | exact fun x hx => by cases hx | exact putHead_u8 u8_72 (by assumption)) (by first | omega | assumption | (simp only [List.length_append] at *; omega) | (simp; done) | (simp; omega)))) ?_
  refine TL.as (.one (.row 1007 [])) ?_
  refine TL.nil ?_
  refine T.ret ?_
  refine ⟨[(false, [.row 1007 []])], (.cons rfl .nil), rfl, [1007], (RetC.o ?_ .nil)⟩ <;> ((congr 1; first | (rw [treeRoot_nil (l := l) (by omega)]; done) | (rw [treeRoot_one (l := l) (by omega)]; done) | (rw [treeRoot_two (l := l) (by omega) (by omega)]; done)))
 refine T.skip ?_
 refine T.seq ?_
 refine T.seq ?_
 refine T.region ?_
 refine TL.mv (.one (.d (.bss l))) ?_
 refine TL.c (Step.len (e := 24) (z := 1) (d := (.bss l)) rfl rfl (lt_ok rfl) (by kernel_rfl) rfl rfl) ?_
 refine TL.b _ (Bin.eql (k := .i64) (a := (l.length : Int)) (b := 1)) ?_
 refine TL.nil ?_
 refine T.ci rfl (fun h4 => ?_) (fun h4 => ?_)
 ·
  refine T.seq ?_
  refine T.region ?_
  refine TL.mv (.one (.d (.bss l))) ?_
  refine TL.c (Step.index (e := 24) (z := 1) (i := 0) rfl rfl (lt_ok rfl) (by kernel_rfl) rfl rfl rfl (lt_ok rfl) rfl (by first | omega | (simp; omega)) (by simp only [D.size]; first | omega | (simp; omega))) ?_
  refine TL.c (Step.load (e := (.ints .u8 (l.getD 0 []))) rfl rfl (lt_ok rfl) (by kernel_rfl) rfl rfl) ?_
  have nn5 := leafHash_len (l.getD 0 [])
  have nn6 := leafHash_u8 (l.getD 0 [])
  refine TL.c (Step.cl (xs := [.tmp 13]) (ps := [(pS (l.getD 0 []))]) (g := .func 109) false (.cons (.one (.d _)) .nil) (ok_spec_LeafHash (l.getD 0 []) (by first | assumption | exact sha_u8 _ | exact treeRoot_u8 _ | exact nodeHash_u8 _ _ | exact leafHash_u8 _ | exact u8_cons (by decide) (by assumption) | exact mem_getD (p := U8s) (by assumption) (by omega) | exact u8_app (u8_cons (by decide) (by assumption)) (by assumption) | exact fun x hx => by cases hx) (by first | omega | assumption | (simp only [List.length_append] at *; omega)))) ?_
  refine TL.as (.one (.row 1014 [])) ?_
  refine TL.nil ?_
  refine T.ret ?_
  refine ⟨[(false, [.row 1014 []])], (.cons rfl .nil), rfl, [1014], (RetC.o ?_ .nil)⟩ <;> ((congr 1; first | (rw [treeRoot_nil (l := l) (by omega)]; done) | (rw [treeRoot_one (l := l) (by omega)]; done) | (rw [treeRoot_two (l := l) (by omega) (by omega)]; done)))
 refine T.skip ?_
 refine T.seq ?_
 refine T.region ?_
 refine TL.mv (.one (.d (.bss l))) ?_
 refine TL.c (Step.len (e := 24) (z := 1) (d := (.bss l)) rfl rfl (lt_ok rfl) (by kernel_rfl) rfl rfl) ?_
 have nn7 := splitAtT_bd (l.length : Int)
 refine TL.c (Step.cl (xs := [.tmp 16]) (ps := [(pI (l.length : Int))]) (g := .func 115) false (.cons (.one (.d _)) .nil) (ok_spec_SplitAt (l.length : Int) (by first | omega | assumption | (simp only [List.length_append] at *; omega)))) ?_
 refine TL.as (pI (splitAtT (l.length : Int))) ?_
 refine TL.nil ?_
 refine T.seq ?_
 have nn8 := treeRoot_len ((l.drop 0).take ((splitAtT (l.length : Int)).toNat - 0))
 have nn9 := treeRoot_u8 ((l.drop 0).take ((splitAtT (l.length : Int)).toNat - 0))
 have nn10 := treeRoot_len ((l.drop (splitAtT (l.length : Int)).toNat).take (l.length - (splitAtT (l.length : Int)).toNat))
 have nn11 := treeRoot_u8 ((l.drop (splitAtT (l.length : Int)).toNat).take (l.length - (splitAtT (l.length : Int)).toNat))
 have nn12 := nodeHash_len (treeRoot ((l.drop 0).take ((splitAtT (l.length : Int)).toNat - 0))) (treeRoot ((l.drop (splitAtT (l.length : Int)).toNat).take (l.length - (splitAtT (l.length : Int)).toNat)))
 have nn13 := nodeHash_u8 (treeRoot ((l.drop 0).take ((splitAtT (l.length : Int)).toNat - 0))) (treeRoot ((l.drop (splitAtT (l.length : Int)).toNat).take (l.length - (splitAtT (l.length : Int)).toNat)))
 refine T.draw [⟨18, (.one (.d (.bss l))), []⟩, ⟨19, (pI (splitAtT (l.length : Int))), []⟩, ⟨20, (.one (.d (.bss ((l.drop 0).take ((splitAtT (l.length : Int)).toNat - 0))))), []⟩, ⟨21, (.one (.row 1021 [])), [(1021, (5, (.ints .u8 (treeRoot ((l.drop 0).take ((splitAtT (l.length : Int)).toNat - 0))))))]⟩, ⟨22, (.one (.d (.bss l))), []⟩, ⟨23, (pI (splitAtT (l.length : Int))), []⟩, ⟨24, (.one (.d (.bss ((l.drop (splitAtT (l.length : Int)).toNat).take (l.length - (splitAtT (l.length : Int)).toNat))))), []⟩, ⟨25, (.one (.row 1025 [])), [(1025, (5, (.ints .u8 (treeRoot ((l.drop (splitAtT (l.length : Int)).toNat).take (l.length - (splitAtT (l.length : Int)).toNat))))))]⟩, ⟨26, (.one (.row 1026 [])), [(1026, (5, (.ints .u8 (nodeHash (treeRoot ((l.drop 0).take ((splitAtT (l.length : Int)).toNat - 0))) (treeRoot ((l.drop (splitAtT (l.length : Int)).toNat).take (l.length - (splitAtT (l.length : Int)).toNat)))))))]⟩, ⟨2, (.one (.row 1026 [])), []⟩] (by kernel_rfl) (by kernel_rfl) ?_ ?_
 ·
  refine .cons (fun E A => A.mv 0 18) ?_
  refine .cons (fun E A => A.mv 3 19) ?_
  refine .cons (fun E A => OpStep.plain rfl (Step.slice (e := 24) (z := 1) (l := 0) (h := (splitAtT (l.length : Int)).toNat) (t := 20) rfl rfl (by exact lt_ok rfl) (by kernel_rfl) (A.g 18 rfl) rfl rfl (.none _) ((.some (i := (splitAtT (l.length : Int))) (A.g 19 rfl) (by first | omega | (simp; omega)))) (by first | omega | (simp; omega)) (by simp only [D.size]; first | omega | (simp; omega)) rfl)) ?_
  refine .cons (fun E A => OpStep.plain rfl (Step.call (f := 116) (xs := [.tmp 20]) (ps := [(.one (.d (.bss ((l.drop 0).take ((splitAtT (l.length : Int)).toNat - 0)))))]) false (g := .func 116) (t := 21) rfl rfl (by exact lt_ok rfl) rfl (by kernel_rfl) (evs_cons (A.g 20 rfl) (rfl)) (.cons (.one (.d _)) .nil) (ih ((l.drop 0).take ((splitAtT (l.length : Int)).toNat - 0)).length (by omega) ((l.drop 0).take ((splitAtT (l.length : Int)).toNat - 0)) rfl (by first | assumption | exact mem_sub (by assumption) _ _ | exact s0.2 | exact o1) (by first | assumption | exact mem_sub (by assumption) _ _ | exact s0.2 | exact s1.2)) (.inr rfl) (At.freshRows A rfl) (by simp) rfl)) ?_
  refine .cons (fun E A => A.mv 0 22) ?_
  refine .cons (fun E A => A.mv 3 23) ?_
  refine .cons (fun E A => OpStep.plain rfl (Step.slice (e := 24) (z := 1) (l := (splitAtT (l.length : Int)).toNat) (h := l.length) (t := 24) rfl rfl (by exact lt_ok rfl) (by kernel_rfl) (A.g 22 rfl) rfl rfl ((.some (i := (splitAtT (l.length : Int))) (A.g 23 rfl) (by first | omega | (simp; omega)))) (.none _) (by first | omega | (simp; omega)) (by simp only [D.size]; first | omega | (simp; omega)) rfl)) ?_
  refine .cons (fun E A => OpStep.plain rfl (Step.call (f := 116) (xs := [.tmp 24]) (ps := [(.one (.d (.bss ((l.drop (splitAtT (l.length : Int)).toNat).take (l.length - (splitAtT (l.length : Int)).toNat)))))]) false (g := .func 116) (t := 25) rfl rfl (by exact lt_ok rfl) rfl (by kernel_rfl) (evs_cons (A.g 24 rfl) (rfl)) (.cons (.one (.d _)) .nil) (ih ((l.drop (splitAtT (l.length : Int)).toNat).take (l.length - (splitAtT (l.length : Int)).toNat)).length (by omega) ((l.drop (splitAtT (l.length : Int)).toNat).take (l.length - (splitAtT (l.length : Int)).toNat)) rfl (by first | assumption | exact mem_sub (by assumption) _ _ | exact s0.2 | exact o1) (by first | assumption | exact mem_sub (by assumption) _ _ | exact s0.2 | exact s1.2)) (.inr rfl) (At.freshRows A rfl) (by simp) rfl)) ?_
  refine .cons (fun E A => OpStep.plain rfl (Step.cd (xs := [.tmp 21, .tmp 25]) (ps := [(.one (.row 1021 [])), (.one (.row 1025 []))]) (g := .func 170) false 26 (evs_cons (A.g 21 rfl) (evs_cons (A.g 25 rfl) (rfl))) (.cons (.one (.row rfl (by exact (A.row 1021 (by kernel_rfl)).trans rfl) rfl rfl)) (.cons (.one (.row rfl (by exact (A.row 1025 (by kernel_rfl)).trans rfl) rfl rfl)) .nil)) (ok_spec_NodeHash (treeRoot ((l.drop 0).take ((splitAtT (l.length : Int)).toNat - 0))) (treeRoot ((l.drop (splitAtT (l.length : Int)).toNat).take (l.length - (splitAtT (l.length : Int)).toNat))) (by first | assumption | exact sha_u8 _ | exact treeRoot_u8 _ | exact nodeHash_u8 _ _ | exact leafHash_u8 _ | exact u8_cons (by decide) (by assumption) | exact mem_getD (p := U8s) (by assumption) (by omega) | exact u8_app (u8_cons (by decide) (by assumption)) (by assumption) | exact fun x hx => by cases hx) (by first | assumption | exact sha_u8 _ | exact treeRoot_u8 _ | exact nodeHash_u8 _ _ | exact leafHash_u8 _ | exact u8_cons (by decide) (by assumption) | exact mem_getD (p := U8s) (by assumption) (by omega) | exact u8_app (u8_cons (by decide) (by assumption)) (by assumption) | exact fun x hx => by cases hx) (by first | omega | assumption | (simp only [List.length_append] at *; omega)) (by first | omega | assumption | (simp only [List.length_append] at *; omega))) (At.freshRows A rfl))) ?_
  refine .cons (fun E A => A.as 26 2) ?_
  exact .nil _ _
 refine TL.nil ?_
 refine T.ret ?_
 refine ⟨[(false, [.row 1026 []])], (.cons rfl .nil), rfl, [1026], (RetC.o ?_ .nil)⟩ <;> ((congr 1; first | (rw [treeRoot_nil (l := l) (by omega)]; done) | (rw [treeRoot_one (l := l) (by omega)]; done) | (rw [treeRoot_two (l := l) (by omega) (by omega)]; done)))
theorem ok_spec_TreeRoot (l : List (List Int)) (h0_ : ∀ y ∈ l, U8s y) (h1_ : ∀ y ∈ l, y.length ≤ 1048576) : RO Try.prog 116 [.one (.bss l)] [(false, [.own 5 (.ints .u8 (treeRoot l))])] := ok_spec_TreeRoot_r _ l rfl h0_ h1_
theorem ok_spec_GetText (b : List Int) (a : Int) (m : Int) (h0_ : U8s b) (h1_ : b.length ≤ 1099511627776) : RO Try.prog 184 [.one (.ints .u8 b), .one (.int .i64 a), .one (.int .i64 m)] [(false, [.own 5 (.ints .u8 (getText b a m).1)]), (false, [.rd (.int .i64 (getText b a m).2.1)]), (false, [.rd (.int .i64 (getText b a m).2.2)])] := by
 refine RO.intro Try.func184 rfl 32 rfl (le_ok rfl) fun w Z => ?_
 refine T.bnd 0 0 rfl rfl fun hb_0_0 => ?_
 simp only [D.size, List.length_map] at hb_0_0
 refine T.seq ?_
 refine T.region ?_
 refine TL.as (.one (.nil)) ?_
 refine TL.as (pI 0) ?_
 refine TL.as (pI 0) ?_
 refine TL.nil ?_
 refine T.seq ?_
 refine T.region ?_
 refine TL.mv (pS b) ?_
 refine TL.mv (pI a) ?_
 have nn1 := @getVar_bd b (by assumption) a
 refine TL.c (Step.cl (xs := [.tmp 13, .tmp 14]) (ps := [(pS b), (pI a)]) (g := .func 175) false (.cons (.one (.d _)) (.cons (.one (.d _)) .nil)) (ok_spec_GetVar b a (by assumption) (by first | omega | assumption | (simp only [List.length_append] at *; omega)))) ?_
 refine TL.mv (.tup [(false, [cI (getVar b a).1]), (false, [cI (getVar b a).2.1]), (false, [cI (getVar b a).2.2])]) ?_
 refine TL.c (Step.extract (p := (pI (getVar b a).1)) rfl rfl (lt_ok rfl) rfl rfl) ?_
 refine TL.c (Step.extract (p := (pI (getVar b a).2.1)) rfl rfl (lt_ok rfl) rfl rfl) ?_
 refine TL.c (Step.extract (p := (pI (getVar b a).2.2)) rfl rfl (lt_ok rfl) rfl rfl) ?_
 refine TL.as (pI (getVar b a).1) ?_
 refine TL.as (pI (getVar b a).2.1) ?_
 refine TL.as (pI (getVar b a).2.2) ?_
 refine TL.nil ?_
 refine T.seq ?_
 refine T.seq ?_
 refine T.region ?_
 refine TL.mv (pI (getVar b a).2.2) ?_
 refine TL.b _ (Bin.neq (k := .i64) (a := (getVar b a).2.2) (b := 0)) ?_
 refine TL.nil ?_
 refine T.ci rfl (fun h2 => ?_) (fun h2 => ?_)
 ·
  refine T.seq ?_
  refine T.region ?_
  refine TL.mv (pI (getVar b a).2.2) ?_
  refine TL.as (.one (.nil)) ?_
  refine TL.as (pI 0) ?_
  refine TL.as (pI (getVar b a).2.2) ?_
  refine TL.nil ?_
  refine T.ret ?_
  refine ⟨[(false, [.nil]), (false, [cI 0]), (false, [cI (getVar b a).2.2])], (.cons rfl (.cons rfl (.cons rfl .nil))), rfl, [], (RetC.nn ?_ (RetC.r ?_ (RetC.r ?_ .nil)))⟩ <;> (first | (congr 1; unfold getText; first | (rw [if_pos (by omega), if_pos (by omega)]; done) | (rw [if_pos (by omega), if_neg (by omega)]; done) | (rw [if_neg (by omega)]; done)) | (simp only [D.size]; unfold getText; first | (rw [if_pos (by omega), if_pos (by omega)]; rfl) | (rw [if_neg (by omega)]; rfl)))
 refine T.skip ?_
 refine T.seq ?_
 refine T.seq ?_
 refine T.region ?_
 refine TL.mv (pI (getVar b a).1) ?_
 refine TL.mv (pI m) ?_
 refine TL.b _ (Bin.gtr (k := .i64) (a := (getVar b a).1) (b := m)) ?_
 refine TL.nil ?_
 refine T.ci rfl (fun h3 => ?_) (fun h3 => ?_)
 ·
  refine T.seq ?_
  refine T.region ?_
  refine TL.as (.one (.nil)) ?_
  refine TL.as (pI 0) ?_
  refine TL.as (pI 3) ?_
  refine TL.nil ?_
  refine T.ret ?_
  refine ⟨[(false, [.nil]), (false, [cI 0]), (false, [cI 3])], (.cons rfl (.cons rfl (.cons rfl .nil))), rfl, [], (RetC.nn ?_ (RetC.r ?_ (RetC.r ?_ .nil)))⟩ <;> (first | (congr 1; unfold getText; first | (rw [if_pos (by omega), if_pos (by omega)]; done) | (rw [if_pos (by omega), if_neg (by omega)]; done) | (rw [if_neg (by omega)]; done)) | (simp only [D.size]; unfold getText; first | (rw [if_pos (by omega), if_pos (by omega)]; rfl) | (rw [if_neg (by omega)]; rfl)))
 refine T.skip ?_
 refine T.seq ?_
 refine T.region ?_
 refine TL.mv (pS b) ?_
 refine TL.mv (pI (getVar b a).2.1) ?_
 refine TL.mv (pI (getVar b a).1) ?_
 have nn4 := getRaw_bd b (getVar b a).2.1 (getVar b a).1
 refine TL.c (Step.cl (xs := [.tmp 25, .tmp 26, .tmp 27]) (ps := [(pS b), (pI (getVar b a).2.1), (pI (getVar b a).1)]) (g := .func 176) false (.cons (.one (.d _)) (.cons (.one (.d _)) (.cons (.one (.d _)) .nil))) (ok_spec_GetRaw b (getVar b a).2.1 (getVar b a).1 (by first | omega | assumption | (simp only [List.length_append] at *; omega)))) ?_
 refine TL.c (Step.extract (p := (.one (.row 1028 []))) rfl rfl (lt_ok rfl) rfl rfl) ?_
 refine TL.c (Step.extract (p := (pI (getRaw b (getVar b a).2.1 (getVar b a).1).2.1)) rfl rfl (lt_ok rfl) rfl rfl) ?_
 refine TL.c (Step.extract (p := (pI (getRaw b (getVar b a).2.1 (getVar b a).1).2.2)) rfl rfl (lt_ok rfl) rfl rfl) ?_
 refine TL.as (.one (.row 1028 [])) ?_
 refine TL.as (pI (getRaw b (getVar b a).2.1 (getVar b a).1).2.1) ?_
 refine TL.as (pI (getRaw b (getVar b a).2.1 (getVar b a).1).2.2) ?_
 refine TL.nil ?_
 refine T.ret ?_
 refine ⟨[(false, [.row 1028 []]), (false, [cI (getRaw b (getVar b a).2.1 (getVar b a).1).2.1]), (false, [cI (getRaw b (getVar b a).2.1 (getVar b a).1).2.2])], (.cons rfl (.cons rfl (.cons rfl .nil))), rfl, [1028], (RetC.o ?_ (RetC.r ?_ (RetC.r ?_ .nil)))⟩ <;> (first | (congr 1; unfold getText; first | (rw [if_pos (by omega), if_pos (by omega)]; done) | (rw [if_pos (by omega), if_neg (by omega)]; done) | (rw [if_neg (by omega)]; done)) | (simp only [D.size]; unfold getText; first | (rw [if_pos (by omega), if_pos (by omega)]; rfl) | (rw [if_neg (by omega)]; rfl)))
theorem ok_spec_l11Text (b : List Int) (s : SRS) (m : Int) (h0_ : U8s b) (h1_ : b.length ≤ 1048576) : BX Try.prog 145 [.bx, .rd (.one (.int .i64 m))] 110 [.rd (.ints .u8 b), .rd (.int .i64 s.f0), .rd (.int .i64 s.f1)] [.rd (.ints .u8 b), .rd (.int .i64 (rdText b s m).1.f0), .rd (.int .i64 (rdText b s m).1.f1)] [(false, [.own 5 (.ints .u8 (rdText b s m).2)])] := by
 refine BX.intro Try.func145 rfl 36 rfl (le_ok rfl) (le_ok rfl) fun w Z IX pin hp => ?_
 refine T.seq ?_
 refine T.region ?_
 refine TL.as (.one (.nil)) ?_
 refine TL.nil ?_
 refine T.seq ?_
 refine T.seq ?_
 refine T.region ?_
 refine TL.mv (.one (.ptr 800 0)) ?_
 refine TL.c (Step.nilCheck rfl rfl (lt_ok rfl) rfl) ?_
 refine TL.c (Step.fd 2 1 true) ?_
 refine TL.c (Step.lb (.d (.int .i64 s.f1))) ?_
 refine TL.b _ (Bin.neq (k := .i64) (a := s.f1) (b := 0)) ?_
 refine TL.nil ?_
 refine T.ci rfl (fun h1 => ?_) (fun h1 => ?_)
 ·
  refine T.seq ?_
  refine T.region ?_
  refine TL.as (.one (.nil)) ?_
  refine TL.nil ?_
  refine T.ret ?_
  refine ⟨[cS b, cI s.f0, cI s.f1], [(false, [.nil])], rfl, rfl, (.cons rfl .nil), rfl, [], (RetC.r rfl (RetC.r ?_ (RetC.r ?_ (RetC.nn ?_ .nil))))⟩ <;> (first | rfl | (congr 1; unfold rdText; first | (rw [if_pos (by omega)]; done) | (rw [if_neg (by omega)]; done)) | (simp only [D.size]; unfold rdText; rw [if_neg (by omega)]; rfl))
 refine T.skip ?_
 refine T.seq ?_
 have nn2 := getText_bd b s.f0 m
 refine T.draw [⟨14, (.one (.ptr 800 0)), []⟩, ⟨15, (.one (.ptr 800 0)), []⟩, ⟨16, (.one (.ptr 800 0)), []⟩, ⟨17, (pS b), []⟩, ⟨18, (.one (.ptr 800 0)), []⟩, ⟨19, (.one (.ptr 800 0)), []⟩, ⟨20, (.one (.ptr 800 1)), []⟩, ⟨21, (pI s.f0), []⟩, ⟨22, (pI m), []⟩, ⟨23, (.tup [(false, [.row 1023 []]), (false, [cI (getText b s.f0 m).2.1]), (false, [cI (getText b s.f0 m).2.2])]), [(1023, (5, (.ints .u8 (getText b s.f0 m).1)))]⟩, ⟨13, (.tup [(false, [.row 1023 []]), (false, [cI (getText b s.f0 m).2.1]), (false, [cI (getText b s.f0 m).2.2])]), []⟩, ⟨24, (.one (.row 1023 [])), []⟩, ⟨25, (pI (getText b s.f0 m).2.1), []⟩, ⟨26, (pI (getText b s.f0 m).2.2), []⟩, ⟨5, (.one (.row 1023 [])), []⟩, ⟨6, (pI (getText b s.f0 m).2.1), []⟩, ⟨7, (pI (getText b s.f0 m).2.2), []⟩] (by kernel_rfl) (by kernel_rfl) ?_ ?_
 ·
  refine .cons (fun E A => A.mv 0 14) ?_
  refine .cons (fun E A => OpStep.plain rfl (Step.nilCheck (t := 15) rfl rfl (by exact lt_ok rfl) (A.g 14 rfl))) ?_
  refine .cons (fun E A => OpStep.plain rfl (Step.fa (off := 0) (n := 1) (one := true) 0 16 (A.g 15 rfl))) ?_
  refine .cons (fun E A => OpStep.plain rfl (Step.load_box (c := cS b) (t := 17) rfl rfl (by exact lt_ok rfl) (by kernel_rfl) (A.g 16 rfl) (by exact A.box rfl) rfl)) ?_
  refine .cons (fun E A => A.mv 0 18) ?_
  refine .cons (fun E A => OpStep.plain rfl (Step.nilCheck (t := 19) rfl rfl (by exact lt_ok rfl) (A.g 18 rfl))) ?_
  refine .cons (fun E A => OpStep.plain rfl (Step.fa (off := 1) (n := 1) (one := true) 0 20 (A.g 19 rfl))) ?_
  refine .cons (fun E A => OpStep.plain rfl (Step.load_box (c := cI s.f0) (t := 21) rfl rfl (by exact lt_ok rfl) (by kernel_rfl) (A.g 20 rfl) (by exact A.box rfl) rfl)) ?_
  refine .cons (fun E A => A.mv 1 22) ?_
  refine .cons (fun E A => OpStep.plain rfl (Step.call (f := 184) (xs := [.tmp 17, .tmp 21, .tmp 22]) (ps := [(pS b), (pI s.f0), (pI m)]) false (g := .func 184) (t := 23) rfl rfl (by exact lt_ok rfl) rfl (by kernel_rfl) (evs_cons (A.g 17 rfl) (evs_cons (A.g 21 rfl) (evs_cons (A.g 22 rfl) (rfl)))) (.cons (.one (.d _)) (.cons (.one (.d _)) (.cons (.one (.d _)) .nil))) (ok_spec_GetText b s.f0 m (by assumption) (by first | omega | assumption | (simp only [List.length_append] at *; omega))) (.inr rfl) (At.freshRows A rfl) (fun x hx => by have := hp x hx; omega) rfl)) ?_
  refine .cons (fun E A => A.mv 23 13) ?_
  refine .cons (fun E A => OpStep.plain rfl (Step.extract (p := (.one (.row 1023 []))) (t := 24) rfl rfl (by exact lt_ok rfl) (A.g 13 rfl) rfl)) ?_
  refine .cons (fun E A => OpStep.plain rfl (Step.extract (p := (pI (getText b s.f0 m).2.1)) (t := 25) rfl rfl (by exact lt_ok rfl) (A.g 13 rfl) rfl)) ?_
  refine .cons (fun E A => OpStep.plain rfl (Step.extract (p := (pI (getText b s.f0 m).2.2)) (t := 26) rfl rfl (by exact lt_ok rfl) (A.g 13 rfl) rfl)) ?_
  refine .cons (fun E A => A.as 24 5) ?_
  refine .cons (fun E A => A.as 25 6) ?_
  refine .cons (fun E A => A.as 26 7) ?_
  exact .nil _ _
 refine TL.nil ?_
 refine T.seq ?_
 refine T.region ?_
 refine TL.mv (.one (.ptr 800 0)) ?_
 refine TL.mv (pI (getText b s.f0 m).2.2) ?_
 refine TL.c (Step.nilCheck rfl rfl (lt_ok rfl) rfl) ?_
 refine TL.c (Step.fd 2 1 true) ?_
 refine TL.c (Step.sb 1 [cS b, cI s.f0, cI (getText b s.f0 m).2.2]) ?_
 refine TL.nil ?_
 refine T.seq ?_
 refine T.region ?_
 refine TL.mv (.one (.ptr 800 0)) ?_
 refine TL.mv (pI (getText b s.f0 m).2.1) ?_
 refine TL.c (Step.nilCheck rfl rfl (lt_ok rfl) rfl) ?_
 refine TL.c (Step.fd 1 1 true) ?_
 refine TL.c (Step.sb 1 [cS b, cI (getText b s.f0 m).2.1, cI (getText b s.f0 m).2.2]) ?_
 refine TL.nil ?_
 refine T.seq ?_
 refine T.region ?_
 refine TL.mv (.one (.row 1023 [])) ?_
 refine TL.as (.one (.row 1023 [])) ?_
 refine TL.nil ?_
 refine T.ret ?_
 refine ⟨[cS b, cI (getText b s.f0 m).2.1, cI (getText b s.f0 m).2.2], [(false, [.row 1023 []])], rfl, rfl, (.cons rfl .nil), rfl, [1023], (RetC.r rfl (RetC.r ?_ (RetC.r ?_ (RetC.o ?_ .nil))))⟩ <;> (first | rfl | (congr 1; unfold rdText; first | (rw [if_pos (by omega)]; done) | (rw [if_neg (by omega)]; done)) | (simp only [D.size]; unfold rdText; rw [if_neg (by omega)]; rfl))
theorem ok_spec_l14Get (b : List Int) (s : SRS) (l : SLimits) (h0_ : U8s b) (h1_ : b.length ≤ 1048576) (h2_ : s.f1 = 0 → limOk l = true) : BX Try.prog 97 [.bx, .rd (.agg [(.int .i64 l.f0), (.int .i64 l.f1), (.int .i64 l.f2), (.int .i64 l.f3), (.int .i64 l.f4)])] 110 [.rd (.ints .u8 b), .rd (.int .i64 s.f0), .rd (.int .i64 s.f1)] [.rd (.ints .u8 b), .rd (.int .i64 (rdBlock l b s).1.f0), .rd (.int .i64 (rdBlock l b s).1.f1)] [(true, [.rd (.int .i64 (rdBlock l b s).2.f0.f0), .rd (.int .i64 (rdBlock l b s).2.f0.f1), .rd (.int .i64 (rdBlock l b s).2.f0.f2), .own 5 (.ints .u8 (rdBlock l b s).2.f0.f3), .own 5 (.ints .u8 (rdBlock l b s).2.f0.f4), .rd (.int .i64 (rdBlock l b s).2.f0.f5.f0), .rd (.int .i64 (rdBlock l b s).2.f0.f5.f1), .own 5 (.ints .u8 (rdBlock l b s).2.f0.f5.f2), .own 5 (.ints .u8 (rdBlock l b s).2.f0.f5.f3), .own 24 (.bss (rdBlock l b s).2.f0.f5.f4), .own 24 (.bss (rdBlock l b s).2.f1)])] := by
 refine BX.intro Try.func97 rfl 57 rfl (le_ok rfl) (le_ok rfl) fun w Z IX pin hp => ?_
 have hb1_ := @rdNum_bd b h0_ (rdHead l b s).1
 have hb2_ : (rdB2 l b s).2 = (rdNum b (rdHead l b s).1).2 := rfl
 have hb3_ : (rdBelow b (rdHead l b s).1 (l.f2 + 1) 3).2 = (rdB2 l b s).2 := rfl
 have hho_ := @rdHead_ok l b s h0_
 have hr4_ := hho_.2.2.2.2.1
 refine T.seq ?_
 refine T.region ?_
 refine TL.c (Step.bx [cI l.f0, cI l.f1, cI l.f2, cI l.f3, cI l.f4]) ?_
 refine TL.c (Step.al [cI 0, cI 0, cI 0, .nil, .nil, cI 0, cI 0, .nil, .nil, .nil, .nil]) ?_
 refine TL.nil ?_
 refine T.seq ?_
 refine T.region ?_
 refine TL.mv (.one (.ptr 800 0)) ?_
 refine TL.c (Step.lba 5 [cI l.f0, cI l.f1, cI l.f2, cI l.f3, cI l.f4]) ?_
 have nn1 := @rdHead_sm l b s (by first | assumption | omega)
 have nn2 := @rdHead_ok l b s (by assumption)
 refine TL.c (Step.callX2 (b := 800) (xs := [.tmp 8, .tmp 9]) (ps := [(.one (.ptr 800 0)), (.agg [cI l.f0, cI l.f1, cI l.f2, cI l.f3, cI l.f4])]) (bps := [cS b, cI s.f0, cI s.f1]) (ss := []) (g := .func 90) (ok_spec_l13Get b s l (by assumption) (by first | omega | assumption | (simp only [List.length_append] at *; omega))) rfl rfl (lt_ok rfl) rfl (by kernel_rfl) rfl (.cons (.bx) (.cons (.rd (.agg (.cons (.d _) (.cons (.d _) (.cons (.d _) (.cons (.d _) (.cons (.d _) .nil))))))) .nil)) rfl (.rd (.rd (.rd .nil))) rfl rfl (fun x hx => by have := hp x hx; omega) rfl) ?_
 refine TL.c (Step.build (zs := [.int .i64 0, .int .i64 0, .int .i64 0, .slice none 0 0, .slice none 0 0, .int .i64 0, .int .i64 0, .slice none 0 0, .slice none 0 0, .slice none 0 0, .slice none 0 0]) (places := [(0, 10), (10, 1)]) (pss := [(0, [cI (rdHead l b s).2.f0, cI (rdHead l b s).2.f1, cI (rdHead l b s).2.f2, .row 7010 [], .row 8010 [], cI (rdHead l b s).2.f5.f0, cI (rdHead l b s).2.f5.f1, .row 11010 [], .row 12010 [], .row 13010 []])]) (ps' := [cI (rdHead l b s).2.f0, cI (rdHead l b s).2.f1, cI (rdHead l b s).2.f2, .row 7010 [], .row 8010 [], cI (rdHead l b s).2.f5.f0, cI (rdHead l b s).2.f5.f1, .row 11010 [], .row 12010 [], .row 13010 [], .nil]) rfl rfl (lt_ok rfl) (by kernel_rfl) (.cons ⟨rfl, rfl⟩ .nil) rfl rfl rfl) ?_
 refine TL.c (Step.al [cI 0, cI 0, cI 0, .nil, .nil, cI 0, cI 0, .nil, .nil, .nil, .nil]) ?_
 refine TL.c (Step.sb 11 [cI (rdHead l b s).2.f0, cI (rdHead l b s).2.f1, cI (rdHead l b s).2.f2, .row 7010 [], .row 8010 [], cI (rdHead l b s).2.f5.f0, cI (rdHead l b s).2.f5.f1, .row 11010 [], .row 12010 [], .row 13010 [], .nil]) ?_
 refine TL.nil ?_
 refine T.seq ?_
 refine T.region ?_
 refine TL.mv (.one (.ptr 800 0)) ?_
 have nn3 := @rdNum_bd b (by assumption) (rdHead l b s).1
 refine TL.c (Step.callX2 (b := 800) (xs := [.tmp 12]) (ps := [(.one (.ptr 800 0))]) (bps := [cS b, cI (rdHead l b s).1.f0, cI (rdHead l b s).1.f1]) (ss := []) (g := .func 131) (ok_spec_l11Var b (rdHead l b s).1 (by assumption) (by first | omega | assumption | (simp only [List.length_append] at *; omega))) rfl rfl (lt_ok rfl) rfl (by kernel_rfl) rfl (.cons (.bx) .nil) rfl (.rd (.rd (.rd .nil))) rfl rfl (fun x hx => by have := hp x hx; omega) rfl) ?_
 refine TL.as (pI (rdNum b (rdHead l b s).1).2) ?_
 refine TL.nil ?_
 refine T.seq ?_
 refine T.region ?_
 refine TL.mv (.one (.ptr 800 0)) ?_
 refine TL.mv (pI (rdNum b (rdHead l b s).1).2) ?_
 refine TL.c (Step.fd 2 1 true) ?_
 refine TL.c (Step.lb (.d (.int .i64 l.f2))) ?_
 refine TL.b _ (Bin.gtr (k := .i64) (a := (rdNum b (rdHead l b s).1).2) (b := l.f2)) ?_
 refine TL.c (Step.callX2 (b := 800) (xs := [.tmp 14, .tmp 18, .const (.int .i64 3)]) (ps := [(.one (.ptr 800 0)), (pB (decide (l.f2 < (rdNum b (rdHead l b s).1).2))), (pI 3)]) (bps := [cS b, cI (rdNum b (rdHead l b s).1).1.f0, cI (rdNum b (rdHead l b s).1).1.f1]) (ss := []) (g := .func 140) (ok_spec_l11Fail (decide ((rdNum b (rdHead l b s).1).2 < l.f2 + 1)) b (rdNum b (rdHead l b s).1).1 (decide (l.f2 < (rdNum b (rdHead l b s).1).2)) 3 (by assumption) (by first | omega | assumption | (simp only [List.length_append] at *; omega)) (by first | rfl | (rw [Bool.eq_iff_iff]; simp only [Bool.not_eq_true', Bool.not_eq_false', decide_eq_true_eq, decide_eq_false_iff_not]; omega) | (simp; done))) rfl rfl (lt_ok rfl) rfl (by kernel_rfl) rfl (.cons (.bx) (.cons (.rd (.one (.d _))) (.cons (.rd (.one (.d _))) .nil))) rfl (.rd (.rd (.rd .nil))) rfl rfl (fun x hx => by have := hp x hx; omega) rfl) ?_
 refine TL.nil ?_
 refine T.seq ?_
 refine T.seq ?_
 refine T.region ?_
 refine TL.as (pI 0) ?_
 refine TL.nil ?_
 refine T.block ?_
 refine T.nilrow 5 10 100510 24 56 (.bss []) [cI (rdHead l b s).2.f0, cI (rdHead l b s).2.f1, cI (rdHead l b s).2.f2, .row 7010 [], .row 8010 [], cI (rdHead l b s).2.f5.f0, cI (rdHead l b s).2.f5.f1, .row 11010 [], .row 12010 [], .row 13010 [], .nil] rfl rfl rfl (fun x hx => by have := hp x hx; omega) rfl rfl trivial ?_
 refine T.loop (ι := Nat × SRS × (List (List Int))) (fun xx_ => { tm := [(0, (.one (.ptr 800 0))), (3, (.one (.ptr 3 0))), (4, (.one (.ptr 4 0))), (5, (.one (.ptr 5 0))), (6, (pI (rdNum b (rdHead l b s).1).2)), (7, (pI ((xx_.1) : Int)))], rows := [(7010, (5, (.ints .u8 (rdHead l b s).2.f3))), (8010, (5, (.ints .u8 (rdHead l b s).2.f4))), (11010, (5, (.ints .u8 (rdHead l b s).2.f5.f2))), (12010, (5, (.ints .u8 (rdHead l b s).2.f5.f3))), (13010, (24, (.bss (rdHead l b s).2.f5.f4))), (100510, (24, (.bss (xx_.2.2))))], boxes := [(800, (110, [cS b, cI (xx_.2.1).f0, cI (xx_.2.1).f1])), (3, (34, [cI l.f0, cI l.f1, cI l.f2, cI l.f3, cI l.f4])), (4, (56, [cI 0, cI 0, cI 0, .nil, .nil, cI 0, cI 0, .nil, .nil, .nil, .nil])), (5, (56, [cI (rdHead l b s).2.f0, cI (rdHead l b s).2.f1, cI (rdHead l b s).2.f2, .row 7010 [], .row 8010 [], cI (rdHead l b s).2.f5.f0, cI (rdHead l b s).2.f5.f1, .row 11010 [], .row 12010 [], .row 13010 [], .row 100510 []]))] }) (fun xx_ => ((xx_.1) : Int) ≤ (rdB2 l b s).2 ∧ ((xx_.2.1).f1 = 0 → (rdB2 l b s).2 ≤ 8) ∧ (xx_.2.2).length = (xx_.1) ∧ (∀ y ∈ (xx_.2.2), U8s y) ∧ (∀ y ∈ (xx_.2.2), y.length ≤ 1048576) ∧ rdTx l b ((rdB2 l b s).2.toNat - (xx_.1)) (xx_.2.1) (xx_.2.2) = rdTx l b (rdB2 l b s).2.toNat (rdB2 l b s).1 []) (fun xx_ => (rdB2 l b s).2.toNat - (xx_.1)) (0, (rdB2 l b s).1, []) ?_ ?_ ?_
 · refine Env.le_mk ⟨rfl, rfl, rfl, rfl, rfl, ?_, trivial⟩ ⟨rfl, rfl, rfl, rfl, rfl, ?_, trivial⟩ ⟨?_, rfl, rfl, rfl, trivial⟩ <;> (first | rfl | (refine congrArg (fun n => PV.one (.d (.int .i64 n))) ?_; first | rfl | omega | (simp; done)))
 · (dsimp only; exact ⟨by omega, fun h_ => rdB2_z (h2_) h_, rfl, (fun y hy => by cases hy), (fun y hy => by cases hy), rfl⟩)
 intro xx_ hx
 obtain ⟨i, q, ts⟩ := xx_
 try dsimp only at hx ⊢
 obtain ⟨hx1, hx2, hx3, hx5, hx6, hx4⟩ := hx
 refine T.seq ?_
 refine T.seq ?_
 refine T.region ?_
 refine TL.mv (pI (i : Int)) ?_
 refine TL.mv (pI (rdNum b (rdHead l b s).1).2) ?_
 refine TL.b _ (Bin.lss (k := .i64) (a := (i : Int)) (b := (rdNum b (rdHead l b s).1).2)) ?_
 refine TL.mv (pB (decide ((i : Int) < (rdNum b (rdHead l b s).1).2))) ?_
 rcases Bool.eq_false_or_eq_true (decide ((i : Int) < (rdNum b (rdHead l b s).1).2)) with hb4 | hb4
 ·
  refine TL.known 23 hb4 rfl ?_
  have hb4' := hb4
  replace hb4' := of_decide_eq_true hb4'
  refine TL.gm 23 (.one (.ptr 800 0)) ?_
  refine TL.gy 23 (Step.nilCheck rfl rfl (lt_ok rfl) rfl) ?_
  refine TL.gy 23 (Step.fd 2 1 true) ?_
  refine TL.gy 23 (Step.lb (.d (.int .i64 q.f1))) ?_
  refine TL.gy 23 (Step.bin rfl rfl (lt_ok rfl) rfl rfl (Bin.eql (k := .i64) (a := q.f1) (b := 0))) ?_
  refine TL.pk true (pB (decide (q.f1 = 0))) ?_
  refine TL.nil ?_
  refine T.ci rfl (fun h5 => ?_) (fun h5 => ?_)
  ·
   refine T.skip ?_
   refine T.seq ?_
   refine T.block ?_
   have nn6 := rdText_len b q l.f1
   refine T.drawX [{ dst := some 32, pv := (.one (.ptr 5 10)) }, { dst := some 33, pv := (.one (.row 100510 [])) }, { dst := some 34, pv := (.one (.ptr 800 0)) }, { dst := some 35, pv := (.one (.ptr 3 1)) }, { dst := some 36, pv := (pI l.f1) }, { dst := some 37, pv := (.one (.row 4037 [])), rows := [(4037, (5, (.ints .u8 (rdText b q l.f1).2)))], box := some (800, (110, [cS b, cI (rdText b q l.f1).1.f0, cI (rdText b q l.f1).1.f1])) }, { dst := some 38, pv := (.one (.row 38 [])), rows := [(38, (24, (.bss [(rdText b q l.f1).2])))], dead := [4037] }, { dst := some 39, pv := (.one (.row 500039 [])), rows := [(500039, (24, (.bss (ts ++ [(rdText b q l.f1).2]))))], dead := [100510, 38] }, { dst := some 40, pv := (.one (.ptr 5 10)) }, { box := some (5, (56, [cI (rdHead l b s).2.f0, cI (rdHead l b s).2.f1, cI (rdHead l b s).2.f2, .row 7010 [], .row 8010 [], cI (rdHead l b s).2.f5.f0, cI (rdHead l b s).2.f5.f1, .row 11010 [], .row 12010 [], .row 13010 [], .row 500039 []])) }] (by kernel_rfl) (by kernel_rfl) ?_ ?_
   ·
    refine .cons (fun E hA_ => by have g5 : E.get 5 = (.one (.ptr 5 0)) := (hA_.get 5 (by kernel_rfl)).trans (by kernel_rfl); exact OpStep.plain rfl (Step.fa (off := 10) (n := 1) (one := true) 0 32 (show Env.ev E (.tmp 5) = _ from g5.trans rfl))) ?_
    refine .cons (fun E hA_ => by have g32 : E.get 32 = (.one (.ptr 5 10)) := (hA_.get 32 (by kernel_rfl)).trans (by kernel_rfl); have b5 : E.box 5 = some (56, [cI (rdHead l b s).2.f0, cI (rdHead l b s).2.f1, cI (rdHead l b s).2.f2, .row 7010 [], .row 8010 [], cI (rdHead l b s).2.f5.f0, cI (rdHead l b s).2.f5.f1, .row 11010 [], .row 12010 [], .row 13010 [], .row 100510 []]) := (hA_.box 5 (by kernel_rfl)).trans (by kernel_rfl); exact OpStep.plain rfl (Step.load_box (c := .row 100510 []) (t := 33) rfl rfl (by exact lt_ok rfl) (by kernel_rfl) (show Env.ev E (.tmp 32) = _ from g32.trans rfl) b5 rfl)) ?_
    refine .cons (fun E hA_ => by have g0 : E.get 0 = (.one (.ptr 800 0)) := (hA_.get 0 (by kernel_rfl)).trans (by kernel_rfl); exact OpStep.plain rfl (Step.move (p := (.one (.ptr 800 0))) (t := 34) rfl rfl (by exact lt_ok rfl) (show Env.ev E (.tmp 0) = _ from g0.trans rfl))) ?_
    refine .cons (fun E hA_ => by have g3 : E.get 3 = (.one (.ptr 3 0)) := (hA_.get 3 (by kernel_rfl)).trans (by kernel_rfl); exact OpStep.plain rfl (Step.fa (off := 1) (n := 1) (one := true) 0 35 (show Env.ev E (.tmp 3) = _ from g3.trans rfl))) ?_
    refine .cons (fun E hA_ => by have g35 : E.get 35 = (.one (.ptr 3 1)) := (hA_.get 35 (by kernel_rfl)).trans (by kernel_rfl); have b3 : E.box 3 = some (34, [cI l.f0, cI l.f1, cI l.f2, cI l.f3, cI l.f4]) := (hA_.box 3 (by kernel_rfl)).trans (by kernel_rfl); exact OpStep.plain rfl (Step.load_box (c := cI l.f1) (t := 36) rfl rfl (by exact lt_ok rfl) (by kernel_rfl) (show Env.ev E (.tmp 35) = _ from g35.trans rfl) b3 rfl)) ?_
    refine .cons (fun E hA_ => by have g34 : E.get 34 = (.one (.ptr 800 0)) := (hA_.get 34 (by kernel_rfl)).trans (by kernel_rfl); have g36 : E.get 36 = (pI l.f1) := (hA_.get 36 (by kernel_rfl)).trans (by kernel_rfl); have b800 : E.box 800 = some (110, [cS b, cI q.f0, cI q.f1]) := (hA_.box 800 (by kernel_rfl)).trans (by kernel_rfl); exact OpStep.plain rfl (Step.callXX2 (b := 800) (xs := [.tmp 34, .tmp 36]) (ps := [(.one (.ptr 800 0)), (pI l.f1)]) (bps := [cS b, cI q.f0, cI q.f1]) (ss := []) (g := .func 145) (t := 37) (ok_spec_l11Text b q l.f1 (by assumption) (by first | omega | assumption | (simp only [List.length_append] at *; omega))) rfl rfl (by exact lt_ok rfl) rfl (by kernel_rfl) (evs_cons (show Env.ev E (.tmp 34) = _ from g34.trans rfl) (evs_cons (show Env.ev E (.tmp 36) = _ from g36.trans rfl) (rfl))) (.cons (.bx) (.cons (.rd (.one (.d _))) .nil)) b800 (.rd (.rd (.rd .nil))) rfl (handX_fresh (fun x_ hx_ => hA_.fresh x_ (by exact hx_))) (fun x hx => by have := hp x hx; omega) rfl (by simp [rowsOf, rid]))) ?_
    refine .cons (fun E hA_ => by have g37 : E.get 37 = (.one (.row 4037 [])) := (hA_.get 37 (by kernel_rfl)).trans (by kernel_rfl); have q4037 : E.row 4037 = some (5, (.ints .u8 (rdText b q l.f1).2)) := (hA_.row 4037 (by kernel_rfl)).trans (by kernel_rfl); exact OpStep.plain rfl (Step.litX (e := 24) (z := 1) (by_ := 24) (xs := [.tmp 37]) (pss := [[.row 4037 []]]) (es := [(.ints .u8 (rdText b q l.f1).2)]) (ss := [4037]) (d := (.bss [(rdText b q l.f1).2])) (t := 38) rfl rfl (by exact lt_ok rfl) (by kernel_rfl) rfl rfl (.cons (by exact (congrArg PV.flat (show Env.ev E (.tmp 37) = _ from g37.trans rfl)).trans rfl) .nil) (by simp) (le_ok rfl) (le_ok rfl) (by simp only [List.all_cons, List.all_nil, List.flatten_cons, List.flatten_nil, List.append_nil, List.cons_append, List.nil_append, Env.fine, q4037]; rfl) (.row q4037 (by simp) .nil) (hA_.fresh _ (List.mem_singleton.2 rfl)) (by simp) (fun x_ hx_ => by have := hp x_ hx_; omega) rfl trivial rfl rfl)) ?_
    refine .cons (fun E hA_ => by have g33 : E.get 33 = (.one (.row 100510 [])) := (hA_.get 33 (by kernel_rfl)).trans (by kernel_rfl); have g38 : E.get 38 = (.one (.row 38 [])) := (hA_.get 38 (by kernel_rfl)).trans (by kernel_rfl); have q38 : E.row 38 = some (24, (.bss [(rdText b q l.f1).2])) := (hA_.row 38 (by kernel_rfl)).trans (by kernel_rfl); have q100510 : E.row 100510 = some (24, (.bss ts)) := (hA_.row 100510 (by kernel_rfl)).trans (by kernel_rfl); exact OpStep.plain rfl (Step.appendX (e := 24) (z := 1) (by_ := 24) (d := (.bss ts)) (dy := (.bss [(rdText b q l.f1).2])) (d' := (.bss (ts ++ [(rdText b q l.f1).2]))) (ss := [38]) 500039 (t := 39) rfl rfl (by exact lt_ok rfl) (by kernel_rfl) (show Env.ev E (.tmp 33) = _ from g33.trans rfl) q100510 rfl (lt_ok rfl) (show Env.ev E (.tmp 38) = _ from g38.trans rfl) (.move q38) (by simp) rfl (by simp only [D.size, List.length_map]; first | omega | (simp only [List.length_append, List.length_cons, List.length_nil]; omega) | (simp; omega) | (simp only [List.length_append] at *; omega)) (by simp only [D.size, List.length_map]; first | omega | (simp only [List.length_append, List.length_cons, List.length_nil]; omega) | (simp; omega) | (simp only [List.length_append] at *; omega)) (fun x_ hx_ => by have := hp x_ hx_; omega) (hA_.fresh _ (List.mem_singleton.2 rfl)) (by simp) (fun x_ hx_ => by have := hp x_ hx_; omega))) ?_
    refine .cons (fun E hA_ => by have g5 : E.get 5 = (.one (.ptr 5 0)) := (hA_.get 5 (by kernel_rfl)).trans (by kernel_rfl); exact OpStep.plain rfl (Step.fa (off := 10) (n := 1) (one := true) 0 40 (show Env.ev E (.tmp 5) = _ from g5.trans rfl))) ?_
    refine .cons (fun E hA_ => by have g39 : E.get 39 = (.one (.row 500039 [])) := (hA_.get 39 (by kernel_rfl)).trans (by kernel_rfl); have g40 : E.get 40 = (.one (.ptr 5 10)) := (hA_.get 40 (by kernel_rfl)).trans (by kernel_rfl); have q500039 : E.row 500039 = some (24, (.bss (ts ++ [(rdText b q l.f1).2]))) := (hA_.row 500039 (by kernel_rfl)).trans (by kernel_rfl); have b5 : E.box 5 = some (56, [cI (rdHead l b s).2.f0, cI (rdHead l b s).2.f1, cI (rdHead l b s).2.f2, .row 7010 [], .row 8010 [], cI (rdHead l b s).2.f5.f0, cI (rdHead l b s).2.f5.f1, .row 11010 [], .row 12010 [], .row 13010 [], .row 100510 []]) := (hA_.box 5 (by kernel_rfl)).trans (by kernel_rfl); exact OpStep.plain rfl (Step.store_box (n := 1) (p := (.one (.row 500039 []))) (qs := [.row 500039 []]) (ps' := [cI (rdHead l b s).2.f0, cI (rdHead l b s).2.f1, cI (rdHead l b s).2.f2, .row 7010 [], .row 8010 [], cI (rdHead l b s).2.f5.f0, cI (rdHead l b s).2.f5.f1, .row 11010 [], .row 12010 [], .row 13010 [], .row 500039 []]) rfl rfl (by kernel_rfl) (show Env.ev E (.tmp 40) = _ from g40.trans rfl) b5 (show Env.ev E (.tmp 39) = _ from g39.trans rfl) rfl rfl (by simp only [List.all_cons, List.all_nil, List.flatten_cons, List.flatten_nil, List.append_nil, List.cons_append, List.nil_append, Env.fine, q500039]; rfl) (le_ok rfl) rfl)) ?_
    exact .nil _ _
   refine TL.wk [(0, (.one (.ptr 800 0))), (3, (.one (.ptr 3 0))), (4, (.one (.ptr 4 0))), (5, (.one (.ptr 5 0))), (6, (pI (rdNum b (rdHead l b s).1).2)), (7, (pI (i : Int)))] [(7010, (5, (.ints .u8 (rdHead l b s).2.f3))), (8010, (5, (.ints .u8 (rdHead l b s).2.f4))), (11010, (5, (.ints .u8 (rdHead l b s).2.f5.f2))), (12010, (5, (.ints .u8 (rdHead l b s).2.f5.f3))), (13010, (24, (.bss (rdHead l b s).2.f5.f4))), (500039, (24, (.bss (ts ++ [(rdText b q l.f1).2]))))] [(800, (110, [cS b, cI (rdText b q l.f1).1.f0, cI (rdText b q l.f1).1.f1])), (3, (34, [cI l.f0, cI l.f1, cI l.f2, cI l.f3, cI l.f4])), (4, (56, [cI 0, cI 0, cI 0, .nil, .nil, cI 0, cI 0, .nil, .nil, .nil, .nil])), (5, (56, [cI (rdHead l b s).2.f0, cI (rdHead l b s).2.f1, cI (rdHead l b s).2.f2, .row 7010 [], .row 8010 [], cI (rdHead l b s).2.f5.f0, cI (rdHead l b s).2.f5.f1, .row 11010 [], .row 12010 [], .row 13010 [], .row 500039 []]))] ?_
   refine TL.ren 500039 100510 rfl (fun x hx => by have := hp x hx; omega) ?_
   refine TL.nil ?_
   refine T.region ?_
   refine TL.mv (pI (i : Int)) ?_
   refine TL.c (Step.bin (r := .int .i64 ((i : Int) + 1)) rfl rfl (lt_ok rfl) rfl rfl (Bin.add (a := (i : Int)) (b := 1) (by first | exact wrap_ok (by first | omega | (simp; omega)) (by first | omega | (simp; omega)) | rfl))) ?_
   refine TL.as (pI ((i : Int) + 1)) ?_
   refine TL.nil ?_
   refine ⟨(i + 1, (rdText b q l.f1).1, (ts ++ [(rdText b q l.f1).2])), by (try dsimp only); (refine ⟨by omega, fun _ => by omega, by simp only [List.length_append, List.length_cons, List.length_nil]; first | done | omega, mem_snoc hx5 (rdText_u8 h0_ q l.f1), mem_snoc hx6 (Nat.le_trans (rdText_len b q l.f1) h1_), ?_⟩; exact (rdTx_next (by omega) (by omega)).symm.trans hx4), by (dsimp only; omega), Env.le_mk ⟨rfl, rfl, rfl, rfl, rfl, ?_, trivial⟩ ⟨rfl, rfl, rfl, rfl, rfl, ?_, trivial⟩ ⟨?_, rfl, rfl, rfl, trivial⟩⟩ <;> (first | rfl | (refine congrArg (fun n => PV.one (.d (.int .i64 n))) ?_; first | rfl | omega | (simp; done)))
  refine T.exit ?_
  refine T.seq ?_
  refine T.seq ?_
  refine T.region ?_
  refine TL.mv (.one (.ptr 800 0)) ?_
  refine TL.c (Step.nilCheck rfl rfl (lt_ok rfl) rfl) ?_
  refine TL.c (Step.fd 2 1 true) ?_
  refine TL.c (Step.lb (.d (.int .i64 q.f1))) ?_
  refine TL.b _ (Bin.eql (k := .i64) (a := q.f1) (b := 0)) ?_
  refine TL.nil ?_
  refine T.ci rfl (fun h7 => ?_) (fun h7 => ?_)
  ·
   have nn8 := treeRoot_len ts
   have nn9 := treeRoot_u8 ts
   refine T.drawX [{ dst := some 46, pv := (.one (.ptr 800 0)) }, { dst := some 47, pv := (.one (.ptr 5 0)) }, { dst := some 48, pv := (.one (.ptr 5 4)) }, { dst := some 49, pv := (.one (.row 8010 [])) }, { dst := some 50, pv := (.one (.ptr 5 10)) }, { dst := some 51, pv := (.one (.row 100510 [])) }, { dst := some 52, pv := (.one (.row 1052 [])), rows := [(1052, (5, (.ints .u8 (treeRoot ts))))] }, { dst := some 53, pv := (pB (decide ((rdHead l b s).2.f4 = (treeRoot ts)))) }, { dst := some 54, pv := (pB (!(decide ((rdHead l b s).2.f4 = (treeRoot ts))))) }, { dst := some 55, pv := (.tup []), box := some (800, (110, [cS b, cI (rdMust q (decide ((rdHead l b s).2.f4 = (treeRoot ts))) 7).f0, cI (rdMust q (decide ((rdHead l b s).2.f4 = (treeRoot ts))) 7).f1])) }] (by kernel_rfl) (by kernel_rfl) ?_ ?_
   ·
    refine .cons (fun E hA_ => by have g0 : E.get 0 = (.one (.ptr 800 0)) := (hA_.get 0 (by kernel_rfl)).trans (by kernel_rfl); exact OpStep.plain rfl (Step.move (p := (.one (.ptr 800 0))) (t := 46) rfl rfl (by exact lt_ok rfl) (show Env.ev E (.tmp 0) = _ from g0.trans rfl))) ?_
    refine .cons (fun E hA_ => by have g5 : E.get 5 = (.one (.ptr 5 0)) := (hA_.get 5 (by kernel_rfl)).trans (by kernel_rfl); exact OpStep.plain rfl (Step.fa (off := 0) (n := 10) (one := false) 0 47 (show Env.ev E (.tmp 5) = _ from g5.trans rfl))) ?_
    refine .cons (fun E hA_ => by have g47 : E.get 47 = (.one (.ptr 5 0)) := (hA_.get 47 (by kernel_rfl)).trans (by kernel_rfl); exact OpStep.plain rfl (Step.fa (off := 4) (n := 1) (one := true) 0 48 (show Env.ev E (.tmp 47) = _ from g47.trans rfl))) ?_
    refine .cons (fun E hA_ => by have g48 : E.get 48 = (.one (.ptr 5 4)) := (hA_.get 48 (by kernel_rfl)).trans (by kernel_rfl); have b5 : E.box 5 = some (56, [cI (rdHead l b s).2.f0, cI (rdHead l b s).2.f1, cI (rdHead l b s).2.f2, .row 7010 [], .row 8010 [], cI (rdHead l b s).2.f5.f0, cI (rdHead l b s).2.f5.f1, .row 11010 [], .row 12010 [], .row 13010 [], .row 100510 []]) := (hA_.box 5 (by kernel_rfl)).trans (by kernel_rfl); exact OpStep.plain rfl (Step.load_box (c := .row 8010 []) (t := 49) rfl rfl (by exact lt_ok rfl) (by kernel_rfl) (show Env.ev E (.tmp 48) = _ from g48.trans rfl) b5 rfl)) ?_
    refine .cons (fun E hA_ => by have g5 : E.get 5 = (.one (.ptr 5 0)) := (hA_.get 5 (by kernel_rfl)).trans (by kernel_rfl); exact OpStep.plain rfl (Step.fa (off := 10) (n := 1) (one := true) 0 50 (show Env.ev E (.tmp 5) = _ from g5.trans rfl))) ?_
    refine .cons (fun E hA_ => by have g50 : E.get 50 = (.one (.ptr 5 10)) := (hA_.get 50 (by kernel_rfl)).trans (by kernel_rfl); have b5 : E.box 5 = some (56, [cI (rdHead l b s).2.f0, cI (rdHead l b s).2.f1, cI (rdHead l b s).2.f2, .row 7010 [], .row 8010 [], cI (rdHead l b s).2.f5.f0, cI (rdHead l b s).2.f5.f1, .row 11010 [], .row 12010 [], .row 13010 [], .row 100510 []]) := (hA_.box 5 (by kernel_rfl)).trans (by kernel_rfl); exact OpStep.plain rfl (Step.load_box (c := .row 100510 []) (t := 51) rfl rfl (by exact lt_ok rfl) (by kernel_rfl) (show Env.ev E (.tmp 50) = _ from g50.trans rfl) b5 rfl)) ?_
    refine .cons (fun E hA_ => by have g51 : E.get 51 = (.one (.row 100510 [])) := (hA_.get 51 (by kernel_rfl)).trans (by kernel_rfl); have q100510 : E.row 100510 = some (24, (.bss ts)) := (hA_.row 100510 (by kernel_rfl)).trans (by kernel_rfl); exact OpStep.plain rfl (Step.call (f := 116) (xs := [.tmp 51]) (ps := [(.one (.row 100510 []))]) false (g := .func 116) (t := 52) rfl rfl (by exact lt_ok rfl) rfl (by kernel_rfl) (evs_cons (show Env.ev E (.tmp 51) = _ from g51.trans rfl) (rfl)) (.cons (.one (.row rfl q100510 rfl rfl)) .nil) (ok_spec_TreeRoot ts (by first | assumption | exact mem_sub (by assumption) _ _ | exact s0.2 | exact o1) (by first | assumption | exact mem_sub (by assumption) _ _ | exact s0.2 | exact s1.2)) (.inr rfl) (freshRows_of _ _ (fun x_ hx_ => hA_.fresh x_ (by exact hx_))) (fun x hx => by have := hp x hx; omega) rfl)) ?_
    refine .cons (fun E hA_ => by have g49 : E.get 49 = (.one (.row 8010 [])) := (hA_.get 49 (by kernel_rfl)).trans (by kernel_rfl); have g52 : E.get 52 = (.one (.row 1052 [])) := (hA_.get 52 (by kernel_rfl)).trans (by kernel_rfl); have q1052 : E.row 1052 = some (5, (.ints .u8 (treeRoot ts))) := (hA_.row 1052 (by kernel_rfl)).trans (by kernel_rfl); have q8010 : E.row 8010 = some (5, (.ints .u8 (rdHead l b s).2.f4)) := (hA_.row 8010 (by kernel_rfl)).trans (by kernel_rfl); exact OpStep.plain rfl (Step.call (f := 105) (xs := [.tmp 49, .tmp 52]) (ps := [(.one (.row 8010 [])), (.one (.row 1052 []))]) false (g := .func 105) (t := 53) rfl rfl (by exact lt_ok rfl) rfl (by kernel_rfl) (evs_cons (show Env.ev E (.tmp 49) = _ from g49.trans rfl) (evs_cons (show Env.ev E (.tmp 52) = _ from g52.trans rfl) (rfl))) (.cons (.one (.row rfl q8010 rfl rfl)) (.cons (.one (.row rfl q1052 rfl rfl)) .nil)) (ok_spec_SameBytes (rdHead l b s).2.f4 (treeRoot ts) (by first | assumption | omega | exact treeRoot_u8 _) (by first | assumption | omega | exact treeRoot_u8 _)) (.inr rfl) (freshRows_of _ _ (fun x_ hx_ => hA_.fresh x_ (by exact hx_))) (fun x hx => by have := hp x hx; omega) rfl)) ?_
    refine .cons (fun E hA_ => by have g53 : E.get 53 = (pB (decide ((rdHead l b s).2.f4 = (treeRoot ts)))) := (hA_.get 53 (by kernel_rfl)).trans (by kernel_rfl); exact OpStep.plain rfl (Step.not (b := (decide ((rdHead l b s).2.f4 = (treeRoot ts)))) (t := 54) rfl rfl (by exact lt_ok rfl) (show Env.ev E (.tmp 53) = _ from g53.trans rfl))) ?_
    refine .cons (fun E hA_ => by have g46 : E.get 46 = (.one (.ptr 800 0)) := (hA_.get 46 (by kernel_rfl)).trans (by kernel_rfl); have g54 : E.get 54 = (pB (!(decide ((rdHead l b s).2.f4 = (treeRoot ts))))) := (hA_.get 54 (by kernel_rfl)).trans (by kernel_rfl); have b800 : E.box 800 = some (110, [cS b, cI q.f0, cI q.f1]) := (hA_.box 800 (by kernel_rfl)).trans (by kernel_rfl); exact OpStep.plain rfl (Step.callXX2 (b := 800) (xs := [.tmp 46, .tmp 54, .const (.int .i64 7)]) (ps := [(.one (.ptr 800 0)), (pB (!(decide ((rdHead l b s).2.f4 = (treeRoot ts))))), (pI 7)]) (bps := [cS b, cI q.f0, cI q.f1]) (ss := []) (g := .func 140) (t := 55) (ok_spec_l11Fail (decide ((rdHead l b s).2.f4 = (treeRoot ts))) b q (!(decide ((rdHead l b s).2.f4 = (treeRoot ts)))) 7 (by assumption) (by first | omega | assumption | (simp only [List.length_append] at *; omega)) (by first | rfl | (rw [Bool.eq_iff_iff]; simp only [Bool.not_eq_true', Bool.not_eq_false', decide_eq_true_eq, decide_eq_false_iff_not]; omega) | (simp; done))) rfl rfl (by exact lt_ok rfl) rfl (by kernel_rfl) (evs_cons (show Env.ev E (.tmp 46) = _ from g46.trans rfl) (evs_cons (show Env.ev E (.tmp 54) = _ from g54.trans rfl) (evs_cons rfl (rfl)))) (.cons (.bx) (.cons (.rd (.one (.d _))) (.cons (.rd (.one (.d _))) .nil))) b800 (.rd (.rd (.rd .nil))) rfl (handX_fresh (fun x_ hx_ => hA_.fresh x_ (by exact hx_))) (fun x hx => by have := hp x hx; omega) rfl (by simp [rowsOf, rid]))) ?_
    exact .nil _ _
   refine TL.wk [(4, (.one (.ptr 4 0))), (5, (.one (.ptr 5 0)))] [(7010, (5, (.ints .u8 (rdHead l b s).2.f3))), (8010, (5, (.ints .u8 (rdHead l b s).2.f4))), (11010, (5, (.ints .u8 (rdHead l b s).2.f5.f2))), (12010, (5, (.ints .u8 (rdHead l b s).2.f5.f3))), (13010, (24, (.bss (rdHead l b s).2.f5.f4))), (100510, (24, (.bss ts))), (1052, (5, (.ints .u8 (treeRoot ts))))] [(800, (110, [cS b, cI (rdMust q (decide ((rdHead l b s).2.f4 = (treeRoot ts))) 7).f0, cI (rdMust q (decide ((rdHead l b s).2.f4 = (treeRoot ts))) 7).f1])), (3, (34, [cI l.f0, cI l.f1, cI l.f2, cI l.f3, cI l.f4])), (4, (56, [cI 0, cI 0, cI 0, .nil, .nil, cI 0, cI 0, .nil, .nil, .nil, .nil])), (5, (56, [cI (rdHead l b s).2.f0, cI (rdHead l b s).2.f1, cI (rdHead l b s).2.f2, .row 7010 [], .row 8010 [], cI (rdHead l b s).2.f5.f0, cI (rdHead l b s).2.f5.f1, .row 11010 [], .row 12010 [], .row 13010 [], .row 100510 []]))] ?_
   refine TL.nil ?_
   refine T.seq ?_
   refine T.region ?_
   refine TL.c (Step.lba 11 [cI (rdHead l b s).2.f0, cI (rdHead l b s).2.f1, cI (rdHead l b s).2.f2, .row 7010 [], .row 8010 [], cI (rdHead l b s).2.f5.f0, cI (rdHead l b s).2.f5.f1, .row 11010 [], .row 12010 [], .row 13010 [], .row 100510 []]) ?_
   refine TL.c (Step.sb 11 [cI (rdHead l b s).2.f0, cI (rdHead l b s).2.f1, cI (rdHead l b s).2.f2, .row 7010 [], .row 8010 [], cI (rdHead l b s).2.f5.f0, cI (rdHead l b s).2.f5.f1, .row 11010 [], .row 12010 [], .row 13010 [], .row 100510 []]) ?_
   refine TL.nil ?_
   refine T.ret ?_
   refine ⟨[cS b, cI (rdMust q (decide ((rdHead l b s).2.f4 = (treeRoot ts))) 7).f0, cI (rdMust q (decide ((rdHead l b s).2.f4 = (treeRoot ts))) 7).f1], [(true, [cI (rdHead l b s).2.f0, cI (rdHead l b s).2.f1, cI (rdHead l b s).2.f2, .row 7010 [], .row 8010 [], cI (rdHead l b s).2.f5.f0, cI (rdHead l b s).2.f5.f1, .row 11010 [], .row 12010 [], .row 13010 [], .row 100510 []])], rfl, rfl, (.cons rfl .nil), rfl, [7010, 8010, 11010, 12010, 13010, 100510], (RetC.r rfl (RetC.r ?_ (RetC.r ?_ (RetC.r ?_ (RetC.r ?_ (RetC.r ?_ (RetC.o ?_ (RetC.o ?_ (RetC.r ?_ (RetC.r ?_ (RetC.o ?_ (RetC.o ?_ (RetC.o ?_ (RetC.o ?_ .nil))))))))))))))⟩ <;> (first | rfl | (congr 1; first | (rw [rdBlock_ok (rdB_out hx4 (by omega)) (by omega)]; first | done | rfl) | (rw [rdBlock_no (rdB_out hx4 (by omega)) (by omega)]; first | done | rfl | (rw [rdMust_ok rfl]; first | done | rfl))) | (simp only [D.size, List.length_map]; first | (rw [rdBlock_ok (rdB_out hx4 (by omega)) (by omega)]; first | done | rfl) | (rw [rdBlock_no (rdB_out hx4 (by omega)) (by omega)]; first | done | rfl)))
  refine T.skip ?_
  refine T.seq ?_
  refine T.region ?_
  refine TL.c (Step.lba 11 [cI (rdHead l b s).2.f0, cI (rdHead l b s).2.f1, cI (rdHead l b s).2.f2, .row 7010 [], .row 8010 [], cI (rdHead l b s).2.f5.f0, cI (rdHead l b s).2.f5.f1, .row 11010 [], .row 12010 [], .row 13010 [], .row 100510 []]) ?_
  refine TL.c (Step.sb 11 [cI (rdHead l b s).2.f0, cI (rdHead l b s).2.f1, cI (rdHead l b s).2.f2, .row 7010 [], .row 8010 [], cI (rdHead l b s).2.f5.f0, cI (rdHead l b s).2.f5.f1, .row 11010 [], .row 12010 [], .row 13010 [], .row 100510 []]) ?_
  refine TL.nil ?_
  refine T.ret ?_
  refine ⟨[cS b, cI q.f0, cI q.f1], [(true, [cI (rdHead l b s).2.f0, cI (rdHead l b s).2.f1, cI (rdHead l b s).2.f2, .row 7010 [], .row 8010 [], cI (rdHead l b s).2.f5.f0, cI (rdHead l b s).2.f5.f1, .row 11010 [], .row 12010 [], .row 13010 [], .row 100510 []])], rfl, rfl, (.cons rfl .nil), rfl, [7010, 8010, 11010, 12010, 13010, 100510], (RetC.r rfl (RetC.r ?_ (RetC.r ?_ (RetC.r ?_ (RetC.r ?_ (RetC.r ?_ (RetC.o ?_ (RetC.o ?_ (RetC.r ?_ (RetC.r ?_ (RetC.o ?_ (RetC.o ?_ (RetC.o ?_ (RetC.o ?_ .nil))))))))))))))⟩ <;> (first | rfl | (congr 1; first | (rw [rdBlock_ok (rdB_out hx4 (by omega)) (by omega)]; first | done | rfl) | (rw [rdBlock_no (rdB_out hx4 (by omega)) (by omega)]; first | done | rfl | (rw [rdMust_ok rfl]; first | done | rfl))) | (simp only [D.size, List.length_map]; first | (rw [rdBlock_ok (rdB_out hx4 (by omega)) (by omega)]; first | done | rfl) | (rw [rdBlock_no (rdB_out hx4 (by omega)) (by omega)]; first | done | rfl)))
 refine TL.known 23 hb4 rfl ?_
 have hb4' := hb4
 replace hb4' := of_decide_eq_false hb4'
 refine TL.gf 23 ?_
 refine TL.gf 23 ?_
 refine TL.gf 23 ?_
 refine TL.gf 23 ?_
 refine TL.gf 23 ?_
 refine TL.pk false (pB false) ?_
 refine TL.nil ?_
 refine T.cf ?_
 refine T.exit ?_
 refine T.seq ?_
 refine T.seq ?_
 refine T.region ?_
 refine TL.mv (.one (.ptr 800 0)) ?_
 refine TL.c (Step.nilCheck rfl rfl (lt_ok rfl) rfl) ?_
 refine TL.c (Step.fd 2 1 true) ?_
 refine TL.c (Step.lb (.d (.int .i64 q.f1))) ?_
 refine TL.b _ (Bin.eql (k := .i64) (a := q.f1) (b := 0)) ?_
 refine TL.nil ?_
 refine T.ci rfl (fun h10 => ?_) (fun h10 => ?_)
 ·
  have nn11 := treeRoot_len ts
  have nn12 := treeRoot_u8 ts
  refine T.drawX [{ dst := some 46, pv := (.one (.ptr 800 0)) }, { dst := some 47, pv := (.one (.ptr 5 0)) }, { dst := some 48, pv := (.one (.ptr 5 4)) }, { dst := some 49, pv := (.one (.row 8010 [])) }, { dst := some 50, pv := (.one (.ptr 5 10)) }, { dst := some 51, pv := (.one (.row 100510 [])) }, { dst := some 52, pv := (.one (.row 1052 [])), rows := [(1052, (5, (.ints .u8 (treeRoot ts))))] }, { dst := some 53, pv := (pB (decide ((rdHead l b s).2.f4 = (treeRoot ts)))) }, { dst := some 54, pv := (pB (!(decide ((rdHead l b s).2.f4 = (treeRoot ts))))) }, { dst := some 55, pv := (.tup []), box := some (800, (110, [cS b, cI (rdMust q (decide ((rdHead l b s).2.f4 = (treeRoot ts))) 7).f0, cI (rdMust q (decide ((rdHead l b s).2.f4 = (treeRoot ts))) 7).f1])) }] (by kernel_rfl) (by kernel_rfl) ?_ ?_
  ·
   refine .cons (fun E hA_ => by have g0 : E.get 0 = (.one (.ptr 800 0)) := (hA_.get 0 (by kernel_rfl)).trans (by kernel_rfl); exact OpStep.plain rfl (Step.move (p := (.one (.ptr 800 0))) (t := 46) rfl rfl (by exact lt_ok rfl) (show Env.ev E (.tmp 0) = _ from g0.trans rfl))) ?_
   refine .cons (fun E hA_ => by have g5 : E.get 5 = (.one (.ptr 5 0)) := (hA_.get 5 (by kernel_rfl)).trans (by kernel_rfl); exact OpStep.plain rfl (Step.fa (off := 0) (n := 10) (one := false) 0 47 (show Env.ev E (.tmp 5) = _ from g5.trans rfl))) ?_
   refine .cons (fun E hA_ => by have g47 : E.get 47 = (.one (.ptr 5 0)) := (hA_.get 47 (by kernel_rfl)).trans (by kernel_rfl); exact OpStep.plain rfl (Step.fa (off := 4) (n := 1) (one := true) 0 48 (show Env.ev E (.tmp 47) = _ from g47.trans rfl))) ?_
   refine .cons (fun E hA_ => by have g48 : E.get 48 = (.one (.ptr 5 4)) := (hA_.get 48 (by kernel_rfl)).trans (by kernel_rfl); have b5 : E.box 5 = some (56, [cI (rdHead l b s).2.f0, cI (rdHead l b s).2.f1, cI (rdHead l b s).2.f2, .row 7010 [], .row 8010 [], cI (rdHead l b s).2.f5.f0, cI (rdHead l b s).2.f5.f1, .row 11010 [], .row 12010 [], .row 13010 [], .row 100510 []]) := (hA_.box 5 (by kernel_rfl)).trans (by kernel_rfl); exact OpStep.plain rfl (Step.load_box (c := .row 8010 []) (t := 49) rfl rfl (by exact lt_ok rfl) (by kernel_rfl) (show Env.ev E (.tmp 48) = _ from g48.trans rfl) b5 rfl)) ?_
   refine .cons (fun E hA_ => by have g5 : E.get 5 = (.one (.ptr 5 0)) := (hA_.get 5 (by kernel_rfl)).trans (by kernel_rfl); exact OpStep.plain rfl (Step.fa (off := 10) (n := 1) (one := true) 0 50 (show Env.ev E (.tmp 5) = _ from g5.trans rfl))) ?_
   refine .cons (fun E hA_ => by have g50 : E.get 50 = (.one (.ptr 5 10)) := (hA_.get 50 (by kernel_rfl)).trans (by kernel_rfl); have b5 : E.box 5 = some (56, [cI (rdHead l b s).2.f0, cI (rdHead l b s).2.f1, cI (rdHead l b s).2.f2, .row 7010 [], .row 8010 [], cI (rdHead l b s).2.f5.f0, cI (rdHead l b s).2.f5.f1, .row 11010 [], .row 12010 [], .row 13010 [], .row 100510 []]) := (hA_.box 5 (by kernel_rfl)).trans (by kernel_rfl); exact OpStep.plain rfl (Step.load_box (c := .row 100510 []) (t := 51) rfl rfl (by exact lt_ok rfl) (by kernel_rfl) (show Env.ev E (.tmp 50) = _ from g50.trans rfl) b5 rfl)) ?_
   refine .cons (fun E hA_ => by have g51 : E.get 51 = (.one (.row 100510 [])) := (hA_.get 51 (by kernel_rfl)).trans (by kernel_rfl); have q100510 : E.row 100510 = some (24, (.bss ts)) := (hA_.row 100510 (by kernel_rfl)).trans (by kernel_rfl); exact OpStep.plain rfl (Step.call (f := 116) (xs := [.tmp 51]) (ps := [(.one (.row 100510 []))]) false (g := .func 116) (t := 52) rfl rfl (by exact lt_ok rfl) rfl (by kernel_rfl) (evs_cons (show Env.ev E (.tmp 51) = _ from g51.trans rfl) (rfl)) (.cons (.one (.row rfl q100510 rfl rfl)) .nil) (ok_spec_TreeRoot ts (by first | assumption | exact mem_sub (by assumption) _ _ | exact s0.2 | exact o1) (by first | assumption | exact mem_sub (by assumption) _ _ | exact s0.2 | exact s1.2)) (.inr rfl) (freshRows_of _ _ (fun x_ hx_ => hA_.fresh x_ (by exact hx_))) (fun x hx => by have := hp x hx; omega) rfl)) ?_
   refine .cons (fun E hA_ => by have g49 : E.get 49 = (.one (.row 8010 [])) := (hA_.get 49 (by kernel_rfl)).trans (by kernel_rfl); have g52 : E.get 52 = (.one (.row 1052 [])) := (hA_.get 52 (by kernel_rfl)).trans (by kernel_rfl); have q1052 : E.row 1052 = some (5, (.ints .u8 (treeRoot ts))) := (hA_.row 1052 (by kernel_rfl)).trans (by kernel_rfl); have q8010 : E.row 8010 = some (5, (.ints .u8 (rdHead l b s).2.f4)) := (hA_.row 8010 (by kernel_rfl)).trans (by kernel_rfl); exact OpStep.plain rfl (Step.call (f := 105) (xs := [.tmp 49, .tmp 52]) (ps := [(.one (.row 8010 [])), (.one (.row 1052 []))]) false (g := .func 105) (t := 53) rfl rfl (by exact lt_ok rfl) rfl (by kernel_rfl) (evs_cons (show Env.ev E (.tmp 49) = _ from g49.trans rfl) (evs_cons (show Env.ev E (.tmp 52) = _ from g52.trans rfl) (rfl))) (.cons (.one (.row rfl q8010 rfl rfl)) (.cons (.one (.row rfl q1052 rfl rfl)) .nil)) (ok_spec_SameBytes (rdHead l b s).2.f4 (treeRoot ts) (by first | assumption | omega | exact treeRoot_u8 _) (by first | assumption | omega | exact treeRoot_u8 _)) (.inr rfl) (freshRows_of _ _ (fun x_ hx_ => hA_.fresh x_ (by exact hx_))) (fun x hx => by have := hp x hx; omega) rfl)) ?_
   refine .cons (fun E hA_ => by have g53 : E.get 53 = (pB (decide ((rdHead l b s).2.f4 = (treeRoot ts)))) := (hA_.get 53 (by kernel_rfl)).trans (by kernel_rfl); exact OpStep.plain rfl (Step.not (b := (decide ((rdHead l b s).2.f4 = (treeRoot ts)))) (t := 54) rfl rfl (by exact lt_ok rfl) (show Env.ev E (.tmp 53) = _ from g53.trans rfl))) ?_
   refine .cons (fun E hA_ => by have g46 : E.get 46 = (.one (.ptr 800 0)) := (hA_.get 46 (by kernel_rfl)).trans (by kernel_rfl); have g54 : E.get 54 = (pB (!(decide ((rdHead l b s).2.f4 = (treeRoot ts))))) := (hA_.get 54 (by kernel_rfl)).trans (by kernel_rfl); have b800 : E.box 800 = some (110, [cS b, cI q.f0, cI q.f1]) := (hA_.box 800 (by kernel_rfl)).trans (by kernel_rfl); exact OpStep.plain rfl (Step.callXX2 (b := 800) (xs := [.tmp 46, .tmp 54, .const (.int .i64 7)]) (ps := [(.one (.ptr 800 0)), (pB (!(decide ((rdHead l b s).2.f4 = (treeRoot ts))))), (pI 7)]) (bps := [cS b, cI q.f0, cI q.f1]) (ss := []) (g := .func 140) (t := 55) (ok_spec_l11Fail (decide ((rdHead l b s).2.f4 = (treeRoot ts))) b q (!(decide ((rdHead l b s).2.f4 = (treeRoot ts)))) 7 (by assumption) (by first | omega | assumption | (simp only [List.length_append] at *; omega)) (by first | rfl | (rw [Bool.eq_iff_iff]; simp only [Bool.not_eq_true', Bool.not_eq_false', decide_eq_true_eq, decide_eq_false_iff_not]; omega) | (simp; done))) rfl rfl (by exact lt_ok rfl) rfl (by kernel_rfl) (evs_cons (show Env.ev E (.tmp 46) = _ from g46.trans rfl) (evs_cons (show Env.ev E (.tmp 54) = _ from g54.trans rfl) (evs_cons rfl (rfl)))) (.cons (.bx) (.cons (.rd (.one (.d _))) (.cons (.rd (.one (.d _))) .nil))) b800 (.rd (.rd (.rd .nil))) rfl (handX_fresh (fun x_ hx_ => hA_.fresh x_ (by exact hx_))) (fun x hx => by have := hp x hx; omega) rfl (by simp [rowsOf, rid]))) ?_
   exact .nil _ _
  refine TL.wk [(4, (.one (.ptr 4 0))), (5, (.one (.ptr 5 0)))] [(7010, (5, (.ints .u8 (rdHead l b s).2.f3))), (8010, (5, (.ints .u8 (rdHead l b s).2.f4))), (11010, (5, (.ints .u8 (rdHead l b s).2.f5.f2))), (12010, (5, (.ints .u8 (rdHead l b s).2.f5.f3))), (13010, (24, (.bss (rdHead l b s).2.f5.f4))), (100510, (24, (.bss ts))), (1052, (5, (.ints .u8 (treeRoot ts))))] [(800, (110, [cS b, cI (rdMust q (decide ((rdHead l b s).2.f4 = (treeRoot ts))) 7).f0, cI (rdMust q (decide ((rdHead l b s).2.f4 = (treeRoot ts))) 7).f1])), (3, (34, [cI l.f0, cI l.f1, cI l.f2, cI l.f3, cI l.f4])), (4, (56, [cI 0, cI 0, cI 0, .nil, .nil, cI 0, cI 0, .nil, .nil, .nil, .nil])), (5, (56, [cI (rdHead l b s).2.f0, cI (rdHead l b s).2.f1, cI (rdHead l b s).2.f2, .row 7010 [], .row 8010 [], cI (rdHead l b s).2.f5.f0, cI (rdHead l b s).2.f5.f1, .row 11010 [], .row 12010 [], .row 13010 [], .row 100510 []]))] ?_
  refine TL.nil ?_
  refine T.seq ?_
  refine T.region ?_
  refine TL.c (Step.lba 11 [cI (rdHead l b s).2.f0, cI (rdHead l b s).2.f1, cI (rdHead l b s).2.f2, .row 7010 [], .row 8010 [], cI (rdHead l b s).2.f5.f0, cI (rdHead l b s).2.f5.f1, .row 11010 [], .row 12010 [], .row 13010 [], .row 100510 []]) ?_
  refine TL.c (Step.sb 11 [cI (rdHead l b s).2.f0, cI (rdHead l b s).2.f1, cI (rdHead l b s).2.f2, .row 7010 [], .row 8010 [], cI (rdHead l b s).2.f5.f0, cI (rdHead l b s).2.f5.f1, .row 11010 [], .row 12010 [], .row 13010 [], .row 100510 []]) ?_
  refine TL.nil ?_
  refine T.ret ?_
  refine ⟨[cS b, cI (rdMust q (decide ((rdHead l b s).2.f4 = (treeRoot ts))) 7).f0, cI (rdMust q (decide ((rdHead l b s).2.f4 = (treeRoot ts))) 7).f1], [(true, [cI (rdHead l b s).2.f0, cI (rdHead l b s).2.f1, cI (rdHead l b s).2.f2, .row 7010 [], .row 8010 [], cI (rdHead l b s).2.f5.f0, cI (rdHead l b s).2.f5.f1, .row 11010 [], .row 12010 [], .row 13010 [], .row 100510 []])], rfl, rfl, (.cons rfl .nil), rfl, [7010, 8010, 11010, 12010, 13010, 100510], (RetC.r rfl (RetC.r ?_ (RetC.r ?_ (RetC.r ?_ (RetC.r ?_ (RetC.r ?_ (RetC.o ?_ (RetC.o ?_ (RetC.r ?_ (RetC.r ?_ (RetC.o ?_ (RetC.o ?_ (RetC.o ?_ (RetC.o ?_ .nil))))))))))))))⟩ <;> (first | rfl | (congr 1; first | (rw [rdBlock_ok (rdB_out hx4 (by omega)) (by omega)]; first | done | rfl) | (rw [rdBlock_no (rdB_out hx4 (by omega)) (by omega)]; first | done | rfl | (rw [rdMust_ok rfl]; first | done | rfl))) | (simp only [D.size, List.length_map]; first | (rw [rdBlock_ok (rdB_out hx4 (by omega)) (by omega)]; first | done | rfl) | (rw [rdBlock_no (rdB_out hx4 (by omega)) (by omega)]; first | done | rfl)))
 refine T.skip ?_
 refine T.seq ?_
 refine T.region ?_
 refine TL.c (Step.lba 11 [cI (rdHead l b s).2.f0, cI (rdHead l b s).2.f1, cI (rdHead l b s).2.f2, .row 7010 [], .row 8010 [], cI (rdHead l b s).2.f5.f0, cI (rdHead l b s).2.f5.f1, .row 11010 [], .row 12010 [], .row 13010 [], .row 100510 []]) ?_
 refine TL.c (Step.sb 11 [cI (rdHead l b s).2.f0, cI (rdHead l b s).2.f1, cI (rdHead l b s).2.f2, .row 7010 [], .row 8010 [], cI (rdHead l b s).2.f5.f0, cI (rdHead l b s).2.f5.f1, .row 11010 [], .row 12010 [], .row 13010 [], .row 100510 []]) ?_
 refine TL.nil ?_
 refine T.ret ?_
 refine ⟨[cS b, cI q.f0, cI q.f1], [(true, [cI (rdHead l b s).2.f0, cI (rdHead l b s).2.f1, cI (rdHead l b s).2.f2, .row 7010 [], .row 8010 [], cI (rdHead l b s).2.f5.f0, cI (rdHead l b s).2.f5.f1, .row 11010 [], .row 12010 [], .row 13010 [], .row 100510 []])], rfl, rfl, (.cons rfl .nil), rfl, [7010, 8010, 11010, 12010, 13010, 100510], (RetC.r rfl (RetC.r ?_ (RetC.r ?_ (RetC.r ?_ (RetC.r ?_ (RetC.r ?_ (RetC.o ?_ (RetC.o ?_ (RetC.r ?_ (RetC.r ?_ (RetC.o ?_ (RetC.o ?_ (RetC.o ?_ (RetC.o ?_ .nil))))))))))))))⟩ <;> (first | rfl | (congr 1; first | (rw [rdBlock_ok (rdB_out hx4 (by omega)) (by omega)]; first | done | rfl) | (rw [rdBlock_no (rdB_out hx4 (by omega)) (by omega)]; first | done | rfl | (rw [rdMust_ok rfl]; first | done | rfl))) | (simp only [D.size, List.length_map]; first | (rw [rdBlock_ok (rdB_out hx4 (by omega)) (by omega)]; first | done | rfl) | (rw [rdBlock_no (rdB_out hx4 (by omega)) (by omega)]; first | done | rfl)))
theorem ok_spec_GetBlock (l : SLimits) (b : List Int) (a : Int) (h0_ : U8s b) (h1_ : b.length ≤ 1048576) : RO Try.prog 45 [.agg l.cells, .one (.ints .u8 b), .one (.int .i64 a)] [(true, [.rd (.int .i64 (getBlock l b a).1.f0.f0), .rd (.int .i64 (getBlock l b a).1.f0.f1), .rd (.int .i64 (getBlock l b a).1.f0.f2), .own 5 (.ints .u8 (getBlock l b a).1.f0.f3), .own 5 (.ints .u8 (getBlock l b a).1.f0.f4), .rd (.int .i64 (getBlock l b a).1.f0.f5.f0), .rd (.int .i64 (getBlock l b a).1.f0.f5.f1), .own 5 (.ints .u8 (getBlock l b a).1.f0.f5.f2), .own 5 (.ints .u8 (getBlock l b a).1.f0.f5.f3), .own 24 (.bss (getBlock l b a).1.f0.f5.f4), .own 24 (.bss (getBlock l b a).1.f1)]), (false, [.rd (.int .i64 (getBlock l b a).2.1)]), (false, [.rd (.int .i64 (getBlock l b a).2.2)])] := by
 refine RO.intro Try.func45 rfl 33 rfl (le_ok rfl) fun w Z => ?_
 refine T.bnd 1 0 rfl rfl fun hb_1_0 => ?_
 simp only [D.size, List.length_map] at hb_1_0
 refine T.seq ?_
 refine T.region ?_
 refine TL.c (Step.bx [cI l.f0, cI l.f1, cI l.f2, cI l.f3, cI l.f4]) ?_
 refine TL.c (Step.al [cI 0, cI 0, cI 0, .nil, .nil, cI 0, cI 0, .nil, .nil, .nil, .nil]) ?_
 refine TL.as (pI 0) ?_
 refine TL.as (pI 0) ?_
 refine TL.nil ?_
 refine T.seq ?_
 refine T.region ?_
 refine TL.c (Step.lba 5 [cI l.f0, cI l.f1, cI l.f2, cI l.f3, cI l.f4]) ?_
 refine TL.mv (pS b) ?_
 refine TL.mv (pI a) ?_
 refine TL.c (Step.callN (f := 86) (xs := [.tmp 11, .tmp 12, .tmp 13]) (ps := [(.agg [cI l.f0, cI l.f1, cI l.f2, cI l.f3, cI l.f4]), (pS b), (pI a)]) (T := 110) (ds := [(.ints .u8 b), (.int .i64 (rs0 l a).f0), (.int .i64 (rs0 l a).f1)]) (g := .func 86) rfl rfl (lt_ok rfl) rfl (by kernel_rfl) rfl (.cons (.agg (.cons (.d _) (.cons (.d _) (.cons (.d _) (.cons (.d _) (.cons (.d _) .nil)))))) (.cons (.one (.d _)) (.cons (.one (.d _)) .nil))) (ok_spec_l11New l b a) rfl) ?_
 refine TL.as (.one (.ptr 14 0)) ?_
 refine TL.nil ?_
 refine T.seq ?_
 refine T.region ?_
 refine TL.mv (.one (.ptr 14 0)) ?_
 refine TL.c (Step.lba 5 [cI l.f0, cI l.f1, cI l.f2, cI l.f3, cI l.f4]) ?_
 have nn1 := @rdBlock_sm l b (rs0 l a) (by first | assumption | omega) (by first | assumption | exact rs0_zb | exact fun _ => by assumption)
 refine TL.c (Step.callX2 (b := 14) (xs := [.tmp 15, .tmp 16]) (ps := [(.one (.ptr 14 0)), (.agg [cI l.f0, cI l.f1, cI l.f2, cI l.f3, cI l.f4])]) (bps := [cS b, cI (rs0 l a).f0, cI (rs0 l a).f1]) (ss := []) (g := .func 97) (ok_spec_l14Get b (rs0 l a) l (by assumption) (by first | omega | assumption | (simp only [List.length_append] at *; omega)) (by first | assumption | exact rs0_zb | exact fun _ => by assumption)) rfl rfl (lt_ok rfl) rfl (by kernel_rfl) rfl (.cons (.bx) (.cons (.rd (.agg (.cons (.d _) (.cons (.d _) (.cons (.d _) (.cons (.d _) (.cons (.d _) .nil))))))) .nil)) rfl (.rd (.rd (.rd .nil))) rfl rfl (by simp) rfl) ?_
 refine TL.c (Step.al [cI 0, cI 0, cI 0, .nil, .nil, cI 0, cI 0, .nil, .nil, .nil, .nil]) ?_
 refine TL.c (Step.sb 11 [cI (rdBlock l b (rs0 l a)).2.f0.f0, cI (rdBlock l b (rs0 l a)).2.f0.f1, cI (rdBlock l b (rs0 l a)).2.f0.f2, .row 7017 [], .row 8017 [], cI (rdBlock l b (rs0 l a)).2.f0.f5.f0, cI (rdBlock l b (rs0 l a)).2.f0.f5.f1, .row 11017 [], .row 12017 [], .row 13017 [], .row 14017 []]) ?_
 refine TL.nil ?_
 refine T.seq ?_
 refine T.seq ?_
 refine T.region ?_
 refine TL.mv (.one (.ptr 14 0)) ?_
 refine TL.c (Step.nilCheck rfl rfl (lt_ok rfl) rfl) ?_
 refine TL.c (Step.fd 2 1 true) ?_
 refine TL.c (Step.lb (.d (.int .i64 (rdBlock l b (rs0 l a)).1.f1))) ?_
 refine TL.b _ (Bin.neq (k := .i64) (a := (rdBlock l b (rs0 l a)).1.f1) (b := 0)) ?_
 refine TL.nil ?_
 refine T.ci rfl (fun h2 => ?_) (fun h2 => ?_)
 ·
  refine T.seq ?_
  refine T.drawX [{ dst := some 23, pv := (.agg [cI 0, cI 0, cI 0, .nil, .nil, cI 0, cI 0, .nil, .nil, .nil, .nil]) }, { dst := some 24, pv := (.one (.ptr 14 0)) }, { dst := some 25, pv := (.one (.ptr 14 0)) }, { dst := some 26, pv := (.one (.ptr 14 2)) }, { dst := some 27, pv := (pI (rdBlock l b (rs0 l a)).1.f1) }, { box := some (6, (56, [cI 0, cI 0, cI 0, .nil, .nil, cI 0, cI 0, .nil, .nil, .nil, .nil])) }, { dst := some 7, pv := (pI 0) }, { dst := some 8, pv := (pI (rdBlock l b (rs0 l a)).1.f1) }] (by kernel_rfl) (by kernel_rfl) ?_ ?_
  ·
   refine .cons (fun E hA_ => by exact OpStep.plain rfl (Step.build (zs := [.int .i64 0, .int .i64 0, .int .i64 0, .slice none 0 0, .slice none 0 0, .int .i64 0, .int .i64 0, .slice none 0 0, .slice none 0 0, .slice none 0 0, .slice none 0 0]) (places := [(0, 10), (10, 1)]) (pss := []) (ps' := [cI 0, cI 0, cI 0, .nil, .nil, cI 0, cI 0, .nil, .nil, .nil, .nil]) (t := 23) rfl rfl (by exact lt_ok rfl) (by kernel_rfl) .nil rfl rfl rfl)) ?_
   refine .cons (fun E hA_ => by have g9 : E.get 9 = (.one (.ptr 14 0)) := (hA_.get 9 (by kernel_rfl)).trans (by kernel_rfl); exact OpStep.plain rfl (Step.move (p := (.one (.ptr 14 0))) (t := 24) rfl rfl (by exact lt_ok rfl) (show Env.ev E (.tmp 9) = _ from g9.trans rfl))) ?_
   refine .cons (fun E hA_ => by have g24 : E.get 24 = (.one (.ptr 14 0)) := (hA_.get 24 (by kernel_rfl)).trans (by kernel_rfl); exact OpStep.plain rfl (Step.nilCheck (t := 25) rfl rfl (by exact lt_ok rfl) (show Env.ev E (.tmp 24) = _ from g24.trans rfl))) ?_
   refine .cons (fun E hA_ => by have g25 : E.get 25 = (.one (.ptr 14 0)) := (hA_.get 25 (by kernel_rfl)).trans (by kernel_rfl); exact OpStep.plain rfl (Step.fa (off := 2) (n := 1) (one := true) 0 26 (show Env.ev E (.tmp 25) = _ from g25.trans rfl))) ?_
   refine .cons (fun E hA_ => by have g26 : E.get 26 = (.one (.ptr 14 2)) := (hA_.get 26 (by kernel_rfl)).trans (by kernel_rfl); have b14 : E.box 14 = some (110, [cS b, cI (rdBlock l b (rs0 l a)).1.f0, cI (rdBlock l b (rs0 l a)).1.f1]) := (hA_.box 14 (by kernel_rfl)).trans (by kernel_rfl); exact OpStep.plain rfl (Step.load_box (c := cI (rdBlock l b (rs0 l a)).1.f1) (t := 27) rfl rfl (by exact lt_ok rfl) (by kernel_rfl) (show Env.ev E (.tmp 26) = _ from g26.trans rfl) b14 rfl)) ?_
   refine .cons (fun E hA_ => by have g6 : E.get 6 = (.one (.ptr 6 0)) := (hA_.get 6 (by kernel_rfl)).trans (by kernel_rfl); have g23 : E.get 23 = (.agg [cI 0, cI 0, cI 0, .nil, .nil, cI 0, cI 0, .nil, .nil, .nil, .nil]) := (hA_.get 23 (by kernel_rfl)).trans (by kernel_rfl); have b6 : E.box 6 = some (56, [cI 0, cI 0, cI 0, .nil, .nil, cI 0, cI 0, .nil, .nil, .nil, .nil]) := (hA_.box 6 (by kernel_rfl)).trans (by kernel_rfl); exact OpStep.plain rfl (Step.store_box (n := 11) (p := (.agg [cI 0, cI 0, cI 0, .nil, .nil, cI 0, cI 0, .nil, .nil, .nil, .nil])) (qs := [cI 0, cI 0, cI 0, .nil, .nil, cI 0, cI 0, .nil, .nil, .nil, .nil]) (ps' := [cI 0, cI 0, cI 0, .nil, .nil, cI 0, cI 0, .nil, .nil, .nil, .nil]) rfl rfl (by kernel_rfl) (show Env.ev E (.tmp 6) = _ from g6.trans rfl) b6 (show Env.ev E (.tmp 23) = _ from g23.trans rfl) rfl rfl rfl (le_ok rfl) rfl)) ?_
   refine .cons (fun E hA_ => by exact OpStep.plain rfl (Step.assign (p := (pI 0)) (t := 7) rfl rfl (by exact lt_ok rfl) rfl)) ?_
   refine .cons (fun E hA_ => by have g27 : E.get 27 = (pI (rdBlock l b (rs0 l a)).1.f1) := (hA_.get 27 (by kernel_rfl)).trans (by kernel_rfl); exact OpStep.plain rfl (Step.assign (p := (pI (rdBlock l b (rs0 l a)).1.f1)) (t := 8) rfl rfl (by exact lt_ok rfl) (show Env.ev E (.tmp 27) = _ from g27.trans rfl))) ?_
   exact .nil _ _
  refine TL.wk [(6, (.one (.ptr 6 0))), (7, (pI 0)), (8, (pI (rdBlock l b (rs0 l a)).1.f1)), (9, (.one (.ptr 14 0))), (10, (.one (.ptr 10 0)))] [(7017, (5, (.ints .u8 (rdBlock l b (rs0 l a)).2.f0.f3))), (8017, (5, (.ints .u8 (rdBlock l b (rs0 l a)).2.f0.f4))), (11017, (5, (.ints .u8 (rdBlock l b (rs0 l a)).2.f0.f5.f2))), (12017, (5, (.ints .u8 (rdBlock l b (rs0 l a)).2.f0.f5.f3))), (13017, (24, (.bss (rdBlock l b (rs0 l a)).2.f0.f5.f4))), (14017, (24, (.bss (rdBlock l b (rs0 l a)).2.f1)))] [(3, (34, [cI l.f0, cI l.f1, cI l.f2, cI l.f3, cI l.f4])), (6, (56, [cI 0, cI 0, cI 0, .nil, .nil, cI 0, cI 0, .nil, .nil, .nil, .nil])), (14, (110, [cS b, cI (rdBlock l b (rs0 l a)).1.f0, cI (rdBlock l b (rs0 l a)).1.f1])), (10, (56, [cI (rdBlock l b (rs0 l a)).2.f0.f0, cI (rdBlock l b (rs0 l a)).2.f0.f1, cI (rdBlock l b (rs0 l a)).2.f0.f2, .row 7017 [], .row 8017 [], cI (rdBlock l b (rs0 l a)).2.f0.f5.f0, cI (rdBlock l b (rs0 l a)).2.f0.f5.f1, .row 11017 [], .row 12017 [], .row 13017 [], .row 14017 []]))] ?_
  refine TL.nil ?_
  refine T.ret ?_
  refine ⟨[(true, [cI 0, cI 0, cI 0, .nil, .nil, cI 0, cI 0, .nil, .nil, .nil, .nil]), (false, [cI 0]), (false, [cI (rdBlock l b (rs0 l a)).1.f1])], (.cons rfl (.cons rfl (.cons rfl .nil))), rfl, [], (RetC.r ?_ (RetC.r ?_ (RetC.r ?_ (RetC.nn ?_ (RetC.nn ?_ (RetC.r ?_ (RetC.r ?_ (RetC.nn ?_ (RetC.nn ?_ (RetC.nn ?_ (RetC.nn ?_ (RetC.r ?_ (RetC.r ?_ .nil)))))))))))))⟩ <;> (first | rfl | (congr 1; unfold getBlock; first | (rw [getOut_yes (by assumption)]; first | done | rfl) | (rw [getOut_no (by assumption)]; first | done | rfl) | (rw [rs0_ok (by assumption), getOut_yes (by assumption)]; first | done | rfl) | (rw [rs0_ok (by assumption), getOut_no (by assumption)]; first | done | rfl) | (rw [rs0_no (by assumption), getOut_nr (rdBlock_er (show ¬ ((5 : Int) = 0) by decide)) rfl]; first | done | rfl)) | (simp only [D.size, List.length_map]; unfold getBlock; first | (rw [getOut_yes (by assumption)]; first | done | rfl) | (rw [getOut_no (by assumption)]; first | done | rfl) | (rw [rs0_ok (by assumption), getOut_yes (by assumption)]; first | done | rfl) | (rw [rs0_ok (by assumption), getOut_no (by assumption)]; first | done | rfl) | (rw [rs0_no (by assumption), getOut_nr (rdBlock_er (show ¬ ((5 : Int) = 0) by decide)) rfl]; first | done | rfl)))
 refine T.skip ?_
 refine T.seq ?_
 refine T.drawX [{ dst := some 28, pv := (.agg [cI (rdBlock l b (rs0 l a)).2.f0.f0, cI (rdBlock l b (rs0 l a)).2.f0.f1, cI (rdBlock l b (rs0 l a)).2.f0.f2, .row 7017 [], .row 8017 [], cI (rdBlock l b (rs0 l a)).2.f0.f5.f0, cI (rdBlock l b (rs0 l a)).2.f0.f5.f1, .row 11017 [], .row 12017 [], .row 13017 [], .row 14017 []]) }, { dst := some 29, pv := (.one (.ptr 14 0)) }, { dst := some 30, pv := (.one (.ptr 14 0)) }, { dst := some 31, pv := (.one (.ptr 14 1)) }, { dst := some 32, pv := (pI (rdBlock l b (rs0 l a)).1.f0) }, { box := some (6, (56, [cI (rdBlock l b (rs0 l a)).2.f0.f0, cI (rdBlock l b (rs0 l a)).2.f0.f1, cI (rdBlock l b (rs0 l a)).2.f0.f2, .row 7017 [], .row 8017 [], cI (rdBlock l b (rs0 l a)).2.f0.f5.f0, cI (rdBlock l b (rs0 l a)).2.f0.f5.f1, .row 11017 [], .row 12017 [], .row 13017 [], .row 14017 []])) }, { dst := some 7, pv := (pI (rdBlock l b (rs0 l a)).1.f0) }, { dst := some 8, pv := (pI 0) }] (by kernel_rfl) (by kernel_rfl) ?_ ?_
 ·
  refine .cons (fun E hA_ => by have g10 : E.get 10 = (.one (.ptr 10 0)) := (hA_.get 10 (by kernel_rfl)).trans (by kernel_rfl); have b10 : E.box 10 = some (56, [cI (rdBlock l b (rs0 l a)).2.f0.f0, cI (rdBlock l b (rs0 l a)).2.f0.f1, cI (rdBlock l b (rs0 l a)).2.f0.f2, .row 7017 [], .row 8017 [], cI (rdBlock l b (rs0 l a)).2.f0.f5.f0, cI (rdBlock l b (rs0 l a)).2.f0.f5.f1, .row 11017 [], .row 12017 [], .row 13017 [], .row 14017 []]) := (hA_.box 10 (by kernel_rfl)).trans (by kernel_rfl); exact OpStep.plain rfl (Step.load_box_agg (n := 11) (qs := [cI (rdBlock l b (rs0 l a)).2.f0.f0, cI (rdBlock l b (rs0 l a)).2.f0.f1, cI (rdBlock l b (rs0 l a)).2.f0.f2, .row 7017 [], .row 8017 [], cI (rdBlock l b (rs0 l a)).2.f0.f5.f0, cI (rdBlock l b (rs0 l a)).2.f0.f5.f1, .row 11017 [], .row 12017 [], .row 13017 [], .row 14017 []]) (t := 28) rfl rfl (by exact lt_ok rfl) (by kernel_rfl) (show Env.ev E (.tmp 10) = _ from g10.trans rfl) b10 rfl rfl)) ?_
  refine .cons (fun E hA_ => by have g9 : E.get 9 = (.one (.ptr 14 0)) := (hA_.get 9 (by kernel_rfl)).trans (by kernel_rfl); exact OpStep.plain rfl (Step.move (p := (.one (.ptr 14 0))) (t := 29) rfl rfl (by exact lt_ok rfl) (show Env.ev E (.tmp 9) = _ from g9.trans rfl))) ?_
  refine .cons (fun E hA_ => by have g29 : E.get 29 = (.one (.ptr 14 0)) := (hA_.get 29 (by kernel_rfl)).trans (by kernel_rfl); exact OpStep.plain rfl (Step.nilCheck (t := 30) rfl rfl (by exact lt_ok rfl) (show Env.ev E (.tmp 29) = _ from g29.trans rfl))) ?_
  refine .cons (fun E hA_ => by have g30 : E.get 30 = (.one (.ptr 14 0)) := (hA_.get 30 (by kernel_rfl)).trans (by kernel_rfl); exact OpStep.plain rfl (Step.fa (off := 1) (n := 1) (one := true) 0 31 (show Env.ev E (.tmp 30) = _ from g30.trans rfl))) ?_
  refine .cons (fun E hA_ => by have g31 : E.get 31 = (.one (.ptr 14 1)) := (hA_.get 31 (by kernel_rfl)).trans (by kernel_rfl); have b14 : E.box 14 = some (110, [cS b, cI (rdBlock l b (rs0 l a)).1.f0, cI (rdBlock l b (rs0 l a)).1.f1]) := (hA_.box 14 (by kernel_rfl)).trans (by kernel_rfl); exact OpStep.plain rfl (Step.load_box (c := cI (rdBlock l b (rs0 l a)).1.f0) (t := 32) rfl rfl (by exact lt_ok rfl) (by kernel_rfl) (show Env.ev E (.tmp 31) = _ from g31.trans rfl) b14 rfl)) ?_
  refine .cons (fun E hA_ => by have g6 : E.get 6 = (.one (.ptr 6 0)) := (hA_.get 6 (by kernel_rfl)).trans (by kernel_rfl); have g28 : E.get 28 = (.agg [cI (rdBlock l b (rs0 l a)).2.f0.f0, cI (rdBlock l b (rs0 l a)).2.f0.f1, cI (rdBlock l b (rs0 l a)).2.f0.f2, .row 7017 [], .row 8017 [], cI (rdBlock l b (rs0 l a)).2.f0.f5.f0, cI (rdBlock l b (rs0 l a)).2.f0.f5.f1, .row 11017 [], .row 12017 [], .row 13017 [], .row 14017 []]) := (hA_.get 28 (by kernel_rfl)).trans (by kernel_rfl); have q7017 : E.row 7017 = some (5, (.ints .u8 (rdBlock l b (rs0 l a)).2.f0.f3)) := (hA_.row 7017 (by kernel_rfl)).trans (by kernel_rfl); have q8017 : E.row 8017 = some (5, (.ints .u8 (rdBlock l b (rs0 l a)).2.f0.f4)) := (hA_.row 8017 (by kernel_rfl)).trans (by kernel_rfl); have q11017 : E.row 11017 = some (5, (.ints .u8 (rdBlock l b (rs0 l a)).2.f0.f5.f2)) := (hA_.row 11017 (by kernel_rfl)).trans (by kernel_rfl); have q12017 : E.row 12017 = some (5, (.ints .u8 (rdBlock l b (rs0 l a)).2.f0.f5.f3)) := (hA_.row 12017 (by kernel_rfl)).trans (by kernel_rfl); have q13017 : E.row 13017 = some (24, (.bss (rdBlock l b (rs0 l a)).2.f0.f5.f4)) := (hA_.row 13017 (by kernel_rfl)).trans (by kernel_rfl); have q14017 : E.row 14017 = some (24, (.bss (rdBlock l b (rs0 l a)).2.f1)) := (hA_.row 14017 (by kernel_rfl)).trans (by kernel_rfl); have b6 : E.box 6 = some (56, [cI 0, cI 0, cI 0, .nil, .nil, cI 0, cI 0, .nil, .nil, .nil, .nil]) := (hA_.box 6 (by kernel_rfl)).trans (by kernel_rfl); exact OpStep.plain rfl (Step.store_box (n := 11) (p := (.agg [cI (rdBlock l b (rs0 l a)).2.f0.f0, cI (rdBlock l b (rs0 l a)).2.f0.f1, cI (rdBlock l b (rs0 l a)).2.f0.f2, .row 7017 [], .row 8017 [], cI (rdBlock l b (rs0 l a)).2.f0.f5.f0, cI (rdBlock l b (rs0 l a)).2.f0.f5.f1, .row 11017 [], .row 12017 [], .row 13017 [], .row 14017 []])) (qs := [cI (rdBlock l b (rs0 l a)).2.f0.f0, cI (rdBlock l b (rs0 l a)).2.f0.f1, cI (rdBlock l b (rs0 l a)).2.f0.f2, .row 7017 [], .row 8017 [], cI (rdBlock l b (rs0 l a)).2.f0.f5.f0, cI (rdBlock l b (rs0 l a)).2.f0.f5.f1, .row 11017 [], .row 12017 [], .row 13017 [], .row 14017 []]) (ps' := [cI (rdBlock l b (rs0 l a)).2.f0.f0, cI (rdBlock l b (rs0 l a)).2.f0.f1, cI (rdBlock l b (rs0 l a)).2.f0.f2, .row 7017 [], .row 8017 [], cI (rdBlock l b (rs0 l a)).2.f0.f5.f0, cI (rdBlock l b (rs0 l a)).2.f0.f5.f1, .row 11017 [], .row 12017 [], .row 13017 [], .row 14017 []]) rfl rfl (by kernel_rfl) (show Env.ev E (.tmp 6) = _ from g6.trans rfl) b6 (show Env.ev E (.tmp 28) = _ from g28.trans rfl) rfl rfl (by simp only [List.all_cons, List.all_nil, List.flatten_cons, List.flatten_nil, List.append_nil, List.cons_append, List.nil_append, Env.fine, q7017, q8017, q11017, q12017, q13017, q14017]; rfl) (le_ok rfl) rfl)) ?_
  refine .cons (fun E hA_ => by have g32 : E.get 32 = (pI (rdBlock l b (rs0 l a)).1.f0) := (hA_.get 32 (by kernel_rfl)).trans (by kernel_rfl); exact OpStep.plain rfl (Step.assign (p := (pI (rdBlock l b (rs0 l a)).1.f0)) (t := 7) rfl rfl (by exact lt_ok rfl) (show Env.ev E (.tmp 32) = _ from g32.trans rfl))) ?_
  refine .cons (fun E hA_ => by exact OpStep.plain rfl (Step.assign (p := (pI 0)) (t := 8) rfl rfl (by exact lt_ok rfl) rfl)) ?_
  exact .nil _ _
 refine TL.wk [(6, (.one (.ptr 6 0))), (7, (pI (rdBlock l b (rs0 l a)).1.f0)), (8, (pI 0))] [(7017, (5, (.ints .u8 (rdBlock l b (rs0 l a)).2.f0.f3))), (8017, (5, (.ints .u8 (rdBlock l b (rs0 l a)).2.f0.f4))), (11017, (5, (.ints .u8 (rdBlock l b (rs0 l a)).2.f0.f5.f2))), (12017, (5, (.ints .u8 (rdBlock l b (rs0 l a)).2.f0.f5.f3))), (13017, (24, (.bss (rdBlock l b (rs0 l a)).2.f0.f5.f4))), (14017, (24, (.bss (rdBlock l b (rs0 l a)).2.f1)))] [(3, (34, [cI l.f0, cI l.f1, cI l.f2, cI l.f3, cI l.f4])), (6, (56, [cI (rdBlock l b (rs0 l a)).2.f0.f0, cI (rdBlock l b (rs0 l a)).2.f0.f1, cI (rdBlock l b (rs0 l a)).2.f0.f2, .row 7017 [], .row 8017 [], cI (rdBlock l b (rs0 l a)).2.f0.f5.f0, cI (rdBlock l b (rs0 l a)).2.f0.f5.f1, .row 11017 [], .row 12017 [], .row 13017 [], .row 14017 []])), (14, (110, [cS b, cI (rdBlock l b (rs0 l a)).1.f0, cI (rdBlock l b (rs0 l a)).1.f1])), (10, (56, [cI (rdBlock l b (rs0 l a)).2.f0.f0, cI (rdBlock l b (rs0 l a)).2.f0.f1, cI (rdBlock l b (rs0 l a)).2.f0.f2, .row 7017 [], .row 8017 [], cI (rdBlock l b (rs0 l a)).2.f0.f5.f0, cI (rdBlock l b (rs0 l a)).2.f0.f5.f1, .row 11017 [], .row 12017 [], .row 13017 [], .row 14017 []]))] ?_
 refine TL.nil ?_
 refine T.ret ?_
 refine ⟨[(true, [cI (rdBlock l b (rs0 l a)).2.f0.f0, cI (rdBlock l b (rs0 l a)).2.f0.f1, cI (rdBlock l b (rs0 l a)).2.f0.f2, .row 7017 [], .row 8017 [], cI (rdBlock l b (rs0 l a)).2.f0.f5.f0, cI (rdBlock l b (rs0 l a)).2.f0.f5.f1, .row 11017 [], .row 12017 [], .row 13017 [], .row 14017 []]), (false, [cI (rdBlock l b (rs0 l a)).1.f0]), (false, [cI 0])], (.cons rfl (.cons rfl (.cons rfl .nil))), rfl, [7017, 8017, 11017, 12017, 13017, 14017], (RetC.r ?_ (RetC.r ?_ (RetC.r ?_ (RetC.o ?_ (RetC.o ?_ (RetC.r ?_ (RetC.r ?_ (RetC.o ?_ (RetC.o ?_ (RetC.o ?_ (RetC.o ?_ (RetC.r ?_ (RetC.r ?_ .nil)))))))))))))⟩ <;> (first | rfl | (congr 1; unfold getBlock; first | (rw [getOut_yes (by assumption)]; first | done | rfl) | (rw [getOut_no (by assumption)]; first | done | rfl) | (rw [rs0_ok (by assumption), getOut_yes (by assumption)]; first | done | rfl) | (rw [rs0_ok (by assumption), getOut_no (by assumption)]; first | done | rfl) | (rw [rs0_no (by assumption), getOut_nr (rdBlock_er (show ¬ ((5 : Int) = 0) by decide)) rfl]; first | done | rfl)) | (simp only [D.size, List.length_map]; unfold getBlock; first | (rw [getOut_yes (by assumption)]; first | done | rfl) | (rw [getOut_no (by assumption)]; first | done | rfl) | (rw [rs0_ok (by assumption), getOut_yes (by assumption)]; first | done | rfl) | (rw [rs0_ok (by assumption), getOut_no (by assumption)]; first | done | rfl) | (rw [rs0_no (by assumption), getOut_nr (rdBlock_er (show ¬ ((5 : Int) = 0) by decide)) rfl]; first | done | rfl)))
theorem ok_impl_within (n : Int) (low : Int) (high : Int) : RO Try.prog 117 [.one (.int .i64 n), .one (.int .i64 low), .one (.int .i64 high)] [(false, [.rd (.bool (decide (low ≤ n ∧ n ≤ high)))])] := by
 refine RO.intro Try.func117 rfl 15 rfl (le_ok rfl) fun w Z => ?_
 refine T.seq ?_
 refine T.region ?_
 refine TL.as (pB false) ?_
 refine TL.nil ?_
 refine T.seq ?_
 refine T.region ?_
 refine TL.mv (pI low) ?_
 refine TL.mv (pI n) ?_
 refine TL.b _ (Bin.leq (k := .i64) (a := low) (b := n)) ?_
 refine TL.mv (pB (decide (low ≤ n))) ?_
 rcases Bool.eq_false_or_eq_true (decide (low ≤ n)) with hb1 | hb1
 ·
  refine TL.known 10 hb1 rfl ?_
  refine TL.gm 10 (pI n) ?_
  refine TL.gm 10 (pI high) ?_
  refine TL.gy 10 (Step.bin rfl rfl (lt_ok rfl) rfl rfl (Bin.leq (k := .i64) (a := n) (b := high))) ?_
  refine TL.pk true (pB (decide (n ≤ high))) ?_
  refine TL.as (pB (decide (n ≤ high))) ?_
  refine TL.nil ?_
  refine T.ret ?_
  refine ⟨[(false, [.d (.bool (decide (n ≤ high)))])], (.cons rfl .nil), rfl, [], (RetC.r ?_ .nil)⟩ <;> (first | (congr 1; simp_all; done) | (congr 1; simp_all; omega))
 refine TL.known 10 hb1 rfl ?_
 refine TL.gf 10 ?_
 refine TL.gf 10 ?_
 refine TL.gf 10 ?_
 refine TL.pk false (pB false) ?_
 refine TL.as (pB false) ?_
 refine TL.nil ?_
 refine T.ret ?_
 refine ⟨[(false, [.d (.bool false)])], (.cons rfl .nil), rfl, [], (RetC.r ?_ .nil)⟩ <;> (first | (congr 1; simp_all; done) | (congr 1; simp_all; omega))
theorem ok_impl_isNum (n : Int) : RO Try.prog 155 [.one (.int .i64 n)] [(false, [.rd (.bool (decide (0 ≤ n ∧ n ≤ 1152921504606846975)))])] := by
 refine RO.intro Try.func155 rfl 5 rfl (le_ok rfl) fun w Z => ?_
 refine T.seq ?_
 refine T.region ?_
 refine TL.as (pB false) ?_
 refine TL.nil ?_
 refine T.seq ?_
 refine T.region ?_
 refine TL.mv (pI n) ?_
 refine TL.c (Step.cl (xs := [.tmp 3, .const (.int .i64 0), .const (.int .i64 1152921504606846975)]) (ps := [(pI n), (pI 0), (pI 1152921504606846975)]) (g := .func 117) false (.cons (.one (.d _)) (.cons (.one (.d _)) (.cons (.one (.d _)) .nil))) (ok_impl_within n 0 1152921504606846975)) ?_
 refine TL.as (pB (decide (0 ≤ n ∧ n ≤ 1152921504606846975))) ?_
 refine TL.nil ?_
 refine T.ret ?_
 exact ⟨[(false, [.d (.bool (decide (0 ≤ n ∧ n ≤ 1152921504606846975)))])], (.cons rfl .nil), rfl, [], (RetC.rd' rfl .nil)⟩
theorem ok_impl_GetVar (b : List Int) (a : Int) (h0_ : U8s b) (h1_ : b.length ≤ 1099511627776) : RO Try.prog 179 [.one (.ints .u8 b), .one (.int .i64 a)] [(false, [.rd (.int .i64 (getVar b a).1)]), (false, [.rd (.int .i64 (getVar b a).2.1)]), (false, [.rd (.int .i64 (getVar b a).2.2)])] := by
 refine RO.intro Try.func179 rfl 61 rfl (le_ok rfl) fun w Z => ?_
 refine T.bnd 0 0 rfl rfl fun hb_0_0 => ?_
 simp only [D.size, List.length_map] at hb_0_0
 refine T.seq ?_
 refine T.region ?_
 refine TL.as (pI 0) ?_
 refine TL.as (pI 0) ?_
 refine TL.as (pI 0) ?_
 refine TL.nil ?_
 refine T.seq ?_
 refine T.seq ?_
 refine T.region ?_
 refine TL.mv (pI a) ?_
 refine TL.mv (pS b) ?_
 refine TL.c (Step.len (e := 5) (z := 1) (d := (.ints .u8 b)) rfl rfl (lt_ok rfl) (by kernel_rfl) rfl rfl) ?_
 refine TL.c (Step.cl (xs := [.tmp 10, .const (.int .i64 0), .tmp 12]) (ps := [(pI a), (pI 0), (pI (b.length : Int))]) (g := .func 117) false (.cons (.one (.d _)) (.cons (.one (.d _)) (.cons (.one (.d _)) .nil))) (ok_impl_within a 0 (b.length : Int))) ?_
 refine TL.c (Step.not (b := (decide (0 ≤ a ∧ a ≤ (b.length : Int)))) rfl rfl (lt_ok rfl) rfl) ?_
 refine TL.nil ?_
 refine T.cni rfl (fun h1 => ?_) (fun h1 => ?_)
 ·
  refine T.seq ?_
  refine T.region ?_
  refine TL.as (pI 0) ?_
  refine TL.as (pI 0) ?_
  refine TL.as (pI 1) ?_
  refine TL.nil ?_
  refine T.ret ?_
  refine ⟨[(false, [cI 0]), (false, [cI 0]), (false, [cI 1])], (.cons rfl (.cons rfl (.cons rfl .nil))), rfl, [], (RetC.r ?_ (RetC.r ?_ (RetC.r ?_ .nil)))⟩ <;> ((congr 1; first | (rw [getVar_out (by omega)]; done) | (rw [getVar_in (by omega), ← hx4]; first | (rw [gvGo_short (by omega) (by omega)]; done) | (rw [gvGo_var (by omega) (by omega) (by omega)]; done) | (rw [gvGo_done (by omega) (by omega) (by omega) (by omega) (by omega)]; done) | (rw [gvGo_big (by omega) (by omega) (by omega) (by omega) (by omega)]; done) | (rw [gvGo_end (by omega)]; done))))
 refine T.skip ?_
 refine T.seq ?_
 refine T.region ?_
 refine TL.as (pI 0) ?_
 refine TL.nil ?_
 refine T.seq ?_
 refine T.region ?_
 refine TL.as (pI 0) ?_
 refine TL.nil ?_
 refine T.block ?_
 refine T.loop (ι := Nat × Int) (fun xx_ => { tm := [(0, (pS b)), (1, (pI a)), (8, (pI ((xx_.1) : Int))), (7, (pI (xx_.2)))], rows := [], boxes := [] }) (fun xx_ => (xx_.1) ≤ 8 ∧ 0 ≤ (xx_.2) ∧ (xx_.2) < 128 ^ (xx_.1) ∧ gvGo b a (9 - (xx_.1)) (xx_.1) (xx_.2) = gvGo b a 9 0 0) (fun xx_ => 9 - (xx_.1)) (0, 0) ?_ ?_ ?_
 · refine Env.le_mk ⟨rfl, rfl, ?_, ?_, trivial⟩ trivial trivial <;> (first | rfl | (refine congrArg (fun n => PV.one (.d (.int .i64 n))) ?_; first | rfl | omega | (simp; done)))
 · (dsimp only; refine ⟨by omega, by omega, by simp, rfl⟩)
 intro xx_ hx
 obtain ⟨i, n⟩ := xx_
 try dsimp only at hx ⊢
 obtain ⟨hx1, hx2, hx3, hx4⟩ := hx
 have hu_ := getD_u8 h0_ (a + (i : Int)).toNat
 have hm_ := gv_mul hu_.1 i
 have hp_ := pow128 (i := i) (by omega)
 refine T.seq ?_
 refine T.block ?_
 refine T.seq ?_
 refine T.seq ?_
 refine T.region ?_
 refine TL.mv (pI a) ?_
 refine TL.mv (pI (i : Int)) ?_
 refine TL.c (Step.bin (r := .int .i64 (a + (i : Int))) rfl rfl (lt_ok rfl) rfl rfl (Bin.add (a := a) (b := (i : Int)) (by first | exact wrap_ok (by first | omega | (simp; omega)) (by first | omega | (simp; omega)) | rfl))) ?_
 refine TL.mv (pS b) ?_
 refine TL.c (Step.len (e := 5) (z := 1) (d := (.ints .u8 b)) rfl rfl (lt_ok rfl) (by kernel_rfl) rfl rfl) ?_
 refine TL.b _ (Bin.geq (k := .i64) (a := (a + (i : Int))) (b := (b.length : Int))) ?_
 refine TL.nil ?_
 refine T.ci rfl (fun h2 => ?_) (fun h2 => ?_)
 ·
  refine T.seq ?_
  refine T.region ?_
  refine TL.as (pI 0) ?_
  refine TL.as (pI 0) ?_
  refine TL.as (pI 1) ?_
  refine TL.nil ?_
  refine T.ret ?_
  refine ⟨[(false, [cI 0]), (false, [cI 0]), (false, [cI 1])], (.cons rfl (.cons rfl (.cons rfl .nil))), rfl, [], (RetC.r ?_ (RetC.r ?_ (RetC.r ?_ .nil)))⟩ <;> ((congr 1; first | (rw [getVar_out (by omega)]; done) | (rw [getVar_in (by omega), ← hx4]; first | (rw [gvGo_short (by omega) (by omega)]; done) | (rw [gvGo_var (by omega) (by omega) (by omega)]; done) | (rw [gvGo_done (by omega) (by omega) (by omega) (by omega) (by omega)]; done) | (rw [gvGo_big (by omega) (by omega) (by omega) (by omega) (by omega)]; done) | (rw [gvGo_end (by omega)]; done))))
 refine T.skip ?_
 refine T.seq ?_
 refine T.region ?_
 refine TL.mv (pS b) ?_
 refine TL.mv (pI a) ?_
 refine TL.mv (pI (i : Int)) ?_
 refine TL.c (Step.bin (r := .int .i64 (a + (i : Int))) rfl rfl (lt_ok rfl) rfl rfl (Bin.add (a := a) (b := (i : Int)) (by first | exact wrap_ok (by first | omega | (simp; omega)) (by first | omega | (simp; omega)) | rfl))) ?_
 refine TL.c (Step.index (e := 5) (z := 1) (i := (a + (i : Int))) rfl rfl (lt_ok rfl) (by kernel_rfl) rfl rfl rfl (lt_ok rfl) rfl (by first | omega | (simp; omega)) (by simp only [D.size]; first | omega | (simp; omega))) ?_
 refine TL.c (Step.load (e := (.int .u8 (b.getD (a + (i : Int)).toNat 0))) rfl rfl (lt_ok rfl) (by kernel_rfl) rfl rfl) ?_
 refine TL.as (.one (.d (.int .u8 (b.getD (a + (i : Int)).toNat 0)))) ?_
 refine TL.nil ?_
 refine T.seq ?_
 refine T.seq ?_
 refine T.region ?_
 refine TL.mv (pI (i : Int)) ?_
 refine TL.b _ (Bin.gtr (k := .i64) (a := (i : Int)) (b := 0)) ?_
 refine TL.mv (pB (decide (0 < (i : Int)))) ?_
 rcases Bool.eq_false_or_eq_true (decide (0 < (i : Int))) with hb3 | hb3
 ·
  refine TL.known 31 hb3 rfl ?_
  have hb3' := hb3
  replace hb3' := of_decide_eq_true hb3'
  refine TL.gm 31 (.one (.d (.int .u8 (b.getD (a + (i : Int)).toNat 0)))) ?_
  refine TL.gy 31 (Step.bin rfl rfl (lt_ok rfl) rfl rfl (Bin.eql (k := .u8) (a := (b.getD (a + (i : Int)).toNat 0)) (b := 0))) ?_
  refine TL.pk true (pB (decide ((b.getD (a + (i : Int)).toNat 0) = 0))) ?_
  refine TL.mv (pB (decide ((b.getD (a + (i : Int)).toNat 0) = 0))) ?_
  rcases Bool.eq_false_or_eq_true (decide ((b.getD (a + (i : Int)).toNat 0) = 0)) with hb4 | hb4
  ·
   refine TL.known 35 hb4 rfl ?_
   have hb4' := hb4
   replace hb4' := of_decide_eq_true hb4'
   refine TL.gf 35 ?_
   refine TL.gf 35 ?_
   refine TL.gf 35 ?_
   refine TL.gu 38 ?_
   refine TL.gu 38 ?_
   refine TL.gf 35 ?_
   refine TL.pk true (pB true) ?_
   refine TL.nil ?_
   refine T.ct ?_
   refine T.seq ?_
   refine T.region ?_
   refine TL.as (pI 0) ?_
   refine TL.as (pI 0) ?_
   refine TL.as (pI 2) ?_
   refine TL.nil ?_
   refine T.ret ?_
   refine ⟨[(false, [cI 0]), (false, [cI 0]), (false, [cI 2])], (.cons rfl (.cons rfl (.cons rfl .nil))), rfl, [], (RetC.r ?_ (RetC.r ?_ (RetC.r ?_ .nil)))⟩ <;> ((congr 1; first | (rw [getVar_out (by omega)]; done) | (rw [getVar_in (by omega), ← hx4]; first | (rw [gvGo_short (by omega) (by omega)]; done) | (rw [gvGo_var (by omega) (by omega) (by omega)]; done) | (rw [gvGo_done (by omega) (by omega) (by omega) (by omega) (by omega)]; done) | (rw [gvGo_big (by omega) (by omega) (by omega) (by omega) (by omega)]; done) | (rw [gvGo_end (by omega)]; done))))
  refine TL.known 35 hb4 rfl ?_
  have hb4' := hb4
  replace hb4' := of_decide_eq_false hb4'
  refine TL.gm 35 (pI (i : Int)) ?_
  refine TL.gy 35 (Step.bin rfl rfl (lt_ok rfl) rfl rfl (Bin.eql (k := .i64) (a := (i : Int)) (b := 8))) ?_
  refine TL.gm 35 (pB (decide ((i : Int) = 8))) ?_
  rcases Bool.eq_false_or_eq_true (decide ((i : Int) = 8)) with hb5 | hb5
  ·
   refine TL.known 38 hb5 rfl ?_
   have hb5' := hb5
   replace hb5' := of_decide_eq_true hb5'
   refine TL.gm 38 (.one (.d (.int .u8 (b.getD (a + (i : Int)).toNat 0)))) ?_
   refine TL.gy 38 (Step.bin rfl rfl (lt_ok rfl) rfl rfl (Bin.geq (k := .u8) (a := (b.getD (a + (i : Int)).toNat 0)) (b := 128))) ?_
   refine TL.gy 35 (Step.pick (b := true) (p := (pB (decide (128 ≤ (b.getD (a + (i : Int)).toNat 0))))) rfl rfl (lt_ok rfl) rfl rfl) ?_
   refine TL.pk false (pB (decide (128 ≤ (b.getD (a + (i : Int)).toNat 0)))) ?_
   refine TL.nil ?_
   refine T.ci rfl (fun h6 => ?_) (fun h6 => ?_)
   ·
    refine T.seq ?_
    refine T.region ?_
    refine TL.as (pI 0) ?_
    refine TL.as (pI 0) ?_
    refine TL.as (pI 2) ?_
    refine TL.nil ?_
    refine T.ret ?_
    refine ⟨[(false, [cI 0]), (false, [cI 0]), (false, [cI 2])], (.cons rfl (.cons rfl (.cons rfl .nil))), rfl, [], (RetC.r ?_ (RetC.r ?_ (RetC.r ?_ .nil)))⟩ <;> ((congr 1; first | (rw [getVar_out (by omega)]; done) | (rw [getVar_in (by omega), ← hx4]; first | (rw [gvGo_short (by omega) (by omega)]; done) | (rw [gvGo_var (by omega) (by omega) (by omega)]; done) | (rw [gvGo_done (by omega) (by omega) (by omega) (by omega) (by omega)]; done) | (rw [gvGo_big (by omega) (by omega) (by omega) (by omega) (by omega)]; done) | (rw [gvGo_end (by omega)]; done))))
   refine T.skip ?_
   refine T.seq ?_
   refine T.region ?_
   refine TL.mv (pI n) ?_
   refine TL.mv (.one (.d (.int .u8 (b.getD (a + (i : Int)).toNat 0)))) ?_
   refine TL.c (Step.bin (r := .int .u8 (b.getD (a + (i : Int)).toNat 0 % 128)) rfl rfl (lt_ok rfl) rfl rfl (Bin.and (k := .u8) (a := (b.getD (a + (i : Int)).toNat 0)) (b := 127) (and127 hu_.1 hu_.2))) ?_
   refine TL.c (Step.conv (c := (b.getD (a + (i : Int)).toNat 0 % 128)) rfl rfl (lt_ok rfl) (by kernel_rfl) (by kernel_rfl) rfl (wrap_ok (by first | omega | (simp; omega)) (by first | omega | (simp; omega)))) ?_
   refine TL.mv (pI (i : Int)) ?_
   refine TL.c (Step.bin (r := .int .i64 (7 * (i : Int))) rfl rfl (lt_ok rfl) rfl rfl (Bin.mul (a := 7) (b := (i : Int)) (by first | exact wrap_ok (by first | omega | (simp; omega)) (by first | omega | (simp; omega)) | rfl))) ?_
   refine TL.c (Step.bin (r := .int .i64 (b.getD (a + (i : Int)).toNat 0 % 128 * 128 ^ i)) rfl rfl (lt_ok rfl) rfl rfl (Bin.shl (k := .i64) (k' := .i64) (a := (b.getD (a + (i : Int)).toNat 0 % 128)) (b := (7 * (i : Int))) (by first | omega | (simp; omega)) (shl_var (by omega) (by omega) (by omega)))) ?_
   refine TL.c (Step.bin (r := .int .i64 (n + b.getD (a + (i : Int)).toNat 0 % 128 * 128 ^ i)) rfl rfl (lt_ok rfl) rfl rfl (Bin.or (k := .i64) (a := n) (b := (b.getD (a + (i : Int)).toNat 0 % 128 * 128 ^ i)) (or_add (by omega) (by omega) (by omega) (by omega) (by omega)))) ?_
   refine TL.as (pI (n + b.getD (a + (i : Int)).toNat 0 % 128 * 128 ^ i)) ?_
   refine TL.nil ?_
   refine T.seq ?_
   refine T.region ?_
   refine TL.mv (.one (.d (.int .u8 (b.getD (a + (i : Int)).toNat 0)))) ?_
   refine TL.b _ (Bin.lss (k := .u8) (a := (b.getD (a + (i : Int)).toNat 0)) (b := 128)) ?_
   refine TL.nil ?_
   refine T.ci rfl (fun h7 => ?_) (fun h7 => ?_)
   ·
    refine T.seq ?_
    refine T.seq ?_
    refine T.region ?_
    refine TL.mv (pI (n + b.getD (a + (i : Int)).toNat 0 % 128 * 128 ^ i)) ?_
    refine TL.c (Step.cl (xs := [.tmp 53]) (ps := [(pI (n + b.getD (a + (i : Int)).toNat 0 % 128 * 128 ^ i))]) (g := .func 155) false (.cons (.one (.d _)) .nil) (ok_impl_isNum (n + b.getD (a + (i : Int)).toNat 0 % 128 * 128 ^ i))) ?_
    refine TL.c (Step.not (b := (decide (0 ≤ (n + b.getD (a + (i : Int)).toNat 0 % 128 * 128 ^ i) ∧ (n + b.getD (a + (i : Int)).toNat 0 % 128 * 128 ^ i) ≤ 1152921504606846975))) rfl rfl (lt_ok rfl) rfl) ?_
    refine TL.nil ?_
    refine T.cni rfl (fun h8 => ?_) (fun h8 => ?_)
    ·
     refine T.seq ?_
     refine T.region ?_
     refine TL.as (pI 0) ?_
     refine TL.as (pI 0) ?_
     refine TL.as (pI 2) ?_
     refine TL.nil ?_
     refine T.ret ?_
     refine ⟨[(false, [cI 0]), (false, [cI 0]), (false, [cI 2])], (.cons rfl (.cons rfl (.cons rfl .nil))), rfl, [], (RetC.r ?_ (RetC.r ?_ (RetC.r ?_ .nil)))⟩ <;> ((congr 1; first | (rw [getVar_out (by omega)]; done) | (rw [getVar_in (by omega), ← hx4]; first | (rw [gvGo_short (by omega) (by omega)]; done) | (rw [gvGo_var (by omega) (by omega) (by omega)]; done) | (rw [gvGo_done (by omega) (by omega) (by omega) (by omega) (by omega)]; done) | (rw [gvGo_big (by omega) (by omega) (by omega) (by omega) (by omega)]; done) | (rw [gvGo_end (by omega)]; done))))
    refine T.skip ?_
    refine T.seq ?_
    refine T.region ?_
    refine TL.mv (pI (n + b.getD (a + (i : Int)).toNat 0 % 128 * 128 ^ i)) ?_
    refine TL.mv (pI a) ?_
    refine TL.mv (pI (i : Int)) ?_
    refine TL.c (Step.bin (r := .int .i64 (a + (i : Int))) rfl rfl (lt_ok rfl) rfl rfl (Bin.add (a := a) (b := (i : Int)) (by first | exact wrap_ok (by first | omega | (simp; omega)) (by first | omega | (simp; omega)) | rfl))) ?_
    refine TL.c (Step.bin (r := .int .i64 ((a + (i : Int)) + 1)) rfl rfl (lt_ok rfl) rfl rfl (Bin.add (a := (a + (i : Int))) (b := 1) (by first | exact wrap_ok (by first | omega | (simp; omega)) (by first | omega | (simp; omega)) | rfl))) ?_
    refine TL.as (pI (n + b.getD (a + (i : Int)).toNat 0 % 128 * 128 ^ i)) ?_
    refine TL.as (pI ((a + (i : Int)) + 1)) ?_
    refine TL.as (pI 0) ?_
    refine TL.nil ?_
    refine T.ret ?_
    refine ⟨[(false, [cI (n + b.getD (a + (i : Int)).toNat 0 % 128 * 128 ^ i)]), (false, [cI ((a + (i : Int)) + 1)]), (false, [cI 0])], (.cons rfl (.cons rfl (.cons rfl .nil))), rfl, [], (RetC.r ?_ (RetC.r ?_ (RetC.r ?_ .nil)))⟩ <;> ((congr 1; first | (rw [getVar_out (by omega)]; done) | (rw [getVar_in (by omega), ← hx4]; first | (rw [gvGo_short (by omega) (by omega)]; done) | (rw [gvGo_var (by omega) (by omega) (by omega)]; done) | (rw [gvGo_done (by omega) (by omega) (by omega) (by omega) (by omega)]; done) | (rw [gvGo_big (by omega) (by omega) (by omega) (by omega) (by omega)]; done) | (rw [gvGo_end (by omega)]; done))))
   refine T.skip ?_
   refine T.region ?_
   refine TL.mv (pI (i : Int)) ?_
   refine TL.c (Step.bin (r := .int .i64 ((i : Int) + 1)) rfl rfl (lt_ok rfl) rfl rfl (Bin.add (a := (i : Int)) (b := 1) (by first | exact wrap_ok (by first | omega | (simp; omega)) (by first | omega | (simp; omega)) | rfl))) ?_
   refine TL.as (pI ((i : Int) + 1)) ?_
   refine TL.nil ?_
   refine ⟨(i + 1, n + b.getD (a + (i : Int)).toNat 0 % 128 * 128 ^ i), by (try dsimp only); (refine ⟨by omega, by omega, by rw [Int.pow_succ]; omega, ?_⟩; exact (gvGo_next (n := n) (by omega) (by omega) (by omega) (by omega)).symm.trans hx4), by (dsimp only; omega), Env.le_mk ⟨rfl, rfl, ?_, ?_, trivial⟩ trivial trivial⟩ <;> (first | rfl | (refine congrArg (fun n => PV.one (.d (.int .i64 n))) ?_; first | rfl | omega | (simp; done)))
  refine TL.known 38 hb5 rfl ?_
  have hb5' := hb5
  replace hb5' := of_decide_eq_false hb5'
  refine TL.gf 38 ?_
  refine TL.gf 38 ?_
  refine TL.gy 35 (Step.pick (b := false) (p := (pB false)) rfl rfl (lt_ok rfl) rfl rfl) ?_
  refine TL.pk false (pB false) ?_
  refine TL.nil ?_
  refine T.cf ?_
  refine T.skip ?_
  refine T.seq ?_
  refine T.region ?_
  refine TL.mv (pI n) ?_
  refine TL.mv (.one (.d (.int .u8 (b.getD (a + (i : Int)).toNat 0)))) ?_
  refine TL.c (Step.bin (r := .int .u8 (b.getD (a + (i : Int)).toNat 0 % 128)) rfl rfl (lt_ok rfl) rfl rfl (Bin.and (k := .u8) (a := (b.getD (a + (i : Int)).toNat 0)) (b := 127) (and127 hu_.1 hu_.2))) ?_
  refine TL.c (Step.conv (c := (b.getD (a + (i : Int)).toNat 0 % 128)) rfl rfl (lt_ok rfl) (by kernel_rfl) (by kernel_rfl) rfl (wrap_ok (by first | omega | (simp; omega)) (by first | omega | (simp; omega)))) ?_
  refine TL.mv (pI (i : Int)) ?_
  refine TL.c (Step.bin (r := .int .i64 (7 * (i : Int))) rfl rfl (lt_ok rfl) rfl rfl (Bin.mul (a := 7) (b := (i : Int)) (by first | exact wrap_ok (by first | omega | (simp; omega)) (by first | omega | (simp; omega)) | rfl))) ?_
  refine TL.c (Step.bin (r := .int .i64 (b.getD (a + (i : Int)).toNat 0 % 128 * 128 ^ i)) rfl rfl (lt_ok rfl) rfl rfl (Bin.shl (k := .i64) (k' := .i64) (a := (b.getD (a + (i : Int)).toNat 0 % 128)) (b := (7 * (i : Int))) (by first | omega | (simp; omega)) (shl_var (by omega) (by omega) (by omega)))) ?_
  refine TL.c (Step.bin (r := .int .i64 (n + b.getD (a + (i : Int)).toNat 0 % 128 * 128 ^ i)) rfl rfl (lt_ok rfl) rfl rfl (Bin.or (k := .i64) (a := n) (b := (b.getD (a + (i : Int)).toNat 0 % 128 * 128 ^ i)) (or_add (by omega) (by omega) (by omega) (by omega) (by omega)))) ?_
  refine TL.as (pI (n + b.getD (a + (i : Int)).toNat 0 % 128 * 128 ^ i)) ?_
  refine TL.nil ?_
  refine T.seq ?_
  refine T.region ?_
  refine TL.mv (.one (.d (.int .u8 (b.getD (a + (i : Int)).toNat 0)))) ?_
  refine TL.b _ (Bin.lss (k := .u8) (a := (b.getD (a + (i : Int)).toNat 0)) (b := 128)) ?_
  refine TL.nil ?_
  refine T.ci rfl (fun h9 => ?_) (fun h9 => ?_)
  ·
   refine T.seq ?_
   refine T.seq ?_
   refine T.region ?_
   refine TL.mv (pI (n + b.getD (a + (i : Int)).toNat 0 % 128 * 128 ^ i)) ?_
   refine TL.c (Step.cl (xs := [.tmp 53]) (ps := [(pI (n + b.getD (a + (i : Int)).toNat 0 % 128 * 128 ^ i))]) (g := .func 155) false (.cons (.one (.d _)) .nil) (ok_impl_isNum (n + b.getD (a + (i : Int)).toNat 0 % 128 * 128 ^ i))) ?_
   refine TL.c (Step.not (b := (decide (0 ≤ (n + b.getD (a + (i : Int)).toNat 0 % 128 * 128 ^ i) ∧ (n + b.getD (a + (i : Int)).toNat 0 % 128 * 128 ^ i) ≤ 1152921504606846975))) rfl rfl (lt_ok rfl) rfl) ?_
   refine TL.nil ?_
   refine T.cni rfl (fun h10 => ?_) (fun h10 => ?_)
   ·
    refine T.seq ?_
    refine T.region ?_
    refine TL.as (pI 0) ?_
    refine TL.as (pI 0) ?_
    refine TL.as (pI 2) ?_
    refine TL.nil ?_
    refine T.ret ?_
    refine ⟨[(false, [cI 0]), (false, [cI 0]), (false, [cI 2])], (.cons rfl (.cons rfl (.cons rfl .nil))), rfl, [], (RetC.r ?_ (RetC.r ?_ (RetC.r ?_ .nil)))⟩ <;> ((congr 1; first | (rw [getVar_out (by omega)]; done) | (rw [getVar_in (by omega), ← hx4]; first | (rw [gvGo_short (by omega) (by omega)]; done) | (rw [gvGo_var (by omega) (by omega) (by omega)]; done) | (rw [gvGo_done (by omega) (by omega) (by omega) (by omega) (by omega)]; done) | (rw [gvGo_big (by omega) (by omega) (by omega) (by omega) (by omega)]; done) | (rw [gvGo_end (by omega)]; done))))
   refine T.skip ?_
   refine T.seq ?_
   refine T.region ?_
   refine TL.mv (pI (n + b.getD (a + (i : Int)).toNat 0 % 128 * 128 ^ i)) ?_
   refine TL.mv (pI a) ?_
   refine TL.mv (pI (i : Int)) ?_
   refine TL.c (Step.bin (r := .int .i64 (a + (i : Int))) rfl rfl (lt_ok rfl) rfl rfl (Bin.add (a := a) (b := (i : Int)) (by first | exact wrap_ok (by first | omega | (simp; omega)) (by first | omega | (simp; omega)) | rfl))) ?_
   refine TL.c (Step.bin (r := .int .i64 ((a + (i : Int)) + 1)) rfl rfl (lt_ok rfl) rfl rfl (Bin.add (a := (a + (i : Int))) (b := 1) (by first | exact wrap_ok (by first | omega | (simp; omega)) (by first | omega | (simp; omega)) | rfl))) ?_
   refine TL.as (pI (n + b.getD (a + (i : Int)).toNat 0 % 128 * 128 ^ i)) ?_
   refine TL.as (pI ((a + (i : Int)) + 1)) ?_
   refine TL.as (pI 0) ?_
   refine TL.nil ?_
   refine T.ret ?_
   refine ⟨[(false, [cI (n + b.getD (a + (i : Int)).toNat 0 % 128 * 128 ^ i)]), (false, [cI ((a + (i : Int)) + 1)]), (false, [cI 0])], (.cons rfl (.cons rfl (.cons rfl .nil))), rfl, [], (RetC.r ?_ (RetC.r ?_ (RetC.r ?_ .nil)))⟩ <;> ((congr 1; first | (rw [getVar_out (by omega)]; done) | (rw [getVar_in (by omega), ← hx4]; first | (rw [gvGo_short (by omega) (by omega)]; done) | (rw [gvGo_var (by omega) (by omega) (by omega)]; done) | (rw [gvGo_done (by omega) (by omega) (by omega) (by omega) (by omega)]; done) | (rw [gvGo_big (by omega) (by omega) (by omega) (by omega) (by omega)]; done) | (rw [gvGo_end (by omega)]; done))))
  refine T.skip ?_
  refine T.region ?_
  refine TL.mv (pI (i : Int)) ?_
  refine TL.c (Step.bin (r := .int .i64 ((i : Int) + 1)) rfl rfl (lt_ok rfl) rfl rfl (Bin.add (a := (i : Int)) (b := 1) (by first | exact wrap_ok (by first | omega | (simp; omega)) (by first | omega | (simp; omega)) | rfl))) ?_
  refine TL.as (pI ((i : Int) + 1)) ?_
  refine TL.nil ?_
  refine ⟨(i + 1, n + b.getD (a + (i : Int)).toNat 0 % 128 * 128 ^ i), by (try dsimp only); (refine ⟨by omega, by omega, by rw [Int.pow_succ]; omega, ?_⟩; exact (gvGo_next (n := n) (by omega) (by omega) (by omega) (by omega)).symm.trans hx4), by (dsimp only; omega), Env.le_mk ⟨rfl, rfl, ?_, ?_, trivial⟩ trivial trivial⟩ <;> (first | rfl | (refine congrArg (fun n => PV.one (.d (.int .i64 n))) ?_; first | rfl | omega | (simp; done)))
 refine TL.known 31 hb3 rfl ?_
 have hb3' := hb3
 replace hb3' := of_decide_eq_false hb3'
 refine TL.gf 31 ?_
 refine TL.gf 31 ?_
 refine TL.pk false (pB false) ?_
 refine TL.mv (pB false) ?_
 refine TL.gm 35 (pI (i : Int)) ?_
 refine TL.gy 35 (Step.bin rfl rfl (lt_ok rfl) rfl rfl (Bin.eql (k := .i64) (a := (i : Int)) (b := 8))) ?_
 refine TL.gm 35 (pB (decide ((i : Int) = 8))) ?_
 rcases Bool.eq_false_or_eq_true (decide ((i : Int) = 8)) with hb11 | hb11
 ·
  refine TL.known 38 hb11 rfl ?_
  have hb11' := hb11
  replace hb11' := of_decide_eq_true hb11'
  refine TL.gm 38 (.one (.d (.int .u8 (b.getD (a + (i : Int)).toNat 0)))) ?_
  refine TL.gy 38 (Step.bin rfl rfl (lt_ok rfl) rfl rfl (Bin.geq (k := .u8) (a := (b.getD (a + (i : Int)).toNat 0)) (b := 128))) ?_
  refine TL.gy 35 (Step.pick (b := true) (p := (pB (decide (128 ≤ (b.getD (a + (i : Int)).toNat 0))))) rfl rfl (lt_ok rfl) rfl rfl) ?_
  refine TL.pk false (pB (decide (128 ≤ (b.getD (a + (i : Int)).toNat 0)))) ?_
  refine TL.nil ?_
  refine T.ci rfl (fun h12 => ?_) (fun h12 => ?_)
  ·
   refine T.seq ?_
   refine T.region ?_
   refine TL.as (pI 0) ?_
   refine TL.as (pI 0) ?_
   refine TL.as (pI 2) ?_
   refine TL.nil ?_
   refine T.ret ?_
   refine ⟨[(false, [cI 0]), (false, [cI 0]), (false, [cI 2])], (.cons rfl (.cons rfl (.cons rfl .nil))), rfl, [], (RetC.r ?_ (RetC.r ?_ (RetC.r ?_ .nil)))⟩ <;> ((congr 1; first | (rw [getVar_out (by omega)]; done) | (rw [getVar_in (by omega), ← hx4]; first | (rw [gvGo_short (by omega) (by omega)]; done) | (rw [gvGo_var (by omega) (by omega) (by omega)]; done) | (rw [gvGo_done (by omega) (by omega) (by omega) (by omega) (by omega)]; done) | (rw [gvGo_big (by omega) (by omega) (by omega) (by omega) (by omega)]; done) | (rw [gvGo_end (by omega)]; done))))
  refine T.skip ?_
  refine T.seq ?_
  refine T.region ?_
  refine TL.mv (pI n) ?_
  refine TL.mv (.one (.d (.int .u8 (b.getD (a + (i : Int)).toNat 0)))) ?_
  refine TL.c (Step.bin (r := .int .u8 (b.getD (a + (i : Int)).toNat 0 % 128)) rfl rfl (lt_ok rfl) rfl rfl (Bin.and (k := .u8) (a := (b.getD (a + (i : Int)).toNat 0)) (b := 127) (and127 hu_.1 hu_.2))) ?_
  refine TL.c (Step.conv (c := (b.getD (a + (i : Int)).toNat 0 % 128)) rfl rfl (lt_ok rfl) (by kernel_rfl) (by kernel_rfl) rfl (wrap_ok (by first | omega | (simp; omega)) (by first | omega | (simp; omega)))) ?_
  refine TL.mv (pI (i : Int)) ?_
  refine TL.c (Step.bin (r := .int .i64 (7 * (i : Int))) rfl rfl (lt_ok rfl) rfl rfl (Bin.mul (a := 7) (b := (i : Int)) (by first | exact wrap_ok (by first | omega | (simp; omega)) (by first | omega | (simp; omega)) | rfl))) ?_
  refine TL.c (Step.bin (r := .int .i64 (b.getD (a + (i : Int)).toNat 0 % 128 * 128 ^ i)) rfl rfl (lt_ok rfl) rfl rfl (Bin.shl (k := .i64) (k' := .i64) (a := (b.getD (a + (i : Int)).toNat 0 % 128)) (b := (7 * (i : Int))) (by first | omega | (simp; omega)) (shl_var (by omega) (by omega) (by omega)))) ?_
  refine TL.c (Step.bin (r := .int .i64 (n + b.getD (a + (i : Int)).toNat 0 % 128 * 128 ^ i)) rfl rfl (lt_ok rfl) rfl rfl (Bin.or (k := .i64) (a := n) (b := (b.getD (a + (i : Int)).toNat 0 % 128 * 128 ^ i)) (or_add (by omega) (by omega) (by omega) (by omega) (by omega)))) ?_
  refine TL.as (pI (n + b.getD (a + (i : Int)).toNat 0 % 128 * 128 ^ i)) ?_
  refine TL.nil ?_
  refine T.seq ?_
  refine T.region ?_
  refine TL.mv (.one (.d (.int .u8 (b.getD (a + (i : Int)).toNat 0)))) ?_
  refine TL.b _ (Bin.lss (k := .u8) (a := (b.getD (a + (i : Int)).toNat 0)) (b := 128)) ?_
  refine TL.nil ?_
  refine T.ci rfl (fun h13 => ?_) (fun h13 => ?_)
  ·
   refine T.seq ?_
   refine T.seq ?_
   refine T.region ?_
   refine TL.mv (pI (n + b.getD (a + (i : Int)).toNat 0 % 128 * 128 ^ i)) ?_
   refine TL.c (Step.cl (xs := [.tmp 53]) (ps := [(pI (n + b.getD (a + (i : Int)).toNat 0 % 128 * 128 ^ i))]) (g := .func 155) false (.cons (.one (.d _)) .nil) (ok_impl_isNum (n + b.getD (a + (i : Int)).toNat 0 % 128 * 128 ^ i))) ?_
   refine TL.c (Step.not (b := (decide (0 ≤ (n + b.getD (a + (i : Int)).toNat 0 % 128 * 128 ^ i) ∧ (n + b.getD (a + (i : Int)).toNat 0 % 128 * 128 ^ i) ≤ 1152921504606846975))) rfl rfl (lt_ok rfl) rfl) ?_
   refine TL.nil ?_
   refine T.cni rfl (fun h14 => ?_) (fun h14 => ?_)
   ·
    refine T.seq ?_
    refine T.region ?_
    refine TL.as (pI 0) ?_
    refine TL.as (pI 0) ?_
    refine TL.as (pI 2) ?_
    refine TL.nil ?_
    refine T.ret ?_
    refine ⟨[(false, [cI 0]), (false, [cI 0]), (false, [cI 2])], (.cons rfl (.cons rfl (.cons rfl .nil))), rfl, [], (RetC.r ?_ (RetC.r ?_ (RetC.r ?_ .nil)))⟩ <;> ((congr 1; first | (rw [getVar_out (by omega)]; done) | (rw [getVar_in (by omega), ← hx4]; first | (rw [gvGo_short (by omega) (by omega)]; done) | (rw [gvGo_var (by omega) (by omega) (by omega)]; done) | (rw [gvGo_done (by omega) (by omega) (by omega) (by omega) (by omega)]; done) | (rw [gvGo_big (by omega) (by omega) (by omega) (by omega) (by omega)]; done) | (rw [gvGo_end (by omega)]; done))))
   refine T.skip ?_
   refine T.seq ?_
   refine T.region ?_
   refine TL.mv (pI (n + b.getD (a + (i : Int)).toNat 0 % 128 * 128 ^ i)) ?_
   refine TL.mv (pI a) ?_
   refine TL.mv (pI (i : Int)) ?_
   refine TL.c (Step.bin (r := .int .i64 (a + (i : Int))) rfl rfl (lt_ok rfl) rfl rfl (Bin.add (a := a) (b := (i : Int)) (by first | exact wrap_ok (by first | omega | (simp; omega)) (by first | omega | (simp; omega)) | rfl))) ?_
   refine TL.c (Step.bin (r := .int .i64 ((a + (i : Int)) + 1)) rfl rfl (lt_ok rfl) rfl rfl (Bin.add (a := (a + (i : Int))) (b := 1) (by first | exact wrap_ok (by first | omega | (simp; omega)) (by first | omega | (simp; omega)) | rfl))) ?_
   refine TL.as (pI (n + b.getD (a + (i : Int)).toNat 0 % 128 * 128 ^ i)) ?_
   refine TL.as (pI ((a + (i : Int)) + 1)) ?_
   refine TL.as (pI 0) ?_
   refine TL.nil ?_
   refine T.ret ?_
   refine ⟨[(false, [cI (n + b.getD (a + (i : Int)).toNat 0 % 128 * 128 ^ i)]), (false, [cI ((a + (i : Int)) + 1)]), (false, [cI 0])], (.cons rfl (.cons rfl (.cons rfl .nil))), rfl, [], (RetC.r ?_ (RetC.r ?_ (RetC.r ?_ .nil)))⟩ <;> ((congr 1; first | (rw [getVar_out (by omega)]; done) | (rw [getVar_in (by omega), ← hx4]; first | (rw [gvGo_short (by omega) (by omega)]; done) | (rw [gvGo_var (by omega) (by omega) (by omega)]; done) | (rw [gvGo_done (by omega) (by omega) (by omega) (by omega) (by omega)]; done) | (rw [gvGo_big (by omega) (by omega) (by omega) (by omega) (by omega)]; done) | (rw [gvGo_end (by omega)]; done))))
  refine T.skip ?_
  refine T.region ?_
  refine TL.mv (pI (i : Int)) ?_
  refine TL.c (Step.bin (r := .int .i64 ((i : Int) + 1)) rfl rfl (lt_ok rfl) rfl rfl (Bin.add (a := (i : Int)) (b := 1) (by first | exact wrap_ok (by first | omega | (simp; omega)) (by first | omega | (simp; omega)) | rfl))) ?_
  refine TL.as (pI ((i : Int) + 1)) ?_
  refine TL.nil ?_
  refine ⟨(i + 1, n + b.getD (a + (i : Int)).toNat 0 % 128 * 128 ^ i), by (try dsimp only); (refine ⟨by omega, by omega, by rw [Int.pow_succ]; omega, ?_⟩; exact (gvGo_next (n := n) (by omega) (by omega) (by omega) (by omega)).symm.trans hx4), by (dsimp only; omega), Env.le_mk ⟨rfl, rfl, ?_, ?_, trivial⟩ trivial trivial⟩ <;> (first | rfl | (refine congrArg (fun n => PV.one (.d (.int .i64 n))) ?_; first | rfl | omega | (simp; done)))
 refine TL.known 38 hb11 rfl ?_
 have hb11' := hb11
 replace hb11' := of_decide_eq_false hb11'
 refine TL.gf 38 ?_
 refine TL.gf 38 ?_
 refine TL.gy 35 (Step.pick (b := false) (p := (pB false)) rfl rfl (lt_ok rfl) rfl rfl) ?_
 refine TL.pk false (pB false) ?_
 refine TL.nil ?_
 refine T.cf ?_
 refine T.skip ?_
 refine T.seq ?_
 refine T.region ?_
 refine TL.mv (pI n) ?_
 refine TL.mv (.one (.d (.int .u8 (b.getD (a + (i : Int)).toNat 0)))) ?_
 refine TL.c (Step.bin (r := .int .u8 (b.getD (a + (i : Int)).toNat 0 % 128)) rfl rfl (lt_ok rfl) rfl rfl (Bin.and (k := .u8) (a := (b.getD (a + (i : Int)).toNat 0)) (b := 127) (and127 hu_.1 hu_.2))) ?_
 refine TL.c (Step.conv (c := (b.getD (a + (i : Int)).toNat 0 % 128)) rfl rfl (lt_ok rfl) (by kernel_rfl) (by kernel_rfl) rfl (wrap_ok (by first | omega | (simp; omega)) (by first | omega | (simp; omega)))) ?_
 refine TL.mv (pI (i : Int)) ?_
 refine TL.c (Step.bin (r := .int .i64 (7 * (i : Int))) rfl rfl (lt_ok rfl) rfl rfl (Bin.mul (a := 7) (b := (i : Int)) (by first | exact wrap_ok (by first | omega | (simp; omega)) (by first | omega | (simp; omega)) | rfl))) ?_
 refine TL.c (Step.bin (r := .int .i64 (b.getD (a + (i : Int)).toNat 0 % 128 * 128 ^ i)) rfl rfl (lt_ok rfl) rfl rfl (Bin.shl (k := .i64) (k' := .i64) (a := (b.getD (a + (i : Int)).toNat 0 % 128)) (b := (7 * (i : Int))) (by first | omega | (simp; omega)) (shl_var (by omega) (by omega) (by omega)))) ?_
 refine TL.c (Step.bin (r := .int .i64 (n + b.getD (a + (i : Int)).toNat 0 % 128 * 128 ^ i)) rfl rfl (lt_ok rfl) rfl rfl (Bin.or (k := .i64) (a := n) (b := (b.getD (a + (i : Int)).toNat 0 % 128 * 128 ^ i)) (or_add (by omega) (by omega) (by omega) (by omega) (by omega)))) ?_
 refine TL.as (pI (n + b.getD (a + (i : Int)).toNat 0 % 128 * 128 ^ i)) ?_
 refine TL.nil ?_
 refine T.seq ?_
 refine T.region ?_
 refine TL.mv (.one (.d (.int .u8 (b.getD (a + (i : Int)).toNat 0)))) ?_
 refine TL.b _ (Bin.lss (k := .u8) (a := (b.getD (a + (i : Int)).toNat 0)) (b := 128)) ?_
 refine TL.nil ?_
 refine T.ci rfl (fun h15 => ?_) (fun h15 => ?_)
 ·
  refine T.seq ?_
  refine T.seq ?_
  refine T.region ?_
  refine TL.mv (pI (n + b.getD (a + (i : Int)).toNat 0 % 128 * 128 ^ i)) ?_
  refine TL.c (Step.cl (xs := [.tmp 53]) (ps := [(pI (n + b.getD (a + (i : Int)).toNat 0 % 128 * 128 ^ i))]) (g := .func 155) false (.cons (.one (.d _)) .nil) (ok_impl_isNum (n + b.getD (a + (i : Int)).toNat 0 % 128 * 128 ^ i))) ?_
  refine TL.c (Step.not (b := (decide (0 ≤ (n + b.getD (a + (i : Int)).toNat 0 % 128 * 128 ^ i) ∧ (n + b.getD (a + (i : Int)).toNat 0 % 128 * 128 ^ i) ≤ 1152921504606846975))) rfl rfl (lt_ok rfl) rfl) ?_
  refine TL.nil ?_
  refine T.cni rfl (fun h16 => ?_) (fun h16 => ?_)
  ·
   refine T.seq ?_
   refine T.region ?_
   refine TL.as (pI 0) ?_
   refine TL.as (pI 0) ?_
   refine TL.as (pI 2) ?_
   refine TL.nil ?_
   refine T.ret ?_
   refine ⟨[(false, [cI 0]), (false, [cI 0]), (false, [cI 2])], (.cons rfl (.cons rfl (.cons rfl .nil))), rfl, [], (RetC.r ?_ (RetC.r ?_ (RetC.r ?_ .nil)))⟩ <;> ((congr 1; first | (rw [getVar_out (by omega)]; done) | (rw [getVar_in (by omega), ← hx4]; first | (rw [gvGo_short (by omega) (by omega)]; done) | (rw [gvGo_var (by omega) (by omega) (by omega)]; done) | (rw [gvGo_done (by omega) (by omega) (by omega) (by omega) (by omega)]; done) | (rw [gvGo_big (by omega) (by omega) (by omega) (by omega) (by omega)]; done) | (rw [gvGo_end (by omega)]; done))))
  refine T.skip ?_
  refine T.seq ?_
  refine T.region ?_
  refine TL.mv (pI (n + b.getD (a + (i : Int)).toNat 0 % 128 * 128 ^ i)) ?_
  refine TL.mv (pI a) ?_
  refine TL.mv (pI (i : Int)) ?_
  refine TL.c (Step.bin (r := .int .i64 (a + (i : Int))) rfl rfl (lt_ok rfl) rfl rfl (Bin.add (a := a) (b := (i : Int)) (by first | exact wrap_ok (by first | omega | (simp; omega)) (by first | omega | (simp; omega)) | rfl))) ?_
  refine TL.c (Step.bin (r := .int .i64 ((a + (i : Int)) + 1)) rfl rfl (lt_ok rfl) rfl rfl (Bin.add (a := (a + (i : Int))) (b := 1) (by first | exact wrap_ok (by first | omega | (simp; omega)) (by first | omega | (simp; omega)) | rfl))) ?_
  refine TL.as (pI (n + b.getD (a + (i : Int)).toNat 0 % 128 * 128 ^ i)) ?_
  refine TL.as (pI ((a + (i : Int)) + 1)) ?_
  refine TL.as (pI 0) ?_
  refine TL.nil ?_
  refine T.ret ?_
  refine ⟨[(false, [cI (n + b.getD (a + (i : Int)).toNat 0 % 128 * 128 ^ i)]), (false, [cI ((a + (i : Int)) + 1)]), (false, [cI 0])], (.cons rfl (.cons rfl (.cons rfl .nil))), rfl, [], (RetC.r ?_ (RetC.r ?_ (RetC.r ?_ .nil)))⟩ <;> ((congr 1; first | (rw [getVar_out (by omega)]; done) | (rw [getVar_in (by omega), ← hx4]; first | (rw [gvGo_short (by omega) (by omega)]; done) | (rw [gvGo_var (by omega) (by omega) (by omega)]; done) | (rw [gvGo_done (by omega) (by omega) (by omega) (by omega) (by omega)]; done) | (rw [gvGo_big (by omega) (by omega) (by omega) (by omega) (by omega)]; done) | (rw [gvGo_end (by omega)]; done))))
 refine T.skip ?_
 refine T.region ?_
 refine TL.mv (pI (i : Int)) ?_
 refine TL.c (Step.bin (r := .int .i64 ((i : Int) + 1)) rfl rfl (lt_ok rfl) rfl rfl (Bin.add (a := (i : Int)) (b := 1) (by first | exact wrap_ok (by first | omega | (simp; omega)) (by first | omega | (simp; omega)) | rfl))) ?_
 refine TL.as (pI ((i : Int) + 1)) ?_
 refine TL.nil ?_
 refine ⟨(i + 1, n + b.getD (a + (i : Int)).toNat 0 % 128 * 128 ^ i), by (try dsimp only); (refine ⟨by omega, by omega, by rw [Int.pow_succ]; omega, ?_⟩; exact (gvGo_next (n := n) (by omega) (by omega) (by omega) (by omega)).symm.trans hx4), by (dsimp only; omega), Env.le_mk ⟨rfl, rfl, ?_, ?_, trivial⟩ trivial trivial⟩ <;> (first | rfl | (refine congrArg (fun n => PV.one (.d (.int .i64 n))) ?_; first | rfl | omega | (simp; done)))
theorem ok_impl_reader__num (b : List Int) (s : SRS) (h0_ : U8s b) (h1_ : b.length ≤ 1048576) : BX Try.prog 136 [.bx] 144 [.rd (.ints .u8 b), .rd (.int .i64 s.f0), .rd (.int .i64 s.f1)] [.rd (.ints .u8 b), .rd (.int .i64 (rdNum b s).1.f0), .rd (.int .i64 (rdNum b s).1.f1)] [(false, [.rd (.int .i64 (rdNum b s).2)])] := by
 refine BX.intro Try.func136 rfl 33 rfl (le_ok rfl) (le_ok rfl) fun w Z IX pin hp => ?_
 refine T.seq ?_
 refine T.region ?_
 refine TL.as (pI 0) ?_
 refine TL.nil ?_
 refine T.seq ?_
 refine T.seq ?_
 refine T.region ?_
 refine TL.mv (.one (.ptr 800 0)) ?_
 refine TL.c (Step.nilCheck rfl rfl (lt_ok rfl) rfl) ?_
 refine TL.c (Step.fd 2 1 true) ?_
 refine TL.c (Step.lb (.d (.int .i64 s.f1))) ?_
 refine TL.b _ (Bin.neq (k := .i64) (a := s.f1) (b := 0)) ?_
 refine TL.nil ?_
 refine T.ci rfl (fun h1 => ?_) (fun h1 => ?_)
 ·
  refine T.seq ?_
  refine T.region ?_
  refine TL.as (pI 0) ?_
  refine TL.nil ?_
  refine T.ret ?_
  refine ⟨[cS b, cI s.f0, cI s.f1], [(false, [cI 0])], rfl, rfl, (.cons rfl .nil), rfl, [], (RetC.r rfl (RetC.r ?_ (RetC.r ?_ (RetC.r ?_ .nil))))⟩ <;> (first | rfl | (congr 1; unfold rdNum; first | (rw [if_pos (by omega)]; done) | (rw [if_neg (by omega)]; done)) | (simp only [D.size]; unfold rdNum; rw [if_neg (by omega)]; rfl))
 refine T.skip ?_
 refine T.seq ?_
 have nn2 := @getVar_bd b (by assumption) s.f0
 refine T.draw [⟨12, (.one (.ptr 800 0)), []⟩, ⟨13, (.one (.ptr 800 0)), []⟩, ⟨14, (.one (.ptr 800 0)), []⟩, ⟨15, (pS b), []⟩, ⟨16, (.one (.ptr 800 0)), []⟩, ⟨17, (.one (.ptr 800 0)), []⟩, ⟨18, (.one (.ptr 800 1)), []⟩, ⟨19, (pI s.f0), []⟩, ⟨20, (.tup [(false, [cI (getVar b s.f0).1]), (false, [cI (getVar b s.f0).2.1]), (false, [cI (getVar b s.f0).2.2])]), []⟩, ⟨11, (.tup [(false, [cI (getVar b s.f0).1]), (false, [cI (getVar b s.f0).2.1]), (false, [cI (getVar b s.f0).2.2])]), []⟩, ⟨21, (pI (getVar b s.f0).1), []⟩, ⟨22, (pI (getVar b s.f0).2.1), []⟩, ⟨23, (pI (getVar b s.f0).2.2), []⟩, ⟨3, (pI (getVar b s.f0).1), []⟩, ⟨4, (pI (getVar b s.f0).2.1), []⟩, ⟨5, (pI (getVar b s.f0).2.2), []⟩] (by kernel_rfl) (by kernel_rfl) ?_ ?_
 ·
  refine .cons (fun E A => A.mv 0 12) ?_
  refine .cons (fun E A => OpStep.plain rfl (Step.nilCheck (t := 13) rfl rfl (by exact lt_ok rfl) (A.g 12 rfl))) ?_
  refine .cons (fun E A => OpStep.plain rfl (Step.fa (off := 0) (n := 1) (one := true) 0 14 (A.g 13 rfl))) ?_
  refine .cons (fun E A => OpStep.plain rfl (Step.load_box (c := cS b) (t := 15) rfl rfl (by exact lt_ok rfl) (by kernel_rfl) (A.g 14 rfl) (by exact A.box rfl) rfl)) ?_
  refine .cons (fun E A => A.mv 0 16) ?_
  refine .cons (fun E A => OpStep.plain rfl (Step.nilCheck (t := 17) rfl rfl (by exact lt_ok rfl) (A.g 16 rfl))) ?_
  refine .cons (fun E A => OpStep.plain rfl (Step.fa (off := 1) (n := 1) (one := true) 0 18 (A.g 17 rfl))) ?_
  refine .cons (fun E A => OpStep.plain rfl (Step.load_box (c := cI s.f0) (t := 19) rfl rfl (by exact lt_ok rfl) (by kernel_rfl) (A.g 18 rfl) (by exact A.box rfl) rfl)) ?_
  refine .cons (fun E A => OpStep.plain rfl (Step.call (f := 179) (xs := [.tmp 15, .tmp 19]) (ps := [(pS b), (pI s.f0)]) false (g := .func 179) (t := 20) rfl rfl (by exact lt_ok rfl) rfl (by kernel_rfl) (evs_cons (A.g 15 rfl) (evs_cons (A.g 19 rfl) (rfl))) (.cons (.one (.d _)) (.cons (.one (.d _)) .nil)) (ok_impl_GetVar b s.f0 (by assumption) (by first | omega | assumption | (simp only [List.length_append] at *; omega))) (.inr rfl) (At.freshRows A rfl) (fun x hx => by have := hp x hx; omega) rfl)) ?_
  refine .cons (fun E A => A.mv 20 11) ?_
  refine .cons (fun E A => OpStep.plain rfl (Step.extract (p := (pI (getVar b s.f0).1)) (t := 21) rfl rfl (by exact lt_ok rfl) (A.g 11 rfl) rfl)) ?_
  refine .cons (fun E A => OpStep.plain rfl (Step.extract (p := (pI (getVar b s.f0).2.1)) (t := 22) rfl rfl (by exact lt_ok rfl) (A.g 11 rfl) rfl)) ?_
  refine .cons (fun E A => OpStep.plain rfl (Step.extract (p := (pI (getVar b s.f0).2.2)) (t := 23) rfl rfl (by exact lt_ok rfl) (A.g 11 rfl) rfl)) ?_
  refine .cons (fun E A => A.as 21 3) ?_
  refine .cons (fun E A => A.as 22 4) ?_
  refine .cons (fun E A => A.as 23 5) ?_
  exact .nil _ _
 refine TL.nil ?_
 refine T.seq ?_
 refine T.region ?_
 refine TL.mv (.one (.ptr 800 0)) ?_
 refine TL.mv (.one (.ptr 800 0)) ?_
 refine TL.mv (pI (getVar b s.f0).2.1) ?_
 refine TL.mv (pI (getVar b s.f0).2.2) ?_
 refine TL.c (Step.nilCheck rfl rfl (lt_ok rfl) rfl) ?_
 refine TL.c (Step.fd 1 1 true) ?_
 refine TL.c (Step.sb 1 [cS b, cI (getVar b s.f0).2.1, cI s.f1]) ?_
 refine TL.c (Step.nilCheck rfl rfl (lt_ok rfl) rfl) ?_
 refine TL.c (Step.fd 2 1 true) ?_
 refine TL.c (Step.sb 1 [cS b, cI (getVar b s.f0).2.1, cI (getVar b s.f0).2.2]) ?_
 refine TL.nil ?_
 refine T.seq ?_
 refine T.region ?_
 refine TL.mv (pI (getVar b s.f0).1) ?_
 refine TL.as (pI (getVar b s.f0).1) ?_
 refine TL.nil ?_
 refine T.ret ?_
 refine ⟨[cS b, cI (getVar b s.f0).2.1, cI (getVar b s.f0).2.2], [(false, [cI (getVar b s.f0).1])], rfl, rfl, (.cons rfl .nil), rfl, [], (RetC.r rfl (RetC.r ?_ (RetC.r ?_ (RetC.r ?_ .nil))))⟩ <;> (first | rfl | (congr 1; unfold rdNum; first | (rw [if_pos (by omega)]; done) | (rw [if_neg (by omega)]; done)) | (simp only [D.size]; unfold rdNum; rw [if_neg (by omega)]; rfl))
theorem ok_impl_copyBytes (a : List Int) (h0_ : a.length ≤ 17592186044416) : RO Try.prog 76 [.one (.ints .u8 a)] [(false, [.own 5 (.ints .u8 a)])] := by
 refine RO.intro Try.func76 rfl 6 rfl (le_ok rfl) fun w Z => ?_
 refine T.bnd 0 0 rfl rfl fun hb_0_0 => ?_
 simp only [D.size, List.length_map] at hb_0_0
 refine T.seq ?_
 refine T.region ?_
 refine TL.as (.one (.nil)) ?_
 refine TL.nil ?_
 refine T.seq ?_
 refine T.region ?_
 refine TL.c (Step.lit (e := 5) (z := 1) (by_ := 1) (xs := []) (pss := []) (es := []) (ss := []) (d := (.ints .u8 [])) rfl rfl (lt_ok rfl) (by kernel_rfl) rfl rfl .nil (by simp) (le_ok rfl) (le_ok rfl) rfl .nil rfl (by simp) (by simp) rfl trivial rfl rfl) ?_
 refine TL.mv (pS a) ?_
 refine TL.c (Step.append (e := 5) (z := 1) (by_ := 1) (d := (.ints .u8 [])) (dy := (.ints .u8 a)) (d' := (.ints .u8 ([] ++ a))) (ss := []) rfl rfl (lt_ok rfl) (by kernel_rfl) rfl rfl rfl (lt_ok rfl) rfl (.froz rfl (by simp [D.flat, D.val])) (by simp) rfl (by simp only [D.size, List.length_map]; first | omega | (simp only [List.length_append, List.length_cons, List.length_nil]; omega) | (simp; omega) | (simp only [List.length_append] at *; omega)) (by simp only [D.size, List.length_map]; first | omega | (simp only [List.length_append, List.length_cons, List.length_nil]; omega) | (simp; omega) | (simp only [List.length_append] at *; omega)) (by simp)) ?_
 refine TL.as (.one (.row 3 [])) ?_
 refine TL.nil ?_
 refine T.ret ?_
 refine ⟨[(false, [.row 3 []])], (.cons rfl .nil), rfl, [3], (RetC.o ?_ .nil)⟩ <;> (rfl)
theorem ok_impl_GetRaw (b : List Int) (a : Int) (n : Int) (h0_ : b.length ≤ 1099511627776) : RO Try.prog 181 [.one (.ints .u8 b), .one (.int .i64 a), .one (.int .i64 n)] [(false, [.own 5 (.ints .u8 (getRaw b a n).1)]), (false, [.rd (.int .i64 (getRaw b a n).2.1)]), (false, [.rd (.int .i64 (getRaw b a n).2.2)])] := by
 refine RO.intro Try.func181 rfl 33 rfl (le_ok rfl) fun w Z => ?_
 refine T.bnd 0 0 rfl rfl fun hb_0_0 => ?_
 simp only [D.size, List.length_map] at hb_0_0
 refine T.seq ?_
 refine T.region ?_
 refine TL.as (.one (.nil)) ?_
 refine TL.as (pI 0) ?_
 refine TL.as (pI 0) ?_
 refine TL.nil ?_
 refine T.seq ?_
 refine T.seq ?_
 refine T.region ?_
 refine TL.mv (pI a) ?_
 refine TL.mv (pS b) ?_
 refine TL.c (Step.len (e := 5) (z := 1) (d := (.ints .u8 b)) rfl rfl (lt_ok rfl) (by kernel_rfl) rfl rfl) ?_
 refine TL.c (Step.cl (xs := [.tmp 9, .const (.int .i64 0), .tmp 11]) (ps := [(pI a), (pI 0), (pI (b.length : Int))]) (g := .func 117) false (.cons (.one (.d _)) (.cons (.one (.d _)) (.cons (.one (.d _)) .nil))) (ok_impl_within a 0 (b.length : Int))) ?_
 refine TL.c (Step.not (b := (decide (0 ≤ a ∧ a ≤ (b.length : Int)))) rfl rfl (lt_ok rfl) rfl) ?_
 refine TL.mv (pB (!(decide (0 ≤ a ∧ a ≤ (b.length : Int))))) ?_
 rcases Bool.eq_false_or_eq_true (!(decide (0 ≤ a ∧ a ≤ (b.length : Int)))) with hb1 | hb1
 ·
  refine TL.known 14 hb1 rfl ?_
  have hb1' := hb1
  replace hb1' : (decide (0 ≤ a ∧ a ≤ (b.length : Int))) = false := by simpa only [Bool.not_eq_true', Bool.not_eq_false'] using hb1'
  replace hb1' := of_decide_eq_false hb1'
  refine TL.gf 14 ?_
  refine TL.gf 14 ?_
  refine TL.gf 14 ?_
  refine TL.gf 14 ?_
  refine TL.gf 14 ?_
  refine TL.gf 14 ?_
  refine TL.gf 14 ?_
  refine TL.pk true (pB true) ?_
  refine TL.nil ?_
  refine T.ct ?_
  refine T.seq ?_
  refine T.region ?_
  refine TL.as (.one (.nil)) ?_
  refine TL.as (pI 0) ?_
  refine TL.as (pI 1) ?_
  refine TL.nil ?_
  refine T.ret ?_
  refine ⟨[(false, [.nil]), (false, [cI 0]), (false, [cI 1])], (.cons rfl (.cons rfl (.cons rfl .nil))), rfl, [], (RetC.nn ?_ (RetC.r ?_ (RetC.r ?_ .nil)))⟩ <;> (first | (congr 1; unfold getRaw; first | (rw [if_pos (by omega)]; done) | (rw [if_neg (by omega)]; done)) | (simp only [D.size]; unfold getRaw; rw [if_neg (by omega)]; rfl))
 refine TL.known 14 hb1 rfl ?_
 have hb1' := hb1
 replace hb1' : (decide (0 ≤ a ∧ a ≤ (b.length : Int))) = true := by simpa only [Bool.not_eq_true', Bool.not_eq_false'] using hb1'
 replace hb1' := of_decide_eq_true hb1'
 refine TL.gm 14 (pI n) ?_
 refine TL.gm 14 (pS b) ?_
 refine TL.gy 14 (Step.len (e := 5) (z := 1) (d := (.ints .u8 b)) rfl rfl (lt_ok rfl) (by kernel_rfl) rfl rfl) ?_
 refine TL.gm 14 (pI a) ?_
 refine TL.gy 14 (Step.bin (r := .int .i64 ((b.length : Int) - a)) rfl rfl (lt_ok rfl) rfl rfl (Bin.sub (a := (b.length : Int)) (b := a) (by first | exact wrap_ok (by first | omega | (simp only [List.length_take, List.length_drop]; omega) | (simp; omega)) (by first | omega | (simp only [List.length_take, List.length_drop]; omega) | (simp; omega)) | rfl))) ?_
 refine TL.gy 14 (Step.cl (xs := [.tmp 15, .const (.int .i64 0), .tmp 19]) (ps := [(pI n), (pI 0), (pI ((b.length : Int) - a))]) (g := .func 117) false (.cons (.one (.d _)) (.cons (.one (.d _)) (.cons (.one (.d _)) .nil))) (ok_impl_within n 0 ((b.length : Int) - a))) ?_
 refine TL.gy 14 (Step.not (b := (decide (0 ≤ n ∧ n ≤ ((b.length : Int) - a)))) rfl rfl (lt_ok rfl) rfl) ?_
 refine TL.pk false (pB (!(decide (0 ≤ n ∧ n ≤ ((b.length : Int) - a))))) ?_
 refine TL.nil ?_
 refine T.cni rfl (fun h2 => ?_) (fun h2 => ?_)
 ·
  refine T.seq ?_
  refine T.region ?_
  refine TL.as (.one (.nil)) ?_
  refine TL.as (pI 0) ?_
  refine TL.as (pI 1) ?_
  refine TL.nil ?_
  refine T.ret ?_
  refine ⟨[(false, [.nil]), (false, [cI 0]), (false, [cI 1])], (.cons rfl (.cons rfl (.cons rfl .nil))), rfl, [], (RetC.nn ?_ (RetC.r ?_ (RetC.r ?_ .nil)))⟩ <;> (first | (congr 1; unfold getRaw; first | (rw [if_pos (by omega)]; done) | (rw [if_neg (by omega)]; done)) | (simp only [D.size]; unfold getRaw; rw [if_neg (by omega)]; rfl))
 refine T.skip ?_
 refine T.seq ?_
 refine T.region ?_
 refine TL.mv (pS b) ?_
 refine TL.mv (pI a) ?_
 refine TL.mv (pI a) ?_
 refine TL.mv (pI n) ?_
 refine TL.c (Step.bin (r := .int .i64 (a + n)) rfl rfl (lt_ok rfl) rfl rfl (Bin.add (a := a) (b := n) (by first | exact wrap_ok (by first | omega | (simp only [List.length_take, List.length_drop]; omega) | (simp; omega)) (by first | omega | (simp only [List.length_take, List.length_drop]; omega) | (simp; omega)) | rfl))) ?_
 refine TL.c (Step.slice (e := 5) (z := 1) (l := (a).toNat) (h := (a + n).toNat) rfl rfl (lt_ok rfl) (by kernel_rfl) rfl rfl rfl ((.some (i := a) rfl (by first | omega | (simp only [List.length_take, List.length_drop]; omega) | (simp; omega)))) ((.some (i := (a + n)) rfl (by first | omega | (simp only [List.length_take, List.length_drop]; omega) | (simp; omega)))) (by first | omega | (simp only [List.length_take, List.length_drop]; omega) | (simp; omega)) (by simp only [D.size]; first | omega | (simp only [List.length_take, List.length_drop]; omega) | (simp; omega)) rfl) ?_
 refine TL.c (Step.cl (xs := [.tmp 28]) (ps := [(pS ((b.drop (a).toNat).take ((a + n).toNat - (a).toNat)))]) (g := .func 76) false (.cons (.one (.d _)) .nil) (ok_impl_copyBytes ((b.drop (a).toNat).take ((a + n).toNat - (a).toNat)) (by first | omega | assumption | (simp only [List.length_take, List.length_drop]; omega)))) ?_
 refine TL.mv (pI a) ?_
 refine TL.mv (pI n) ?_
 refine TL.c (Step.bin (r := .int .i64 (a + n)) rfl rfl (lt_ok rfl) rfl rfl (Bin.add (a := a) (b := n) (by first | exact wrap_ok (by first | omega | (simp only [List.length_take, List.length_drop]; omega) | (simp; omega)) (by first | omega | (simp only [List.length_take, List.length_drop]; omega) | (simp; omega)) | rfl))) ?_
 refine TL.as (.one (.row 1029 [])) ?_
 refine TL.as (pI (a + n)) ?_
 refine TL.as (pI 0) ?_
 refine TL.nil ?_
 refine T.ret ?_
 refine ⟨[(false, [.row 1029 []]), (false, [cI (a + n)]), (false, [cI 0])], (.cons rfl (.cons rfl (.cons rfl .nil))), rfl, [1029], (RetC.o ?_ (RetC.r ?_ (RetC.r ?_ .nil)))⟩ <;> (first | (congr 1; unfold getRaw; first | (rw [if_pos (by omega)]; done) | (rw [if_neg (by omega)]; done)) | (simp only [D.size]; unfold getRaw; rw [if_neg (by omega)]; rfl))
theorem ok_impl_reader__raw (b : List Int) (s : SRS) (n : Int) (h0_ : U8s b) (h1_ : b.length ≤ 1048576) : BX Try.prog 180 [.bx, .rd (.one (.int .i64 n))] 144 [.rd (.ints .u8 b), .rd (.int .i64 s.f0), .rd (.int .i64 s.f1)] [.rd (.ints .u8 b), .rd (.int .i64 (rdRaw b s n).1.f0), .rd (.int .i64 (rdRaw b s n).1.f1)] [(false, [.own 5 (.ints .u8 (rdRaw b s n).2)])] := by
 refine BX.intro Try.func180 rfl 36 rfl (le_ok rfl) (le_ok rfl) fun w Z IX pin hp => ?_
 refine T.seq ?_
 refine T.region ?_
 refine TL.as (.one (.nil)) ?_
 refine TL.nil ?_
 refine T.seq ?_
 refine T.seq ?_
 refine T.region ?_
 refine TL.mv (.one (.ptr 800 0)) ?_
 refine TL.c (Step.nilCheck rfl rfl (lt_ok rfl) rfl) ?_
 refine TL.c (Step.fd 2 1 true) ?_
 refine TL.c (Step.lb (.d (.int .i64 s.f1))) ?_
 refine TL.b _ (Bin.neq (k := .i64) (a := s.f1) (b := 0)) ?_
 refine TL.nil ?_
 refine T.ci rfl (fun h1 => ?_) (fun h1 => ?_)
 ·
  refine T.seq ?_
  refine T.region ?_
  refine TL.as (.one (.nil)) ?_
  refine TL.nil ?_
  refine T.ret ?_
  refine ⟨[cS b, cI s.f0, cI s.f1], [(false, [.nil])], rfl, rfl, (.cons rfl .nil), rfl, [], (RetC.r rfl (RetC.r ?_ (RetC.r ?_ (RetC.nn ?_ .nil))))⟩ <;> (first | rfl | (congr 1; unfold rdRaw; first | (rw [if_pos (by omega)]; done) | (rw [if_neg (by omega)]; done)) | (simp only [D.size]; unfold rdRaw; rw [if_neg (by omega)]; rfl))
 refine T.skip ?_
 refine T.seq ?_
 have nn2 := getRaw_bd b s.f0 n
 refine T.draw [⟨14, (.one (.ptr 800 0)), []⟩, ⟨15, (.one (.ptr 800 0)), []⟩, ⟨16, (.one (.ptr 800 0)), []⟩, ⟨17, (pS b), []⟩, ⟨18, (.one (.ptr 800 0)), []⟩, ⟨19, (.one (.ptr 800 0)), []⟩, ⟨20, (.one (.ptr 800 1)), []⟩, ⟨21, (pI s.f0), []⟩, ⟨22, (pI n), []⟩, ⟨23, (.tup [(false, [.row 1023 []]), (false, [cI (getRaw b s.f0 n).2.1]), (false, [cI (getRaw b s.f0 n).2.2])]), [(1023, (5, (.ints .u8 (getRaw b s.f0 n).1)))]⟩, ⟨13, (.tup [(false, [.row 1023 []]), (false, [cI (getRaw b s.f0 n).2.1]), (false, [cI (getRaw b s.f0 n).2.2])]), []⟩, ⟨24, (.one (.row 1023 [])), []⟩, ⟨25, (pI (getRaw b s.f0 n).2.1), []⟩, ⟨26, (pI (getRaw b s.f0 n).2.2), []⟩, ⟨5, (.one (.row 1023 [])), []⟩, ⟨6, (pI (getRaw b s.f0 n).2.1), []⟩, ⟨7, (pI (getRaw b s.f0 n).2.2), []⟩] (by kernel_rfl) (by kernel_rfl) ?_ ?_
 ·
  refine .cons (fun E A => A.mv 0 14) ?_
  refine .cons (fun E A => OpStep.plain rfl (Step.nilCheck (t := 15) rfl rfl (by exact lt_ok rfl) (A.g 14 rfl))) ?_
  refine .cons (fun E A => OpStep.plain rfl (Step.fa (off := 0) (n := 1) (one := true) 0 16 (A.g 15 rfl))) ?_
  refine .cons (fun E A => OpStep.plain rfl (Step.load_box (c := cS b) (t := 17) rfl rfl (by exact lt_ok rfl) (by kernel_rfl) (A.g 16 rfl) (by exact A.box rfl) rfl)) ?_
  refine .cons (fun E A => A.mv 0 18) ?_
  refine .cons (fun E A => OpStep.plain rfl (Step.nilCheck (t := 19) rfl rfl (by exact lt_ok rfl) (A.g 18 rfl))) ?_
  refine .cons (fun E A => OpStep.plain rfl (Step.fa (off := 1) (n := 1) (one := true) 0 20 (A.g 19 rfl))) ?_
  refine .cons (fun E A => OpStep.plain rfl (Step.load_box (c := cI s.f0) (t := 21) rfl rfl (by exact lt_ok rfl) (by kernel_rfl) (A.g 20 rfl) (by exact A.box rfl) rfl)) ?_
  refine .cons (fun E A => A.mv 1 22) ?_
  refine .cons (fun E A => OpStep.plain rfl (Step.call (f := 181) (xs := [.tmp 17, .tmp 21, .tmp 22]) (ps := [(pS b), (pI s.f0), (pI n)]) false (g := .func 181) (t := 23) rfl rfl (by exact lt_ok rfl) rfl (by kernel_rfl) (evs_cons (A.g 17 rfl) (evs_cons (A.g 21 rfl) (evs_cons (A.g 22 rfl) (rfl)))) (.cons (.one (.d _)) (.cons (.one (.d _)) (.cons (.one (.d _)) .nil))) (ok_impl_GetRaw b s.f0 n (by first | omega | assumption | (simp only [List.length_append] at *; omega))) (.inr rfl) (At.freshRows A rfl) (fun x hx => by have := hp x hx; omega) rfl)) ?_
  refine .cons (fun E A => A.mv 23 13) ?_
  refine .cons (fun E A => OpStep.plain rfl (Step.extract (p := (.one (.row 1023 []))) (t := 24) rfl rfl (by exact lt_ok rfl) (A.g 13 rfl) rfl)) ?_
  refine .cons (fun E A => OpStep.plain rfl (Step.extract (p := (pI (getRaw b s.f0 n).2.1)) (t := 25) rfl rfl (by exact lt_ok rfl) (A.g 13 rfl) rfl)) ?_
  refine .cons (fun E A => OpStep.plain rfl (Step.extract (p := (pI (getRaw b s.f0 n).2.2)) (t := 26) rfl rfl (by exact lt_ok rfl) (A.g 13 rfl) rfl)) ?_
  refine .cons (fun E A => A.as 24 5) ?_
  refine .cons (fun E A => A.as 25 6) ?_
  refine .cons (fun E A => A.as 26 7) ?_
  exact .nil _ _
 refine TL.nil ?_
 refine T.seq ?_
 refine T.region ?_
 refine TL.mv (.one (.ptr 800 0)) ?_
 refine TL.mv (.one (.ptr 800 0)) ?_
 refine TL.mv (pI (getRaw b s.f0 n).2.1) ?_
 refine TL.mv (pI (getRaw b s.f0 n).2.2) ?_
 refine TL.c (Step.nilCheck rfl rfl (lt_ok rfl) rfl) ?_
 refine TL.c (Step.fd 1 1 true) ?_
 refine TL.c (Step.sb 1 [cS b, cI (getRaw b s.f0 n).2.1, cI s.f1]) ?_
 refine TL.c (Step.nilCheck rfl rfl (lt_ok rfl) rfl) ?_
 refine TL.c (Step.fd 2 1 true) ?_
 refine TL.c (Step.sb 1 [cS b, cI (getRaw b s.f0 n).2.1, cI (getRaw b s.f0 n).2.2]) ?_
 refine TL.nil ?_
 refine T.seq ?_
 refine T.region ?_
 refine TL.mv (.one (.row 1023 [])) ?_
 refine TL.as (.one (.row 1023 [])) ?_
 refine TL.nil ?_
 refine T.ret ?_
 refine ⟨[cS b, cI (getRaw b s.f0 n).2.1, cI (getRaw b s.f0 n).2.2], [(false, [.row 1023 []])], rfl, rfl, (.cons rfl .nil), rfl, [1023], (RetC.r rfl (RetC.r ?_ (RetC.r ?_ (RetC.o ?_ .nil))))⟩ <;> (first | rfl | (congr 1; unfold rdRaw; first | (rw [if_pos (by omega)]; done) | (rw [if_neg (by omega)]; done)) | (simp only [D.size]; unfold rdRaw; rw [if_neg (by omega)]; rfl))
theorem ok_impl_reader__hash (b : List Int) (s : SRS) (h0_ : U8s b) (h1_ : b.length ≤ 1048576) : BX Try.prog 137 [.bx] 144 [.rd (.ints .u8 b), .rd (.int .i64 s.f0), .rd (.int .i64 s.f1)] [.rd (.ints .u8 b), .rd (.int .i64 (rdRaw b s 32).1.f0), .rd (.int .i64 (rdRaw b s 32).1.f1)] [(false, [.own 5 (.ints .u8 (rdRaw b s 32).2)])] := by
 refine BX.intro Try.func137 rfl 5 rfl (le_ok rfl) (le_ok rfl) fun w Z IX pin hp => ?_
 refine T.seq ?_
 refine T.region ?_
 refine TL.as (.one (.nil)) ?_
 refine TL.nil ?_
 refine T.seq ?_
 refine T.region ?_
 refine TL.mv (.one (.ptr 800 0)) ?_
 have nn1 := rdRaw_len b s 32
 refine TL.c (Step.callX2 (b := 800) (xs := [.tmp 3, .const (.int .i64 32)]) (ps := [(.one (.ptr 800 0)), (pI 32)]) (bps := [cS b, cI s.f0, cI s.f1]) (ss := []) (g := .func 180) (ok_impl_reader__raw b s 32 (by assumption) (by first | omega | assumption | (simp only [List.length_append] at *; omega))) rfl rfl (lt_ok rfl) rfl (by kernel_rfl) rfl (.cons (.bx) (.cons (.rd (.one (.d _))) .nil)) rfl (.rd (.rd (.rd .nil))) rfl rfl (fun x hx => by have := hp x hx; omega) rfl) ?_
 refine TL.as (.one (.row 4004 [])) ?_
 refine TL.nil ?_
 refine T.ret ?_
 refine ⟨[cS b, cI (rdRaw b s 32).1.f0, cI (rdRaw b s 32).1.f1], [(false, [.row 4004 []])], rfl, rfl, (.cons rfl .nil), rfl, [4004], (RetC.r rfl (RetC.r rfl (RetC.r rfl (RetC.o ?_ .nil))))⟩ <;> (rfl)
end Go.Proofs.Ytlcmflenbddliaa.Rf
