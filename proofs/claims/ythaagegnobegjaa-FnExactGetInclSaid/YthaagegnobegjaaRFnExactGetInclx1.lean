/- The functions that FnExactGetIncl calls, each held to what it answers. Printed by a program of this session; Lean checks it. -/
import Derived.Test.YthaagegnobegjaaProg
import Derived.Test.YthaagegnobegjaaRf29
import Derived.Test.YthaagegnobegjaaRFnExactGetInclx0
namespace Go.Proofs.Ythaagegnobegjaa.Rf
open Go.RowKit
set_option linter.unusedVariables false
set_option linter.unnecessarySimpa false
set_option linter.unusedSimpArgs false
set_option maxRecDepth 100000
set_option maxHeartbeats 4000000
theorem ok_spec_l16GetIncl (b : List Int) (s : SRS) (l : SLimits) (h0_ : U8s b) (h1_ : b.length ≤ 1048576) : BX Try.prog 130 [.bx, .rd (.agg [(.int .i64 l.f0), (.int .i64 l.f1), (.int .i64 l.f2), (.int .i64 l.f3), (.int .i64 l.f4)])] 150 [.rd (.ints .u8 b), .rd (.int .i64 s.f0), .rd (.int .i64 s.f1)] [.rd (.ints .u8 b), .rd (.int .i64 (rdInclS l b s).1.f0), .rd (.int .i64 (rdInclS l b s).1.f1)] [(true, [.rd (.int .i64 (rdInclS l b s).2.f0), .rd (.int .i64 (rdInclS l b s).2.f1), .rd (.int .i64 (rdInclS l b s).2.f2), .own 5 (.ints .u8 (rdInclS l b s).2.f3), .own 22 (.bss (rdInclS l b s).2.f4)])] := by
 refine BX.intro Try.func130 rfl 64 rfl (le_ok rfl) (le_ok rfl) fun w Z IX pin hp => ?_
 have hb1_ := @rdNum_bd b h0_ (rdNum b s).1
 have hp_ := pathLenT_bd (rdI2 l b s).2 (rdNum b (rdNum b s).1).2
 have hp2_ : rdIn l b s = (pathLenT (rdI2 l b s).2 (rdNum b (rdNum b s).1).2).toNat := rfl
 refine T.seq ?_
 refine T.region ?_
 refine TL.cons rfl (Step.box (p := (.agg [.d (.int .i64 l.f0), .d (.int .i64 l.f1), .d (.int .i64 l.f2), .d (.int .i64 l.f3), .d (.int .i64 l.f4)])) (ps := [.d (.int .i64 l.f0), .d (.int .i64 l.f1), .d (.int .i64 l.f2), .d (.int .i64 l.f3), .d (.int .i64 l.f4)]) rfl rfl (lt_ok rfl) rfl rfl rfl rfl rfl) ?_
 refine TL.cons rfl (Step.alloc (cs := [.int .i64 0, .int .i64 0, .int .i64 0, .slice none 0 0, .slice none 0 0]) (ps := [.d (.int .i64 0), .d (.int .i64 0), .d (.int .i64 0), .nil, .nil]) rfl rfl (lt_ok rfl) (by kernel_rfl) rfl rfl rfl rfl) ?_
 refine TL.nil ?_
 refine T.seq ?_
 refine T.region ?_
 refine TL.cons rfl (Step.move (p := (.one (.ptr 800 0))) rfl rfl (lt_ok rfl) rfl) ?_
 have nn1 := @rdNum_bd b (by assumption) s
 refine TL.cons rfl (Step.callX (f := 121) (b := 800) (T := 150) (xs := [.tmp 7]) (ps := [(.one (.ptr 800 0))]) (args := [.bx]) (bps := [.d (.ints .u8 b), .d (.int .i64 s.f0), .d (.int .i64 s.f1)]) (cs := [.rd (.ints .u8 b), .rd (.int .i64 s.f0), .rd (.int .i64 s.f1)]) (cs' := [.rd (.ints .u8 b), .rd (.int .i64 (rdNum b s).1.f0), .rd (.int .i64 (rdNum b s).1.f1)]) (res := [(false, [.rd (.int .i64 (rdNum b s).2)])]) (ss := []) (g := .func 121) rfl rfl (lt_ok rfl) rfl (by kernel_rfl) rfl (.cons (.bx) .nil) rfl (.rd (.rd (.rd .nil))) (ok_spec_l11Var b s (by assumption) (by first | omega | assumption | (simp only [List.length_append] at *; omega))) rfl rfl (fun x hx => by have := hp x hx; omega) rfl) ?_
 refine TL.cons rfl (Step.build (zs := [.int .i64 0, .int .i64 0, .int .i64 0, .slice none 0 0, .slice none 0 0]) (places := [(0, 1), (1, 1), (2, 1), (3, 1), (4, 1)]) (pss := [(0, [.d (.int .i64 (rdNum b s).2)])]) (ps' := [.d (.int .i64 (rdNum b s).2), .d (.int .i64 0), .d (.int .i64 0), .nil, .nil]) rfl rfl (lt_ok rfl) (by kernel_rfl) (.cons ⟨rfl, rfl⟩ .nil) rfl rfl rfl) ?_
 refine TL.cons rfl (Step.alloc (cs := [.int .i64 0, .int .i64 0, .int .i64 0, .slice none 0 0, .slice none 0 0]) (ps := [.d (.int .i64 0), .d (.int .i64 0), .d (.int .i64 0), .nil, .nil]) rfl rfl (lt_ok rfl) (by kernel_rfl) rfl rfl rfl rfl) ?_
 refine TL.cons rfl (Step.store_box (n := 5) (p := (.agg [.d (.int .i64 (rdNum b s).2), .d (.int .i64 0), .d (.int .i64 0), .nil, .nil])) (qs := [.d (.int .i64 (rdNum b s).2), .d (.int .i64 0), .d (.int .i64 0), .nil, .nil]) (ps' := [.d (.int .i64 (rdNum b s).2), .d (.int .i64 0), .d (.int .i64 0), .nil, .nil]) rfl rfl (by kernel_rfl) rfl rfl rfl rfl rfl rfl (le_ok rfl) rfl) ?_
 refine TL.nil ?_
 refine T.seq ?_
 refine T.region ?_
 refine TL.cons rfl (Step.move (p := (.one (.ptr 800 0))) rfl rfl (lt_ok rfl) rfl) ?_
 have nn2 := @rdNum_bd b (by assumption) (rdNum b s).1
 refine TL.cons rfl (Step.callX (f := 121) (b := 800) (T := 150) (xs := [.tmp 10]) (ps := [(.one (.ptr 800 0))]) (args := [.bx]) (bps := [.d (.ints .u8 b), .d (.int .i64 (rdNum b s).1.f0), .d (.int .i64 (rdNum b s).1.f1)]) (cs := [.rd (.ints .u8 b), .rd (.int .i64 (rdNum b s).1.f0), .rd (.int .i64 (rdNum b s).1.f1)]) (cs' := [.rd (.ints .u8 b), .rd (.int .i64 (rdNum b (rdNum b s).1).1.f0), .rd (.int .i64 (rdNum b (rdNum b s).1).1.f1)]) (res := [(false, [.rd (.int .i64 (rdNum b (rdNum b s).1).2)])]) (ss := []) (g := .func 121) rfl rfl (lt_ok rfl) rfl (by kernel_rfl) rfl (.cons (.bx) .nil) rfl (.rd (.rd (.rd .nil))) (ok_spec_l11Var b (rdNum b s).1 (by assumption) (by first | omega | assumption | (simp only [List.length_append] at *; omega))) rfl rfl (fun x hx => by have := hp x hx; omega) rfl) ?_
 refine TL.cons rfl (Step.fieldAddr (q := 0) (off := 1) (n := 1) (one := true) rfl rfl (lt_ok rfl) (by kernel_rfl) (Nat.succ_ne_zero _) rfl) ?_
 refine TL.cons rfl (Step.store_box (n := 1) (p := (.one (.d (.int .i64 (rdNum b (rdNum b s).1).2)))) (qs := [.d (.int .i64 (rdNum b (rdNum b s).1).2)]) (ps' := [.d (.int .i64 (rdNum b s).2), .d (.int .i64 (rdNum b (rdNum b s).1).2), .d (.int .i64 0), .nil, .nil]) rfl rfl (by kernel_rfl) rfl rfl rfl rfl rfl rfl (le_ok rfl) rfl) ?_
 refine TL.nil ?_
 refine T.seq ?_
 refine T.region ?_
 refine TL.cons rfl (Step.move (p := (.one (.ptr 800 0))) rfl rfl (lt_ok rfl) rfl) ?_
 refine TL.cons rfl (Step.fieldAddr (q := 0) (off := 1) (n := 1) (one := true) rfl rfl (lt_ok rfl) (by kernel_rfl) (Nat.succ_ne_zero _) rfl) ?_
 refine TL.cons rfl (Step.load_box (c := .d (.int .i64 (rdNum b (rdNum b s).1).2)) rfl rfl (lt_ok rfl) (by kernel_rfl) rfl rfl rfl) ?_
 refine TL.cons rfl (Step.bin rfl rfl (lt_ok rfl) rfl rfl (Bin.eql (k := .i64) (a := (rdNum b (rdNum b s).1).2) (b := 0))) ?_
 refine TL.cons rfl (Step.callX (f := 123) (b := 800) (T := 150) (xs := [.tmp 13, .tmp 16, .const (.int .i64 5)]) (ps := [(.one (.ptr 800 0)), (.one (.d (.bool (decide ((rdNum b (rdNum b s).1).2 = 0))))), (.one (.d (.int .i64 5)))]) (args := [.bx, .rd (.one (.bool (decide ((rdNum b (rdNum b s).1).2 = 0)))), .rd (.one (.int .i64 5))]) (bps := [.d (.ints .u8 b), .d (.int .i64 (rdNum b (rdNum b s).1).1.f0), .d (.int .i64 (rdNum b (rdNum b s).1).1.f1)]) (cs := [.rd (.ints .u8 b), .rd (.int .i64 (rdNum b (rdNum b s).1).1.f0), .rd (.int .i64 (rdNum b (rdNum b s).1).1.f1)]) (cs' := [.rd (.ints .u8 b), .rd (.int .i64 (rdMust (rdNum b (rdNum b s).1).1 (decide (0 < (rdNum b (rdNum b s).1).2)) 5).f0), .rd (.int .i64 (rdMust (rdNum b (rdNum b s).1).1 (decide (0 < (rdNum b (rdNum b s).1).2)) 5).f1)]) (res := []) (ss := []) (g := .func 123) rfl rfl (lt_ok rfl) rfl (by kernel_rfl) rfl (.cons (.bx) (.cons (.rd (.one (.d _))) (.cons (.rd (.one (.d _))) .nil))) rfl (.rd (.rd (.rd .nil))) (ok_spec_l11Fail (decide (0 < (rdNum b (rdNum b s).1).2)) b (rdNum b (rdNum b s).1).1 (decide ((rdNum b (rdNum b s).1).2 = 0)) 5 (by assumption) (by first | omega | assumption | (simp only [List.length_append] at *; omega)) (by first | rfl | (rw [Bool.eq_iff_iff]; simp only [Bool.not_eq_true', Bool.not_eq_false', decide_eq_true_eq, decide_eq_false_iff_not]; omega) | (simp; done))) rfl rfl (fun x hx => by have := hp x hx; omega) rfl) ?_
 refine TL.nil ?_
 refine T.seq ?_
 refine T.region ?_
 refine TL.cons rfl (Step.move (p := (.one (.ptr 800 0))) rfl rfl (lt_ok rfl) rfl) ?_
 refine TL.cons rfl (Step.fieldAddr (q := 0) (off := 1) (n := 1) (one := true) rfl rfl (lt_ok rfl) (by kernel_rfl) (Nat.succ_ne_zero _) rfl) ?_
 refine TL.cons rfl (Step.load_box (c := .d (.int .i64 (rdNum b (rdNum b s).1).2)) rfl rfl (lt_ok rfl) (by kernel_rfl) rfl rfl rfl) ?_
 refine TL.cons rfl (Step.fieldAddr (q := 0) (off := 2) (n := 1) (one := true) rfl rfl (lt_ok rfl) (by kernel_rfl) (Nat.succ_ne_zero _) rfl) ?_
 refine TL.cons rfl (Step.load_box (c := .d (.int .i64 l.f2)) rfl rfl (lt_ok rfl) (by kernel_rfl) rfl rfl rfl) ?_
 refine TL.cons rfl (Step.bin rfl rfl (lt_ok rfl) rfl rfl (Bin.gtr (k := .i64) (a := (rdNum b (rdNum b s).1).2) (b := l.f2))) ?_
 refine TL.cons rfl (Step.callX (f := 123) (b := 800) (T := 150) (xs := [.tmp 18, .tmp 23, .const (.int .i64 3)]) (ps := [(.one (.ptr 800 0)), (.one (.d (.bool (decide (l.f2 < (rdNum b (rdNum b s).1).2))))), (.one (.d (.int .i64 3)))]) (args := [.bx, .rd (.one (.bool (decide (l.f2 < (rdNum b (rdNum b s).1).2)))), .rd (.one (.int .i64 3))]) (bps := [.d (.ints .u8 b), .d (.int .i64 (rdMust (rdNum b (rdNum b s).1).1 (decide (0 < (rdNum b (rdNum b s).1).2)) 5).f0), .d (.int .i64 (rdMust (rdNum b (rdNum b s).1).1 (decide (0 < (rdNum b (rdNum b s).1).2)) 5).f1)]) (cs := [.rd (.ints .u8 b), .rd (.int .i64 (rdMust (rdNum b (rdNum b s).1).1 (decide (0 < (rdNum b (rdNum b s).1).2)) 5).f0), .rd (.int .i64 (rdMust (rdNum b (rdNum b s).1).1 (decide (0 < (rdNum b (rdNum b s).1).2)) 5).f1)]) (cs' := [.rd (.ints .u8 b), .rd (.int .i64 (rdMust (rdMust (rdNum b (rdNum b s).1).1 (decide (0 < (rdNum b (rdNum b s).1).2)) 5) (decide ((rdNum b (rdNum b s).1).2 ≤ l.f2)) 3).f0), .rd (.int .i64 (rdMust (rdMust (rdNum b (rdNum b s).1).1 (decide (0 < (rdNum b (rdNum b s).1).2)) 5) (decide ((rdNum b (rdNum b s).1).2 ≤ l.f2)) 3).f1)]) (res := []) (ss := []) (g := .func 123) rfl rfl (lt_ok rfl) rfl (by kernel_rfl) rfl (.cons (.bx) (.cons (.rd (.one (.d _))) (.cons (.rd (.one (.d _))) .nil))) rfl (.rd (.rd (.rd .nil))) (ok_spec_l11Fail (decide ((rdNum b (rdNum b s).1).2 ≤ l.f2)) b (rdMust (rdNum b (rdNum b s).1).1 (decide (0 < (rdNum b (rdNum b s).1).2)) 5) (decide (l.f2 < (rdNum b (rdNum b s).1).2)) 3 (by assumption) (by first | omega | assumption | (simp only [List.length_append] at *; omega)) (by first | rfl | (rw [Bool.eq_iff_iff]; simp only [Bool.not_eq_true', Bool.not_eq_false', decide_eq_true_eq, decide_eq_false_iff_not]; omega) | (simp; done))) rfl rfl (fun x hx => by have := hp x hx; omega) rfl) ?_
 refine TL.nil ?_
 refine T.seq ?_
 refine T.region ?_
 refine TL.cons rfl (Step.move (p := (.one (.ptr 800 0))) rfl rfl (lt_ok rfl) rfl) ?_
 have nn3 := @rdNum_bd b (by assumption) (rdMust (rdMust (rdNum b (rdNum b s).1).1 (decide (0 < (rdNum b (rdNum b s).1).2)) 5) (decide ((rdNum b (rdNum b s).1).2 ≤ l.f2)) 3)
 refine TL.cons rfl (Step.callX (f := 121) (b := 800) (T := 150) (xs := [.tmp 25]) (ps := [(.one (.ptr 800 0))]) (args := [.bx]) (bps := [.d (.ints .u8 b), .d (.int .i64 (rdMust (rdMust (rdNum b (rdNum b s).1).1 (decide (0 < (rdNum b (rdNum b s).1).2)) 5) (decide ((rdNum b (rdNum b s).1).2 ≤ l.f2)) 3).f0), .d (.int .i64 (rdMust (rdMust (rdNum b (rdNum b s).1).1 (decide (0 < (rdNum b (rdNum b s).1).2)) 5) (decide ((rdNum b (rdNum b s).1).2 ≤ l.f2)) 3).f1)]) (cs := [.rd (.ints .u8 b), .rd (.int .i64 (rdMust (rdMust (rdNum b (rdNum b s).1).1 (decide (0 < (rdNum b (rdNum b s).1).2)) 5) (decide ((rdNum b (rdNum b s).1).2 ≤ l.f2)) 3).f0), .rd (.int .i64 (rdMust (rdMust (rdNum b (rdNum b s).1).1 (decide (0 < (rdNum b (rdNum b s).1).2)) 5) (decide ((rdNum b (rdNum b s).1).2 ≤ l.f2)) 3).f1)]) (cs' := [.rd (.ints .u8 b), .rd (.int .i64 (rdNum b (rdMust (rdMust (rdNum b (rdNum b s).1).1 (decide (0 < (rdNum b (rdNum b s).1).2)) 5) (decide ((rdNum b (rdNum b s).1).2 ≤ l.f2)) 3)).1.f0), .rd (.int .i64 (rdNum b (rdMust (rdMust (rdNum b (rdNum b s).1).1 (decide (0 < (rdNum b (rdNum b s).1).2)) 5) (decide ((rdNum b (rdNum b s).1).2 ≤ l.f2)) 3)).1.f1)]) (res := [(false, [.rd (.int .i64 (rdNum b (rdMust (rdMust (rdNum b (rdNum b s).1).1 (decide (0 < (rdNum b (rdNum b s).1).2)) 5) (decide ((rdNum b (rdNum b s).1).2 ≤ l.f2)) 3)).2)])]) (ss := []) (g := .func 121) rfl rfl (lt_ok rfl) rfl (by kernel_rfl) rfl (.cons (.bx) .nil) rfl (.rd (.rd (.rd .nil))) (ok_spec_l11Var b (rdMust (rdMust (rdNum b (rdNum b s).1).1 (decide (0 < (rdNum b (rdNum b s).1).2)) 5) (decide ((rdNum b (rdNum b s).1).2 ≤ l.f2)) 3) (by assumption) (by first | omega | assumption | (simp only [List.length_append] at *; omega))) rfl rfl (fun x hx => by have := hp x hx; omega) rfl) ?_
 refine TL.cons rfl (Step.fieldAddr (q := 0) (off := 2) (n := 1) (one := true) rfl rfl (lt_ok rfl) (by kernel_rfl) (Nat.succ_ne_zero _) rfl) ?_
 refine TL.cons rfl (Step.store_box (n := 1) (p := (.one (.d (.int .i64 (rdNum b (rdMust (rdMust (rdNum b (rdNum b s).1).1 (decide (0 < (rdNum b (rdNum b s).1).2)) 5) (decide ((rdNum b (rdNum b s).1).2 ≤ l.f2)) 3)).2)))) (qs := [.d (.int .i64 (rdNum b (rdMust (rdMust (rdNum b (rdNum b s).1).1 (decide (0 < (rdNum b (rdNum b s).1).2)) 5) (decide ((rdNum b (rdNum b s).1).2 ≤ l.f2)) 3)).2)]) (ps' := [.d (.int .i64 (rdNum b s).2), .d (.int .i64 (rdNum b (rdNum b s).1).2), .d (.int .i64 (rdNum b (rdMust (rdMust (rdNum b (rdNum b s).1).1 (decide (0 < (rdNum b (rdNum b s).1).2)) 5) (decide ((rdNum b (rdNum b s).1).2 ≤ l.f2)) 3)).2), .nil, .nil]) rfl rfl (by kernel_rfl) rfl rfl rfl rfl rfl rfl (le_ok rfl) rfl) ?_
 refine TL.nil ?_
 refine T.seq ?_
 refine T.region ?_
 refine TL.cons rfl (Step.move (p := (.one (.ptr 800 0))) rfl rfl (lt_ok rfl) rfl) ?_
 refine TL.cons rfl (Step.fieldAddr (q := 0) (off := 2) (n := 1) (one := true) rfl rfl (lt_ok rfl) (by kernel_rfl) (Nat.succ_ne_zero _) rfl) ?_
 refine TL.cons rfl (Step.load_box (c := .d (.int .i64 (rdNum b (rdMust (rdMust (rdNum b (rdNum b s).1).1 (decide (0 < (rdNum b (rdNum b s).1).2)) 5) (decide ((rdNum b (rdNum b s).1).2 ≤ l.f2)) 3)).2)) rfl rfl (lt_ok rfl) (by kernel_rfl) rfl rfl rfl) ?_
 refine TL.cons rfl (Step.fieldAddr (q := 0) (off := 1) (n := 1) (one := true) rfl rfl (lt_ok rfl) (by kernel_rfl) (Nat.succ_ne_zero _) rfl) ?_
 refine TL.cons rfl (Step.load_box (c := .d (.int .i64 (rdNum b (rdNum b s).1).2)) rfl rfl (lt_ok rfl) (by kernel_rfl) rfl rfl rfl) ?_
 refine TL.cons rfl (Step.bin rfl rfl (lt_ok rfl) rfl rfl (Bin.geq (k := .i64) (a := (rdNum b (rdMust (rdMust (rdNum b (rdNum b s).1).1 (decide (0 < (rdNum b (rdNum b s).1).2)) 5) (decide ((rdNum b (rdNum b s).1).2 ≤ l.f2)) 3)).2) (b := (rdNum b (rdNum b s).1).2))) ?_
 refine TL.cons rfl (Step.callX (f := 123) (b := 800) (T := 150) (xs := [.tmp 28, .tmp 33, .const (.int .i64 5)]) (ps := [(.one (.ptr 800 0)), (.one (.d (.bool (decide ((rdNum b (rdNum b s).1).2 ≤ (rdNum b (rdMust (rdMust (rdNum b (rdNum b s).1).1 (decide (0 < (rdNum b (rdNum b s).1).2)) 5) (decide ((rdNum b (rdNum b s).1).2 ≤ l.f2)) 3)).2))))), (.one (.d (.int .i64 5)))]) (args := [.bx, .rd (.one (.bool (decide ((rdNum b (rdNum b s).1).2 ≤ (rdNum b (rdMust (rdMust (rdNum b (rdNum b s).1).1 (decide (0 < (rdNum b (rdNum b s).1).2)) 5) (decide ((rdNum b (rdNum b s).1).2 ≤ l.f2)) 3)).2)))), .rd (.one (.int .i64 5))]) (bps := [.d (.ints .u8 b), .d (.int .i64 (rdNum b (rdMust (rdMust (rdNum b (rdNum b s).1).1 (decide (0 < (rdNum b (rdNum b s).1).2)) 5) (decide ((rdNum b (rdNum b s).1).2 ≤ l.f2)) 3)).1.f0), .d (.int .i64 (rdNum b (rdMust (rdMust (rdNum b (rdNum b s).1).1 (decide (0 < (rdNum b (rdNum b s).1).2)) 5) (decide ((rdNum b (rdNum b s).1).2 ≤ l.f2)) 3)).1.f1)]) (cs := [.rd (.ints .u8 b), .rd (.int .i64 (rdNum b (rdMust (rdMust (rdNum b (rdNum b s).1).1 (decide (0 < (rdNum b (rdNum b s).1).2)) 5) (decide ((rdNum b (rdNum b s).1).2 ≤ l.f2)) 3)).1.f0), .rd (.int .i64 (rdNum b (rdMust (rdMust (rdNum b (rdNum b s).1).1 (decide (0 < (rdNum b (rdNum b s).1).2)) 5) (decide ((rdNum b (rdNum b s).1).2 ≤ l.f2)) 3)).1.f1)]) (cs' := [.rd (.ints .u8 b), .rd (.int .i64 (rdMust (rdNum b (rdMust (rdMust (rdNum b (rdNum b s).1).1 (decide (0 < (rdNum b (rdNum b s).1).2)) 5) (decide ((rdNum b (rdNum b s).1).2 ≤ l.f2)) 3)).1 (decide ((rdNum b (rdMust (rdMust (rdNum b (rdNum b s).1).1 (decide (0 < (rdNum b (rdNum b s).1).2)) 5) (decide ((rdNum b (rdNum b s).1).2 ≤ l.f2)) 3)).2 < (rdNum b (rdNum b s).1).2)) 5).f0), .rd (.int .i64 (rdMust (rdNum b (rdMust (rdMust (rdNum b (rdNum b s).1).1 (decide (0 < (rdNum b (rdNum b s).1).2)) 5) (decide ((rdNum b (rdNum b s).1).2 ≤ l.f2)) 3)).1 (decide ((rdNum b (rdMust (rdMust (rdNum b (rdNum b s).1).1 (decide (0 < (rdNum b (rdNum b s).1).2)) 5) (decide ((rdNum b (rdNum b s).1).2 ≤ l.f2)) 3)).2 < (rdNum b (rdNum b s).1).2)) 5).f1)]) (res := []) (ss := []) (g := .func 123) rfl rfl (lt_ok rfl) rfl (by kernel_rfl) rfl (.cons (.bx) (.cons (.rd (.one (.d _))) (.cons (.rd (.one (.d _))) .nil))) rfl (.rd (.rd (.rd .nil))) (ok_spec_l11Fail (decide ((rdNum b (rdMust (rdMust (rdNum b (rdNum b s).1).1 (decide (0 < (rdNum b (rdNum b s).1).2)) 5) (decide ((rdNum b (rdNum b s).1).2 ≤ l.f2)) 3)).2 < (rdNum b (rdNum b s).1).2)) b (rdNum b (rdMust (rdMust (rdNum b (rdNum b s).1).1 (decide (0 < (rdNum b (rdNum b s).1).2)) 5) (decide ((rdNum b (rdNum b s).1).2 ≤ l.f2)) 3)).1 (decide ((rdNum b (rdNum b s).1).2 ≤ (rdNum b (rdMust (rdMust (rdNum b (rdNum b s).1).1 (decide (0 < (rdNum b (rdNum b s).1).2)) 5) (decide ((rdNum b (rdNum b s).1).2 ≤ l.f2)) 3)).2)) 5 (by assumption) (by first | omega | assumption | (simp only [List.length_append] at *; omega)) (by first | rfl | (rw [Bool.eq_iff_iff]; simp only [Bool.not_eq_true', Bool.not_eq_false', decide_eq_true_eq, decide_eq_false_iff_not]; omega) | (simp; done))) rfl rfl (fun x hx => by have := hp x hx; omega) rfl) ?_
 refine TL.nil ?_
 refine T.seq ?_
 refine T.region ?_
 refine TL.cons rfl (Step.move (p := (.one (.ptr 800 0))) rfl rfl (lt_ok rfl) rfl) ?_
 refine TL.cons rfl (Step.fieldAddr (q := 0) (off := 1) (n := 1) (one := true) rfl rfl (lt_ok rfl) (by kernel_rfl) (Nat.succ_ne_zero _) rfl) ?_
 refine TL.cons rfl (Step.load_box (c := .d (.int .i64 l.f1)) rfl rfl (lt_ok rfl) (by kernel_rfl) rfl rfl rfl) ?_
 have nn4 := rdText_len b (rdMust (rdNum b (rdMust (rdMust (rdNum b (rdNum b s).1).1 (decide (0 < (rdNum b (rdNum b s).1).2)) 5) (decide ((rdNum b (rdNum b s).1).2 ≤ l.f2)) 3)).1 (decide ((rdNum b (rdMust (rdMust (rdNum b (rdNum b s).1).1 (decide (0 < (rdNum b (rdNum b s).1).2)) 5) (decide ((rdNum b (rdNum b s).1).2 ≤ l.f2)) 3)).2 < (rdNum b (rdNum b s).1).2)) 5) l.f1
 refine TL.cons rfl (Step.callX (f := 171) (b := 800) (T := 150) (xs := [.tmp 35, .tmp 37]) (ps := [(.one (.ptr 800 0)), (.one (.d (.int .i64 l.f1)))]) (args := [.bx, .rd (.one (.int .i64 l.f1))]) (bps := [.d (.ints .u8 b), .d (.int .i64 (rdMust (rdNum b (rdMust (rdMust (rdNum b (rdNum b s).1).1 (decide (0 < (rdNum b (rdNum b s).1).2)) 5) (decide ((rdNum b (rdNum b s).1).2 ≤ l.f2)) 3)).1 (decide ((rdNum b (rdMust (rdMust (rdNum b (rdNum b s).1).1 (decide (0 < (rdNum b (rdNum b s).1).2)) 5) (decide ((rdNum b (rdNum b s).1).2 ≤ l.f2)) 3)).2 < (rdNum b (rdNum b s).1).2)) 5).f0), .d (.int .i64 (rdMust (rdNum b (rdMust (rdMust (rdNum b (rdNum b s).1).1 (decide (0 < (rdNum b (rdNum b s).1).2)) 5) (decide ((rdNum b (rdNum b s).1).2 ≤ l.f2)) 3)).1 (decide ((rdNum b (rdMust (rdMust (rdNum b (rdNum b s).1).1 (decide (0 < (rdNum b (rdNum b s).1).2)) 5) (decide ((rdNum b (rdNum b s).1).2 ≤ l.f2)) 3)).2 < (rdNum b (rdNum b s).1).2)) 5).f1)]) (cs := [.rd (.ints .u8 b), .rd (.int .i64 (rdMust (rdNum b (rdMust (rdMust (rdNum b (rdNum b s).1).1 (decide (0 < (rdNum b (rdNum b s).1).2)) 5) (decide ((rdNum b (rdNum b s).1).2 ≤ l.f2)) 3)).1 (decide ((rdNum b (rdMust (rdMust (rdNum b (rdNum b s).1).1 (decide (0 < (rdNum b (rdNum b s).1).2)) 5) (decide ((rdNum b (rdNum b s).1).2 ≤ l.f2)) 3)).2 < (rdNum b (rdNum b s).1).2)) 5).f0), .rd (.int .i64 (rdMust (rdNum b (rdMust (rdMust (rdNum b (rdNum b s).1).1 (decide (0 < (rdNum b (rdNum b s).1).2)) 5) (decide ((rdNum b (rdNum b s).1).2 ≤ l.f2)) 3)).1 (decide ((rdNum b (rdMust (rdMust (rdNum b (rdNum b s).1).1 (decide (0 < (rdNum b (rdNum b s).1).2)) 5) (decide ((rdNum b (rdNum b s).1).2 ≤ l.f2)) 3)).2 < (rdNum b (rdNum b s).1).2)) 5).f1)]) (cs' := [.rd (.ints .u8 b), .rd (.int .i64 (rdText b (rdMust (rdNum b (rdMust (rdMust (rdNum b (rdNum b s).1).1 (decide (0 < (rdNum b (rdNum b s).1).2)) 5) (decide ((rdNum b (rdNum b s).1).2 ≤ l.f2)) 3)).1 (decide ((rdNum b (rdMust (rdMust (rdNum b (rdNum b s).1).1 (decide (0 < (rdNum b (rdNum b s).1).2)) 5) (decide ((rdNum b (rdNum b s).1).2 ≤ l.f2)) 3)).2 < (rdNum b (rdNum b s).1).2)) 5) l.f1).1.f0), .rd (.int .i64 (rdText b (rdMust (rdNum b (rdMust (rdMust (rdNum b (rdNum b s).1).1 (decide (0 < (rdNum b (rdNum b s).1).2)) 5) (decide ((rdNum b (rdNum b s).1).2 ≤ l.f2)) 3)).1 (decide ((rdNum b (rdMust (rdMust (rdNum b (rdNum b s).1).1 (decide (0 < (rdNum b (rdNum b s).1).2)) 5) (decide ((rdNum b (rdNum b s).1).2 ≤ l.f2)) 3)).2 < (rdNum b (rdNum b s).1).2)) 5) l.f1).1.f1)]) (res := [(false, [.own 5 (.ints .u8 (rdText b (rdMust (rdNum b (rdMust (rdMust (rdNum b (rdNum b s).1).1 (decide (0 < (rdNum b (rdNum b s).1).2)) 5) (decide ((rdNum b (rdNum b s).1).2 ≤ l.f2)) 3)).1 (decide ((rdNum b (rdMust (rdMust (rdNum b (rdNum b s).1).1 (decide (0 < (rdNum b (rdNum b s).1).2)) 5) (decide ((rdNum b (rdNum b s).1).2 ≤ l.f2)) 3)).2 < (rdNum b (rdNum b s).1).2)) 5) l.f1).2)])]) (ss := []) (g := .func 171) rfl rfl (lt_ok rfl) rfl (by kernel_rfl) rfl (.cons (.bx) (.cons (.rd (.one (.d _))) .nil)) rfl (.rd (.rd (.rd .nil))) (ok_spec_l11Text b (rdMust (rdNum b (rdMust (rdMust (rdNum b (rdNum b s).1).1 (decide (0 < (rdNum b (rdNum b s).1).2)) 5) (decide ((rdNum b (rdNum b s).1).2 ≤ l.f2)) 3)).1 (decide ((rdNum b (rdMust (rdMust (rdNum b (rdNum b s).1).1 (decide (0 < (rdNum b (rdNum b s).1).2)) 5) (decide ((rdNum b (rdNum b s).1).2 ≤ l.f2)) 3)).2 < (rdNum b (rdNum b s).1).2)) 5) l.f1 (by assumption) (by first | omega | assumption | (simp only [List.length_append] at *; omega))) rfl rfl (fun x hx => by have := hp x hx; omega) rfl) ?_
 refine TL.cons rfl (Step.fieldAddr (q := 0) (off := 3) (n := 1) (one := true) rfl rfl (lt_ok rfl) (by kernel_rfl) (Nat.succ_ne_zero _) rfl) ?_
 refine TL.cons rfl (Step.store_box (n := 1) (p := (.one (.row 4038 []))) (qs := [.row 4038 []]) (ps' := [.d (.int .i64 (rdNum b s).2), .d (.int .i64 (rdNum b (rdNum b s).1).2), .d (.int .i64 (rdNum b (rdMust (rdMust (rdNum b (rdNum b s).1).1 (decide (0 < (rdNum b (rdNum b s).1).2)) 5) (decide ((rdNum b (rdNum b s).1).2 ≤ l.f2)) 3)).2), .row 4038 [], .nil]) rfl rfl (by kernel_rfl) rfl rfl rfl rfl rfl rfl (le_ok rfl) rfl) ?_
 refine TL.ren 4038 100503 rfl (fun x hx => by have := hp x hx; omega) ?_
 refine TL.nil ?_
 refine T.seq ?_
 refine T.seq ?_
 refine T.region ?_
 refine TL.cons rfl (Step.assign (p := (.one (.d (.int .i64 0)))) rfl rfl (lt_ok rfl) rfl) ?_
 refine TL.nil ?_
 refine T.block ?_
 refine T.nilrow 5 4 100504 22 73 (.bss []) [.d (.int .i64 (rdNum b s).2), .d (.int .i64 (rdNum b (rdNum b s).1).2), .d (.int .i64 (rdNum b (rdMust (rdMust (rdNum b (rdNum b s).1).1 (decide (0 < (rdNum b (rdNum b s).1).2)) 5) (decide ((rdNum b (rdNum b s).1).2 ≤ l.f2)) 3)).2), .row 100503 [], .nil] rfl rfl rfl (fun x hx => by have := hp x hx; omega) rfl rfl trivial ?_
 refine T.loop (ι := Nat × SRS × (List (List Int))) (fun xx_ => { tm := [(0, (.one (.ptr 800 0))), (4, (.one (.ptr 4 0))), (5, (.one (.ptr 5 0))), (6, (.one (.d (.int .i64 ((xx_.1) : Int)))))], rows := [(100503, (5, (.ints .u8 (rdText b (rdMust (rdNum b (rdMust (rdMust (rdNum b (rdNum b s).1).1 (decide (0 < (rdNum b (rdNum b s).1).2)) 5) (decide ((rdNum b (rdNum b s).1).2 ≤ l.f2)) 3)).1 (decide ((rdNum b (rdMust (rdMust (rdNum b (rdNum b s).1).1 (decide (0 < (rdNum b (rdNum b s).1).2)) 5) (decide ((rdNum b (rdNum b s).1).2 ≤ l.f2)) 3)).2 < (rdNum b (rdNum b s).1).2)) 5) l.f1).2))), (100504, (22, (.bss (xx_.2.2))))], boxes := [(800, (150, [.d (.ints .u8 b), .d (.int .i64 (xx_.2.1).f0), .d (.int .i64 (xx_.2.1).f1)])), (3, (44, [.d (.int .i64 l.f0), .d (.int .i64 l.f1), .d (.int .i64 l.f2), .d (.int .i64 l.f3), .d (.int .i64 l.f4)])), (4, (73, [.d (.int .i64 0), .d (.int .i64 0), .d (.int .i64 0), .nil, .nil])), (5, (73, [.d (.int .i64 (rdNum b s).2), .d (.int .i64 (rdNum b (rdNum b s).1).2), .d (.int .i64 (rdNum b (rdMust (rdMust (rdNum b (rdNum b s).1).1 (decide (0 < (rdNum b (rdNum b s).1).2)) 5) (decide ((rdNum b (rdNum b s).1).2 ≤ l.f2)) 3)).2), .row 100503 [], .row 100504 []]))] }) (fun xx_ => (xx_.1) ≤ rdIn l b s ∧ (xx_.2.2).length = (xx_.1) ∧ rdTg b (rdIn l b s - (xx_.1)) (xx_.2.1) (xx_.2.2) = rdTg b (rdIn l b s) (rdI3 l b s).1 []) (fun xx_ => rdIn l b s - (xx_.1)) (0, (rdI3 l b s).1, []) ?_ ?_ ?_
 · exact Env.le_mk ⟨rfl, rfl, rfl, by first | rfl | (refine congrArg (fun n => PV.one (.d (.int .i64 n))) ?_; first | rfl | omega | (simp; done)), trivial⟩ ⟨rfl, by first | rfl | (refine congrArg (fun n => PV.one (.d (.int .i64 n))) ?_; first | rfl | omega | (simp; done)), trivial⟩ ⟨by first | rfl | (refine congrArg (fun n => PV.one (.d (.int .i64 n))) ?_; first | rfl | omega | (simp; done)), rfl, rfl, rfl, trivial⟩
 · (dsimp only; exact ⟨Nat.zero_le _, rfl, rfl⟩)
 ·
  intro xx_ hx
  obtain ⟨i, q, ts⟩ := xx_
  try dsimp only at hx ⊢
  obtain ⟨hx1, hx3, hx4⟩ := hx
  refine T.seq ?_
  refine T.seq ?_
  refine T.region ?_
  refine TL.cons rfl (Step.move (p := (.one (.ptr 800 0))) rfl rfl (lt_ok rfl) rfl) ?_
  refine TL.cons rfl (Step.nilCheck rfl rfl (lt_ok rfl) rfl) ?_
  refine TL.cons rfl (Step.fieldAddr (q := 0) (off := 2) (n := 1) (one := true) rfl rfl (lt_ok rfl) (by kernel_rfl) (Nat.succ_ne_zero _) rfl) ?_
  refine TL.cons rfl (Step.load_box (c := .d (.int .i64 q.f1)) rfl rfl (lt_ok rfl) (by kernel_rfl) rfl rfl rfl) ?_
  refine TL.cons rfl (Step.bin rfl rfl (lt_ok rfl) rfl rfl (Bin.eql (k := .i64) (a := q.f1) (b := 0))) ?_
  refine TL.cons rfl (Step.move (p := (.one (.d (.bool (decide (q.f1 = 0)))))) rfl rfl (lt_ok rfl) rfl) ?_
  rcases Bool.eq_false_or_eq_true (decide (q.f1 = 0)) with hb5 | hb5
  ·
   refine TL.known 45 hb5 rfl ?_
   have hb5' := hb5
   replace hb5' := of_decide_eq_true hb5'
   refine TL.gyes 45 rfl rfl (lt_ok rfl) rfl (Step.move (p := (.one (.d (.int .i64 (i : Int))))) rfl rfl (lt_ok rfl) rfl) ?_
   refine TL.gyes 45 rfl rfl (lt_ok rfl) rfl (Step.fieldAddr (q := 0) (off := 2) (n := 1) (one := true) rfl rfl (lt_ok rfl) (by kernel_rfl) (Nat.succ_ne_zero _) rfl) ?_
   refine TL.gyes 45 rfl rfl (lt_ok rfl) rfl (Step.load_box (c := .d (.int .i64 (rdNum b (rdMust (rdMust (rdNum b (rdNum b s).1).1 (decide (0 < (rdNum b (rdNum b s).1).2)) 5) (decide ((rdNum b (rdNum b s).1).2 ≤ l.f2)) 3)).2)) rfl rfl (lt_ok rfl) (by kernel_rfl) rfl rfl rfl) ?_
   refine TL.gyes 45 rfl rfl (lt_ok rfl) rfl (Step.fieldAddr (q := 0) (off := 1) (n := 1) (one := true) rfl rfl (lt_ok rfl) (by kernel_rfl) (Nat.succ_ne_zero _) rfl) ?_
   refine TL.gyes 45 rfl rfl (lt_ok rfl) rfl (Step.load_box (c := .d (.int .i64 (rdNum b (rdNum b s).1).2)) rfl rfl (lt_ok rfl) (by kernel_rfl) rfl rfl rfl) ?_
   have nn6 := pathLenT_bd ((rdNum b (rdMust (rdMust (rdNum b (rdNum b s).1).1 (decide (0 < (rdNum b (rdNum b s).1).2)) 5) (decide ((rdNum b (rdNum b s).1).2 ≤ l.f2)) 3)).2) ((rdNum b (rdNum b s).1).2)
   refine TL.gyes 45 rfl rfl (lt_ok rfl) rfl (Step.call (f := 161) (xs := [.tmp 48, .tmp 50]) (ps := [(.one (.d (.int .i64 (rdNum b (rdMust (rdMust (rdNum b (rdNum b s).1).1 (decide (0 < (rdNum b (rdNum b s).1).2)) 5) (decide ((rdNum b (rdNum b s).1).2 ≤ l.f2)) 3)).2))), (.one (.d (.int .i64 (rdNum b (rdNum b s).1).2)))]) false (g := .func 161) rfl rfl (lt_ok rfl) rfl (by kernel_rfl) rfl (.cons (.one (.d _)) (.cons (.one (.d _)) .nil)) (ok_spec_PathLen (rdNum b (rdMust (rdMust (rdNum b (rdNum b s).1).1 (decide (0 < (rdNum b (rdNum b s).1).2)) 5) (decide ((rdNum b (rdNum b s).1).2 ≤ l.f2)) 3)).2 (rdNum b (rdNum b s).1).2) (.inr rfl) rfl (fun x hx => by have := hp x hx; omega) rfl) ?_
   refine TL.gyes 45 rfl rfl (lt_ok rfl) rfl (Step.bin rfl rfl (lt_ok rfl) rfl rfl (Bin.lss (k := .i64) (a := (i : Int)) (b := (pathLenT (rdNum b (rdMust (rdMust (rdNum b (rdNum b s).1).1 (decide (0 < (rdNum b (rdNum b s).1).2)) 5) (decide ((rdNum b (rdNum b s).1).2 ≤ l.f2)) 3)).2 (rdNum b (rdNum b s).1).2)))) ?_
   refine TL.cons rfl (Step.pick (b := true) (p := (.one (.d (.bool (decide ((i : Int) < (pathLenT (rdNum b (rdMust (rdMust (rdNum b (rdNum b s).1).1 (decide (0 < (rdNum b (rdNum b s).1).2)) 5) (decide ((rdNum b (rdNum b s).1).2 ≤ l.f2)) 3)).2 (rdNum b (rdNum b s).1).2))))))) rfl rfl (lt_ok rfl) rfl rfl) ?_
   refine TL.nil ?_
   refine T.cond (b := decide ((i : Int) < (pathLenT (rdNum b (rdMust (rdMust (rdNum b (rdNum b s).1).1 (decide (0 < (rdNum b (rdNum b s).1).2)) 5) (decide ((rdNum b (rdNum b s).1).2 ≤ l.f2)) 3)).2 (rdNum b (rdNum b s).1).2))) rfl (fun h7 => ?_) (fun h7 => ?_)
   ·
    replace h7 := of_decide_eq_true h7
    refine T.skip ?_
    refine T.seq ?_
    refine T.block ?_
    have nn8 := rdRaw_len b q 32
    refine T.drawX [{ dst := some 56, pv := (.one (.ptr 5 4)) }, { dst := some 57, pv := (.one (.row 100504 [])) }, { dst := some 58, pv := (.one (.ptr 800 0)) }, { dst := some 59, pv := (.one (.row 4059 [])), rows := [(4059, (5, (.ints .u8 (rdRaw b q 32).2)))], box := some (800, (150, [.d (.ints .u8 b), .d (.int .i64 (rdRaw b q 32).1.f0), .d (.int .i64 (rdRaw b q 32).1.f1)])) }, { dst := some 60, pv := (.one (.row 60 [])), rows := [(60, (22, (.bss [(rdRaw b q 32).2])))], dead := [4059] }, { dst := some 61, pv := (.one (.row 500061 [])), rows := [(500061, (22, (.bss (ts ++ [(rdRaw b q 32).2]))))], dead := [100504, 60] }, { dst := some 62, pv := (.one (.ptr 5 4)) }, { box := some (5, (73, [.d (.int .i64 (rdNum b s).2), .d (.int .i64 (rdNum b (rdNum b s).1).2), .d (.int .i64 (rdNum b (rdMust (rdMust (rdNum b (rdNum b s).1).1 (decide (0 < (rdNum b (rdNum b s).1).2)) 5) (decide ((rdNum b (rdNum b s).1).2 ≤ l.f2)) 3)).2), .row 100503 [], .row 500061 []])) }] (by kernel_rfl) (by kernel_rfl) ?_ ?_
    ·
     refine .cons (fun E hA_ => by have g5 : E.get 5 = (.one (.ptr 5 0)) := (hA_.get 5 (by kernel_rfl)).trans (by kernel_rfl); exact OpStep.plain rfl (Step.fieldAddr (q := 0) (off := 4) (n := 1) (one := true) (t := 56) rfl rfl (by exact lt_ok rfl) (by kernel_rfl) (Nat.succ_ne_zero _) (show Env.ev E (.tmp 5) = _ from g5.trans rfl))) ?_
     refine .cons (fun E hA_ => by have g56 : E.get 56 = (.one (.ptr 5 4)) := (hA_.get 56 (by kernel_rfl)).trans (by kernel_rfl); have b5 : E.box 5 = some (73, [.d (.int .i64 (rdNum b s).2), .d (.int .i64 (rdNum b (rdNum b s).1).2), .d (.int .i64 (rdNum b (rdMust (rdMust (rdNum b (rdNum b s).1).1 (decide (0 < (rdNum b (rdNum b s).1).2)) 5) (decide ((rdNum b (rdNum b s).1).2 ≤ l.f2)) 3)).2), .row 100503 [], .row 100504 []]) := (hA_.box 5 (by kernel_rfl)).trans (by kernel_rfl); exact OpStep.plain rfl (Step.load_box (c := .row 100504 []) (t := 57) rfl rfl (by exact lt_ok rfl) (by kernel_rfl) (show Env.ev E (.tmp 56) = _ from g56.trans rfl) b5 rfl)) ?_
     refine .cons (fun E hA_ => by have g0 : E.get 0 = (.one (.ptr 800 0)) := (hA_.get 0 (by kernel_rfl)).trans (by kernel_rfl); exact OpStep.plain rfl (Step.move (p := (.one (.ptr 800 0))) (t := 58) rfl rfl (by exact lt_ok rfl) (show Env.ev E (.tmp 0) = _ from g0.trans rfl))) ?_
     refine .cons (fun E hA_ => by have g58 : E.get 58 = (.one (.ptr 800 0)) := (hA_.get 58 (by kernel_rfl)).trans (by kernel_rfl); have b800 : E.box 800 = some (150, [.d (.ints .u8 b), .d (.int .i64 q.f0), .d (.int .i64 q.f1)]) := (hA_.box 800 (by kernel_rfl)).trans (by kernel_rfl); exact OpStep.plain rfl (Step.callXX (f := 122) (b := 800) (T := 150) (xs := [.tmp 58]) (ps := [(.one (.ptr 800 0))]) (args := [.bx]) (bps := [.d (.ints .u8 b), .d (.int .i64 q.f0), .d (.int .i64 q.f1)]) (cs := [.rd (.ints .u8 b), .rd (.int .i64 q.f0), .rd (.int .i64 q.f1)]) (cs' := [.rd (.ints .u8 b), .rd (.int .i64 (rdRaw b q 32).1.f0), .rd (.int .i64 (rdRaw b q 32).1.f1)]) (res := [(false, [.own 5 (.ints .u8 (rdRaw b q 32).2)])]) (ss := []) (g := .func 122) (t := 59) rfl rfl (by exact lt_ok rfl) rfl (by kernel_rfl) (evs_cons (show Env.ev E (.tmp 58) = _ from g58.trans rfl) (rfl)) (.cons (.bx) .nil) b800 (.rd (.rd (.rd .nil))) (ok_spec_l11Raw b q (by assumption) (by first | omega | assumption | (simp only [List.length_append] at *; omega))) rfl (handX_fresh (fun x_ hx_ => hA_.fresh x_ (by exact hx_))) (fun x hx => by have := hp x hx; omega) rfl (by simp [rowsOf, rid]))) ?_
     refine .cons (fun E hA_ => by have g59 : E.get 59 = (.one (.row 4059 [])) := (hA_.get 59 (by kernel_rfl)).trans (by kernel_rfl); have q4059 : E.row 4059 = some (5, (.ints .u8 (rdRaw b q 32).2)) := (hA_.row 4059 (by kernel_rfl)).trans (by kernel_rfl); exact OpStep.plain rfl (Step.litX (e := 22) (z := 1) (by_ := 24) (xs := [.tmp 59]) (pss := [[.row 4059 []]]) (es := [(.ints .u8 (rdRaw b q 32).2)]) (ss := [4059]) (d := (.bss [(rdRaw b q 32).2])) (t := 60) rfl rfl (by exact lt_ok rfl) (by kernel_rfl) rfl rfl (.cons (by exact (congrArg PV.flat (show Env.ev E (.tmp 59) = _ from g59.trans rfl)).trans rfl) .nil) (by simp) (le_ok rfl) (le_ok rfl) (by simp only [List.all_cons, List.all_nil, List.flatten_cons, List.flatten_nil, List.append_nil, List.cons_append, List.nil_append, Env.fine, q4059]; rfl) (.row q4059 (by simp) .nil) (hA_.fresh _ (List.mem_singleton.2 rfl)) (by simp) (fun x_ hx_ => by have := hp x_ hx_; omega) rfl trivial rfl rfl)) ?_
     refine .cons (fun E hA_ => by have g57 : E.get 57 = (.one (.row 100504 [])) := (hA_.get 57 (by kernel_rfl)).trans (by kernel_rfl); have g60 : E.get 60 = (.one (.row 60 [])) := (hA_.get 60 (by kernel_rfl)).trans (by kernel_rfl); have q60 : E.row 60 = some (22, (.bss [(rdRaw b q 32).2])) := (hA_.row 60 (by kernel_rfl)).trans (by kernel_rfl); have q100504 : E.row 100504 = some (22, (.bss ts)) := (hA_.row 100504 (by kernel_rfl)).trans (by kernel_rfl); exact OpStep.plain rfl (Step.appendX (e := 22) (z := 1) (by_ := 24) (d := (.bss ts)) (dy := (.bss [(rdRaw b q 32).2])) (d' := (.bss (ts ++ [(rdRaw b q 32).2]))) (ss := [60]) 500061 (t := 61) rfl rfl (by exact lt_ok rfl) (by kernel_rfl) (show Env.ev E (.tmp 57) = _ from g57.trans rfl) q100504 rfl (lt_ok rfl) (show Env.ev E (.tmp 60) = _ from g60.trans rfl) (.move q60) (by simp) rfl (by simp only [D.size, List.length_map]; first | omega | (simp; omega) | (simp only [List.length_append] at *; omega)) (by simp only [D.size, List.length_map]; first | omega | (simp; omega) | (simp only [List.length_append] at *; omega)) (fun x_ hx_ => by have := hp x_ hx_; omega) (hA_.fresh _ (List.mem_singleton.2 rfl)) (by simp) (fun x_ hx_ => by have := hp x_ hx_; omega))) ?_
     refine .cons (fun E hA_ => by have g5 : E.get 5 = (.one (.ptr 5 0)) := (hA_.get 5 (by kernel_rfl)).trans (by kernel_rfl); exact OpStep.plain rfl (Step.fieldAddr (q := 0) (off := 4) (n := 1) (one := true) (t := 62) rfl rfl (by exact lt_ok rfl) (by kernel_rfl) (Nat.succ_ne_zero _) (show Env.ev E (.tmp 5) = _ from g5.trans rfl))) ?_
     refine .cons (fun E hA_ => by have g61 : E.get 61 = (.one (.row 500061 [])) := (hA_.get 61 (by kernel_rfl)).trans (by kernel_rfl); have g62 : E.get 62 = (.one (.ptr 5 4)) := (hA_.get 62 (by kernel_rfl)).trans (by kernel_rfl); have q500061 : E.row 500061 = some (22, (.bss (ts ++ [(rdRaw b q 32).2]))) := (hA_.row 500061 (by kernel_rfl)).trans (by kernel_rfl); have b5 : E.box 5 = some (73, [.d (.int .i64 (rdNum b s).2), .d (.int .i64 (rdNum b (rdNum b s).1).2), .d (.int .i64 (rdNum b (rdMust (rdMust (rdNum b (rdNum b s).1).1 (decide (0 < (rdNum b (rdNum b s).1).2)) 5) (decide ((rdNum b (rdNum b s).1).2 ≤ l.f2)) 3)).2), .row 100503 [], .row 100504 []]) := (hA_.box 5 (by kernel_rfl)).trans (by kernel_rfl); exact OpStep.plain rfl (Step.store_box (n := 1) (p := (.one (.row 500061 []))) (qs := [.row 500061 []]) (ps' := [.d (.int .i64 (rdNum b s).2), .d (.int .i64 (rdNum b (rdNum b s).1).2), .d (.int .i64 (rdNum b (rdMust (rdMust (rdNum b (rdNum b s).1).1 (decide (0 < (rdNum b (rdNum b s).1).2)) 5) (decide ((rdNum b (rdNum b s).1).2 ≤ l.f2)) 3)).2), .row 100503 [], .row 500061 []]) rfl rfl (by kernel_rfl) (show Env.ev E (.tmp 62) = _ from g62.trans rfl) b5 (show Env.ev E (.tmp 61) = _ from g61.trans rfl) rfl rfl (by simp only [List.all_cons, List.all_nil, List.flatten_cons, List.flatten_nil, List.append_nil, List.cons_append, List.nil_append, Env.fine, q500061]; rfl) (le_ok rfl) rfl)) ?_
     exact .nil _ _
    refine TL.weaken (E' := { tm := [(0, (.one (.ptr 800 0))), (4, (.one (.ptr 4 0))), (5, (.one (.ptr 5 0))), (6, (.one (.d (.int .i64 (i : Int))))), (40, (.one (.ptr 800 0))), (41, (.one (.ptr 800 0))), (42, (.one (.ptr 800 2))), (43, (.one (.d (.int .i64 q.f1)))), (44, (.one (.d (.bool (decide (q.f1 = 0)))))), (45, (.one (.d (.bool true)))), (46, (.one (.d (.int .i64 (i : Int))))), (47, (.one (.ptr 5 2))), (48, (.one (.d (.int .i64 (rdNum b (rdMust (rdMust (rdNum b (rdNum b s).1).1 (decide (0 < (rdNum b (rdNum b s).1).2)) 5) (decide ((rdNum b (rdNum b s).1).2 ≤ l.f2)) 3)).2)))), (49, (.one (.ptr 5 1))), (50, (.one (.d (.int .i64 (rdNum b (rdNum b s).1).2)))), (51, (.one (.d (.int .i64 (pathLenT (rdNum b (rdMust (rdMust (rdNum b (rdNum b s).1).1 (decide (0 < (rdNum b (rdNum b s).1).2)) 5) (decide ((rdNum b (rdNum b s).1).2 ≤ l.f2)) 3)).2 (rdNum b (rdNum b s).1).2))))), (52, (.one (.d (.bool (decide ((i : Int) < (pathLenT (rdNum b (rdMust (rdMust (rdNum b (rdNum b s).1).1 (decide (0 < (rdNum b (rdNum b s).1).2)) 5) (decide ((rdNum b (rdNum b s).1).2 ≤ l.f2)) 3)).2 (rdNum b (rdNum b s).1).2))))))), (53, (.one (.d (.bool (decide ((i : Int) < (pathLenT (rdNum b (rdMust (rdMust (rdNum b (rdNum b s).1).1 (decide (0 < (rdNum b (rdNum b s).1).2)) 5) (decide ((rdNum b (rdNum b s).1).2 ≤ l.f2)) 3)).2 (rdNum b (rdNum b s).1).2))))))), (56, (.one (.ptr 5 4))), (58, (.one (.ptr 800 0))), (61, (.one (.row 500061 []))), (62, (.one (.ptr 5 4)))], rows := [(100503, (5, (.ints .u8 (rdText b (rdMust (rdNum b (rdMust (rdMust (rdNum b (rdNum b s).1).1 (decide (0 < (rdNum b (rdNum b s).1).2)) 5) (decide ((rdNum b (rdNum b s).1).2 ≤ l.f2)) 3)).1 (decide ((rdNum b (rdMust (rdMust (rdNum b (rdNum b s).1).1 (decide (0 < (rdNum b (rdNum b s).1).2)) 5) (decide ((rdNum b (rdNum b s).1).2 ≤ l.f2)) 3)).2 < (rdNum b (rdNum b s).1).2)) 5) l.f1).2))), (500061, (22, (.bss (ts ++ [(rdRaw b q 32).2]))))], boxes := [(800, (150, [.d (.ints .u8 b), .d (.int .i64 (rdRaw b q 32).1.f0), .d (.int .i64 (rdRaw b q 32).1.f1)])), (3, (44, [.d (.int .i64 l.f0), .d (.int .i64 l.f1), .d (.int .i64 l.f2), .d (.int .i64 l.f3), .d (.int .i64 l.f4)])), (4, (73, [.d (.int .i64 0), .d (.int .i64 0), .d (.int .i64 0), .nil, .nil])), (5, (73, [.d (.int .i64 (rdNum b s).2), .d (.int .i64 (rdNum b (rdNum b s).1).2), .d (.int .i64 (rdNum b (rdMust (rdMust (rdNum b (rdNum b s).1).1 (decide (0 < (rdNum b (rdNum b s).1).2)) 5) (decide ((rdNum b (rdNum b s).1).2 ≤ l.f2)) 3)).2), .row 100503 [], .row 500061 []]))] }) (Env.le_mk ⟨by kernel_rfl, by kernel_rfl, by kernel_rfl, by kernel_rfl, by kernel_rfl, by kernel_rfl, by kernel_rfl, by kernel_rfl, by kernel_rfl, by kernel_rfl, by kernel_rfl, by kernel_rfl, by kernel_rfl, by kernel_rfl, by kernel_rfl, by kernel_rfl, by kernel_rfl, by kernel_rfl, by kernel_rfl, by kernel_rfl, by kernel_rfl, by kernel_rfl, trivial⟩ ⟨by kernel_rfl, by kernel_rfl, trivial⟩ ⟨by kernel_rfl, by kernel_rfl, by kernel_rfl, by kernel_rfl, trivial⟩) ?_
    refine TL.ren 500061 100504 rfl (fun x hx => by have := hp x hx; omega) ?_
    refine TL.nil ?_
    refine T.region ?_
    refine TL.cons rfl (Step.move (p := (.one (.d (.int .i64 (i : Int))))) rfl rfl (lt_ok rfl) rfl) ?_
    refine TL.cons rfl (Step.bin (r := .int .i64 ((i : Int) + 1)) rfl rfl (lt_ok rfl) rfl rfl (Bin.add (a := (i : Int)) (b := 1) (by first | exact wrap_ok (by first | omega | (simp; omega)) (by first | omega | (simp; omega)) | rfl))) ?_
    refine TL.cons rfl (Step.assign (p := (.one (.d (.int .i64 ((i : Int) + 1))))) rfl rfl (lt_ok rfl) rfl) ?_
    refine TL.nil ?_
    exact ⟨(i + 1, (rdRaw b q 32).1, (ts ++ [(rdRaw b q 32).2])), by (try dsimp only); (refine ⟨by first | omega | (have : (i : Int) < pathLenT (rdI2 l b s).2 (rdNum b (rdNum b s).1).2 := (by assumption); omega), by simp only [List.length_append, List.length_cons, List.length_nil]; first | done | omega, ?_⟩; exact (rdTg_next (by first | omega | (have : (i : Int) < pathLenT (rdI2 l b s).2 (rdNum b (rdNum b s).1).2 := (by assumption); omega)) (by omega)).symm.trans hx4), by (dsimp only; first | omega | (have : (i : Int) < pathLenT (rdI2 l b s).2 (rdNum b (rdNum b s).1).2 := (by assumption); omega)), Env.le_mk ⟨rfl, rfl, rfl, by first | rfl | (refine congrArg (fun n => PV.one (.d (.int .i64 n))) ?_; first | rfl | omega | (simp; done)), trivial⟩ ⟨rfl, by first | rfl | (refine congrArg (fun n => PV.one (.d (.int .i64 n))) ?_; first | rfl | omega | (simp; done)), trivial⟩ ⟨by first | rfl | (refine congrArg (fun n => PV.one (.d (.int .i64 n))) ?_; first | rfl | omega | (simp; done)), rfl, rfl, rfl, trivial⟩⟩
   ·
    replace h7 := of_decide_eq_false h7
    refine T.exit ?_
    refine T.seq ?_
    refine T.region ?_
    refine TL.cons rfl (Step.load_box_agg (n := 5) (qs := [.d (.int .i64 (rdNum b s).2), .d (.int .i64 (rdNum b (rdNum b s).1).2), .d (.int .i64 (rdNum b (rdMust (rdMust (rdNum b (rdNum b s).1).1 (decide (0 < (rdNum b (rdNum b s).1).2)) 5) (decide ((rdNum b (rdNum b s).1).2 ≤ l.f2)) 3)).2), .row 100503 [], .row 100504 []]) rfl rfl (lt_ok rfl) (by kernel_rfl) rfl rfl rfl rfl) ?_
    refine TL.cons rfl (Step.store_box (n := 5) (p := (.agg [.d (.int .i64 (rdNum b s).2), .d (.int .i64 (rdNum b (rdNum b s).1).2), .d (.int .i64 (rdNum b (rdMust (rdMust (rdNum b (rdNum b s).1).1 (decide (0 < (rdNum b (rdNum b s).1).2)) 5) (decide ((rdNum b (rdNum b s).1).2 ≤ l.f2)) 3)).2), .row 100503 [], .row 100504 []])) (qs := [.d (.int .i64 (rdNum b s).2), .d (.int .i64 (rdNum b (rdNum b s).1).2), .d (.int .i64 (rdNum b (rdMust (rdMust (rdNum b (rdNum b s).1).1 (decide (0 < (rdNum b (rdNum b s).1).2)) 5) (decide ((rdNum b (rdNum b s).1).2 ≤ l.f2)) 3)).2), .row 100503 [], .row 100504 []]) (ps' := [.d (.int .i64 (rdNum b s).2), .d (.int .i64 (rdNum b (rdNum b s).1).2), .d (.int .i64 (rdNum b (rdMust (rdMust (rdNum b (rdNum b s).1).1 (decide (0 < (rdNum b (rdNum b s).1).2)) 5) (decide ((rdNum b (rdNum b s).1).2 ≤ l.f2)) 3)).2), .row 100503 [], .row 100504 []]) rfl rfl (by kernel_rfl) rfl rfl rfl rfl rfl rfl (le_ok rfl) rfl) ?_
    refine TL.nil ?_
    refine T.ret ?_
    exact ⟨[.d (.ints .u8 b), .d (.int .i64 q.f0), .d (.int .i64 q.f1)], [(true, [.d (.int .i64 (rdNum b s).2), .d (.int .i64 (rdNum b (rdNum b s).1).2), .d (.int .i64 (rdNum b (rdMust (rdMust (rdNum b (rdNum b s).1).1 (decide (0 < (rdNum b (rdNum b s).1).2)) 5) (decide ((rdNum b (rdNum b s).1).2 ≤ l.f2)) 3)).2), .row 100503 [], .row 100504 []])], rfl, rfl, (.cons rfl .nil), rfl, [100503, 100504], (RetC.rd' (by first | rfl | (congr 1; unfold rdInclS; rw [← hx4, rdTg_out (by first | omega | (have : ¬ (i : Int) < pathLenT (rdI2 l b s).2 (rdNum b (rdNum b s).1).2 := (by assumption); omega))]) | (simp only [D.size, List.length_map]; unfold rdInclS; rw [← hx4, rdTg_out (by first | omega | (have : ¬ (i : Int) < pathLenT (rdI2 l b s).2 (rdNum b (rdNum b s).1).2 := (by assumption); omega))])) (RetC.rd' (by first | rfl | (congr 1; unfold rdInclS; rw [← hx4, rdTg_out (by first | omega | (have : ¬ (i : Int) < pathLenT (rdI2 l b s).2 (rdNum b (rdNum b s).1).2 := (by assumption); omega))]) | (simp only [D.size, List.length_map]; unfold rdInclS; rw [← hx4, rdTg_out (by first | omega | (have : ¬ (i : Int) < pathLenT (rdI2 l b s).2 (rdNum b (rdNum b s).1).2 := (by assumption); omega))])) (RetC.rd' (by first | rfl | (congr 1; unfold rdInclS; rw [← hx4, rdTg_out (by first | omega | (have : ¬ (i : Int) < pathLenT (rdI2 l b s).2 (rdNum b (rdNum b s).1).2 := (by assumption); omega))]) | (simp only [D.size, List.length_map]; unfold rdInclS; rw [← hx4, rdTg_out (by first | omega | (have : ¬ (i : Int) < pathLenT (rdI2 l b s).2 (rdNum b (rdNum b s).1).2 := (by assumption); omega))])) (RetC.rd' (by first | rfl | (congr 1; unfold rdInclS; rw [← hx4, rdTg_out (by first | omega | (have : ¬ (i : Int) < pathLenT (rdI2 l b s).2 (rdNum b (rdNum b s).1).2 := (by assumption); omega))]) | (simp only [D.size, List.length_map]; unfold rdInclS; rw [← hx4, rdTg_out (by first | omega | (have : ¬ (i : Int) < pathLenT (rdI2 l b s).2 (rdNum b (rdNum b s).1).2 := (by assumption); omega))])) (RetC.rd' (by first | rfl | (congr 1; unfold rdInclS; rw [← hx4, rdTg_out (by first | omega | (have : ¬ (i : Int) < pathLenT (rdI2 l b s).2 (rdNum b (rdNum b s).1).2 := (by assumption); omega))]) | (simp only [D.size, List.length_map]; unfold rdInclS; rw [← hx4, rdTg_out (by first | omega | (have : ¬ (i : Int) < pathLenT (rdI2 l b s).2 (rdNum b (rdNum b s).1).2 := (by assumption); omega))])) (RetC.rd' (by first | rfl | (congr 1; unfold rdInclS; rw [← hx4, rdTg_out (by first | omega | (have : ¬ (i : Int) < pathLenT (rdI2 l b s).2 (rdNum b (rdNum b s).1).2 := (by assumption); omega))]) | (simp only [D.size, List.length_map]; unfold rdInclS; rw [← hx4, rdTg_out (by first | omega | (have : ¬ (i : Int) < pathLenT (rdI2 l b s).2 (rdNum b (rdNum b s).1).2 := (by assumption); omega))])) (RetC.own' rfl (by first | rfl | (congr 1; unfold rdInclS; rw [← hx4, rdTg_out (by first | omega | (have : ¬ (i : Int) < pathLenT (rdI2 l b s).2 (rdNum b (rdNum b s).1).2 := (by assumption); omega))]) | (simp only [D.size, List.length_map]; unfold rdInclS; rw [← hx4, rdTg_out (by first | omega | (have : ¬ (i : Int) < pathLenT (rdI2 l b s).2 (rdNum b (rdNum b s).1).2 := (by assumption); omega))])) rfl (RetC.own' rfl (by first | rfl | (congr 1; unfold rdInclS; rw [← hx4, rdTg_out (by first | omega | (have : ¬ (i : Int) < pathLenT (rdI2 l b s).2 (rdNum b (rdNum b s).1).2 := (by assumption); omega))]) | (simp only [D.size, List.length_map]; unfold rdInclS; rw [← hx4, rdTg_out (by first | omega | (have : ¬ (i : Int) < pathLenT (rdI2 l b s).2 (rdNum b (rdNum b s).1).2 := (by assumption); omega))])) rfl .nil))))))))⟩
  ·
   refine TL.known 45 hb5 rfl ?_
   have hb5' := hb5
   replace hb5' := of_decide_eq_false hb5'
   refine TL.goff 45 rfl rfl (lt_ok rfl) rfl rfl rfl (lt_ok rfl) ?_
   refine TL.goff 45 rfl rfl (lt_ok rfl) rfl rfl rfl (lt_ok rfl) ?_
   refine TL.goff 45 rfl rfl (lt_ok rfl) rfl rfl rfl (lt_ok rfl) ?_
   refine TL.goff 45 rfl rfl (lt_ok rfl) rfl rfl rfl (lt_ok rfl) ?_
   refine TL.goff 45 rfl rfl (lt_ok rfl) rfl rfl rfl (lt_ok rfl) ?_
   refine TL.goff 45 rfl rfl (lt_ok rfl) rfl rfl rfl (lt_ok rfl) ?_
   refine TL.goff 45 rfl rfl (lt_ok rfl) rfl rfl rfl (lt_ok rfl) ?_
   refine TL.cons rfl (Step.pick (b := false) (p := (.one (.d (.bool false)))) rfl rfl (lt_ok rfl) rfl rfl) ?_
   refine TL.nil ?_
   refine T.cond (b := false) rfl (fun h9_ => absurd h9_ (by simp)) (fun h9_ => ?_)
   refine T.exit ?_
   refine T.seq ?_
   refine T.region ?_
   refine TL.cons rfl (Step.load_box_agg (n := 5) (qs := [.d (.int .i64 (rdNum b s).2), .d (.int .i64 (rdNum b (rdNum b s).1).2), .d (.int .i64 (rdNum b (rdMust (rdMust (rdNum b (rdNum b s).1).1 (decide (0 < (rdNum b (rdNum b s).1).2)) 5) (decide ((rdNum b (rdNum b s).1).2 ≤ l.f2)) 3)).2), .row 100503 [], .row 100504 []]) rfl rfl (lt_ok rfl) (by kernel_rfl) rfl rfl rfl rfl) ?_
   refine TL.cons rfl (Step.store_box (n := 5) (p := (.agg [.d (.int .i64 (rdNum b s).2), .d (.int .i64 (rdNum b (rdNum b s).1).2), .d (.int .i64 (rdNum b (rdMust (rdMust (rdNum b (rdNum b s).1).1 (decide (0 < (rdNum b (rdNum b s).1).2)) 5) (decide ((rdNum b (rdNum b s).1).2 ≤ l.f2)) 3)).2), .row 100503 [], .row 100504 []])) (qs := [.d (.int .i64 (rdNum b s).2), .d (.int .i64 (rdNum b (rdNum b s).1).2), .d (.int .i64 (rdNum b (rdMust (rdMust (rdNum b (rdNum b s).1).1 (decide (0 < (rdNum b (rdNum b s).1).2)) 5) (decide ((rdNum b (rdNum b s).1).2 ≤ l.f2)) 3)).2), .row 100503 [], .row 100504 []]) (ps' := [.d (.int .i64 (rdNum b s).2), .d (.int .i64 (rdNum b (rdNum b s).1).2), .d (.int .i64 (rdNum b (rdMust (rdMust (rdNum b (rdNum b s).1).1 (decide (0 < (rdNum b (rdNum b s).1).2)) 5) (decide ((rdNum b (rdNum b s).1).2 ≤ l.f2)) 3)).2), .row 100503 [], .row 100504 []]) rfl rfl (by kernel_rfl) rfl rfl rfl rfl rfl rfl (le_ok rfl) rfl) ?_
   refine TL.nil ?_
   refine T.ret ?_
   exact ⟨[.d (.ints .u8 b), .d (.int .i64 q.f0), .d (.int .i64 q.f1)], [(true, [.d (.int .i64 (rdNum b s).2), .d (.int .i64 (rdNum b (rdNum b s).1).2), .d (.int .i64 (rdNum b (rdMust (rdMust (rdNum b (rdNum b s).1).1 (decide (0 < (rdNum b (rdNum b s).1).2)) 5) (decide ((rdNum b (rdNum b s).1).2 ≤ l.f2)) 3)).2), .row 100503 [], .row 100504 []])], rfl, rfl, (.cons rfl .nil), rfl, [100503, 100504], (RetC.rd' (by first | rfl | (congr 1; unfold rdInclS; rw [← hx4, rdTg_out (by first | omega | (have : ¬ (i : Int) < pathLenT (rdI2 l b s).2 (rdNum b (rdNum b s).1).2 := (by assumption); omega))]) | (simp only [D.size, List.length_map]; unfold rdInclS; rw [← hx4, rdTg_out (by first | omega | (have : ¬ (i : Int) < pathLenT (rdI2 l b s).2 (rdNum b (rdNum b s).1).2 := (by assumption); omega))])) (RetC.rd' (by first | rfl | (congr 1; unfold rdInclS; rw [← hx4, rdTg_out (by first | omega | (have : ¬ (i : Int) < pathLenT (rdI2 l b s).2 (rdNum b (rdNum b s).1).2 := (by assumption); omega))]) | (simp only [D.size, List.length_map]; unfold rdInclS; rw [← hx4, rdTg_out (by first | omega | (have : ¬ (i : Int) < pathLenT (rdI2 l b s).2 (rdNum b (rdNum b s).1).2 := (by assumption); omega))])) (RetC.rd' (by first | rfl | (congr 1; unfold rdInclS; rw [← hx4, rdTg_out (by first | omega | (have : ¬ (i : Int) < pathLenT (rdI2 l b s).2 (rdNum b (rdNum b s).1).2 := (by assumption); omega))]) | (simp only [D.size, List.length_map]; unfold rdInclS; rw [← hx4, rdTg_out (by first | omega | (have : ¬ (i : Int) < pathLenT (rdI2 l b s).2 (rdNum b (rdNum b s).1).2 := (by assumption); omega))])) (RetC.rd' (by first | rfl | (congr 1; unfold rdInclS; rw [← hx4, rdTg_out (by first | omega | (have : ¬ (i : Int) < pathLenT (rdI2 l b s).2 (rdNum b (rdNum b s).1).2 := (by assumption); omega))]) | (simp only [D.size, List.length_map]; unfold rdInclS; rw [← hx4, rdTg_out (by first | omega | (have : ¬ (i : Int) < pathLenT (rdI2 l b s).2 (rdNum b (rdNum b s).1).2 := (by assumption); omega))])) (RetC.rd' (by first | rfl | (congr 1; unfold rdInclS; rw [← hx4, rdTg_out (by first | omega | (have : ¬ (i : Int) < pathLenT (rdI2 l b s).2 (rdNum b (rdNum b s).1).2 := (by assumption); omega))]) | (simp only [D.size, List.length_map]; unfold rdInclS; rw [← hx4, rdTg_out (by first | omega | (have : ¬ (i : Int) < pathLenT (rdI2 l b s).2 (rdNum b (rdNum b s).1).2 := (by assumption); omega))])) (RetC.rd' (by first | rfl | (congr 1; unfold rdInclS; rw [← hx4, rdTg_out (by first | omega | (have : ¬ (i : Int) < pathLenT (rdI2 l b s).2 (rdNum b (rdNum b s).1).2 := (by assumption); omega))]) | (simp only [D.size, List.length_map]; unfold rdInclS; rw [← hx4, rdTg_out (by first | omega | (have : ¬ (i : Int) < pathLenT (rdI2 l b s).2 (rdNum b (rdNum b s).1).2 := (by assumption); omega))])) (RetC.own' rfl (by first | rfl | (congr 1; unfold rdInclS; rw [← hx4, rdTg_out (by first | omega | (have : ¬ (i : Int) < pathLenT (rdI2 l b s).2 (rdNum b (rdNum b s).1).2 := (by assumption); omega))]) | (simp only [D.size, List.length_map]; unfold rdInclS; rw [← hx4, rdTg_out (by first | omega | (have : ¬ (i : Int) < pathLenT (rdI2 l b s).2 (rdNum b (rdNum b s).1).2 := (by assumption); omega))])) rfl (RetC.own' rfl (by first | rfl | (congr 1; unfold rdInclS; rw [← hx4, rdTg_out (by first | omega | (have : ¬ (i : Int) < pathLenT (rdI2 l b s).2 (rdNum b (rdNum b s).1).2 := (by assumption); omega))]) | (simp only [D.size, List.length_map]; unfold rdInclS; rw [← hx4, rdTg_out (by first | omega | (have : ¬ (i : Int) < pathLenT (rdI2 l b s).2 (rdNum b (rdNum b s).1).2 := (by assumption); omega))])) rfl .nil))))))))⟩
theorem ok_spec_GetIncl (l : SLimits) (b : List Int) (a : Int) (h0_ : U8s b) (h1_ : b.length ≤ 1048576) : RO Try.prog 73 [.agg l.cells, .one (.ints .u8 b), .one (.int .i64 a)] [(true, [.rd (.int .i64 (getIncl l b a).1.f0), .rd (.int .i64 (getIncl l b a).1.f1), .rd (.int .i64 (getIncl l b a).1.f2), .own 5 (.ints .u8 (getIncl l b a).1.f3), .own 22 (.bss (getIncl l b a).1.f4)]), (false, [.rd (.int .i64 (getIncl l b a).2.1)]), (false, [.rd (.int .i64 (getIncl l b a).2.2)])] := by
 refine RO.intro Try.func73 rfl 33 rfl (le_ok rfl) fun w Z => ?_
 refine T.bnd 1 0 rfl rfl fun hb_1_0 => ?_
 simp only [D.size, List.length_map] at hb_1_0
 refine T.seq ?_
 refine T.region ?_
 refine TL.cons rfl (Step.box (p := (.agg [.d (.int .i64 l.f0), .d (.int .i64 l.f1), .d (.int .i64 l.f2), .d (.int .i64 l.f3), .d (.int .i64 l.f4)])) (ps := [.d (.int .i64 l.f0), .d (.int .i64 l.f1), .d (.int .i64 l.f2), .d (.int .i64 l.f3), .d (.int .i64 l.f4)]) rfl rfl (lt_ok rfl) rfl rfl rfl rfl rfl) ?_
 refine TL.cons rfl (Step.alloc (cs := [.int .i64 0, .int .i64 0, .int .i64 0, .slice none 0 0, .slice none 0 0]) (ps := [.d (.int .i64 0), .d (.int .i64 0), .d (.int .i64 0), .nil, .nil]) rfl rfl (lt_ok rfl) (by kernel_rfl) rfl rfl rfl rfl) ?_
 refine TL.cons rfl (Step.assign (p := (.one (.d (.int .i64 0)))) rfl rfl (lt_ok rfl) rfl) ?_
 refine TL.cons rfl (Step.assign (p := (.one (.d (.int .i64 0)))) rfl rfl (lt_ok rfl) rfl) ?_
 refine TL.nil ?_
 refine T.seq ?_
 refine T.region ?_
 refine TL.cons rfl (Step.load_box_agg (n := 5) (qs := [.d (.int .i64 l.f0), .d (.int .i64 l.f1), .d (.int .i64 l.f2), .d (.int .i64 l.f3), .d (.int .i64 l.f4)]) rfl rfl (lt_ok rfl) (by kernel_rfl) rfl rfl rfl rfl) ?_
 refine TL.cons rfl (Step.move (p := (.one (.d (.ints .u8 b)))) rfl rfl (lt_ok rfl) rfl) ?_
 refine TL.cons rfl (Step.move (p := (.one (.d (.int .i64 a)))) rfl rfl (lt_ok rfl) rfl) ?_
 refine TL.cons rfl (Step.callN (f := 120) (xs := [.tmp 11, .tmp 12, .tmp 13]) (ps := [(.agg [.d (.int .i64 l.f0), .d (.int .i64 l.f1), .d (.int .i64 l.f2), .d (.int .i64 l.f3), .d (.int .i64 l.f4)]), (.one (.d (.ints .u8 b))), (.one (.d (.int .i64 a)))]) (T := 150) (ds := [(.ints .u8 b), (.int .i64 (rs0 l a).f0), (.int .i64 (rs0 l a).f1)]) (g := .func 120) rfl rfl (lt_ok rfl) rfl (by kernel_rfl) rfl (.cons (.agg (.cons (.d _) (.cons (.d _) (.cons (.d _) (.cons (.d _) (.cons (.d _) .nil)))))) (.cons (.one (.d _)) (.cons (.one (.d _)) .nil))) (ok_spec_l11New l b a) rfl) ?_
 refine TL.cons rfl (Step.assign (p := (.one (.ptr 14 0))) rfl rfl (lt_ok rfl) rfl) ?_
 refine TL.nil ?_
 refine T.seq ?_
 refine T.region ?_
 refine TL.cons rfl (Step.move (p := (.one (.ptr 14 0))) rfl rfl (lt_ok rfl) rfl) ?_
 refine TL.cons rfl (Step.load_box_agg (n := 5) (qs := [.d (.int .i64 l.f0), .d (.int .i64 l.f1), .d (.int .i64 l.f2), .d (.int .i64 l.f3), .d (.int .i64 l.f4)]) rfl rfl (lt_ok rfl) (by kernel_rfl) rfl rfl rfl rfl) ?_
 have nn1 := @rdInclS_sm l b (rs0 l a) (by first | assumption | omega)
 refine TL.cons rfl (Step.callX (f := 130) (b := 14) (T := 150) (xs := [.tmp 15, .tmp 16]) (ps := [(.one (.ptr 14 0)), (.agg [.d (.int .i64 l.f0), .d (.int .i64 l.f1), .d (.int .i64 l.f2), .d (.int .i64 l.f3), .d (.int .i64 l.f4)])]) (args := [.bx, .rd (.agg [(.int .i64 l.f0), (.int .i64 l.f1), (.int .i64 l.f2), (.int .i64 l.f3), (.int .i64 l.f4)])]) (bps := [.d (.ints .u8 b), .d (.int .i64 (rs0 l a).f0), .d (.int .i64 (rs0 l a).f1)]) (cs := [.rd (.ints .u8 b), .rd (.int .i64 (rs0 l a).f0), .rd (.int .i64 (rs0 l a).f1)]) (cs' := [.rd (.ints .u8 b), .rd (.int .i64 (rdInclS l b (rs0 l a)).1.f0), .rd (.int .i64 (rdInclS l b (rs0 l a)).1.f1)]) (res := [(true, [.rd (.int .i64 (rdInclS l b (rs0 l a)).2.f0), .rd (.int .i64 (rdInclS l b (rs0 l a)).2.f1), .rd (.int .i64 (rdInclS l b (rs0 l a)).2.f2), .own 5 (.ints .u8 (rdInclS l b (rs0 l a)).2.f3), .own 22 (.bss (rdInclS l b (rs0 l a)).2.f4)])]) (ss := []) (g := .func 130) rfl rfl (lt_ok rfl) rfl (by kernel_rfl) rfl (.cons (.bx) (.cons (.rd (.agg (.cons (.d _) (.cons (.d _) (.cons (.d _) (.cons (.d _) (.cons (.d _) .nil))))))) .nil)) rfl (.rd (.rd (.rd .nil))) (ok_spec_l16GetIncl b (rs0 l a) l (by assumption) (by first | omega | assumption | (simp only [List.length_append] at *; omega))) rfl rfl (by simp) rfl) ?_
 refine TL.cons rfl (Step.alloc (cs := [.int .i64 0, .int .i64 0, .int .i64 0, .slice none 0 0, .slice none 0 0]) (ps := [.d (.int .i64 0), .d (.int .i64 0), .d (.int .i64 0), .nil, .nil]) rfl rfl (lt_ok rfl) (by kernel_rfl) rfl rfl rfl rfl) ?_
 refine TL.cons rfl (Step.store_box (n := 5) (p := (.agg [.d (.int .i64 (rdInclS l b (rs0 l a)).2.f0), .d (.int .i64 (rdInclS l b (rs0 l a)).2.f1), .d (.int .i64 (rdInclS l b (rs0 l a)).2.f2), .row 7017 [], .row 8017 []])) (qs := [.d (.int .i64 (rdInclS l b (rs0 l a)).2.f0), .d (.int .i64 (rdInclS l b (rs0 l a)).2.f1), .d (.int .i64 (rdInclS l b (rs0 l a)).2.f2), .row 7017 [], .row 8017 []]) (ps' := [.d (.int .i64 (rdInclS l b (rs0 l a)).2.f0), .d (.int .i64 (rdInclS l b (rs0 l a)).2.f1), .d (.int .i64 (rdInclS l b (rs0 l a)).2.f2), .row 7017 [], .row 8017 []]) rfl rfl (by kernel_rfl) rfl rfl rfl rfl rfl rfl (le_ok rfl) rfl) ?_
 refine TL.nil ?_
 refine T.seq ?_
 refine T.seq ?_
 refine T.region ?_
 refine TL.cons rfl (Step.move (p := (.one (.ptr 14 0))) rfl rfl (lt_ok rfl) rfl) ?_
 refine TL.cons rfl (Step.nilCheck rfl rfl (lt_ok rfl) rfl) ?_
 refine TL.cons rfl (Step.fieldAddr (q := 0) (off := 2) (n := 1) (one := true) rfl rfl (lt_ok rfl) (by kernel_rfl) (Nat.succ_ne_zero _) rfl) ?_
 refine TL.cons rfl (Step.load_box (c := .d (.int .i64 (rdInclS l b (rs0 l a)).1.f1)) rfl rfl (lt_ok rfl) (by kernel_rfl) rfl rfl rfl) ?_
 refine TL.cons rfl (Step.bin rfl rfl (lt_ok rfl) rfl rfl (Bin.neq (k := .i64) (a := (rdInclS l b (rs0 l a)).1.f1) (b := 0))) ?_
 refine TL.nil ?_
 refine T.cond (b := decide ((rdInclS l b (rs0 l a)).1.f1 ≠ 0)) rfl (fun h2 => ?_) (fun h2 => ?_)
 ·
  replace h2 := of_decide_eq_true h2
  refine T.seq ?_
  refine T.drawX [{ dst := some 23, pv := (.agg [.d (.int .i64 0), .d (.int .i64 0), .d (.int .i64 0), .nil, .nil]) }, { dst := some 24, pv := (.one (.ptr 14 0)) }, { dst := some 25, pv := (.one (.ptr 14 0)) }, { dst := some 26, pv := (.one (.ptr 14 2)) }, { dst := some 27, pv := (.one (.d (.int .i64 (rdInclS l b (rs0 l a)).1.f1))) }, { box := some (6, (73, [.d (.int .i64 0), .d (.int .i64 0), .d (.int .i64 0), .nil, .nil])) }, { dst := some 7, pv := (.one (.d (.int .i64 0))) }, { dst := some 8, pv := (.one (.d (.int .i64 (rdInclS l b (rs0 l a)).1.f1))) }] (by kernel_rfl) (by kernel_rfl) ?_ ?_
  ·
   refine .cons (fun E hA_ => by exact OpStep.plain rfl (Step.build (zs := [.int .i64 0, .int .i64 0, .int .i64 0, .slice none 0 0, .slice none 0 0]) (places := [(0, 1), (1, 1), (2, 1), (3, 1), (4, 1)]) (pss := []) (ps' := [.d (.int .i64 0), .d (.int .i64 0), .d (.int .i64 0), .nil, .nil]) (t := 23) rfl rfl (by exact lt_ok rfl) (by kernel_rfl) .nil rfl rfl rfl)) ?_
   refine .cons (fun E hA_ => by have g9 : E.get 9 = (.one (.ptr 14 0)) := (hA_.get 9 (by kernel_rfl)).trans (by kernel_rfl); exact OpStep.plain rfl (Step.move (p := (.one (.ptr 14 0))) (t := 24) rfl rfl (by exact lt_ok rfl) (show Env.ev E (.tmp 9) = _ from g9.trans rfl))) ?_
   refine .cons (fun E hA_ => by have g24 : E.get 24 = (.one (.ptr 14 0)) := (hA_.get 24 (by kernel_rfl)).trans (by kernel_rfl); exact OpStep.plain rfl (Step.nilCheck (t := 25) rfl rfl (by exact lt_ok rfl) (show Env.ev E (.tmp 24) = _ from g24.trans rfl))) ?_
   refine .cons (fun E hA_ => by have g25 : E.get 25 = (.one (.ptr 14 0)) := (hA_.get 25 (by kernel_rfl)).trans (by kernel_rfl); exact OpStep.plain rfl (Step.fieldAddr (q := 0) (off := 2) (n := 1) (one := true) (t := 26) rfl rfl (by exact lt_ok rfl) (by kernel_rfl) (Nat.succ_ne_zero _) (show Env.ev E (.tmp 25) = _ from g25.trans rfl))) ?_
   refine .cons (fun E hA_ => by have g26 : E.get 26 = (.one (.ptr 14 2)) := (hA_.get 26 (by kernel_rfl)).trans (by kernel_rfl); have b14 : E.box 14 = some (150, [.d (.ints .u8 b), .d (.int .i64 (rdInclS l b (rs0 l a)).1.f0), .d (.int .i64 (rdInclS l b (rs0 l a)).1.f1)]) := (hA_.box 14 (by kernel_rfl)).trans (by kernel_rfl); exact OpStep.plain rfl (Step.load_box (c := .d (.int .i64 (rdInclS l b (rs0 l a)).1.f1)) (t := 27) rfl rfl (by exact lt_ok rfl) (by kernel_rfl) (show Env.ev E (.tmp 26) = _ from g26.trans rfl) b14 rfl)) ?_
   refine .cons (fun E hA_ => by have g6 : E.get 6 = (.one (.ptr 6 0)) := (hA_.get 6 (by kernel_rfl)).trans (by kernel_rfl); have g23 : E.get 23 = (.agg [.d (.int .i64 0), .d (.int .i64 0), .d (.int .i64 0), .nil, .nil]) := (hA_.get 23 (by kernel_rfl)).trans (by kernel_rfl); have b6 : E.box 6 = some (73, [.d (.int .i64 0), .d (.int .i64 0), .d (.int .i64 0), .nil, .nil]) := (hA_.box 6 (by kernel_rfl)).trans (by kernel_rfl); exact OpStep.plain rfl (Step.store_box (n := 5) (p := (.agg [.d (.int .i64 0), .d (.int .i64 0), .d (.int .i64 0), .nil, .nil])) (qs := [.d (.int .i64 0), .d (.int .i64 0), .d (.int .i64 0), .nil, .nil]) (ps' := [.d (.int .i64 0), .d (.int .i64 0), .d (.int .i64 0), .nil, .nil]) rfl rfl (by kernel_rfl) (show Env.ev E (.tmp 6) = _ from g6.trans rfl) b6 (show Env.ev E (.tmp 23) = _ from g23.trans rfl) rfl rfl rfl (le_ok rfl) rfl)) ?_
   refine .cons (fun E hA_ => by exact OpStep.plain rfl (Step.assign (p := (.one (.d (.int .i64 0)))) (t := 7) rfl rfl (by exact lt_ok rfl) rfl)) ?_
   refine .cons (fun E hA_ => by have g27 : E.get 27 = (.one (.d (.int .i64 (rdInclS l b (rs0 l a)).1.f1))) := (hA_.get 27 (by kernel_rfl)).trans (by kernel_rfl); exact OpStep.plain rfl (Step.assign (p := (.one (.d (.int .i64 (rdInclS l b (rs0 l a)).1.f1)))) (t := 8) rfl rfl (by exact lt_ok rfl) (show Env.ev E (.tmp 27) = _ from g27.trans rfl))) ?_
   exact .nil _ _
  refine TL.weaken (E' := { tm := [(0, (.agg [.d (.int .i64 l.f0), .d (.int .i64 l.f1), .d (.int .i64 l.f2), .d (.int .i64 l.f3), .d (.int .i64 l.f4)])), (1, (.one (.d (.ints .u8 b)))), (2, (.one (.d (.int .i64 a)))), (3, (.one (.ptr 3 0))), (6, (.one (.ptr 6 0))), (7, (.one (.d (.int .i64 0)))), (8, (.one (.d (.int .i64 (rdInclS l b (rs0 l a)).1.f1)))), (11, (.agg [.d (.int .i64 l.f0), .d (.int .i64 l.f1), .d (.int .i64 l.f2), .d (.int .i64 l.f3), .d (.int .i64 l.f4)])), (12, (.one (.d (.ints .u8 b)))), (13, (.one (.d (.int .i64 a)))), (14, (.one (.ptr 14 0))), (9, (.one (.ptr 14 0))), (15, (.one (.ptr 14 0))), (16, (.agg [.d (.int .i64 l.f0), .d (.int .i64 l.f1), .d (.int .i64 l.f2), .d (.int .i64 l.f3), .d (.int .i64 l.f4)])), (17, (.agg [.d (.int .i64 (rdInclS l b (rs0 l a)).2.f0), .d (.int .i64 (rdInclS l b (rs0 l a)).2.f1), .d (.int .i64 (rdInclS l b (rs0 l a)).2.f2), .row 7017 [], .row 8017 []])), (10, (.one (.ptr 10 0))), (18, (.one (.ptr 14 0))), (19, (.one (.ptr 14 0))), (20, (.one (.ptr 14 2))), (21, (.one (.d (.int .i64 (rdInclS l b (rs0 l a)).1.f1)))), (22, (.one (.d (.bool (decide ((rdInclS l b (rs0 l a)).1.f1 ≠ 0)))))), (23, (.agg [.d (.int .i64 0), .d (.int .i64 0), .d (.int .i64 0), .nil, .nil])), (24, (.one (.ptr 14 0))), (25, (.one (.ptr 14 0))), (26, (.one (.ptr 14 2))), (27, (.one (.d (.int .i64 (rdInclS l b (rs0 l a)).1.f1))))], rows := [(7017, (5, (.ints .u8 (rdInclS l b (rs0 l a)).2.f3))), (8017, (22, (.bss (rdInclS l b (rs0 l a)).2.f4)))], boxes := [(3, (44, [.d (.int .i64 l.f0), .d (.int .i64 l.f1), .d (.int .i64 l.f2), .d (.int .i64 l.f3), .d (.int .i64 l.f4)])), (6, (73, [.d (.int .i64 0), .d (.int .i64 0), .d (.int .i64 0), .nil, .nil])), (14, (150, [.d (.ints .u8 b), .d (.int .i64 (rdInclS l b (rs0 l a)).1.f0), .d (.int .i64 (rdInclS l b (rs0 l a)).1.f1)])), (10, (73, [.d (.int .i64 (rdInclS l b (rs0 l a)).2.f0), .d (.int .i64 (rdInclS l b (rs0 l a)).2.f1), .d (.int .i64 (rdInclS l b (rs0 l a)).2.f2), .row 7017 [], .row 8017 []]))] }) (Env.le_mk ⟨by kernel_rfl, by kernel_rfl, by kernel_rfl, by kernel_rfl, by kernel_rfl, by kernel_rfl, by kernel_rfl, by kernel_rfl, by kernel_rfl, by kernel_rfl, by kernel_rfl, by kernel_rfl, by kernel_rfl, by kernel_rfl, by kernel_rfl, by kernel_rfl, by kernel_rfl, by kernel_rfl, by kernel_rfl, by kernel_rfl, by kernel_rfl, by kernel_rfl, by kernel_rfl, by kernel_rfl, by kernel_rfl, by kernel_rfl, trivial⟩ ⟨by kernel_rfl, by kernel_rfl, trivial⟩ ⟨by kernel_rfl, by kernel_rfl, by kernel_rfl, by kernel_rfl, trivial⟩) ?_
  refine TL.nil ?_
  refine T.ret ?_
  exact ⟨[(true, [.d (.int .i64 0), .d (.int .i64 0), .d (.int .i64 0), .nil, .nil]), (false, [.d (.int .i64 0)]), (false, [.d (.int .i64 (rdInclS l b (rs0 l a)).1.f1)])], (.cons rfl (.cons rfl (.cons rfl .nil))), rfl, [], (RetC.rd' (by first | rfl | (congr 1; unfold getIncl; rw [rdIncl_S]; first | (rw [getOut_yes (by assumption)]; first | done | rfl) | (rw [getOut_no (by assumption)]; first | done | rfl) | (rw [rs0_ok (by assumption), getOut_yes (by assumption)]; first | done | rfl) | (rw [rs0_ok (by assumption), getOut_no (by assumption)]; first | done | rfl) | (rw [rs0_no (by assumption), getOut_nr (rdIncl_er (show ¬ ((5 : Int) = 0) by decide)) rfl]; first | done | rfl)) | (simp only [D.size, List.length_map]; unfold getIncl; rw [rdIncl_S]; first | (rw [getOut_yes (by assumption)]; first | done | rfl) | (rw [getOut_no (by assumption)]; first | done | rfl) | (rw [rs0_ok (by assumption), getOut_yes (by assumption)]; first | done | rfl) | (rw [rs0_ok (by assumption), getOut_no (by assumption)]; first | done | rfl) | (rw [rs0_no (by assumption), getOut_nr (rdIncl_er (show ¬ ((5 : Int) = 0) by decide)) rfl]; first | done | rfl))) (RetC.rd' (by first | rfl | (congr 1; unfold getIncl; rw [rdIncl_S]; first | (rw [getOut_yes (by assumption)]; first | done | rfl) | (rw [getOut_no (by assumption)]; first | done | rfl) | (rw [rs0_ok (by assumption), getOut_yes (by assumption)]; first | done | rfl) | (rw [rs0_ok (by assumption), getOut_no (by assumption)]; first | done | rfl) | (rw [rs0_no (by assumption), getOut_nr (rdIncl_er (show ¬ ((5 : Int) = 0) by decide)) rfl]; first | done | rfl)) | (simp only [D.size, List.length_map]; unfold getIncl; rw [rdIncl_S]; first | (rw [getOut_yes (by assumption)]; first | done | rfl) | (rw [getOut_no (by assumption)]; first | done | rfl) | (rw [rs0_ok (by assumption), getOut_yes (by assumption)]; first | done | rfl) | (rw [rs0_ok (by assumption), getOut_no (by assumption)]; first | done | rfl) | (rw [rs0_no (by assumption), getOut_nr (rdIncl_er (show ¬ ((5 : Int) = 0) by decide)) rfl]; first | done | rfl))) (RetC.rd' (by first | rfl | (congr 1; unfold getIncl; rw [rdIncl_S]; first | (rw [getOut_yes (by assumption)]; first | done | rfl) | (rw [getOut_no (by assumption)]; first | done | rfl) | (rw [rs0_ok (by assumption), getOut_yes (by assumption)]; first | done | rfl) | (rw [rs0_ok (by assumption), getOut_no (by assumption)]; first | done | rfl) | (rw [rs0_no (by assumption), getOut_nr (rdIncl_er (show ¬ ((5 : Int) = 0) by decide)) rfl]; first | done | rfl)) | (simp only [D.size, List.length_map]; unfold getIncl; rw [rdIncl_S]; first | (rw [getOut_yes (by assumption)]; first | done | rfl) | (rw [getOut_no (by assumption)]; first | done | rfl) | (rw [rs0_ok (by assumption), getOut_yes (by assumption)]; first | done | rfl) | (rw [rs0_ok (by assumption), getOut_no (by assumption)]; first | done | rfl) | (rw [rs0_no (by assumption), getOut_nr (rdIncl_er (show ¬ ((5 : Int) = 0) by decide)) rfl]; first | done | rfl))) (RetC.nilown' rfl (by first | rfl | (congr 1; unfold getIncl; rw [rdIncl_S]; first | (rw [getOut_yes (by assumption)]; first | done | rfl) | (rw [getOut_no (by assumption)]; first | done | rfl) | (rw [rs0_ok (by assumption), getOut_yes (by assumption)]; first | done | rfl) | (rw [rs0_ok (by assumption), getOut_no (by assumption)]; first | done | rfl) | (rw [rs0_no (by assumption), getOut_nr (rdIncl_er (show ¬ ((5 : Int) = 0) by decide)) rfl]; first | done | rfl)) | (simp only [D.size, List.length_map]; unfold getIncl; rw [rdIncl_S]; first | (rw [getOut_yes (by assumption)]; first | done | rfl) | (rw [getOut_no (by assumption)]; first | done | rfl) | (rw [rs0_ok (by assumption), getOut_yes (by assumption)]; first | done | rfl) | (rw [rs0_ok (by assumption), getOut_no (by assumption)]; first | done | rfl) | (rw [rs0_no (by assumption), getOut_nr (rdIncl_er (show ¬ ((5 : Int) = 0) by decide)) rfl]; first | done | rfl))) (by first | exact trivial | exact D.wf_nil _) (RetC.nilown' rfl (by first | rfl | (congr 1; unfold getIncl; rw [rdIncl_S]; first | (rw [getOut_yes (by assumption)]; first | done | rfl) | (rw [getOut_no (by assumption)]; first | done | rfl) | (rw [rs0_ok (by assumption), getOut_yes (by assumption)]; first | done | rfl) | (rw [rs0_ok (by assumption), getOut_no (by assumption)]; first | done | rfl) | (rw [rs0_no (by assumption), getOut_nr (rdIncl_er (show ¬ ((5 : Int) = 0) by decide)) rfl]; first | done | rfl)) | (simp only [D.size, List.length_map]; unfold getIncl; rw [rdIncl_S]; first | (rw [getOut_yes (by assumption)]; first | done | rfl) | (rw [getOut_no (by assumption)]; first | done | rfl) | (rw [rs0_ok (by assumption), getOut_yes (by assumption)]; first | done | rfl) | (rw [rs0_ok (by assumption), getOut_no (by assumption)]; first | done | rfl) | (rw [rs0_no (by assumption), getOut_nr (rdIncl_er (show ¬ ((5 : Int) = 0) by decide)) rfl]; first | done | rfl))) (by first | exact trivial | exact D.wf_nil _) (RetC.rd' (by first | rfl | (congr 1; unfold getIncl; rw [rdIncl_S]; first | (rw [getOut_yes (by assumption)]; first | done | rfl) | (rw [getOut_no (by assumption)]; first | done | rfl) | (rw [rs0_ok (by assumption), getOut_yes (by assumption)]; first | done | rfl) | (rw [rs0_ok (by assumption), getOut_no (by assumption)]; first | done | rfl) | (rw [rs0_no (by assumption), getOut_nr (rdIncl_er (show ¬ ((5 : Int) = 0) by decide)) rfl]; first | done | rfl)) | (simp only [D.size, List.length_map]; unfold getIncl; rw [rdIncl_S]; first | (rw [getOut_yes (by assumption)]; first | done | rfl) | (rw [getOut_no (by assumption)]; first | done | rfl) | (rw [rs0_ok (by assumption), getOut_yes (by assumption)]; first | done | rfl) | (rw [rs0_ok (by assumption), getOut_no (by assumption)]; first | done | rfl) | (rw [rs0_no (by assumption), getOut_nr (rdIncl_er (show ¬ ((5 : Int) = 0) by decide)) rfl]; first | done | rfl))) (RetC.rd' (by first | rfl | (congr 1; unfold getIncl; rw [rdIncl_S]; first | (rw [getOut_yes (by assumption)]; first | done | rfl) | (rw [getOut_no (by assumption)]; first | done | rfl) | (rw [rs0_ok (by assumption), getOut_yes (by assumption)]; first | done | rfl) | (rw [rs0_ok (by assumption), getOut_no (by assumption)]; first | done | rfl) | (rw [rs0_no (by assumption), getOut_nr (rdIncl_er (show ¬ ((5 : Int) = 0) by decide)) rfl]; first | done | rfl)) | (simp only [D.size, List.length_map]; unfold getIncl; rw [rdIncl_S]; first | (rw [getOut_yes (by assumption)]; first | done | rfl) | (rw [getOut_no (by assumption)]; first | done | rfl) | (rw [rs0_ok (by assumption), getOut_yes (by assumption)]; first | done | rfl) | (rw [rs0_ok (by assumption), getOut_no (by assumption)]; first | done | rfl) | (rw [rs0_no (by assumption), getOut_nr (rdIncl_er (show ¬ ((5 : Int) = 0) by decide)) rfl]; first | done | rfl))) .nil)))))))⟩
 ·
  replace h2 := of_decide_eq_false h2
  refine T.skip ?_
  refine T.seq ?_
  refine T.drawX [{ dst := some 28, pv := (.agg [.d (.int .i64 (rdInclS l b (rs0 l a)).2.f0), .d (.int .i64 (rdInclS l b (rs0 l a)).2.f1), .d (.int .i64 (rdInclS l b (rs0 l a)).2.f2), .row 7017 [], .row 8017 []]) }, { dst := some 29, pv := (.one (.ptr 14 0)) }, { dst := some 30, pv := (.one (.ptr 14 0)) }, { dst := some 31, pv := (.one (.ptr 14 1)) }, { dst := some 32, pv := (.one (.d (.int .i64 (rdInclS l b (rs0 l a)).1.f0))) }, { box := some (6, (73, [.d (.int .i64 (rdInclS l b (rs0 l a)).2.f0), .d (.int .i64 (rdInclS l b (rs0 l a)).2.f1), .d (.int .i64 (rdInclS l b (rs0 l a)).2.f2), .row 7017 [], .row 8017 []])) }, { dst := some 7, pv := (.one (.d (.int .i64 (rdInclS l b (rs0 l a)).1.f0))) }, { dst := some 8, pv := (.one (.d (.int .i64 0))) }] (by kernel_rfl) (by kernel_rfl) ?_ ?_
  ·
   refine .cons (fun E hA_ => by have g10 : E.get 10 = (.one (.ptr 10 0)) := (hA_.get 10 (by kernel_rfl)).trans (by kernel_rfl); have b10 : E.box 10 = some (73, [.d (.int .i64 (rdInclS l b (rs0 l a)).2.f0), .d (.int .i64 (rdInclS l b (rs0 l a)).2.f1), .d (.int .i64 (rdInclS l b (rs0 l a)).2.f2), .row 7017 [], .row 8017 []]) := (hA_.box 10 (by kernel_rfl)).trans (by kernel_rfl); exact OpStep.plain rfl (Step.load_box_agg (n := 5) (qs := [.d (.int .i64 (rdInclS l b (rs0 l a)).2.f0), .d (.int .i64 (rdInclS l b (rs0 l a)).2.f1), .d (.int .i64 (rdInclS l b (rs0 l a)).2.f2), .row 7017 [], .row 8017 []]) (t := 28) rfl rfl (by exact lt_ok rfl) (by kernel_rfl) (show Env.ev E (.tmp 10) = _ from g10.trans rfl) b10 rfl rfl)) ?_
   refine .cons (fun E hA_ => by have g9 : E.get 9 = (.one (.ptr 14 0)) := (hA_.get 9 (by kernel_rfl)).trans (by kernel_rfl); exact OpStep.plain rfl (Step.move (p := (.one (.ptr 14 0))) (t := 29) rfl rfl (by exact lt_ok rfl) (show Env.ev E (.tmp 9) = _ from g9.trans rfl))) ?_
   refine .cons (fun E hA_ => by have g29 : E.get 29 = (.one (.ptr 14 0)) := (hA_.get 29 (by kernel_rfl)).trans (by kernel_rfl); exact OpStep.plain rfl (Step.nilCheck (t := 30) rfl rfl (by exact lt_ok rfl) (show Env.ev E (.tmp 29) = _ from g29.trans rfl))) ?_
   refine .cons (fun E hA_ => by have g30 : E.get 30 = (.one (.ptr 14 0)) := (hA_.get 30 (by kernel_rfl)).trans (by kernel_rfl); exact OpStep.plain rfl (Step.fieldAddr (q := 0) (off := 1) (n := 1) (one := true) (t := 31) rfl rfl (by exact lt_ok rfl) (by kernel_rfl) (Nat.succ_ne_zero _) (show Env.ev E (.tmp 30) = _ from g30.trans rfl))) ?_
   refine .cons (fun E hA_ => by have g31 : E.get 31 = (.one (.ptr 14 1)) := (hA_.get 31 (by kernel_rfl)).trans (by kernel_rfl); have b14 : E.box 14 = some (150, [.d (.ints .u8 b), .d (.int .i64 (rdInclS l b (rs0 l a)).1.f0), .d (.int .i64 (rdInclS l b (rs0 l a)).1.f1)]) := (hA_.box 14 (by kernel_rfl)).trans (by kernel_rfl); exact OpStep.plain rfl (Step.load_box (c := .d (.int .i64 (rdInclS l b (rs0 l a)).1.f0)) (t := 32) rfl rfl (by exact lt_ok rfl) (by kernel_rfl) (show Env.ev E (.tmp 31) = _ from g31.trans rfl) b14 rfl)) ?_
   refine .cons (fun E hA_ => by have g6 : E.get 6 = (.one (.ptr 6 0)) := (hA_.get 6 (by kernel_rfl)).trans (by kernel_rfl); have g28 : E.get 28 = (.agg [.d (.int .i64 (rdInclS l b (rs0 l a)).2.f0), .d (.int .i64 (rdInclS l b (rs0 l a)).2.f1), .d (.int .i64 (rdInclS l b (rs0 l a)).2.f2), .row 7017 [], .row 8017 []]) := (hA_.get 28 (by kernel_rfl)).trans (by kernel_rfl); have q7017 : E.row 7017 = some (5, (.ints .u8 (rdInclS l b (rs0 l a)).2.f3)) := (hA_.row 7017 (by kernel_rfl)).trans (by kernel_rfl); have q8017 : E.row 8017 = some (22, (.bss (rdInclS l b (rs0 l a)).2.f4)) := (hA_.row 8017 (by kernel_rfl)).trans (by kernel_rfl); have b6 : E.box 6 = some (73, [.d (.int .i64 0), .d (.int .i64 0), .d (.int .i64 0), .nil, .nil]) := (hA_.box 6 (by kernel_rfl)).trans (by kernel_rfl); exact OpStep.plain rfl (Step.store_box (n := 5) (p := (.agg [.d (.int .i64 (rdInclS l b (rs0 l a)).2.f0), .d (.int .i64 (rdInclS l b (rs0 l a)).2.f1), .d (.int .i64 (rdInclS l b (rs0 l a)).2.f2), .row 7017 [], .row 8017 []])) (qs := [.d (.int .i64 (rdInclS l b (rs0 l a)).2.f0), .d (.int .i64 (rdInclS l b (rs0 l a)).2.f1), .d (.int .i64 (rdInclS l b (rs0 l a)).2.f2), .row 7017 [], .row 8017 []]) (ps' := [.d (.int .i64 (rdInclS l b (rs0 l a)).2.f0), .d (.int .i64 (rdInclS l b (rs0 l a)).2.f1), .d (.int .i64 (rdInclS l b (rs0 l a)).2.f2), .row 7017 [], .row 8017 []]) rfl rfl (by kernel_rfl) (show Env.ev E (.tmp 6) = _ from g6.trans rfl) b6 (show Env.ev E (.tmp 28) = _ from g28.trans rfl) rfl rfl (by simp only [List.all_cons, List.all_nil, List.flatten_cons, List.flatten_nil, List.append_nil, List.cons_append, List.nil_append, Env.fine, q7017, q8017]; rfl) (le_ok rfl) rfl)) ?_
   refine .cons (fun E hA_ => by have g32 : E.get 32 = (.one (.d (.int .i64 (rdInclS l b (rs0 l a)).1.f0))) := (hA_.get 32 (by kernel_rfl)).trans (by kernel_rfl); exact OpStep.plain rfl (Step.assign (p := (.one (.d (.int .i64 (rdInclS l b (rs0 l a)).1.f0)))) (t := 7) rfl rfl (by exact lt_ok rfl) (show Env.ev E (.tmp 32) = _ from g32.trans rfl))) ?_
   refine .cons (fun E hA_ => by exact OpStep.plain rfl (Step.assign (p := (.one (.d (.int .i64 0)))) (t := 8) rfl rfl (by exact lt_ok rfl) rfl)) ?_
   exact .nil _ _
  refine TL.weaken (E' := { tm := [(0, (.agg [.d (.int .i64 l.f0), .d (.int .i64 l.f1), .d (.int .i64 l.f2), .d (.int .i64 l.f3), .d (.int .i64 l.f4)])), (1, (.one (.d (.ints .u8 b)))), (2, (.one (.d (.int .i64 a)))), (3, (.one (.ptr 3 0))), (6, (.one (.ptr 6 0))), (7, (.one (.d (.int .i64 (rdInclS l b (rs0 l a)).1.f0)))), (8, (.one (.d (.int .i64 0)))), (11, (.agg [.d (.int .i64 l.f0), .d (.int .i64 l.f1), .d (.int .i64 l.f2), .d (.int .i64 l.f3), .d (.int .i64 l.f4)])), (12, (.one (.d (.ints .u8 b)))), (13, (.one (.d (.int .i64 a)))), (14, (.one (.ptr 14 0))), (9, (.one (.ptr 14 0))), (15, (.one (.ptr 14 0))), (16, (.agg [.d (.int .i64 l.f0), .d (.int .i64 l.f1), .d (.int .i64 l.f2), .d (.int .i64 l.f3), .d (.int .i64 l.f4)])), (17, (.agg [.d (.int .i64 (rdInclS l b (rs0 l a)).2.f0), .d (.int .i64 (rdInclS l b (rs0 l a)).2.f1), .d (.int .i64 (rdInclS l b (rs0 l a)).2.f2), .row 7017 [], .row 8017 []])), (10, (.one (.ptr 10 0))), (18, (.one (.ptr 14 0))), (19, (.one (.ptr 14 0))), (20, (.one (.ptr 14 2))), (21, (.one (.d (.int .i64 (rdInclS l b (rs0 l a)).1.f1)))), (22, (.one (.d (.bool (decide ((rdInclS l b (rs0 l a)).1.f1 ≠ 0)))))), (28, (.agg [.d (.int .i64 (rdInclS l b (rs0 l a)).2.f0), .d (.int .i64 (rdInclS l b (rs0 l a)).2.f1), .d (.int .i64 (rdInclS l b (rs0 l a)).2.f2), .row 7017 [], .row 8017 []])), (29, (.one (.ptr 14 0))), (30, (.one (.ptr 14 0))), (31, (.one (.ptr 14 1))), (32, (.one (.d (.int .i64 (rdInclS l b (rs0 l a)).1.f0))))], rows := [(7017, (5, (.ints .u8 (rdInclS l b (rs0 l a)).2.f3))), (8017, (22, (.bss (rdInclS l b (rs0 l a)).2.f4)))], boxes := [(3, (44, [.d (.int .i64 l.f0), .d (.int .i64 l.f1), .d (.int .i64 l.f2), .d (.int .i64 l.f3), .d (.int .i64 l.f4)])), (6, (73, [.d (.int .i64 (rdInclS l b (rs0 l a)).2.f0), .d (.int .i64 (rdInclS l b (rs0 l a)).2.f1), .d (.int .i64 (rdInclS l b (rs0 l a)).2.f2), .row 7017 [], .row 8017 []])), (14, (150, [.d (.ints .u8 b), .d (.int .i64 (rdInclS l b (rs0 l a)).1.f0), .d (.int .i64 (rdInclS l b (rs0 l a)).1.f1)])), (10, (73, [.d (.int .i64 (rdInclS l b (rs0 l a)).2.f0), .d (.int .i64 (rdInclS l b (rs0 l a)).2.f1), .d (.int .i64 (rdInclS l b (rs0 l a)).2.f2), .row 7017 [], .row 8017 []]))] }) (Env.le_mk ⟨by kernel_rfl, by kernel_rfl, by kernel_rfl, by kernel_rfl, by kernel_rfl, by kernel_rfl, by kernel_rfl, by kernel_rfl, by kernel_rfl, by kernel_rfl, by kernel_rfl, by kernel_rfl, by kernel_rfl, by kernel_rfl, by kernel_rfl, by kernel_rfl, by kernel_rfl, by kernel_rfl, by kernel_rfl, by kernel_rfl, by kernel_rfl, by kernel_rfl, by kernel_rfl, by kernel_rfl, by kernel_rfl, by kernel_rfl, trivial⟩ ⟨by kernel_rfl, by kernel_rfl, trivial⟩ ⟨by kernel_rfl, by kernel_rfl, by kernel_rfl, by kernel_rfl, trivial⟩) ?_
  refine TL.nil ?_
  refine T.ret ?_
  exact ⟨[(true, [.d (.int .i64 (rdInclS l b (rs0 l a)).2.f0), .d (.int .i64 (rdInclS l b (rs0 l a)).2.f1), .d (.int .i64 (rdInclS l b (rs0 l a)).2.f2), .row 7017 [], .row 8017 []]), (false, [.d (.int .i64 (rdInclS l b (rs0 l a)).1.f0)]), (false, [.d (.int .i64 0)])], (.cons rfl (.cons rfl (.cons rfl .nil))), rfl, [7017, 8017], (RetC.rd' (by first | rfl | (congr 1; unfold getIncl; rw [rdIncl_S]; first | (rw [getOut_yes (by assumption)]; first | done | rfl) | (rw [getOut_no (by assumption)]; first | done | rfl) | (rw [rs0_ok (by assumption), getOut_yes (by assumption)]; first | done | rfl) | (rw [rs0_ok (by assumption), getOut_no (by assumption)]; first | done | rfl) | (rw [rs0_no (by assumption), getOut_nr (rdIncl_er (show ¬ ((5 : Int) = 0) by decide)) rfl]; first | done | rfl)) | (simp only [D.size, List.length_map]; unfold getIncl; rw [rdIncl_S]; first | (rw [getOut_yes (by assumption)]; first | done | rfl) | (rw [getOut_no (by assumption)]; first | done | rfl) | (rw [rs0_ok (by assumption), getOut_yes (by assumption)]; first | done | rfl) | (rw [rs0_ok (by assumption), getOut_no (by assumption)]; first | done | rfl) | (rw [rs0_no (by assumption), getOut_nr (rdIncl_er (show ¬ ((5 : Int) = 0) by decide)) rfl]; first | done | rfl))) (RetC.rd' (by first | rfl | (congr 1; unfold getIncl; rw [rdIncl_S]; first | (rw [getOut_yes (by assumption)]; first | done | rfl) | (rw [getOut_no (by assumption)]; first | done | rfl) | (rw [rs0_ok (by assumption), getOut_yes (by assumption)]; first | done | rfl) | (rw [rs0_ok (by assumption), getOut_no (by assumption)]; first | done | rfl) | (rw [rs0_no (by assumption), getOut_nr (rdIncl_er (show ¬ ((5 : Int) = 0) by decide)) rfl]; first | done | rfl)) | (simp only [D.size, List.length_map]; unfold getIncl; rw [rdIncl_S]; first | (rw [getOut_yes (by assumption)]; first | done | rfl) | (rw [getOut_no (by assumption)]; first | done | rfl) | (rw [rs0_ok (by assumption), getOut_yes (by assumption)]; first | done | rfl) | (rw [rs0_ok (by assumption), getOut_no (by assumption)]; first | done | rfl) | (rw [rs0_no (by assumption), getOut_nr (rdIncl_er (show ¬ ((5 : Int) = 0) by decide)) rfl]; first | done | rfl))) (RetC.rd' (by first | rfl | (congr 1; unfold getIncl; rw [rdIncl_S]; first | (rw [getOut_yes (by assumption)]; first | done | rfl) | (rw [getOut_no (by assumption)]; first | done | rfl) | (rw [rs0_ok (by assumption), getOut_yes (by assumption)]; first | done | rfl) | (rw [rs0_ok (by assumption), getOut_no (by assumption)]; first | done | rfl) | (rw [rs0_no (by assumption), getOut_nr (rdIncl_er (show ¬ ((5 : Int) = 0) by decide)) rfl]; first | done | rfl)) | (simp only [D.size, List.length_map]; unfold getIncl; rw [rdIncl_S]; first | (rw [getOut_yes (by assumption)]; first | done | rfl) | (rw [getOut_no (by assumption)]; first | done | rfl) | (rw [rs0_ok (by assumption), getOut_yes (by assumption)]; first | done | rfl) | (rw [rs0_ok (by assumption), getOut_no (by assumption)]; first | done | rfl) | (rw [rs0_no (by assumption), getOut_nr (rdIncl_er (show ¬ ((5 : Int) = 0) by decide)) rfl]; first | done | rfl))) (RetC.own' rfl (by first | rfl | (congr 1; unfold getIncl; rw [rdIncl_S]; first | (rw [getOut_yes (by assumption)]; first | done | rfl) | (rw [getOut_no (by assumption)]; first | done | rfl) | (rw [rs0_ok (by assumption), getOut_yes (by assumption)]; first | done | rfl) | (rw [rs0_ok (by assumption), getOut_no (by assumption)]; first | done | rfl) | (rw [rs0_no (by assumption), getOut_nr (rdIncl_er (show ¬ ((5 : Int) = 0) by decide)) rfl]; first | done | rfl)) | (simp only [D.size, List.length_map]; unfold getIncl; rw [rdIncl_S]; first | (rw [getOut_yes (by assumption)]; first | done | rfl) | (rw [getOut_no (by assumption)]; first | done | rfl) | (rw [rs0_ok (by assumption), getOut_yes (by assumption)]; first | done | rfl) | (rw [rs0_ok (by assumption), getOut_no (by assumption)]; first | done | rfl) | (rw [rs0_no (by assumption), getOut_nr (rdIncl_er (show ¬ ((5 : Int) = 0) by decide)) rfl]; first | done | rfl))) rfl (RetC.own' rfl (by first | rfl | (congr 1; unfold getIncl; rw [rdIncl_S]; first | (rw [getOut_yes (by assumption)]; first | done | rfl) | (rw [getOut_no (by assumption)]; first | done | rfl) | (rw [rs0_ok (by assumption), getOut_yes (by assumption)]; first | done | rfl) | (rw [rs0_ok (by assumption), getOut_no (by assumption)]; first | done | rfl) | (rw [rs0_no (by assumption), getOut_nr (rdIncl_er (show ¬ ((5 : Int) = 0) by decide)) rfl]; first | done | rfl)) | (simp only [D.size, List.length_map]; unfold getIncl; rw [rdIncl_S]; first | (rw [getOut_yes (by assumption)]; first | done | rfl) | (rw [getOut_no (by assumption)]; first | done | rfl) | (rw [rs0_ok (by assumption), getOut_yes (by assumption)]; first | done | rfl) | (rw [rs0_ok (by assumption), getOut_no (by assumption)]; first | done | rfl) | (rw [rs0_no (by assumption), getOut_nr (rdIncl_er (show ¬ ((5 : Int) = 0) by decide)) rfl]; first | done | rfl))) rfl (RetC.rd' (by first | rfl | (congr 1; unfold getIncl; rw [rdIncl_S]; first | (rw [getOut_yes (by assumption)]; first | done | rfl) | (rw [getOut_no (by assumption)]; first | done | rfl) | (rw [rs0_ok (by assumption), getOut_yes (by assumption)]; first | done | rfl) | (rw [rs0_ok (by assumption), getOut_no (by assumption)]; first | done | rfl) | (rw [rs0_no (by assumption), getOut_nr (rdIncl_er (show ¬ ((5 : Int) = 0) by decide)) rfl]; first | done | rfl)) | (simp only [D.size, List.length_map]; unfold getIncl; rw [rdIncl_S]; first | (rw [getOut_yes (by assumption)]; first | done | rfl) | (rw [getOut_no (by assumption)]; first | done | rfl) | (rw [rs0_ok (by assumption), getOut_yes (by assumption)]; first | done | rfl) | (rw [rs0_ok (by assumption), getOut_no (by assumption)]; first | done | rfl) | (rw [rs0_no (by assumption), getOut_nr (rdIncl_er (show ¬ ((5 : Int) = 0) by decide)) rfl]; first | done | rfl))) (RetC.rd' (by first | rfl | (congr 1; unfold getIncl; rw [rdIncl_S]; first | (rw [getOut_yes (by assumption)]; first | done | rfl) | (rw [getOut_no (by assumption)]; first | done | rfl) | (rw [rs0_ok (by assumption), getOut_yes (by assumption)]; first | done | rfl) | (rw [rs0_ok (by assumption), getOut_no (by assumption)]; first | done | rfl) | (rw [rs0_no (by assumption), getOut_nr (rdIncl_er (show ¬ ((5 : Int) = 0) by decide)) rfl]; first | done | rfl)) | (simp only [D.size, List.length_map]; unfold getIncl; rw [rdIncl_S]; first | (rw [getOut_yes (by assumption)]; first | done | rfl) | (rw [getOut_no (by assumption)]; first | done | rfl) | (rw [rs0_ok (by assumption), getOut_yes (by assumption)]; first | done | rfl) | (rw [rs0_ok (by assumption), getOut_no (by assumption)]; first | done | rfl) | (rw [rs0_no (by assumption), getOut_nr (rdIncl_er (show ¬ ((5 : Int) = 0) by decide)) rfl]; first | done | rfl))) .nil)))))))⟩
theorem ok_impl_within (n : Int) (low : Int) (high : Int) : RO Try.prog 144 [.one (.int .i64 n), .one (.int .i64 low), .one (.int .i64 high)] [(false, [.rd (.bool (decide (low ≤ n ∧ n ≤ high)))])] := by
 refine RO.intro Try.func144 rfl 15 rfl (le_ok rfl) fun w Z => ?_
 refine T.seq ?_
 refine T.region ?_
 refine TL.cons rfl (Step.assign (p := (.one (.d (.bool false)))) rfl rfl (lt_ok rfl) rfl) ?_
 refine TL.nil ?_
 refine T.seq ?_
 refine T.region ?_
 refine TL.cons rfl (Step.move (p := (.one (.d (.int .i64 low)))) rfl rfl (lt_ok rfl) rfl) ?_
 refine TL.cons rfl (Step.move (p := (.one (.d (.int .i64 n)))) rfl rfl (lt_ok rfl) rfl) ?_
 refine TL.cons rfl (Step.bin rfl rfl (lt_ok rfl) rfl rfl (Bin.leq (k := .i64) (a := low) (b := n))) ?_
 refine TL.cons rfl (Step.move (p := (.one (.d (.bool (decide (low ≤ n)))))) rfl rfl (lt_ok rfl) rfl) ?_
 rcases Bool.eq_false_or_eq_true (decide (low ≤ n)) with hb1 | hb1
 ·
  refine TL.known 10 hb1 rfl ?_
  refine TL.gyes 10 rfl rfl (lt_ok rfl) rfl (Step.move (p := (.one (.d (.int .i64 n)))) rfl rfl (lt_ok rfl) rfl) ?_
  refine TL.gyes 10 rfl rfl (lt_ok rfl) rfl (Step.move (p := (.one (.d (.int .i64 high)))) rfl rfl (lt_ok rfl) rfl) ?_
  refine TL.gyes 10 rfl rfl (lt_ok rfl) rfl (Step.bin rfl rfl (lt_ok rfl) rfl rfl (Bin.leq (k := .i64) (a := n) (b := high))) ?_
  refine TL.cons rfl (Step.pick (b := true) (p := (.one (.d (.bool (decide (n ≤ high)))))) rfl rfl (lt_ok rfl) rfl rfl) ?_
  refine TL.cons rfl (Step.assign (p := (.one (.d (.bool (decide (n ≤ high)))))) rfl rfl (lt_ok rfl) rfl) ?_
  refine TL.nil ?_
  refine T.ret ?_
  exact ⟨[(false, [.d (.bool (decide (n ≤ high)))])], (.cons rfl .nil), rfl, [], (RetC.rd' (by first | (congr 1; simp_all; done) | (congr 1; simp_all; omega)) .nil)⟩
 ·
  refine TL.known 10 hb1 rfl ?_
  refine TL.goff 10 rfl rfl (lt_ok rfl) rfl rfl rfl (lt_ok rfl) ?_
  refine TL.goff 10 rfl rfl (lt_ok rfl) rfl rfl rfl (lt_ok rfl) ?_
  refine TL.goff 10 rfl rfl (lt_ok rfl) rfl rfl rfl (lt_ok rfl) ?_
  refine TL.cons rfl (Step.pick (b := false) (p := (.one (.d (.bool false)))) rfl rfl (lt_ok rfl) rfl rfl) ?_
  refine TL.cons rfl (Step.assign (p := (.one (.d (.bool false)))) rfl rfl (lt_ok rfl) rfl) ?_
  refine TL.nil ?_
  refine T.ret ?_
  exact ⟨[(false, [.d (.bool false)])], (.cons rfl .nil), rfl, [], (RetC.rd' (by first | (congr 1; simp_all; done) | (congr 1; simp_all; omega)) .nil)⟩
theorem ok_impl_isNum (n : Int) : RO Try.prog 147 [.one (.int .i64 n)] [(false, [.rd (.bool (decide (0 ≤ n ∧ n ≤ 1152921504606846975)))])] := by
 refine RO.intro Try.func147 rfl 5 rfl (le_ok rfl) fun w Z => ?_
 refine T.seq ?_
 refine T.region ?_
 refine TL.cons rfl (Step.assign (p := (.one (.d (.bool false)))) rfl rfl (lt_ok rfl) rfl) ?_
 refine TL.nil ?_
 refine T.seq ?_
 refine T.region ?_
 refine TL.cons rfl (Step.move (p := (.one (.d (.int .i64 n)))) rfl rfl (lt_ok rfl) rfl) ?_
 refine TL.cons rfl (Step.call (f := 144) (xs := [.tmp 3, .const (.int .i64 0), .const (.int .i64 1152921504606846975)]) (ps := [(.one (.d (.int .i64 n))), (.one (.d (.int .i64 0))), (.one (.d (.int .i64 1152921504606846975)))]) false (g := .func 144) rfl rfl (lt_ok rfl) rfl (by kernel_rfl) rfl (.cons (.one (.d _)) (.cons (.one (.d _)) (.cons (.one (.d _)) .nil))) (ok_impl_within n 0 1152921504606846975) (.inr rfl) rfl (by simp) rfl) ?_
 refine TL.cons rfl (Step.assign (p := (.one (.d (.bool (decide (0 ≤ n ∧ n ≤ 1152921504606846975)))))) rfl rfl (lt_ok rfl) rfl) ?_
 refine TL.nil ?_
 refine T.ret ?_
 exact ⟨[(false, [.d (.bool (decide (0 ≤ n ∧ n ≤ 1152921504606846975)))])], (.cons rfl .nil), rfl, [], (RetC.rd' (by rfl) .nil)⟩
theorem ok_impl_GetVar (b : List Int) (a : Int) (h0_ : U8s b) (h1_ : b.length ≤ 1099511627776) : RO Try.prog 178 [.one (.ints .u8 b), .one (.int .i64 a)] [(false, [.rd (.int .i64 (getVar b a).1)]), (false, [.rd (.int .i64 (getVar b a).2.1)]), (false, [.rd (.int .i64 (getVar b a).2.2)])] := by
 refine RO.intro Try.func178 rfl 61 rfl (le_ok rfl) fun w Z => ?_
 refine T.bnd 0 0 rfl rfl fun hb_0_0 => ?_
 simp only [D.size, List.length_map] at hb_0_0
 refine T.seq ?_
 refine T.region ?_
 refine TL.cons rfl (Step.assign (p := (.one (.d (.int .i64 0)))) rfl rfl (lt_ok rfl) rfl) ?_
 refine TL.cons rfl (Step.assign (p := (.one (.d (.int .i64 0)))) rfl rfl (lt_ok rfl) rfl) ?_
 refine TL.cons rfl (Step.assign (p := (.one (.d (.int .i64 0)))) rfl rfl (lt_ok rfl) rfl) ?_
 refine TL.nil ?_
 refine T.seq ?_
 refine T.seq ?_
 refine T.region ?_
 refine TL.cons rfl (Step.move (p := (.one (.d (.int .i64 a)))) rfl rfl (lt_ok rfl) rfl) ?_
 refine TL.cons rfl (Step.move (p := (.one (.d (.ints .u8 b)))) rfl rfl (lt_ok rfl) rfl) ?_
 refine TL.cons rfl (Step.len (e := 5) (z := 1) (d := (.ints .u8 b)) rfl rfl (lt_ok rfl) (by kernel_rfl) rfl rfl) ?_
 refine TL.cons rfl (Step.call (f := 144) (xs := [.tmp 10, .const (.int .i64 0), .tmp 12]) (ps := [(.one (.d (.int .i64 a))), (.one (.d (.int .i64 0))), (.one (.d (.int .i64 (b.length : Int))))]) false (g := .func 144) rfl rfl (lt_ok rfl) rfl (by kernel_rfl) rfl (.cons (.one (.d _)) (.cons (.one (.d _)) (.cons (.one (.d _)) .nil))) (ok_impl_within a 0 (b.length : Int)) (.inr rfl) rfl (by simp) rfl) ?_
 refine TL.cons rfl (Step.not (b := (decide (0 ≤ a ∧ a ≤ (b.length : Int)))) rfl rfl (lt_ok rfl) rfl) ?_
 refine TL.nil ?_
 refine T.cond (b := !(decide (0 ≤ a ∧ a ≤ (b.length : Int)))) rfl (fun h1 => ?_) (fun h1 => ?_)
 ·
  replace h1 : (decide (0 ≤ a ∧ a ≤ (b.length : Int))) = false := by simpa only [Bool.not_eq_true', Bool.not_eq_false'] using h1
  replace h1 := of_decide_eq_false h1
  refine T.seq ?_
  refine T.region ?_
  refine TL.cons rfl (Step.assign (p := (.one (.d (.int .i64 0)))) rfl rfl (lt_ok rfl) rfl) ?_
  refine TL.cons rfl (Step.assign (p := (.one (.d (.int .i64 0)))) rfl rfl (lt_ok rfl) rfl) ?_
  refine TL.cons rfl (Step.assign (p := (.one (.d (.int .i64 1)))) rfl rfl (lt_ok rfl) rfl) ?_
  refine TL.nil ?_
  refine T.ret ?_
  exact ⟨[(false, [.d (.int .i64 0)]), (false, [.d (.int .i64 0)]), (false, [.d (.int .i64 1)])], (.cons rfl (.cons rfl (.cons rfl .nil))), rfl, [], (RetC.rd' (by (congr 1; first | (rw [getVar_out (by omega)]; done) | (rw [getVar_in (by omega), ← hx4]; first | (rw [gvGo_short (by omega) (by omega)]; done) | (rw [gvGo_var (by omega) (by omega) (by omega)]; done) | (rw [gvGo_done (by omega) (by omega) (by omega) (by omega) (by omega)]; done) | (rw [gvGo_big (by omega) (by omega) (by omega) (by omega) (by omega)]; done) | (rw [gvGo_end (by omega)]; done)))) (RetC.rd' (by (congr 1; first | (rw [getVar_out (by omega)]; done) | (rw [getVar_in (by omega), ← hx4]; first | (rw [gvGo_short (by omega) (by omega)]; done) | (rw [gvGo_var (by omega) (by omega) (by omega)]; done) | (rw [gvGo_done (by omega) (by omega) (by omega) (by omega) (by omega)]; done) | (rw [gvGo_big (by omega) (by omega) (by omega) (by omega) (by omega)]; done) | (rw [gvGo_end (by omega)]; done)))) (RetC.rd' (by (congr 1; first | (rw [getVar_out (by omega)]; done) | (rw [getVar_in (by omega), ← hx4]; first | (rw [gvGo_short (by omega) (by omega)]; done) | (rw [gvGo_var (by omega) (by omega) (by omega)]; done) | (rw [gvGo_done (by omega) (by omega) (by omega) (by omega) (by omega)]; done) | (rw [gvGo_big (by omega) (by omega) (by omega) (by omega) (by omega)]; done) | (rw [gvGo_end (by omega)]; done)))) .nil)))⟩
 ·
  replace h1 : (decide (0 ≤ a ∧ a ≤ (b.length : Int))) = true := by simpa only [Bool.not_eq_true', Bool.not_eq_false'] using h1
  replace h1 := of_decide_eq_true h1
  refine T.skip ?_
  refine T.seq ?_
  refine T.region ?_
  refine TL.cons rfl (Step.assign (p := (.one (.d (.int .i64 0)))) rfl rfl (lt_ok rfl) rfl) ?_
  refine TL.nil ?_
  refine T.seq ?_
  refine T.region ?_
  refine TL.cons rfl (Step.assign (p := (.one (.d (.int .i64 0)))) rfl rfl (lt_ok rfl) rfl) ?_
  refine TL.nil ?_
  refine T.block ?_
  refine T.loop (ι := Nat × Int) (fun xx_ => { tm := [(0, (.one (.d (.ints .u8 b)))), (1, (.one (.d (.int .i64 a)))), (8, (.one (.d (.int .i64 ((xx_.1) : Int))))), (7, (.one (.d (.int .i64 (xx_.2)))))], rows := [], boxes := [] }) (fun xx_ => (xx_.1) ≤ 8 ∧ 0 ≤ (xx_.2) ∧ (xx_.2) < 128 ^ (xx_.1) ∧ gvGo b a (9 - (xx_.1)) (xx_.1) (xx_.2) = gvGo b a 9 0 0) (fun xx_ => 9 - (xx_.1)) (0, 0) ?_ ?_ ?_
  · exact Env.le_mk ⟨rfl, rfl, by first | rfl | (refine congrArg (fun n => PV.one (.d (.int .i64 n))) ?_; first | rfl | omega | (simp; done)), by first | rfl | (refine congrArg (fun n => PV.one (.d (.int .i64 n))) ?_; first | rfl | omega | (simp; done)), trivial⟩ trivial trivial
  · (dsimp only; refine ⟨by omega, by omega, by simp, rfl⟩)
  ·
   intro xx_ hx
   obtain ⟨i, n⟩ := xx_
   try dsimp only at hx ⊢
   obtain ⟨hx1, hx2, hx3, hx4⟩ := hx
   have hu_ := getD_u8 h0_ (a + (i : Int)).toNat
   have hm_ := gv_mul hu_.1 i
   have hp_ := pow128 (i := i) (by omega)
   refine T.seq ?_
   refine T.block ?_
   refine T.seq ?_
   refine T.seq ?_
   refine T.region ?_
   refine TL.cons rfl (Step.move (p := (.one (.d (.int .i64 a)))) rfl rfl (lt_ok rfl) rfl) ?_
   refine TL.cons rfl (Step.move (p := (.one (.d (.int .i64 (i : Int))))) rfl rfl (lt_ok rfl) rfl) ?_
   refine TL.cons rfl (Step.bin (r := .int .i64 (a + (i : Int))) rfl rfl (lt_ok rfl) rfl rfl (Bin.add (a := a) (b := (i : Int)) (by first | exact wrap_ok (by first | omega | (simp; omega)) (by first | omega | (simp; omega)) | rfl))) ?_
   refine TL.cons rfl (Step.move (p := (.one (.d (.ints .u8 b)))) rfl rfl (lt_ok rfl) rfl) ?_
   refine TL.cons rfl (Step.len (e := 5) (z := 1) (d := (.ints .u8 b)) rfl rfl (lt_ok rfl) (by kernel_rfl) rfl rfl) ?_
   refine TL.cons rfl (Step.bin rfl rfl (lt_ok rfl) rfl rfl (Bin.geq (k := .i64) (a := (a + (i : Int))) (b := (b.length : Int)))) ?_
   refine TL.nil ?_
   refine T.cond (b := decide ((b.length : Int) ≤ (a + (i : Int)))) rfl (fun h2 => ?_) (fun h2 => ?_)
   ·
    replace h2 := of_decide_eq_true h2
    refine T.seq ?_
    refine T.region ?_
    refine TL.cons rfl (Step.assign (p := (.one (.d (.int .i64 0)))) rfl rfl (lt_ok rfl) rfl) ?_
    refine TL.cons rfl (Step.assign (p := (.one (.d (.int .i64 0)))) rfl rfl (lt_ok rfl) rfl) ?_
    refine TL.cons rfl (Step.assign (p := (.one (.d (.int .i64 1)))) rfl rfl (lt_ok rfl) rfl) ?_
    refine TL.nil ?_
    refine T.ret ?_
    exact ⟨[(false, [.d (.int .i64 0)]), (false, [.d (.int .i64 0)]), (false, [.d (.int .i64 1)])], (.cons rfl (.cons rfl (.cons rfl .nil))), rfl, [], (RetC.rd' (by (congr 1; first | (rw [getVar_out (by omega)]; done) | (rw [getVar_in (by omega), ← hx4]; first | (rw [gvGo_short (by omega) (by omega)]; done) | (rw [gvGo_var (by omega) (by omega) (by omega)]; done) | (rw [gvGo_done (by omega) (by omega) (by omega) (by omega) (by omega)]; done) | (rw [gvGo_big (by omega) (by omega) (by omega) (by omega) (by omega)]; done) | (rw [gvGo_end (by omega)]; done)))) (RetC.rd' (by (congr 1; first | (rw [getVar_out (by omega)]; done) | (rw [getVar_in (by omega), ← hx4]; first | (rw [gvGo_short (by omega) (by omega)]; done) | (rw [gvGo_var (by omega) (by omega) (by omega)]; done) | (rw [gvGo_done (by omega) (by omega) (by omega) (by omega) (by omega)]; done) | (rw [gvGo_big (by omega) (by omega) (by omega) (by omega) (by omega)]; done) | (rw [gvGo_end (by omega)]; done)))) (RetC.rd' (by (congr 1; first | (rw [getVar_out (by omega)]; done) | (rw [getVar_in (by omega), ← hx4]; first | (rw [gvGo_short (by omega) (by omega)]; done) | (rw [gvGo_var (by omega) (by omega) (by omega)]; done) | (rw [gvGo_done (by omega) (by omega) (by omega) (by omega) (by omega)]; done) | (rw [gvGo_big (by omega) (by omega) (by omega) (by omega) (by omega)]; done) | (rw [gvGo_end (by omega)]; done)))) .nil)))⟩
   ·
    replace h2 := of_decide_eq_false h2
    refine T.skip ?_
    refine T.seq ?_
    refine T.region ?_
    refine TL.cons rfl (Step.move (p := (.one (.d (.ints .u8 b)))) rfl rfl (lt_ok rfl) rfl) ?_
    refine TL.cons rfl (Step.move (p := (.one (.d (.int .i64 a)))) rfl rfl (lt_ok rfl) rfl) ?_
    refine TL.cons rfl (Step.move (p := (.one (.d (.int .i64 (i : Int))))) rfl rfl (lt_ok rfl) rfl) ?_
    refine TL.cons rfl (Step.bin (r := .int .i64 (a + (i : Int))) rfl rfl (lt_ok rfl) rfl rfl (Bin.add (a := a) (b := (i : Int)) (by first | exact wrap_ok (by first | omega | (simp; omega)) (by first | omega | (simp; omega)) | rfl))) ?_
    refine TL.cons rfl (Step.index (e := 5) (z := 1) (i := (a + (i : Int))) rfl rfl (lt_ok rfl) (by kernel_rfl) rfl rfl rfl (lt_ok rfl) rfl (by first | omega | (simp; omega)) (by simp only [D.size]; first | omega | (simp; omega))) ?_
    refine TL.cons rfl (Step.load (e := (.int .u8 (b.getD (a + (i : Int)).toNat 0))) rfl rfl (lt_ok rfl) (by kernel_rfl) rfl rfl) ?_
    refine TL.cons rfl (Step.assign (p := (.one (.d (.int .u8 (b.getD (a + (i : Int)).toNat 0))))) rfl rfl (lt_ok rfl) rfl) ?_
    refine TL.nil ?_
    refine T.seq ?_
    refine T.seq ?_
    refine T.region ?_
    refine TL.cons rfl (Step.move (p := (.one (.d (.int .i64 (i : Int))))) rfl rfl (lt_ok rfl) rfl) ?_
    refine TL.cons rfl (Step.bin rfl rfl (lt_ok rfl) rfl rfl (Bin.gtr (k := .i64) (a := (i : Int)) (b := 0))) ?_
    refine TL.cons rfl (Step.move (p := (.one (.d (.bool (decide (0 < (i : Int))))))) rfl rfl (lt_ok rfl) rfl) ?_
    rcases Bool.eq_false_or_eq_true (decide (0 < (i : Int))) with hb3 | hb3
    ·
     refine TL.known 31 hb3 rfl ?_
     have hb3' := hb3
     replace hb3' := of_decide_eq_true hb3'
     refine TL.gyes 31 rfl rfl (lt_ok rfl) rfl (Step.move (p := (.one (.d (.int .u8 (b.getD (a + (i : Int)).toNat 0))))) rfl rfl (lt_ok rfl) rfl) ?_
     refine TL.gyes 31 rfl rfl (lt_ok rfl) rfl (Step.bin rfl rfl (lt_ok rfl) rfl rfl (Bin.eql (k := .u8) (a := (b.getD (a + (i : Int)).toNat 0)) (b := 0))) ?_
     refine TL.cons rfl (Step.pick (b := true) (p := (.one (.d (.bool (decide ((b.getD (a + (i : Int)).toNat 0) = 0)))))) rfl rfl (lt_ok rfl) rfl rfl) ?_
     refine TL.cons rfl (Step.move (p := (.one (.d (.bool (decide ((b.getD (a + (i : Int)).toNat 0) = 0)))))) rfl rfl (lt_ok rfl) rfl) ?_
     rcases Bool.eq_false_or_eq_true (decide ((b.getD (a + (i : Int)).toNat 0) = 0)) with hb4 | hb4
     ·
      refine TL.known 35 hb4 rfl ?_
      have hb4' := hb4
      replace hb4' := of_decide_eq_true hb4'
      refine TL.goff 35 rfl rfl (lt_ok rfl) rfl rfl rfl (lt_ok rfl) ?_
      refine TL.goff 35 rfl rfl (lt_ok rfl) rfl rfl rfl (lt_ok rfl) ?_
      refine TL.goff 35 rfl rfl (lt_ok rfl) rfl rfl rfl (lt_ok rfl) ?_
      refine TL.goffU 38 rfl rfl (lt_ok rfl) rfl rfl (lt_ok rfl) ?_
      refine TL.goffU 38 rfl rfl (lt_ok rfl) rfl rfl (lt_ok rfl) ?_
      refine TL.goff 35 rfl rfl (lt_ok rfl) rfl rfl rfl (lt_ok rfl) ?_
      refine TL.cons rfl (Step.pick (b := true) (p := (.one (.d (.bool true)))) rfl rfl (lt_ok rfl) rfl rfl) ?_
      refine TL.nil ?_
      refine T.cond (b := true) rfl (fun h5_ => ?_) (fun h5_ => absurd h5_ (by simp))
      refine T.seq ?_
      refine T.region ?_
      refine TL.cons rfl (Step.assign (p := (.one (.d (.int .i64 0)))) rfl rfl (lt_ok rfl) rfl) ?_
      refine TL.cons rfl (Step.assign (p := (.one (.d (.int .i64 0)))) rfl rfl (lt_ok rfl) rfl) ?_
      refine TL.cons rfl (Step.assign (p := (.one (.d (.int .i64 2)))) rfl rfl (lt_ok rfl) rfl) ?_
      refine TL.nil ?_
      refine T.ret ?_
      exact ⟨[(false, [.d (.int .i64 0)]), (false, [.d (.int .i64 0)]), (false, [.d (.int .i64 2)])], (.cons rfl (.cons rfl (.cons rfl .nil))), rfl, [], (RetC.rd' (by (congr 1; first | (rw [getVar_out (by omega)]; done) | (rw [getVar_in (by omega), ← hx4]; first | (rw [gvGo_short (by omega) (by omega)]; done) | (rw [gvGo_var (by omega) (by omega) (by omega)]; done) | (rw [gvGo_done (by omega) (by omega) (by omega) (by omega) (by omega)]; done) | (rw [gvGo_big (by omega) (by omega) (by omega) (by omega) (by omega)]; done) | (rw [gvGo_end (by omega)]; done)))) (RetC.rd' (by (congr 1; first | (rw [getVar_out (by omega)]; done) | (rw [getVar_in (by omega), ← hx4]; first | (rw [gvGo_short (by omega) (by omega)]; done) | (rw [gvGo_var (by omega) (by omega) (by omega)]; done) | (rw [gvGo_done (by omega) (by omega) (by omega) (by omega) (by omega)]; done) | (rw [gvGo_big (by omega) (by omega) (by omega) (by omega) (by omega)]; done) | (rw [gvGo_end (by omega)]; done)))) (RetC.rd' (by (congr 1; first | (rw [getVar_out (by omega)]; done) | (rw [getVar_in (by omega), ← hx4]; first | (rw [gvGo_short (by omega) (by omega)]; done) | (rw [gvGo_var (by omega) (by omega) (by omega)]; done) | (rw [gvGo_done (by omega) (by omega) (by omega) (by omega) (by omega)]; done) | (rw [gvGo_big (by omega) (by omega) (by omega) (by omega) (by omega)]; done) | (rw [gvGo_end (by omega)]; done)))) .nil)))⟩
     ·
      refine TL.known 35 hb4 rfl ?_
      have hb4' := hb4
      replace hb4' := of_decide_eq_false hb4'
      refine TL.gyes 35 rfl rfl (lt_ok rfl) rfl (Step.move (p := (.one (.d (.int .i64 (i : Int))))) rfl rfl (lt_ok rfl) rfl) ?_
      refine TL.gyes 35 rfl rfl (lt_ok rfl) rfl (Step.bin rfl rfl (lt_ok rfl) rfl rfl (Bin.eql (k := .i64) (a := (i : Int)) (b := 8))) ?_
      refine TL.gyes 35 rfl rfl (lt_ok rfl) rfl (Step.move (p := (.one (.d (.bool (decide ((i : Int) = 8)))))) rfl rfl (lt_ok rfl) rfl) ?_
      rcases Bool.eq_false_or_eq_true (decide ((i : Int) = 8)) with hb6 | hb6
      ·
       refine TL.known 38 hb6 rfl ?_
       have hb6' := hb6
       replace hb6' := of_decide_eq_true hb6'
       refine TL.gyes 38 rfl rfl (lt_ok rfl) rfl (Step.move (p := (.one (.d (.int .u8 (b.getD (a + (i : Int)).toNat 0))))) rfl rfl (lt_ok rfl) rfl) ?_
       refine TL.gyes 38 rfl rfl (lt_ok rfl) rfl (Step.bin rfl rfl (lt_ok rfl) rfl rfl (Bin.geq (k := .u8) (a := (b.getD (a + (i : Int)).toNat 0)) (b := 128))) ?_
       refine TL.gyes 35 rfl rfl (lt_ok rfl) rfl (Step.pick (b := true) (p := (.one (.d (.bool (decide (128 ≤ (b.getD (a + (i : Int)).toNat 0))))))) rfl rfl (lt_ok rfl) rfl rfl) ?_
       refine TL.cons rfl (Step.pick (b := false) (p := (.one (.d (.bool (decide (128 ≤ (b.getD (a + (i : Int)).toNat 0))))))) rfl rfl (lt_ok rfl) rfl rfl) ?_
       refine TL.nil ?_
       refine T.cond (b := decide (128 ≤ (b.getD (a + (i : Int)).toNat 0))) rfl (fun h7 => ?_) (fun h7 => ?_)
       ·
        replace h7 := of_decide_eq_true h7
        refine T.seq ?_
        refine T.region ?_
        refine TL.cons rfl (Step.assign (p := (.one (.d (.int .i64 0)))) rfl rfl (lt_ok rfl) rfl) ?_
        refine TL.cons rfl (Step.assign (p := (.one (.d (.int .i64 0)))) rfl rfl (lt_ok rfl) rfl) ?_
        refine TL.cons rfl (Step.assign (p := (.one (.d (.int .i64 2)))) rfl rfl (lt_ok rfl) rfl) ?_
        refine TL.nil ?_
        refine T.ret ?_
        exact ⟨[(false, [.d (.int .i64 0)]), (false, [.d (.int .i64 0)]), (false, [.d (.int .i64 2)])], (.cons rfl (.cons rfl (.cons rfl .nil))), rfl, [], (RetC.rd' (by (congr 1; first | (rw [getVar_out (by omega)]; done) | (rw [getVar_in (by omega), ← hx4]; first | (rw [gvGo_short (by omega) (by omega)]; done) | (rw [gvGo_var (by omega) (by omega) (by omega)]; done) | (rw [gvGo_done (by omega) (by omega) (by omega) (by omega) (by omega)]; done) | (rw [gvGo_big (by omega) (by omega) (by omega) (by omega) (by omega)]; done) | (rw [gvGo_end (by omega)]; done)))) (RetC.rd' (by (congr 1; first | (rw [getVar_out (by omega)]; done) | (rw [getVar_in (by omega), ← hx4]; first | (rw [gvGo_short (by omega) (by omega)]; done) | (rw [gvGo_var (by omega) (by omega) (by omega)]; done) | (rw [gvGo_done (by omega) (by omega) (by omega) (by omega) (by omega)]; done) | (rw [gvGo_big (by omega) (by omega) (by omega) (by omega) (by omega)]; done) | (rw [gvGo_end (by omega)]; done)))) (RetC.rd' (by (congr 1; first | (rw [getVar_out (by omega)]; done) | (rw [getVar_in (by omega), ← hx4]; first | (rw [gvGo_short (by omega) (by omega)]; done) | (rw [gvGo_var (by omega) (by omega) (by omega)]; done) | (rw [gvGo_done (by omega) (by omega) (by omega) (by omega) (by omega)]; done) | (rw [gvGo_big (by omega) (by omega) (by omega) (by omega) (by omega)]; done) | (rw [gvGo_end (by omega)]; done)))) .nil)))⟩
       ·
        replace h7 := of_decide_eq_false h7
        refine T.skip ?_
        refine T.seq ?_
        refine T.region ?_
        refine TL.cons rfl (Step.move (p := (.one (.d (.int .i64 n)))) rfl rfl (lt_ok rfl) rfl) ?_
        refine TL.cons rfl (Step.move (p := (.one (.d (.int .u8 (b.getD (a + (i : Int)).toNat 0))))) rfl rfl (lt_ok rfl) rfl) ?_
        refine TL.cons rfl (Step.bin (r := .int .u8 (b.getD (a + (i : Int)).toNat 0 % 128)) rfl rfl (lt_ok rfl) rfl rfl (Bin.and (k := .u8) (a := (b.getD (a + (i : Int)).toNat 0)) (b := 127) (and127 hu_.1 hu_.2))) ?_
        refine TL.cons rfl (Step.conv (c := (b.getD (a + (i : Int)).toNat 0 % 128)) rfl rfl (lt_ok rfl) (by kernel_rfl) (by kernel_rfl) rfl (wrap_ok (by first | omega | (simp; omega)) (by first | omega | (simp; omega)))) ?_
        refine TL.cons rfl (Step.move (p := (.one (.d (.int .i64 (i : Int))))) rfl rfl (lt_ok rfl) rfl) ?_
        refine TL.cons rfl (Step.bin (r := .int .i64 (7 * (i : Int))) rfl rfl (lt_ok rfl) rfl rfl (Bin.mul (a := 7) (b := (i : Int)) (by first | exact wrap_ok (by first | omega | (simp; omega)) (by first | omega | (simp; omega)) | rfl))) ?_
        refine TL.cons rfl (Step.bin (r := .int .i64 (b.getD (a + (i : Int)).toNat 0 % 128 * 128 ^ i)) rfl rfl (lt_ok rfl) rfl rfl (Bin.shl (k := .i64) (k' := .i64) (a := (b.getD (a + (i : Int)).toNat 0 % 128)) (b := (7 * (i : Int))) (by first | omega | (simp; omega)) (shl_var (by omega) (by omega) (by omega)))) ?_
        refine TL.cons rfl (Step.bin (r := .int .i64 (n + b.getD (a + (i : Int)).toNat 0 % 128 * 128 ^ i)) rfl rfl (lt_ok rfl) rfl rfl (Bin.or (k := .i64) (a := n) (b := (b.getD (a + (i : Int)).toNat 0 % 128 * 128 ^ i)) (or_add (by omega) (by omega) (by omega) (by omega) (by omega)))) ?_
        refine TL.cons rfl (Step.assign (p := (.one (.d (.int .i64 (n + b.getD (a + (i : Int)).toNat 0 % 128 * 128 ^ i))))) rfl rfl (lt_ok rfl) rfl) ?_
        refine TL.nil ?_
        refine T.seq ?_
        refine T.region ?_
        refine TL.cons rfl (Step.move (p := (.one (.d (.int .u8 (b.getD (a + (i : Int)).toNat 0))))) rfl rfl (lt_ok rfl) rfl) ?_
        refine TL.cons rfl (Step.bin rfl rfl (lt_ok rfl) rfl rfl (Bin.lss (k := .u8) (a := (b.getD (a + (i : Int)).toNat 0)) (b := 128))) ?_
        refine TL.nil ?_
        refine T.cond (b := decide ((b.getD (a + (i : Int)).toNat 0) < 128)) rfl (fun h8 => ?_) (fun h8 => ?_)
        ·
         replace h8 := of_decide_eq_true h8
         refine T.seq ?_
         refine T.seq ?_
         refine T.region ?_
         refine TL.cons rfl (Step.move (p := (.one (.d (.int .i64 (n + b.getD (a + (i : Int)).toNat 0 % 128 * 128 ^ i))))) rfl rfl (lt_ok rfl) rfl) ?_
         refine TL.cons rfl (Step.call (f := 147) (xs := [.tmp 53]) (ps := [(.one (.d (.int .i64 (n + b.getD (a + (i : Int)).toNat 0 % 128 * 128 ^ i))))]) false (g := .func 147) rfl rfl (lt_ok rfl) rfl (by kernel_rfl) rfl (.cons (.one (.d _)) .nil) (ok_impl_isNum (n + b.getD (a + (i : Int)).toNat 0 % 128 * 128 ^ i)) (.inr rfl) rfl (by simp) rfl) ?_
         refine TL.cons rfl (Step.not (b := (decide (0 ≤ (n + b.getD (a + (i : Int)).toNat 0 % 128 * 128 ^ i) ∧ (n + b.getD (a + (i : Int)).toNat 0 % 128 * 128 ^ i) ≤ 1152921504606846975))) rfl rfl (lt_ok rfl) rfl) ?_
         refine TL.nil ?_
         refine T.cond (b := !(decide (0 ≤ (n + b.getD (a + (i : Int)).toNat 0 % 128 * 128 ^ i) ∧ (n + b.getD (a + (i : Int)).toNat 0 % 128 * 128 ^ i) ≤ 1152921504606846975))) rfl (fun h9 => ?_) (fun h9 => ?_)
         ·
          replace h9 : (decide (0 ≤ (n + b.getD (a + (i : Int)).toNat 0 % 128 * 128 ^ i) ∧ (n + b.getD (a + (i : Int)).toNat 0 % 128 * 128 ^ i) ≤ 1152921504606846975)) = false := by simpa only [Bool.not_eq_true', Bool.not_eq_false'] using h9
          replace h9 := of_decide_eq_false h9
          refine T.seq ?_
          refine T.region ?_
          refine TL.cons rfl (Step.assign (p := (.one (.d (.int .i64 0)))) rfl rfl (lt_ok rfl) rfl) ?_
          refine TL.cons rfl (Step.assign (p := (.one (.d (.int .i64 0)))) rfl rfl (lt_ok rfl) rfl) ?_
          refine TL.cons rfl (Step.assign (p := (.one (.d (.int .i64 2)))) rfl rfl (lt_ok rfl) rfl) ?_
          refine TL.nil ?_
          refine T.ret ?_
          exact ⟨[(false, [.d (.int .i64 0)]), (false, [.d (.int .i64 0)]), (false, [.d (.int .i64 2)])], (.cons rfl (.cons rfl (.cons rfl .nil))), rfl, [], (RetC.rd' (by (congr 1; first | (rw [getVar_out (by omega)]; done) | (rw [getVar_in (by omega), ← hx4]; first | (rw [gvGo_short (by omega) (by omega)]; done) | (rw [gvGo_var (by omega) (by omega) (by omega)]; done) | (rw [gvGo_done (by omega) (by omega) (by omega) (by omega) (by omega)]; done) | (rw [gvGo_big (by omega) (by omega) (by omega) (by omega) (by omega)]; done) | (rw [gvGo_end (by omega)]; done)))) (RetC.rd' (by (congr 1; first | (rw [getVar_out (by omega)]; done) | (rw [getVar_in (by omega), ← hx4]; first | (rw [gvGo_short (by omega) (by omega)]; done) | (rw [gvGo_var (by omega) (by omega) (by omega)]; done) | (rw [gvGo_done (by omega) (by omega) (by omega) (by omega) (by omega)]; done) | (rw [gvGo_big (by omega) (by omega) (by omega) (by omega) (by omega)]; done) | (rw [gvGo_end (by omega)]; done)))) (RetC.rd' (by (congr 1; first | (rw [getVar_out (by omega)]; done) | (rw [getVar_in (by omega), ← hx4]; first | (rw [gvGo_short (by omega) (by omega)]; done) | (rw [gvGo_var (by omega) (by omega) (by omega)]; done) | (rw [gvGo_done (by omega) (by omega) (by omega) (by omega) (by omega)]; done) | (rw [gvGo_big (by omega) (by omega) (by omega) (by omega) (by omega)]; done) | (rw [gvGo_end (by omega)]; done)))) .nil)))⟩
         ·
          replace h9 : (decide (0 ≤ (n + b.getD (a + (i : Int)).toNat 0 % 128 * 128 ^ i) ∧ (n + b.getD (a + (i : Int)).toNat 0 % 128 * 128 ^ i) ≤ 1152921504606846975)) = true := by simpa only [Bool.not_eq_true', Bool.not_eq_false'] using h9
          replace h9 := of_decide_eq_true h9
          refine T.skip ?_
          refine T.seq ?_
          refine T.region ?_
          refine TL.cons rfl (Step.move (p := (.one (.d (.int .i64 (n + b.getD (a + (i : Int)).toNat 0 % 128 * 128 ^ i))))) rfl rfl (lt_ok rfl) rfl) ?_
          refine TL.cons rfl (Step.move (p := (.one (.d (.int .i64 a)))) rfl rfl (lt_ok rfl) rfl) ?_
          refine TL.cons rfl (Step.move (p := (.one (.d (.int .i64 (i : Int))))) rfl rfl (lt_ok rfl) rfl) ?_
          refine TL.cons rfl (Step.bin (r := .int .i64 (a + (i : Int))) rfl rfl (lt_ok rfl) rfl rfl (Bin.add (a := a) (b := (i : Int)) (by first | exact wrap_ok (by first | omega | (simp; omega)) (by first | omega | (simp; omega)) | rfl))) ?_
          refine TL.cons rfl (Step.bin (r := .int .i64 ((a + (i : Int)) + 1)) rfl rfl (lt_ok rfl) rfl rfl (Bin.add (a := (a + (i : Int))) (b := 1) (by first | exact wrap_ok (by first | omega | (simp; omega)) (by first | omega | (simp; omega)) | rfl))) ?_
          refine TL.cons rfl (Step.assign (p := (.one (.d (.int .i64 (n + b.getD (a + (i : Int)).toNat 0 % 128 * 128 ^ i))))) rfl rfl (lt_ok rfl) rfl) ?_
          refine TL.cons rfl (Step.assign (p := (.one (.d (.int .i64 ((a + (i : Int)) + 1))))) rfl rfl (lt_ok rfl) rfl) ?_
          refine TL.cons rfl (Step.assign (p := (.one (.d (.int .i64 0)))) rfl rfl (lt_ok rfl) rfl) ?_
          refine TL.nil ?_
          refine T.ret ?_
          exact ⟨[(false, [.d (.int .i64 (n + b.getD (a + (i : Int)).toNat 0 % 128 * 128 ^ i))]), (false, [.d (.int .i64 ((a + (i : Int)) + 1))]), (false, [.d (.int .i64 0)])], (.cons rfl (.cons rfl (.cons rfl .nil))), rfl, [], (RetC.rd' (by (congr 1; first | (rw [getVar_out (by omega)]; done) | (rw [getVar_in (by omega), ← hx4]; first | (rw [gvGo_short (by omega) (by omega)]; done) | (rw [gvGo_var (by omega) (by omega) (by omega)]; done) | (rw [gvGo_done (by omega) (by omega) (by omega) (by omega) (by omega)]; done) | (rw [gvGo_big (by omega) (by omega) (by omega) (by omega) (by omega)]; done) | (rw [gvGo_end (by omega)]; done)))) (RetC.rd' (by (congr 1; first | (rw [getVar_out (by omega)]; done) | (rw [getVar_in (by omega), ← hx4]; first | (rw [gvGo_short (by omega) (by omega)]; done) | (rw [gvGo_var (by omega) (by omega) (by omega)]; done) | (rw [gvGo_done (by omega) (by omega) (by omega) (by omega) (by omega)]; done) | (rw [gvGo_big (by omega) (by omega) (by omega) (by omega) (by omega)]; done) | (rw [gvGo_end (by omega)]; done)))) (RetC.rd' (by (congr 1; first | (rw [getVar_out (by omega)]; done) | (rw [getVar_in (by omega), ← hx4]; first | (rw [gvGo_short (by omega) (by omega)]; done) | (rw [gvGo_var (by omega) (by omega) (by omega)]; done) | (rw [gvGo_done (by omega) (by omega) (by omega) (by omega) (by omega)]; done) | (rw [gvGo_big (by omega) (by omega) (by omega) (by omega) (by omega)]; done) | (rw [gvGo_end (by omega)]; done)))) .nil)))⟩
        ·
         replace h8 := of_decide_eq_false h8
         refine T.skip ?_
         refine T.region ?_
         refine TL.cons rfl (Step.move (p := (.one (.d (.int .i64 (i : Int))))) rfl rfl (lt_ok rfl) rfl) ?_
         refine TL.cons rfl (Step.bin (r := .int .i64 ((i : Int) + 1)) rfl rfl (lt_ok rfl) rfl rfl (Bin.add (a := (i : Int)) (b := 1) (by first | exact wrap_ok (by first | omega | (simp; omega)) (by first | omega | (simp; omega)) | rfl))) ?_
         refine TL.cons rfl (Step.assign (p := (.one (.d (.int .i64 ((i : Int) + 1))))) rfl rfl (lt_ok rfl) rfl) ?_
         refine TL.nil ?_
         exact ⟨(i + 1, n + b.getD (a + (i : Int)).toNat 0 % 128 * 128 ^ i), by (try dsimp only); (refine ⟨by omega, by omega, by rw [Int.pow_succ]; omega, ?_⟩; exact (gvGo_next (n := n) (by omega) (by omega) (by omega) (by omega)).symm.trans hx4), by (dsimp only; omega), Env.le_mk ⟨rfl, rfl, by first | rfl | (refine congrArg (fun n => PV.one (.d (.int .i64 n))) ?_; first | rfl | omega | (simp; done)), by first | rfl | (refine congrArg (fun n => PV.one (.d (.int .i64 n))) ?_; first | rfl | omega | (simp; done)), trivial⟩ trivial trivial⟩
      ·
       refine TL.known 38 hb6 rfl ?_
       have hb6' := hb6
       replace hb6' := of_decide_eq_false hb6'
       refine TL.goff 38 rfl rfl (lt_ok rfl) rfl rfl rfl (lt_ok rfl) ?_
       refine TL.goff 38 rfl rfl (lt_ok rfl) rfl rfl rfl (lt_ok rfl) ?_
       refine TL.gyes 35 rfl rfl (lt_ok rfl) rfl (Step.pick (b := false) (p := (.one (.d (.bool false)))) rfl rfl (lt_ok rfl) rfl rfl) ?_
       refine TL.cons rfl (Step.pick (b := false) (p := (.one (.d (.bool false)))) rfl rfl (lt_ok rfl) rfl rfl) ?_
       refine TL.nil ?_
       refine T.cond (b := false) rfl (fun h10_ => absurd h10_ (by simp)) (fun h10_ => ?_)
       refine T.skip ?_
       refine T.seq ?_
       refine T.region ?_
       refine TL.cons rfl (Step.move (p := (.one (.d (.int .i64 n)))) rfl rfl (lt_ok rfl) rfl) ?_
       refine TL.cons rfl (Step.move (p := (.one (.d (.int .u8 (b.getD (a + (i : Int)).toNat 0))))) rfl rfl (lt_ok rfl) rfl) ?_
       refine TL.cons rfl (Step.bin (r := .int .u8 (b.getD (a + (i : Int)).toNat 0 % 128)) rfl rfl (lt_ok rfl) rfl rfl (Bin.and (k := .u8) (a := (b.getD (a + (i : Int)).toNat 0)) (b := 127) (and127 hu_.1 hu_.2))) ?_
       refine TL.cons rfl (Step.conv (c := (b.getD (a + (i : Int)).toNat 0 % 128)) rfl rfl (lt_ok rfl) (by kernel_rfl) (by kernel_rfl) rfl (wrap_ok (by first | omega | (simp; omega)) (by first | omega | (simp; omega)))) ?_
       refine TL.cons rfl (Step.move (p := (.one (.d (.int .i64 (i : Int))))) rfl rfl (lt_ok rfl) rfl) ?_
       refine TL.cons rfl (Step.bin (r := .int .i64 (7 * (i : Int))) rfl rfl (lt_ok rfl) rfl rfl (Bin.mul (a := 7) (b := (i : Int)) (by first | exact wrap_ok (by first | omega | (simp; omega)) (by first | omega | (simp; omega)) | rfl))) ?_
       refine TL.cons rfl (Step.bin (r := .int .i64 (b.getD (a + (i : Int)).toNat 0 % 128 * 128 ^ i)) rfl rfl (lt_ok rfl) rfl rfl (Bin.shl (k := .i64) (k' := .i64) (a := (b.getD (a + (i : Int)).toNat 0 % 128)) (b := (7 * (i : Int))) (by first | omega | (simp; omega)) (shl_var (by omega) (by omega) (by omega)))) ?_
       refine TL.cons rfl (Step.bin (r := .int .i64 (n + b.getD (a + (i : Int)).toNat 0 % 128 * 128 ^ i)) rfl rfl (lt_ok rfl) rfl rfl (Bin.or (k := .i64) (a := n) (b := (b.getD (a + (i : Int)).toNat 0 % 128 * 128 ^ i)) (or_add (by omega) (by omega) (by omega) (by omega) (by omega)))) ?_
       refine TL.cons rfl (Step.assign (p := (.one (.d (.int .i64 (n + b.getD (a + (i : Int)).toNat 0 % 128 * 128 ^ i))))) rfl rfl (lt_ok rfl) rfl) ?_
       refine TL.nil ?_
       refine T.seq ?_
       refine T.region ?_
       refine TL.cons rfl (Step.move (p := (.one (.d (.int .u8 (b.getD (a + (i : Int)).toNat 0))))) rfl rfl (lt_ok rfl) rfl) ?_
       refine TL.cons rfl (Step.bin rfl rfl (lt_ok rfl) rfl rfl (Bin.lss (k := .u8) (a := (b.getD (a + (i : Int)).toNat 0)) (b := 128))) ?_
       refine TL.nil ?_
       refine T.cond (b := decide ((b.getD (a + (i : Int)).toNat 0) < 128)) rfl (fun h11 => ?_) (fun h11 => ?_)
       ·
        replace h11 := of_decide_eq_true h11
        refine T.seq ?_
        refine T.seq ?_
        refine T.region ?_
        refine TL.cons rfl (Step.move (p := (.one (.d (.int .i64 (n + b.getD (a + (i : Int)).toNat 0 % 128 * 128 ^ i))))) rfl rfl (lt_ok rfl) rfl) ?_
        refine TL.cons rfl (Step.call (f := 147) (xs := [.tmp 53]) (ps := [(.one (.d (.int .i64 (n + b.getD (a + (i : Int)).toNat 0 % 128 * 128 ^ i))))]) false (g := .func 147) rfl rfl (lt_ok rfl) rfl (by kernel_rfl) rfl (.cons (.one (.d _)) .nil) (ok_impl_isNum (n + b.getD (a + (i : Int)).toNat 0 % 128 * 128 ^ i)) (.inr rfl) rfl (by simp) rfl) ?_
        refine TL.cons rfl (Step.not (b := (decide (0 ≤ (n + b.getD (a + (i : Int)).toNat 0 % 128 * 128 ^ i) ∧ (n + b.getD (a + (i : Int)).toNat 0 % 128 * 128 ^ i) ≤ 1152921504606846975))) rfl rfl (lt_ok rfl) rfl) ?_
        refine TL.nil ?_
        refine T.cond (b := !(decide (0 ≤ (n + b.getD (a + (i : Int)).toNat 0 % 128 * 128 ^ i) ∧ (n + b.getD (a + (i : Int)).toNat 0 % 128 * 128 ^ i) ≤ 1152921504606846975))) rfl (fun h12 => ?_) (fun h12 => ?_)
        ·
         replace h12 : (decide (0 ≤ (n + b.getD (a + (i : Int)).toNat 0 % 128 * 128 ^ i) ∧ (n + b.getD (a + (i : Int)).toNat 0 % 128 * 128 ^ i) ≤ 1152921504606846975)) = false := by simpa only [Bool.not_eq_true', Bool.not_eq_false'] using h12
         replace h12 := of_decide_eq_false h12
         refine T.seq ?_
         refine T.region ?_
         refine TL.cons rfl (Step.assign (p := (.one (.d (.int .i64 0)))) rfl rfl (lt_ok rfl) rfl) ?_
         refine TL.cons rfl (Step.assign (p := (.one (.d (.int .i64 0)))) rfl rfl (lt_ok rfl) rfl) ?_
         refine TL.cons rfl (Step.assign (p := (.one (.d (.int .i64 2)))) rfl rfl (lt_ok rfl) rfl) ?_
         refine TL.nil ?_
         refine T.ret ?_
         exact ⟨[(false, [.d (.int .i64 0)]), (false, [.d (.int .i64 0)]), (false, [.d (.int .i64 2)])], (.cons rfl (.cons rfl (.cons rfl .nil))), rfl, [], (RetC.rd' (by (congr 1; first | (rw [getVar_out (by omega)]; done) | (rw [getVar_in (by omega), ← hx4]; first | (rw [gvGo_short (by omega) (by omega)]; done) | (rw [gvGo_var (by omega) (by omega) (by omega)]; done) | (rw [gvGo_done (by omega) (by omega) (by omega) (by omega) (by omega)]; done) | (rw [gvGo_big (by omega) (by omega) (by omega) (by omega) (by omega)]; done) | (rw [gvGo_end (by omega)]; done)))) (RetC.rd' (by (congr 1; first | (rw [getVar_out (by omega)]; done) | (rw [getVar_in (by omega), ← hx4]; first | (rw [gvGo_short (by omega) (by omega)]; done) | (rw [gvGo_var (by omega) (by omega) (by omega)]; done) | (rw [gvGo_done (by omega) (by omega) (by omega) (by omega) (by omega)]; done) | (rw [gvGo_big (by omega) (by omega) (by omega) (by omega) (by omega)]; done) | (rw [gvGo_end (by omega)]; done)))) (RetC.rd' (by (congr 1; first | (rw [getVar_out (by omega)]; done) | (rw [getVar_in (by omega), ← hx4]; first | (rw [gvGo_short (by omega) (by omega)]; done) | (rw [gvGo_var (by omega) (by omega) (by omega)]; done) | (rw [gvGo_done (by omega) (by omega) (by omega) (by omega) (by omega)]; done) | (rw [gvGo_big (by omega) (by omega) (by omega) (by omega) (by omega)]; done) | (rw [gvGo_end (by omega)]; done)))) .nil)))⟩
        ·
         replace h12 : (decide (0 ≤ (n + b.getD (a + (i : Int)).toNat 0 % 128 * 128 ^ i) ∧ (n + b.getD (a + (i : Int)).toNat 0 % 128 * 128 ^ i) ≤ 1152921504606846975)) = true := by simpa only [Bool.not_eq_true', Bool.not_eq_false'] using h12
         replace h12 := of_decide_eq_true h12
         refine T.skip ?_
         refine T.seq ?_
         refine T.region ?_
         refine TL.cons rfl (Step.move (p := (.one (.d (.int .i64 (n + b.getD (a + (i : Int)).toNat 0 % 128 * 128 ^ i))))) rfl rfl (lt_ok rfl) rfl) ?_
         refine TL.cons rfl (Step.move (p := (.one (.d (.int .i64 a)))) rfl rfl (lt_ok rfl) rfl) ?_
         refine TL.cons rfl (Step.move (p := (.one (.d (.int .i64 (i : Int))))) rfl rfl (lt_ok rfl) rfl) ?_
         refine TL.cons rfl (Step.bin (r := .int .i64 (a + (i : Int))) rfl rfl (lt_ok rfl) rfl rfl (Bin.add (a := a) (b := (i : Int)) (by first | exact wrap_ok (by first | omega | (simp; omega)) (by first | omega | (simp; omega)) | rfl))) ?_
         refine TL.cons rfl (Step.bin (r := .int .i64 ((a + (i : Int)) + 1)) rfl rfl (lt_ok rfl) rfl rfl (Bin.add (a := (a + (i : Int))) (b := 1) (by first | exact wrap_ok (by first | omega | (simp; omega)) (by first | omega | (simp; omega)) | rfl))) ?_
         refine TL.cons rfl (Step.assign (p := (.one (.d (.int .i64 (n + b.getD (a + (i : Int)).toNat 0 % 128 * 128 ^ i))))) rfl rfl (lt_ok rfl) rfl) ?_
         refine TL.cons rfl (Step.assign (p := (.one (.d (.int .i64 ((a + (i : Int)) + 1))))) rfl rfl (lt_ok rfl) rfl) ?_
         refine TL.cons rfl (Step.assign (p := (.one (.d (.int .i64 0)))) rfl rfl (lt_ok rfl) rfl) ?_
         refine TL.nil ?_
         refine T.ret ?_
         exact ⟨[(false, [.d (.int .i64 (n + b.getD (a + (i : Int)).toNat 0 % 128 * 128 ^ i))]), (false, [.d (.int .i64 ((a + (i : Int)) + 1))]), (false, [.d (.int .i64 0)])], (.cons rfl (.cons rfl (.cons rfl .nil))), rfl, [], (RetC.rd' (by (congr 1; first | (rw [getVar_out (by omega)]; done) | (rw [getVar_in (by omega), ← hx4]; first | (rw [gvGo_short (by omega) (by omega)]; done) | (rw [gvGo_var (by omega) (by omega) (by omega)]; done) | (rw [gvGo_done (by omega) (by omega) (by omega) (by omega) (by omega)]; done) | (rw [gvGo_big (by omega) (by omega) (by omega) (by omega) (by omega)]; done) | (rw [gvGo_end (by omega)]; done)))) (RetC.rd' (by (congr 1; first | (rw [getVar_out (by omega)]; done) | (rw [getVar_in (by omega), ← hx4]; first | (rw [gvGo_short (by omega) (by omega)]; done) | (rw [gvGo_var (by omega) (by omega) (by omega)]; done) | (rw [gvGo_done (by omega) (by omega) (by omega) (by omega) (by omega)]; done) | (rw [gvGo_big (by omega) (by omega) (by omega) (by omega) (by omega)]; done) | (rw [gvGo_end (by omega)]; done)))) (RetC.rd' (by (congr 1; first | (rw [getVar_out (by omega)]; done) | (rw [getVar_in (by omega), ← hx4]; first | (rw [gvGo_short (by omega) (by omega)]; done) | (rw [gvGo_var (by omega) (by omega) (by omega)]; done) | (rw [gvGo_done (by omega) (by omega) (by omega) (by omega) (by omega)]; done) | (rw [gvGo_big (by omega) (by omega) (by omega) (by omega) (by omega)]; done) | (rw [gvGo_end (by omega)]; done)))) .nil)))⟩
       ·
        replace h11 := of_decide_eq_false h11
        refine T.skip ?_
        refine T.region ?_
        refine TL.cons rfl (Step.move (p := (.one (.d (.int .i64 (i : Int))))) rfl rfl (lt_ok rfl) rfl) ?_
        refine TL.cons rfl (Step.bin (r := .int .i64 ((i : Int) + 1)) rfl rfl (lt_ok rfl) rfl rfl (Bin.add (a := (i : Int)) (b := 1) (by first | exact wrap_ok (by first | omega | (simp; omega)) (by first | omega | (simp; omega)) | rfl))) ?_
        refine TL.cons rfl (Step.assign (p := (.one (.d (.int .i64 ((i : Int) + 1))))) rfl rfl (lt_ok rfl) rfl) ?_
        refine TL.nil ?_
        exact ⟨(i + 1, n + b.getD (a + (i : Int)).toNat 0 % 128 * 128 ^ i), by (try dsimp only); (refine ⟨by omega, by omega, by rw [Int.pow_succ]; omega, ?_⟩; exact (gvGo_next (n := n) (by omega) (by omega) (by omega) (by omega)).symm.trans hx4), by (dsimp only; omega), Env.le_mk ⟨rfl, rfl, by first | rfl | (refine congrArg (fun n => PV.one (.d (.int .i64 n))) ?_; first | rfl | omega | (simp; done)), by first | rfl | (refine congrArg (fun n => PV.one (.d (.int .i64 n))) ?_; first | rfl | omega | (simp; done)), trivial⟩ trivial trivial⟩
    ·
     refine TL.known 31 hb3 rfl ?_
     have hb3' := hb3
     replace hb3' := of_decide_eq_false hb3'
     refine TL.goff 31 rfl rfl (lt_ok rfl) rfl rfl rfl (lt_ok rfl) ?_
     refine TL.goff 31 rfl rfl (lt_ok rfl) rfl rfl rfl (lt_ok rfl) ?_
     refine TL.cons rfl (Step.pick (b := false) (p := (.one (.d (.bool false)))) rfl rfl (lt_ok rfl) rfl rfl) ?_
     refine TL.cons rfl (Step.move (p := (.one (.d (.bool false)))) rfl rfl (lt_ok rfl) rfl) ?_
     refine TL.gyes 35 rfl rfl (lt_ok rfl) rfl (Step.move (p := (.one (.d (.int .i64 (i : Int))))) rfl rfl (lt_ok rfl) rfl) ?_
     refine TL.gyes 35 rfl rfl (lt_ok rfl) rfl (Step.bin rfl rfl (lt_ok rfl) rfl rfl (Bin.eql (k := .i64) (a := (i : Int)) (b := 8))) ?_
     refine TL.gyes 35 rfl rfl (lt_ok rfl) rfl (Step.move (p := (.one (.d (.bool (decide ((i : Int) = 8)))))) rfl rfl (lt_ok rfl) rfl) ?_
     rcases Bool.eq_false_or_eq_true (decide ((i : Int) = 8)) with hb13 | hb13
     ·
      refine TL.known 38 hb13 rfl ?_
      have hb13' := hb13
      replace hb13' := of_decide_eq_true hb13'
      refine TL.gyes 38 rfl rfl (lt_ok rfl) rfl (Step.move (p := (.one (.d (.int .u8 (b.getD (a + (i : Int)).toNat 0))))) rfl rfl (lt_ok rfl) rfl) ?_
      refine TL.gyes 38 rfl rfl (lt_ok rfl) rfl (Step.bin rfl rfl (lt_ok rfl) rfl rfl (Bin.geq (k := .u8) (a := (b.getD (a + (i : Int)).toNat 0)) (b := 128))) ?_
      refine TL.gyes 35 rfl rfl (lt_ok rfl) rfl (Step.pick (b := true) (p := (.one (.d (.bool (decide (128 ≤ (b.getD (a + (i : Int)).toNat 0))))))) rfl rfl (lt_ok rfl) rfl rfl) ?_
      refine TL.cons rfl (Step.pick (b := false) (p := (.one (.d (.bool (decide (128 ≤ (b.getD (a + (i : Int)).toNat 0))))))) rfl rfl (lt_ok rfl) rfl rfl) ?_
      refine TL.nil ?_
      refine T.cond (b := decide (128 ≤ (b.getD (a + (i : Int)).toNat 0))) rfl (fun h14 => ?_) (fun h14 => ?_)
      ·
       replace h14 := of_decide_eq_true h14
       refine T.seq ?_
       refine T.region ?_
       refine TL.cons rfl (Step.assign (p := (.one (.d (.int .i64 0)))) rfl rfl (lt_ok rfl) rfl) ?_
       refine TL.cons rfl (Step.assign (p := (.one (.d (.int .i64 0)))) rfl rfl (lt_ok rfl) rfl) ?_
       refine TL.cons rfl (Step.assign (p := (.one (.d (.int .i64 2)))) rfl rfl (lt_ok rfl) rfl) ?_
       refine TL.nil ?_
       refine T.ret ?_
       exact ⟨[(false, [.d (.int .i64 0)]), (false, [.d (.int .i64 0)]), (false, [.d (.int .i64 2)])], (.cons rfl (.cons rfl (.cons rfl .nil))), rfl, [], (RetC.rd' (by (congr 1; first | (rw [getVar_out (by omega)]; done) | (rw [getVar_in (by omega), ← hx4]; first | (rw [gvGo_short (by omega) (by omega)]; done) | (rw [gvGo_var (by omega) (by omega) (by omega)]; done) | (rw [gvGo_done (by omega) (by omega) (by omega) (by omega) (by omega)]; done) | (rw [gvGo_big (by omega) (by omega) (by omega) (by omega) (by omega)]; done) | (rw [gvGo_end (by omega)]; done)))) (RetC.rd' (by (congr 1; first | (rw [getVar_out (by omega)]; done) | (rw [getVar_in (by omega), ← hx4]; first | (rw [gvGo_short (by omega) (by omega)]; done) | (rw [gvGo_var (by omega) (by omega) (by omega)]; done) | (rw [gvGo_done (by omega) (by omega) (by omega) (by omega) (by omega)]; done) | (rw [gvGo_big (by omega) (by omega) (by omega) (by omega) (by omega)]; done) | (rw [gvGo_end (by omega)]; done)))) (RetC.rd' (by (congr 1; first | (rw [getVar_out (by omega)]; done) | (rw [getVar_in (by omega), ← hx4]; first | (rw [gvGo_short (by omega) (by omega)]; done) | (rw [gvGo_var (by omega) (by omega) (by omega)]; done) | (rw [gvGo_done (by omega) (by omega) (by omega) (by omega) (by omega)]; done) | (rw [gvGo_big (by omega) (by omega) (by omega) (by omega) (by omega)]; done) | (rw [gvGo_end (by omega)]; done)))) .nil)))⟩
      ·
       replace h14 := of_decide_eq_false h14
       refine T.skip ?_
       refine T.seq ?_
       refine T.region ?_
       refine TL.cons rfl (Step.move (p := (.one (.d (.int .i64 n)))) rfl rfl (lt_ok rfl) rfl) ?_
       refine TL.cons rfl (Step.move (p := (.one (.d (.int .u8 (b.getD (a + (i : Int)).toNat 0))))) rfl rfl (lt_ok rfl) rfl) ?_
       refine TL.cons rfl (Step.bin (r := .int .u8 (b.getD (a + (i : Int)).toNat 0 % 128)) rfl rfl (lt_ok rfl) rfl rfl (Bin.and (k := .u8) (a := (b.getD (a + (i : Int)).toNat 0)) (b := 127) (and127 hu_.1 hu_.2))) ?_
       refine TL.cons rfl (Step.conv (c := (b.getD (a + (i : Int)).toNat 0 % 128)) rfl rfl (lt_ok rfl) (by kernel_rfl) (by kernel_rfl) rfl (wrap_ok (by first | omega | (simp; omega)) (by first | omega | (simp; omega)))) ?_
       refine TL.cons rfl (Step.move (p := (.one (.d (.int .i64 (i : Int))))) rfl rfl (lt_ok rfl) rfl) ?_
       refine TL.cons rfl (Step.bin (r := .int .i64 (7 * (i : Int))) rfl rfl (lt_ok rfl) rfl rfl (Bin.mul (a := 7) (b := (i : Int)) (by first | exact wrap_ok (by first | omega | (simp; omega)) (by first | omega | (simp; omega)) | rfl))) ?_
       refine TL.cons rfl (Step.bin (r := .int .i64 (b.getD (a + (i : Int)).toNat 0 % 128 * 128 ^ i)) rfl rfl (lt_ok rfl) rfl rfl (Bin.shl (k := .i64) (k' := .i64) (a := (b.getD (a + (i : Int)).toNat 0 % 128)) (b := (7 * (i : Int))) (by first | omega | (simp; omega)) (shl_var (by omega) (by omega) (by omega)))) ?_
       refine TL.cons rfl (Step.bin (r := .int .i64 (n + b.getD (a + (i : Int)).toNat 0 % 128 * 128 ^ i)) rfl rfl (lt_ok rfl) rfl rfl (Bin.or (k := .i64) (a := n) (b := (b.getD (a + (i : Int)).toNat 0 % 128 * 128 ^ i)) (or_add (by omega) (by omega) (by omega) (by omega) (by omega)))) ?_
       refine TL.cons rfl (Step.assign (p := (.one (.d (.int .i64 (n + b.getD (a + (i : Int)).toNat 0 % 128 * 128 ^ i))))) rfl rfl (lt_ok rfl) rfl) ?_
       refine TL.nil ?_
       refine T.seq ?_
       refine T.region ?_
       refine TL.cons rfl (Step.move (p := (.one (.d (.int .u8 (b.getD (a + (i : Int)).toNat 0))))) rfl rfl (lt_ok rfl) rfl) ?_
       refine TL.cons rfl (Step.bin rfl rfl (lt_ok rfl) rfl rfl (Bin.lss (k := .u8) (a := (b.getD (a + (i : Int)).toNat 0)) (b := 128))) ?_
       refine TL.nil ?_
       refine T.cond (b := decide ((b.getD (a + (i : Int)).toNat 0) < 128)) rfl (fun h15 => ?_) (fun h15 => ?_)
       ·
        replace h15 := of_decide_eq_true h15
        refine T.seq ?_
        refine T.seq ?_
        refine T.region ?_
        refine TL.cons rfl (Step.move (p := (.one (.d (.int .i64 (n + b.getD (a + (i : Int)).toNat 0 % 128 * 128 ^ i))))) rfl rfl (lt_ok rfl) rfl) ?_
        refine TL.cons rfl (Step.call (f := 147) (xs := [.tmp 53]) (ps := [(.one (.d (.int .i64 (n + b.getD (a + (i : Int)).toNat 0 % 128 * 128 ^ i))))]) false (g := .func 147) rfl rfl (lt_ok rfl) rfl (by kernel_rfl) rfl (.cons (.one (.d _)) .nil) (ok_impl_isNum (n + b.getD (a + (i : Int)).toNat 0 % 128 * 128 ^ i)) (.inr rfl) rfl (by simp) rfl) ?_
        refine TL.cons rfl (Step.not (b := (decide (0 ≤ (n + b.getD (a + (i : Int)).toNat 0 % 128 * 128 ^ i) ∧ (n + b.getD (a + (i : Int)).toNat 0 % 128 * 128 ^ i) ≤ 1152921504606846975))) rfl rfl (lt_ok rfl) rfl) ?_
        refine TL.nil ?_
        refine T.cond (b := !(decide (0 ≤ (n + b.getD (a + (i : Int)).toNat 0 % 128 * 128 ^ i) ∧ (n + b.getD (a + (i : Int)).toNat 0 % 128 * 128 ^ i) ≤ 1152921504606846975))) rfl (fun h16 => ?_) (fun h16 => ?_)
        ·
         replace h16 : (decide (0 ≤ (n + b.getD (a + (i : Int)).toNat 0 % 128 * 128 ^ i) ∧ (n + b.getD (a + (i : Int)).toNat 0 % 128 * 128 ^ i) ≤ 1152921504606846975)) = false := by simpa only [Bool.not_eq_true', Bool.not_eq_false'] using h16
         replace h16 := of_decide_eq_false h16
         refine T.seq ?_
         refine T.region ?_
         refine TL.cons rfl (Step.assign (p := (.one (.d (.int .i64 0)))) rfl rfl (lt_ok rfl) rfl) ?_
         refine TL.cons rfl (Step.assign (p := (.one (.d (.int .i64 0)))) rfl rfl (lt_ok rfl) rfl) ?_
         refine TL.cons rfl (Step.assign (p := (.one (.d (.int .i64 2)))) rfl rfl (lt_ok rfl) rfl) ?_
         refine TL.nil ?_
         refine T.ret ?_
         exact ⟨[(false, [.d (.int .i64 0)]), (false, [.d (.int .i64 0)]), (false, [.d (.int .i64 2)])], (.cons rfl (.cons rfl (.cons rfl .nil))), rfl, [], (RetC.rd' (by (congr 1; first | (rw [getVar_out (by omega)]; done) | (rw [getVar_in (by omega), ← hx4]; first | (rw [gvGo_short (by omega) (by omega)]; done) | (rw [gvGo_var (by omega) (by omega) (by omega)]; done) | (rw [gvGo_done (by omega) (by omega) (by omega) (by omega) (by omega)]; done) | (rw [gvGo_big (by omega) (by omega) (by omega) (by omega) (by omega)]; done) | (rw [gvGo_end (by omega)]; done)))) (RetC.rd' (by (congr 1; first | (rw [getVar_out (by omega)]; done) | (rw [getVar_in (by omega), ← hx4]; first | (rw [gvGo_short (by omega) (by omega)]; done) | (rw [gvGo_var (by omega) (by omega) (by omega)]; done) | (rw [gvGo_done (by omega) (by omega) (by omega) (by omega) (by omega)]; done) | (rw [gvGo_big (by omega) (by omega) (by omega) (by omega) (by omega)]; done) | (rw [gvGo_end (by omega)]; done)))) (RetC.rd' (by (congr 1; first | (rw [getVar_out (by omega)]; done) | (rw [getVar_in (by omega), ← hx4]; first | (rw [gvGo_short (by omega) (by omega)]; done) | (rw [gvGo_var (by omega) (by omega) (by omega)]; done) | (rw [gvGo_done (by omega) (by omega) (by omega) (by omega) (by omega)]; done) | (rw [gvGo_big (by omega) (by omega) (by omega) (by omega) (by omega)]; done) | (rw [gvGo_end (by omega)]; done)))) .nil)))⟩
        ·
         replace h16 : (decide (0 ≤ (n + b.getD (a + (i : Int)).toNat 0 % 128 * 128 ^ i) ∧ (n + b.getD (a + (i : Int)).toNat 0 % 128 * 128 ^ i) ≤ 1152921504606846975)) = true := by simpa only [Bool.not_eq_true', Bool.not_eq_false'] using h16
         replace h16 := of_decide_eq_true h16
         refine T.skip ?_
         refine T.seq ?_
         refine T.region ?_
         refine TL.cons rfl (Step.move (p := (.one (.d (.int .i64 (n + b.getD (a + (i : Int)).toNat 0 % 128 * 128 ^ i))))) rfl rfl (lt_ok rfl) rfl) ?_
         refine TL.cons rfl (Step.move (p := (.one (.d (.int .i64 a)))) rfl rfl (lt_ok rfl) rfl) ?_
         refine TL.cons rfl (Step.move (p := (.one (.d (.int .i64 (i : Int))))) rfl rfl (lt_ok rfl) rfl) ?_
         refine TL.cons rfl (Step.bin (r := .int .i64 (a + (i : Int))) rfl rfl (lt_ok rfl) rfl rfl (Bin.add (a := a) (b := (i : Int)) (by first | exact wrap_ok (by first | omega | (simp; omega)) (by first | omega | (simp; omega)) | rfl))) ?_
         refine TL.cons rfl (Step.bin (r := .int .i64 ((a + (i : Int)) + 1)) rfl rfl (lt_ok rfl) rfl rfl (Bin.add (a := (a + (i : Int))) (b := 1) (by first | exact wrap_ok (by first | omega | (simp; omega)) (by first | omega | (simp; omega)) | rfl))) ?_
         refine TL.cons rfl (Step.assign (p := (.one (.d (.int .i64 (n + b.getD (a + (i : Int)).toNat 0 % 128 * 128 ^ i))))) rfl rfl (lt_ok rfl) rfl) ?_
         refine TL.cons rfl (Step.assign (p := (.one (.d (.int .i64 ((a + (i : Int)) + 1))))) rfl rfl (lt_ok rfl) rfl) ?_
         refine TL.cons rfl (Step.assign (p := (.one (.d (.int .i64 0)))) rfl rfl (lt_ok rfl) rfl) ?_
         refine TL.nil ?_
         refine T.ret ?_
         exact ⟨[(false, [.d (.int .i64 (n + b.getD (a + (i : Int)).toNat 0 % 128 * 128 ^ i))]), (false, [.d (.int .i64 ((a + (i : Int)) + 1))]), (false, [.d (.int .i64 0)])], (.cons rfl (.cons rfl (.cons rfl .nil))), rfl, [], (RetC.rd' (by (congr 1; first | (rw [getVar_out (by omega)]; done) | (rw [getVar_in (by omega), ← hx4]; first | (rw [gvGo_short (by omega) (by omega)]; done) | (rw [gvGo_var (by omega) (by omega) (by omega)]; done) | (rw [gvGo_done (by omega) (by omega) (by omega) (by omega) (by omega)]; done) | (rw [gvGo_big (by omega) (by omega) (by omega) (by omega) (by omega)]; done) | (rw [gvGo_end (by omega)]; done)))) (RetC.rd' (by (congr 1; first | (rw [getVar_out (by omega)]; done) | (rw [getVar_in (by omega), ← hx4]; first | (rw [gvGo_short (by omega) (by omega)]; done) | (rw [gvGo_var (by omega) (by omega) (by omega)]; done) | (rw [gvGo_done (by omega) (by omega) (by omega) (by omega) (by omega)]; done) | (rw [gvGo_big (by omega) (by omega) (by omega) (by omega) (by omega)]; done) | (rw [gvGo_end (by omega)]; done)))) (RetC.rd' (by (congr 1; first | (rw [getVar_out (by omega)]; done) | (rw [getVar_in (by omega), ← hx4]; first | (rw [gvGo_short (by omega) (by omega)]; done) | (rw [gvGo_var (by omega) (by omega) (by omega)]; done) | (rw [gvGo_done (by omega) (by omega) (by omega) (by omega) (by omega)]; done) | (rw [gvGo_big (by omega) (by omega) (by omega) (by omega) (by omega)]; done) | (rw [gvGo_end (by omega)]; done)))) .nil)))⟩
       ·
        replace h15 := of_decide_eq_false h15
        refine T.skip ?_
        refine T.region ?_
        refine TL.cons rfl (Step.move (p := (.one (.d (.int .i64 (i : Int))))) rfl rfl (lt_ok rfl) rfl) ?_
        refine TL.cons rfl (Step.bin (r := .int .i64 ((i : Int) + 1)) rfl rfl (lt_ok rfl) rfl rfl (Bin.add (a := (i : Int)) (b := 1) (by first | exact wrap_ok (by first | omega | (simp; omega)) (by first | omega | (simp; omega)) | rfl))) ?_
        refine TL.cons rfl (Step.assign (p := (.one (.d (.int .i64 ((i : Int) + 1))))) rfl rfl (lt_ok rfl) rfl) ?_
        refine TL.nil ?_
        exact ⟨(i + 1, n + b.getD (a + (i : Int)).toNat 0 % 128 * 128 ^ i), by (try dsimp only); (refine ⟨by omega, by omega, by rw [Int.pow_succ]; omega, ?_⟩; exact (gvGo_next (n := n) (by omega) (by omega) (by omega) (by omega)).symm.trans hx4), by (dsimp only; omega), Env.le_mk ⟨rfl, rfl, by first | rfl | (refine congrArg (fun n => PV.one (.d (.int .i64 n))) ?_; first | rfl | omega | (simp; done)), by first | rfl | (refine congrArg (fun n => PV.one (.d (.int .i64 n))) ?_; first | rfl | omega | (simp; done)), trivial⟩ trivial trivial⟩
     ·
      refine TL.known 38 hb13 rfl ?_
      have hb13' := hb13
      replace hb13' := of_decide_eq_false hb13'
      refine TL.goff 38 rfl rfl (lt_ok rfl) rfl rfl rfl (lt_ok rfl) ?_
      refine TL.goff 38 rfl rfl (lt_ok rfl) rfl rfl rfl (lt_ok rfl) ?_
      refine TL.gyes 35 rfl rfl (lt_ok rfl) rfl (Step.pick (b := false) (p := (.one (.d (.bool false)))) rfl rfl (lt_ok rfl) rfl rfl) ?_
      refine TL.cons rfl (Step.pick (b := false) (p := (.one (.d (.bool false)))) rfl rfl (lt_ok rfl) rfl rfl) ?_
      refine TL.nil ?_
      refine T.cond (b := false) rfl (fun h17_ => absurd h17_ (by simp)) (fun h17_ => ?_)
      refine T.skip ?_
      refine T.seq ?_
      refine T.region ?_
      refine TL.cons rfl (Step.move (p := (.one (.d (.int .i64 n)))) rfl rfl (lt_ok rfl) rfl) ?_
      refine TL.cons rfl (Step.move (p := (.one (.d (.int .u8 (b.getD (a + (i : Int)).toNat 0))))) rfl rfl (lt_ok rfl) rfl) ?_
      refine TL.cons rfl (Step.bin (r := .int .u8 (b.getD (a + (i : Int)).toNat 0 % 128)) rfl rfl (lt_ok rfl) rfl rfl (Bin.and (k := .u8) (a := (b.getD (a + (i : Int)).toNat 0)) (b := 127) (and127 hu_.1 hu_.2))) ?_
      refine TL.cons rfl (Step.conv (c := (b.getD (a + (i : Int)).toNat 0 % 128)) rfl rfl (lt_ok rfl) (by kernel_rfl) (by kernel_rfl) rfl (wrap_ok (by first | omega | (simp; omega)) (by first | omega | (simp; omega)))) ?_
      refine TL.cons rfl (Step.move (p := (.one (.d (.int .i64 (i : Int))))) rfl rfl (lt_ok rfl) rfl) ?_
      refine TL.cons rfl (Step.bin (r := .int .i64 (7 * (i : Int))) rfl rfl (lt_ok rfl) rfl rfl (Bin.mul (a := 7) (b := (i : Int)) (by first | exact wrap_ok (by first | omega | (simp; omega)) (by first | omega | (simp; omega)) | rfl))) ?_
      refine TL.cons rfl (Step.bin (r := .int .i64 (b.getD (a + (i : Int)).toNat 0 % 128 * 128 ^ i)) rfl rfl (lt_ok rfl) rfl rfl (Bin.shl (k := .i64) (k' := .i64) (a := (b.getD (a + (i : Int)).toNat 0 % 128)) (b := (7 * (i : Int))) (by first | omega | (simp; omega)) (shl_var (by omega) (by omega) (by omega)))) ?_
      refine TL.cons rfl (Step.bin (r := .int .i64 (n + b.getD (a + (i : Int)).toNat 0 % 128 * 128 ^ i)) rfl rfl (lt_ok rfl) rfl rfl (Bin.or (k := .i64) (a := n) (b := (b.getD (a + (i : Int)).toNat 0 % 128 * 128 ^ i)) (or_add (by omega) (by omega) (by omega) (by omega) (by omega)))) ?_
      refine TL.cons rfl (Step.assign (p := (.one (.d (.int .i64 (n + b.getD (a + (i : Int)).toNat 0 % 128 * 128 ^ i))))) rfl rfl (lt_ok rfl) rfl) ?_
      refine TL.nil ?_
      refine T.seq ?_
      refine T.region ?_
      refine TL.cons rfl (Step.move (p := (.one (.d (.int .u8 (b.getD (a + (i : Int)).toNat 0))))) rfl rfl (lt_ok rfl) rfl) ?_
      refine TL.cons rfl (Step.bin rfl rfl (lt_ok rfl) rfl rfl (Bin.lss (k := .u8) (a := (b.getD (a + (i : Int)).toNat 0)) (b := 128))) ?_
      refine TL.nil ?_
      refine T.cond (b := decide ((b.getD (a + (i : Int)).toNat 0) < 128)) rfl (fun h18 => ?_) (fun h18 => ?_)
      ·
       replace h18 := of_decide_eq_true h18
       refine T.seq ?_
       refine T.seq ?_
       refine T.region ?_
       refine TL.cons rfl (Step.move (p := (.one (.d (.int .i64 (n + b.getD (a + (i : Int)).toNat 0 % 128 * 128 ^ i))))) rfl rfl (lt_ok rfl) rfl) ?_
       refine TL.cons rfl (Step.call (f := 147) (xs := [.tmp 53]) (ps := [(.one (.d (.int .i64 (n + b.getD (a + (i : Int)).toNat 0 % 128 * 128 ^ i))))]) false (g := .func 147) rfl rfl (lt_ok rfl) rfl (by kernel_rfl) rfl (.cons (.one (.d _)) .nil) (ok_impl_isNum (n + b.getD (a + (i : Int)).toNat 0 % 128 * 128 ^ i)) (.inr rfl) rfl (by simp) rfl) ?_
       refine TL.cons rfl (Step.not (b := (decide (0 ≤ (n + b.getD (a + (i : Int)).toNat 0 % 128 * 128 ^ i) ∧ (n + b.getD (a + (i : Int)).toNat 0 % 128 * 128 ^ i) ≤ 1152921504606846975))) rfl rfl (lt_ok rfl) rfl) ?_
       refine TL.nil ?_
       refine T.cond (b := !(decide (0 ≤ (n + b.getD (a + (i : Int)).toNat 0 % 128 * 128 ^ i) ∧ (n + b.getD (a + (i : Int)).toNat 0 % 128 * 128 ^ i) ≤ 1152921504606846975))) rfl (fun h19 => ?_) (fun h19 => ?_)
       ·
        replace h19 : (decide (0 ≤ (n + b.getD (a + (i : Int)).toNat 0 % 128 * 128 ^ i) ∧ (n + b.getD (a + (i : Int)).toNat 0 % 128 * 128 ^ i) ≤ 1152921504606846975)) = false := by simpa only [Bool.not_eq_true', Bool.not_eq_false'] using h19
        replace h19 := of_decide_eq_false h19
        refine T.seq ?_
        refine T.region ?_
        refine TL.cons rfl (Step.assign (p := (.one (.d (.int .i64 0)))) rfl rfl (lt_ok rfl) rfl) ?_
        refine TL.cons rfl (Step.assign (p := (.one (.d (.int .i64 0)))) rfl rfl (lt_ok rfl) rfl) ?_
        refine TL.cons rfl (Step.assign (p := (.one (.d (.int .i64 2)))) rfl rfl (lt_ok rfl) rfl) ?_
        refine TL.nil ?_
        refine T.ret ?_
        exact ⟨[(false, [.d (.int .i64 0)]), (false, [.d (.int .i64 0)]), (false, [.d (.int .i64 2)])], (.cons rfl (.cons rfl (.cons rfl .nil))), rfl, [], (RetC.rd' (by (congr 1; first | (rw [getVar_out (by omega)]; done) | (rw [getVar_in (by omega), ← hx4]; first | (rw [gvGo_short (by omega) (by omega)]; done) | (rw [gvGo_var (by omega) (by omega) (by omega)]; done) | (rw [gvGo_done (by omega) (by omega) (by omega) (by omega) (by omega)]; done) | (rw [gvGo_big (by omega) (by omega) (by omega) (by omega) (by omega)]; done) | (rw [gvGo_end (by omega)]; done)))) (RetC.rd' (by (congr 1; first | (rw [getVar_out (by omega)]; done) | (rw [getVar_in (by omega), ← hx4]; first | (rw [gvGo_short (by omega) (by omega)]; done) | (rw [gvGo_var (by omega) (by omega) (by omega)]; done) | (rw [gvGo_done (by omega) (by omega) (by omega) (by omega) (by omega)]; done) | (rw [gvGo_big (by omega) (by omega) (by omega) (by omega) (by omega)]; done) | (rw [gvGo_end (by omega)]; done)))) (RetC.rd' (by (congr 1; first | (rw [getVar_out (by omega)]; done) | (rw [getVar_in (by omega), ← hx4]; first | (rw [gvGo_short (by omega) (by omega)]; done) | (rw [gvGo_var (by omega) (by omega) (by omega)]; done) | (rw [gvGo_done (by omega) (by omega) (by omega) (by omega) (by omega)]; done) | (rw [gvGo_big (by omega) (by omega) (by omega) (by omega) (by omega)]; done) | (rw [gvGo_end (by omega)]; done)))) .nil)))⟩
       ·
        replace h19 : (decide (0 ≤ (n + b.getD (a + (i : Int)).toNat 0 % 128 * 128 ^ i) ∧ (n + b.getD (a + (i : Int)).toNat 0 % 128 * 128 ^ i) ≤ 1152921504606846975)) = true := by simpa only [Bool.not_eq_true', Bool.not_eq_false'] using h19
        replace h19 := of_decide_eq_true h19
        refine T.skip ?_
        refine T.seq ?_
        refine T.region ?_
        refine TL.cons rfl (Step.move (p := (.one (.d (.int .i64 (n + b.getD (a + (i : Int)).toNat 0 % 128 * 128 ^ i))))) rfl rfl (lt_ok rfl) rfl) ?_
        refine TL.cons rfl (Step.move (p := (.one (.d (.int .i64 a)))) rfl rfl (lt_ok rfl) rfl) ?_
        refine TL.cons rfl (Step.move (p := (.one (.d (.int .i64 (i : Int))))) rfl rfl (lt_ok rfl) rfl) ?_
        refine TL.cons rfl (Step.bin (r := .int .i64 (a + (i : Int))) rfl rfl (lt_ok rfl) rfl rfl (Bin.add (a := a) (b := (i : Int)) (by first | exact wrap_ok (by first | omega | (simp; omega)) (by first | omega | (simp; omega)) | rfl))) ?_
        refine TL.cons rfl (Step.bin (r := .int .i64 ((a + (i : Int)) + 1)) rfl rfl (lt_ok rfl) rfl rfl (Bin.add (a := (a + (i : Int))) (b := 1) (by first | exact wrap_ok (by first | omega | (simp; omega)) (by first | omega | (simp; omega)) | rfl))) ?_
        refine TL.cons rfl (Step.assign (p := (.one (.d (.int .i64 (n + b.getD (a + (i : Int)).toNat 0 % 128 * 128 ^ i))))) rfl rfl (lt_ok rfl) rfl) ?_
        refine TL.cons rfl (Step.assign (p := (.one (.d (.int .i64 ((a + (i : Int)) + 1))))) rfl rfl (lt_ok rfl) rfl) ?_
        refine TL.cons rfl (Step.assign (p := (.one (.d (.int .i64 0)))) rfl rfl (lt_ok rfl) rfl) ?_
        refine TL.nil ?_
        refine T.ret ?_
        exact ⟨[(false, [.d (.int .i64 (n + b.getD (a + (i : Int)).toNat 0 % 128 * 128 ^ i))]), (false, [.d (.int .i64 ((a + (i : Int)) + 1))]), (false, [.d (.int .i64 0)])], (.cons rfl (.cons rfl (.cons rfl .nil))), rfl, [], (RetC.rd' (by (congr 1; first | (rw [getVar_out (by omega)]; done) | (rw [getVar_in (by omega), ← hx4]; first | (rw [gvGo_short (by omega) (by omega)]; done) | (rw [gvGo_var (by omega) (by omega) (by omega)]; done) | (rw [gvGo_done (by omega) (by omega) (by omega) (by omega) (by omega)]; done) | (rw [gvGo_big (by omega) (by omega) (by omega) (by omega) (by omega)]; done) | (rw [gvGo_end (by omega)]; done)))) (RetC.rd' (by (congr 1; first | (rw [getVar_out (by omega)]; done) | (rw [getVar_in (by omega), ← hx4]; first | (rw [gvGo_short (by omega) (by omega)]; done) | (rw [gvGo_var (by omega) (by omega) (by omega)]; done) | (rw [gvGo_done (by omega) (by omega) (by omega) (by omega) (by omega)]; done) | (rw [gvGo_big (by omega) (by omega) (by omega) (by omega) (by omega)]; done) | (rw [gvGo_end (by omega)]; done)))) (RetC.rd' (by (congr 1; first | (rw [getVar_out (by omega)]; done) | (rw [getVar_in (by omega), ← hx4]; first | (rw [gvGo_short (by omega) (by omega)]; done) | (rw [gvGo_var (by omega) (by omega) (by omega)]; done) | (rw [gvGo_done (by omega) (by omega) (by omega) (by omega) (by omega)]; done) | (rw [gvGo_big (by omega) (by omega) (by omega) (by omega) (by omega)]; done) | (rw [gvGo_end (by omega)]; done)))) .nil)))⟩
      ·
       replace h18 := of_decide_eq_false h18
       refine T.skip ?_
       refine T.region ?_
       refine TL.cons rfl (Step.move (p := (.one (.d (.int .i64 (i : Int))))) rfl rfl (lt_ok rfl) rfl) ?_
       refine TL.cons rfl (Step.bin (r := .int .i64 ((i : Int) + 1)) rfl rfl (lt_ok rfl) rfl rfl (Bin.add (a := (i : Int)) (b := 1) (by first | exact wrap_ok (by first | omega | (simp; omega)) (by first | omega | (simp; omega)) | rfl))) ?_
       refine TL.cons rfl (Step.assign (p := (.one (.d (.int .i64 ((i : Int) + 1))))) rfl rfl (lt_ok rfl) rfl) ?_
       refine TL.nil ?_
       exact ⟨(i + 1, n + b.getD (a + (i : Int)).toNat 0 % 128 * 128 ^ i), by (try dsimp only); (refine ⟨by omega, by omega, by rw [Int.pow_succ]; omega, ?_⟩; exact (gvGo_next (n := n) (by omega) (by omega) (by omega) (by omega)).symm.trans hx4), by (dsimp only; omega), Env.le_mk ⟨rfl, rfl, by first | rfl | (refine congrArg (fun n => PV.one (.d (.int .i64 n))) ?_; first | rfl | omega | (simp; done)), by first | rfl | (refine congrArg (fun n => PV.one (.d (.int .i64 n))) ?_; first | rfl | omega | (simp; done)), trivial⟩ trivial trivial⟩
theorem ok_impl_reader__num (b : List Int) (s : SRS) (h0_ : U8s b) (h1_ : b.length ≤ 1048576) : BX Try.prog 167 [.bx] 184 [.rd (.ints .u8 b), .rd (.int .i64 s.f0), .rd (.int .i64 s.f1)] [.rd (.ints .u8 b), .rd (.int .i64 (rdNum b s).1.f0), .rd (.int .i64 (rdNum b s).1.f1)] [(false, [.rd (.int .i64 (rdNum b s).2)])] := by
 refine BX.intro Try.func167 rfl 33 rfl (le_ok rfl) (le_ok rfl) fun w Z IX pin hp => ?_
 refine T.seq ?_
 refine T.region ?_
 refine TL.cons rfl (Step.assign (p := (.one (.d (.int .i64 0)))) rfl rfl (lt_ok rfl) rfl) ?_
 refine TL.nil ?_
 refine T.seq ?_
 refine T.seq ?_
 refine T.region ?_
 refine TL.cons rfl (Step.move (p := (.one (.ptr 800 0))) rfl rfl (lt_ok rfl) rfl) ?_
 refine TL.cons rfl (Step.nilCheck rfl rfl (lt_ok rfl) rfl) ?_
 refine TL.cons rfl (Step.fieldAddr (q := 0) (off := 2) (n := 1) (one := true) rfl rfl (lt_ok rfl) (by kernel_rfl) (Nat.succ_ne_zero _) rfl) ?_
 refine TL.cons rfl (Step.load_box (c := .d (.int .i64 s.f1)) rfl rfl (lt_ok rfl) (by kernel_rfl) rfl rfl rfl) ?_
 refine TL.cons rfl (Step.bin rfl rfl (lt_ok rfl) rfl rfl (Bin.neq (k := .i64) (a := s.f1) (b := 0))) ?_
 refine TL.nil ?_
 refine T.cond (b := decide (s.f1 ≠ 0)) rfl (fun h1 => ?_) (fun h1 => ?_)
 ·
  replace h1 := of_decide_eq_true h1
  refine T.seq ?_
  refine T.region ?_
  refine TL.cons rfl (Step.assign (p := (.one (.d (.int .i64 0)))) rfl rfl (lt_ok rfl) rfl) ?_
  refine TL.nil ?_
  refine T.ret ?_
  exact ⟨[.d (.ints .u8 b), .d (.int .i64 s.f0), .d (.int .i64 s.f1)], [(false, [.d (.int .i64 0)])], rfl, rfl, (.cons rfl .nil), rfl, [], (RetC.rd' (by first | rfl | (congr 1; unfold rdNum; first | (rw [if_pos (by omega)]; done) | (rw [if_neg (by omega)]; done)) | (simp only [D.size]; unfold rdNum; rw [if_neg (by omega)]; rfl)) (RetC.rd' (by first | rfl | (congr 1; unfold rdNum; first | (rw [if_pos (by omega)]; done) | (rw [if_neg (by omega)]; done)) | (simp only [D.size]; unfold rdNum; rw [if_neg (by omega)]; rfl)) (RetC.rd' (by first | rfl | (congr 1; unfold rdNum; first | (rw [if_pos (by omega)]; done) | (rw [if_neg (by omega)]; done)) | (simp only [D.size]; unfold rdNum; rw [if_neg (by omega)]; rfl)) (RetC.rd' (by first | rfl | (congr 1; unfold rdNum; first | (rw [if_pos (by omega)]; done) | (rw [if_neg (by omega)]; done)) | (simp only [D.size]; unfold rdNum; rw [if_neg (by omega)]; rfl)) .nil))))⟩
 ·
  replace h1 := of_decide_eq_false h1
  refine T.skip ?_
  refine T.seq ?_
  have nn2 := @getVar_bd b (by assumption) s.f0
  refine T.draw [⟨12, (.one (.ptr 800 0)), []⟩, ⟨13, (.one (.ptr 800 0)), []⟩, ⟨14, (.one (.ptr 800 0)), []⟩, ⟨15, (.one (.d (.ints .u8 b))), []⟩, ⟨16, (.one (.ptr 800 0)), []⟩, ⟨17, (.one (.ptr 800 0)), []⟩, ⟨18, (.one (.ptr 800 1)), []⟩, ⟨19, (.one (.d (.int .i64 s.f0))), []⟩, ⟨20, (.tup [(false, [.d (.int .i64 (getVar b s.f0).1)]), (false, [.d (.int .i64 (getVar b s.f0).2.1)]), (false, [.d (.int .i64 (getVar b s.f0).2.2)])]), []⟩, ⟨11, (.tup [(false, [.d (.int .i64 (getVar b s.f0).1)]), (false, [.d (.int .i64 (getVar b s.f0).2.1)]), (false, [.d (.int .i64 (getVar b s.f0).2.2)])]), []⟩, ⟨21, (.one (.d (.int .i64 (getVar b s.f0).1))), []⟩, ⟨22, (.one (.d (.int .i64 (getVar b s.f0).2.1))), []⟩, ⟨23, (.one (.d (.int .i64 (getVar b s.f0).2.2))), []⟩, ⟨3, (.one (.d (.int .i64 (getVar b s.f0).1))), []⟩, ⟨4, (.one (.d (.int .i64 (getVar b s.f0).2.1))), []⟩, ⟨5, (.one (.d (.int .i64 (getVar b s.f0).2.2))), []⟩] (by kernel_rfl) (by kernel_rfl) ?_ ?_
  ·
   refine .cons (fun E hA_ => by have g0 := hA_.get 0 (by decide); exact OpStep.plain rfl (Step.move (p := (.one (.ptr 800 0))) (t := 12) rfl rfl (by exact lt_ok rfl) (show Env.ev E (.tmp 0) = _ from g0.trans rfl))) ?_
   refine .cons (fun E hA_ => by have g12 := hA_.get 12 (by decide); exact OpStep.plain rfl (Step.nilCheck (t := 13) rfl rfl (by exact lt_ok rfl) (show Env.ev E (.tmp 12) = _ from g12.trans rfl))) ?_
   refine .cons (fun E hA_ => by have g13 := hA_.get 13 (by decide); exact OpStep.plain rfl (Step.fieldAddr (q := 0) (off := 0) (n := 1) (one := true) (t := 14) rfl rfl (by exact lt_ok rfl) (by kernel_rfl) (Nat.succ_ne_zero _) (show Env.ev E (.tmp 13) = _ from g13.trans rfl))) ?_
   refine .cons (fun E hA_ => by have g14 := hA_.get 14 (by decide); exact OpStep.plain rfl (Step.load_box (c := .d (.ints .u8 b)) (t := 15) rfl rfl (by exact lt_ok rfl) (by kernel_rfl) (show Env.ev E (.tmp 14) = _ from g14.trans rfl) (by exact hA_.box rfl) rfl)) ?_
   refine .cons (fun E hA_ => by have g0 := hA_.get 0 (by decide); exact OpStep.plain rfl (Step.move (p := (.one (.ptr 800 0))) (t := 16) rfl rfl (by exact lt_ok rfl) (show Env.ev E (.tmp 0) = _ from g0.trans rfl))) ?_
   refine .cons (fun E hA_ => by have g16 := hA_.get 16 (by decide); exact OpStep.plain rfl (Step.nilCheck (t := 17) rfl rfl (by exact lt_ok rfl) (show Env.ev E (.tmp 16) = _ from g16.trans rfl))) ?_
   refine .cons (fun E hA_ => by have g17 := hA_.get 17 (by decide); exact OpStep.plain rfl (Step.fieldAddr (q := 0) (off := 1) (n := 1) (one := true) (t := 18) rfl rfl (by exact lt_ok rfl) (by kernel_rfl) (Nat.succ_ne_zero _) (show Env.ev E (.tmp 17) = _ from g17.trans rfl))) ?_
   refine .cons (fun E hA_ => by have g18 := hA_.get 18 (by decide); exact OpStep.plain rfl (Step.load_box (c := .d (.int .i64 s.f0)) (t := 19) rfl rfl (by exact lt_ok rfl) (by kernel_rfl) (show Env.ev E (.tmp 18) = _ from g18.trans rfl) (by exact hA_.box rfl) rfl)) ?_
   refine .cons (fun E hA_ => by have g15 := hA_.get 15 (by decide); have g19 := hA_.get 19 (by decide); exact OpStep.plain rfl (Step.call (f := 178) (xs := [.tmp 15, .tmp 19]) (ps := [(.one (.d (.ints .u8 b))), (.one (.d (.int .i64 s.f0)))]) false (g := .func 178) (t := 20) rfl rfl (by exact lt_ok rfl) rfl (by kernel_rfl) (evs_cons (show Env.ev E (.tmp 15) = _ from g15.trans rfl) (evs_cons (show Env.ev E (.tmp 19) = _ from g19.trans rfl) (rfl))) (.cons (.one (.d _)) (.cons (.one (.d _)) .nil)) (ok_impl_GetVar b s.f0 (by assumption) (by first | omega | assumption | (simp only [List.length_append] at *; omega))) (.inr rfl) (At.freshRows hA_ rfl) (fun x hx => by have := hp x hx; omega) rfl)) ?_
   refine .cons (fun E hA_ => by have g20 := hA_.get 20 (by decide); exact OpStep.plain rfl (Step.move (p := (.tup [(false, [.d (.int .i64 (getVar b s.f0).1)]), (false, [.d (.int .i64 (getVar b s.f0).2.1)]), (false, [.d (.int .i64 (getVar b s.f0).2.2)])])) (t := 11) rfl rfl (by exact lt_ok rfl) (show Env.ev E (.tmp 20) = _ from g20.trans rfl))) ?_
   refine .cons (fun E hA_ => by have g11 := hA_.get 11 (by decide); exact OpStep.plain rfl (Step.extract (p := (.one (.d (.int .i64 (getVar b s.f0).1)))) (t := 21) rfl rfl (by exact lt_ok rfl) (show Env.ev E (.tmp 11) = _ from g11.trans rfl) rfl)) ?_
   refine .cons (fun E hA_ => by have g11 := hA_.get 11 (by decide); exact OpStep.plain rfl (Step.extract (p := (.one (.d (.int .i64 (getVar b s.f0).2.1)))) (t := 22) rfl rfl (by exact lt_ok rfl) (show Env.ev E (.tmp 11) = _ from g11.trans rfl) rfl)) ?_
   refine .cons (fun E hA_ => by have g11 := hA_.get 11 (by decide); exact OpStep.plain rfl (Step.extract (p := (.one (.d (.int .i64 (getVar b s.f0).2.2)))) (t := 23) rfl rfl (by exact lt_ok rfl) (show Env.ev E (.tmp 11) = _ from g11.trans rfl) rfl)) ?_
   refine .cons (fun E hA_ => by have g21 := hA_.get 21 (by decide); exact OpStep.plain rfl (Step.assign (p := (.one (.d (.int .i64 (getVar b s.f0).1)))) (t := 3) rfl rfl (by exact lt_ok rfl) (show Env.ev E (.tmp 21) = _ from g21.trans rfl))) ?_
   refine .cons (fun E hA_ => by have g22 := hA_.get 22 (by decide); exact OpStep.plain rfl (Step.assign (p := (.one (.d (.int .i64 (getVar b s.f0).2.1)))) (t := 4) rfl rfl (by exact lt_ok rfl) (show Env.ev E (.tmp 22) = _ from g22.trans rfl))) ?_
   refine .cons (fun E hA_ => by have g23 := hA_.get 23 (by decide); exact OpStep.plain rfl (Step.assign (p := (.one (.d (.int .i64 (getVar b s.f0).2.2)))) (t := 5) rfl rfl (by exact lt_ok rfl) (show Env.ev E (.tmp 23) = _ from g23.trans rfl))) ?_
   exact .nil _ _
  refine TL.nil ?_
  refine T.seq ?_
  refine T.region ?_
  refine TL.cons rfl (Step.move (p := (.one (.ptr 800 0))) rfl rfl (lt_ok rfl) rfl) ?_
  refine TL.cons rfl (Step.move (p := (.one (.ptr 800 0))) rfl rfl (lt_ok rfl) rfl) ?_
  refine TL.cons rfl (Step.move (p := (.one (.d (.int .i64 (getVar b s.f0).2.1)))) rfl rfl (lt_ok rfl) rfl) ?_
  refine TL.cons rfl (Step.move (p := (.one (.d (.int .i64 (getVar b s.f0).2.2)))) rfl rfl (lt_ok rfl) rfl) ?_
  refine TL.cons rfl (Step.nilCheck rfl rfl (lt_ok rfl) rfl) ?_
  refine TL.cons rfl (Step.fieldAddr (q := 0) (off := 1) (n := 1) (one := true) rfl rfl (lt_ok rfl) (by kernel_rfl) (Nat.succ_ne_zero _) rfl) ?_
  refine TL.cons rfl (Step.store_box (n := 1) (p := (.one (.d (.int .i64 (getVar b s.f0).2.1)))) (qs := [.d (.int .i64 (getVar b s.f0).2.1)]) (ps' := [.d (.ints .u8 b), .d (.int .i64 (getVar b s.f0).2.1), .d (.int .i64 s.f1)]) rfl rfl (by kernel_rfl) rfl rfl rfl rfl rfl rfl (le_ok rfl) rfl) ?_
  refine TL.cons rfl (Step.nilCheck rfl rfl (lt_ok rfl) rfl) ?_
  refine TL.cons rfl (Step.fieldAddr (q := 0) (off := 2) (n := 1) (one := true) rfl rfl (lt_ok rfl) (by kernel_rfl) (Nat.succ_ne_zero _) rfl) ?_
  refine TL.cons rfl (Step.store_box (n := 1) (p := (.one (.d (.int .i64 (getVar b s.f0).2.2)))) (qs := [.d (.int .i64 (getVar b s.f0).2.2)]) (ps' := [.d (.ints .u8 b), .d (.int .i64 (getVar b s.f0).2.1), .d (.int .i64 (getVar b s.f0).2.2)]) rfl rfl (by kernel_rfl) rfl rfl rfl rfl rfl rfl (le_ok rfl) rfl) ?_
  refine TL.nil ?_
  refine T.seq ?_
  refine T.region ?_
  refine TL.cons rfl (Step.move (p := (.one (.d (.int .i64 (getVar b s.f0).1)))) rfl rfl (lt_ok rfl) rfl) ?_
  refine TL.cons rfl (Step.assign (p := (.one (.d (.int .i64 (getVar b s.f0).1)))) rfl rfl (lt_ok rfl) rfl) ?_
  refine TL.nil ?_
  refine T.ret ?_
  exact ⟨[.d (.ints .u8 b), .d (.int .i64 (getVar b s.f0).2.1), .d (.int .i64 (getVar b s.f0).2.2)], [(false, [.d (.int .i64 (getVar b s.f0).1)])], rfl, rfl, (.cons rfl .nil), rfl, [], (RetC.rd' (by first | rfl | (congr 1; unfold rdNum; first | (rw [if_pos (by omega)]; done) | (rw [if_neg (by omega)]; done)) | (simp only [D.size]; unfold rdNum; rw [if_neg (by omega)]; rfl)) (RetC.rd' (by first | rfl | (congr 1; unfold rdNum; first | (rw [if_pos (by omega)]; done) | (rw [if_neg (by omega)]; done)) | (simp only [D.size]; unfold rdNum; rw [if_neg (by omega)]; rfl)) (RetC.rd' (by first | rfl | (congr 1; unfold rdNum; first | (rw [if_pos (by omega)]; done) | (rw [if_neg (by omega)]; done)) | (simp only [D.size]; unfold rdNum; rw [if_neg (by omega)]; rfl)) (RetC.rd' (by first | rfl | (congr 1; unfold rdNum; first | (rw [if_pos (by omega)]; done) | (rw [if_neg (by omega)]; done)) | (simp only [D.size]; unfold rdNum; rw [if_neg (by omega)]; rfl)) .nil))))⟩
theorem ok_impl_copyBytes (a : List Int) (h0_ : a.length ≤ 17592186044416) : RO Try.prog 83 [.one (.ints .u8 a)] [(false, [.own 5 (.ints .u8 a)])] := by
 refine RO.intro Try.func83 rfl 6 rfl (le_ok rfl) fun w Z => ?_
 refine T.bnd 0 0 rfl rfl fun hb_0_0 => ?_
 simp only [D.size, List.length_map] at hb_0_0
 refine T.seq ?_
 refine T.region ?_
 refine TL.cons rfl (Step.assign (p := (.one (.nil))) rfl rfl (lt_ok rfl) rfl) ?_
 refine TL.nil ?_
 refine T.seq ?_
 refine T.region ?_
 refine TL.cons rfl (Step.lit (e := 5) (z := 1) (by_ := 1) (xs := []) (pss := []) (es := []) (ss := []) (d := (.ints .u8 [])) rfl rfl (lt_ok rfl) (by kernel_rfl) rfl rfl .nil (by simp) (le_ok rfl) (le_ok rfl) rfl .nil rfl (by simp) (by simp) rfl trivial rfl rfl) ?_
 refine TL.cons rfl (Step.move (p := (.one (.d (.ints .u8 a)))) rfl rfl (lt_ok rfl) rfl) ?_
 refine TL.cons rfl (Step.append (e := 5) (z := 1) (by_ := 1) (d := (.ints .u8 [])) (dy := (.ints .u8 a)) (d' := (.ints .u8 ([] ++ a))) (ss := []) rfl rfl (lt_ok rfl) (by kernel_rfl) rfl rfl rfl (lt_ok rfl) rfl (.froz rfl (by simp [D.flat, D.val])) (by simp) rfl (by simp only [D.size, List.length_map]; first | omega | (simp; omega) | (simp only [List.length_append] at *; omega)) (by simp only [D.size, List.length_map]; first | omega | (simp; omega) | (simp only [List.length_append] at *; omega)) (by simp)) ?_
 refine TL.cons rfl (Step.assign (p := (.one (.row 3 []))) rfl rfl (lt_ok rfl) rfl) ?_
 refine TL.nil ?_
 refine T.ret ?_
 exact ⟨[(false, [.row 3 []])], (.cons rfl .nil), rfl, [3], (RetC.own' rfl (by rfl) rfl .nil)⟩
theorem ok_impl_GetRaw (b : List Int) (a : Int) (n : Int) (h0_ : b.length ≤ 1099511627776) : RO Try.prog 182 [.one (.ints .u8 b), .one (.int .i64 a), .one (.int .i64 n)] [(false, [.own 5 (.ints .u8 (getRaw b a n).1)]), (false, [.rd (.int .i64 (getRaw b a n).2.1)]), (false, [.rd (.int .i64 (getRaw b a n).2.2)])] := by
 refine RO.intro Try.func182 rfl 33 rfl (le_ok rfl) fun w Z => ?_
 refine T.bnd 0 0 rfl rfl fun hb_0_0 => ?_
 simp only [D.size, List.length_map] at hb_0_0
 refine T.seq ?_
 refine T.region ?_
 refine TL.cons rfl (Step.assign (p := (.one (.nil))) rfl rfl (lt_ok rfl) rfl) ?_
 refine TL.cons rfl (Step.assign (p := (.one (.d (.int .i64 0)))) rfl rfl (lt_ok rfl) rfl) ?_
 refine TL.cons rfl (Step.assign (p := (.one (.d (.int .i64 0)))) rfl rfl (lt_ok rfl) rfl) ?_
 refine TL.nil ?_
 refine T.seq ?_
 refine T.seq ?_
 refine T.region ?_
 refine TL.cons rfl (Step.move (p := (.one (.d (.int .i64 a)))) rfl rfl (lt_ok rfl) rfl) ?_
 refine TL.cons rfl (Step.move (p := (.one (.d (.ints .u8 b)))) rfl rfl (lt_ok rfl) rfl) ?_
 refine TL.cons rfl (Step.len (e := 5) (z := 1) (d := (.ints .u8 b)) rfl rfl (lt_ok rfl) (by kernel_rfl) rfl rfl) ?_
 refine TL.cons rfl (Step.call (f := 144) (xs := [.tmp 9, .const (.int .i64 0), .tmp 11]) (ps := [(.one (.d (.int .i64 a))), (.one (.d (.int .i64 0))), (.one (.d (.int .i64 (b.length : Int))))]) false (g := .func 144) rfl rfl (lt_ok rfl) rfl (by kernel_rfl) rfl (.cons (.one (.d _)) (.cons (.one (.d _)) (.cons (.one (.d _)) .nil))) (ok_impl_within a 0 (b.length : Int)) (.inr rfl) rfl (by simp) rfl) ?_
 refine TL.cons rfl (Step.not (b := (decide (0 ≤ a ∧ a ≤ (b.length : Int)))) rfl rfl (lt_ok rfl) rfl) ?_
 refine TL.cons rfl (Step.move (p := (.one (.d (.bool (!(decide (0 ≤ a ∧ a ≤ (b.length : Int)))))))) rfl rfl (lt_ok rfl) rfl) ?_
 rcases Bool.eq_false_or_eq_true (!(decide (0 ≤ a ∧ a ≤ (b.length : Int)))) with hb1 | hb1
 ·
  refine TL.known 14 hb1 rfl ?_
  have hb1' := hb1
  replace hb1' : (decide (0 ≤ a ∧ a ≤ (b.length : Int))) = false := by simpa only [Bool.not_eq_true', Bool.not_eq_false'] using hb1'
  replace hb1' := of_decide_eq_false hb1'
  refine TL.goff 14 rfl rfl (lt_ok rfl) rfl rfl rfl (lt_ok rfl) ?_
  refine TL.goff 14 rfl rfl (lt_ok rfl) rfl rfl rfl (lt_ok rfl) ?_
  refine TL.goff 14 rfl rfl (lt_ok rfl) rfl rfl rfl (lt_ok rfl) ?_
  refine TL.goff 14 rfl rfl (lt_ok rfl) rfl rfl rfl (lt_ok rfl) ?_
  refine TL.goff 14 rfl rfl (lt_ok rfl) rfl rfl rfl (lt_ok rfl) ?_
  refine TL.goff 14 rfl rfl (lt_ok rfl) rfl rfl rfl (lt_ok rfl) ?_
  refine TL.goff 14 rfl rfl (lt_ok rfl) rfl rfl rfl (lt_ok rfl) ?_
  refine TL.cons rfl (Step.pick (b := true) (p := (.one (.d (.bool true)))) rfl rfl (lt_ok rfl) rfl rfl) ?_
  refine TL.nil ?_
  refine T.cond (b := true) rfl (fun h2_ => ?_) (fun h2_ => absurd h2_ (by simp))
  refine T.seq ?_
  refine T.region ?_
  refine TL.cons rfl (Step.assign (p := (.one (.nil))) rfl rfl (lt_ok rfl) rfl) ?_
  refine TL.cons rfl (Step.assign (p := (.one (.d (.int .i64 0)))) rfl rfl (lt_ok rfl) rfl) ?_
  refine TL.cons rfl (Step.assign (p := (.one (.d (.int .i64 1)))) rfl rfl (lt_ok rfl) rfl) ?_
  refine TL.nil ?_
  refine T.ret ?_
  exact ⟨[(false, [.nil]), (false, [.d (.int .i64 0)]), (false, [.d (.int .i64 1)])], (.cons rfl (.cons rfl (.cons rfl .nil))), rfl, [], (RetC.nilown' rfl (by first | (congr 1; unfold getRaw; first | (rw [if_pos (by omega)]; done) | (rw [if_neg (by omega)]; done)) | (simp only [D.size]; unfold getRaw; rw [if_neg (by omega)]; rfl)) (by first | exact trivial | exact D.wf_nil _) (RetC.rd' (by first | (congr 1; unfold getRaw; first | (rw [if_pos (by omega)]; done) | (rw [if_neg (by omega)]; done)) | (simp only [D.size]; unfold getRaw; rw [if_neg (by omega)]; rfl)) (RetC.rd' (by first | (congr 1; unfold getRaw; first | (rw [if_pos (by omega)]; done) | (rw [if_neg (by omega)]; done)) | (simp only [D.size]; unfold getRaw; rw [if_neg (by omega)]; rfl)) .nil)))⟩
 ·
  refine TL.known 14 hb1 rfl ?_
  have hb1' := hb1
  replace hb1' : (decide (0 ≤ a ∧ a ≤ (b.length : Int))) = true := by simpa only [Bool.not_eq_true', Bool.not_eq_false'] using hb1'
  replace hb1' := of_decide_eq_true hb1'
  refine TL.gyes 14 rfl rfl (lt_ok rfl) rfl (Step.move (p := (.one (.d (.int .i64 n)))) rfl rfl (lt_ok rfl) rfl) ?_
  refine TL.gyes 14 rfl rfl (lt_ok rfl) rfl (Step.move (p := (.one (.d (.ints .u8 b)))) rfl rfl (lt_ok rfl) rfl) ?_
  refine TL.gyes 14 rfl rfl (lt_ok rfl) rfl (Step.len (e := 5) (z := 1) (d := (.ints .u8 b)) rfl rfl (lt_ok rfl) (by kernel_rfl) rfl rfl) ?_
  refine TL.gyes 14 rfl rfl (lt_ok rfl) rfl (Step.move (p := (.one (.d (.int .i64 a)))) rfl rfl (lt_ok rfl) rfl) ?_
  refine TL.gyes 14 rfl rfl (lt_ok rfl) rfl (Step.bin (r := .int .i64 ((b.length : Int) - a)) rfl rfl (lt_ok rfl) rfl rfl (Bin.sub (a := (b.length : Int)) (b := a) (by first | exact wrap_ok (by first | omega | (simp only [List.length_take, List.length_drop]; omega) | (simp; omega)) (by first | omega | (simp only [List.length_take, List.length_drop]; omega) | (simp; omega)) | rfl))) ?_
  refine TL.gyes 14 rfl rfl (lt_ok rfl) rfl (Step.call (f := 144) (xs := [.tmp 15, .const (.int .i64 0), .tmp 19]) (ps := [(.one (.d (.int .i64 n))), (.one (.d (.int .i64 0))), (.one (.d (.int .i64 ((b.length : Int) - a))))]) false (g := .func 144) rfl rfl (lt_ok rfl) rfl (by kernel_rfl) rfl (.cons (.one (.d _)) (.cons (.one (.d _)) (.cons (.one (.d _)) .nil))) (ok_impl_within n 0 ((b.length : Int) - a)) (.inr rfl) rfl (by simp) rfl) ?_
  refine TL.gyes 14 rfl rfl (lt_ok rfl) rfl (Step.not (b := (decide (0 ≤ n ∧ n ≤ ((b.length : Int) - a)))) rfl rfl (lt_ok rfl) rfl) ?_
  refine TL.cons rfl (Step.pick (b := false) (p := (.one (.d (.bool (!(decide (0 ≤ n ∧ n ≤ ((b.length : Int) - a)))))))) rfl rfl (lt_ok rfl) rfl rfl) ?_
  refine TL.nil ?_
  refine T.cond (b := !(decide (0 ≤ n ∧ n ≤ ((b.length : Int) - a)))) rfl (fun h3 => ?_) (fun h3 => ?_)
  ·
   replace h3 : (decide (0 ≤ n ∧ n ≤ ((b.length : Int) - a))) = false := by simpa only [Bool.not_eq_true', Bool.not_eq_false'] using h3
   replace h3 := of_decide_eq_false h3
   refine T.seq ?_
   refine T.region ?_
   refine TL.cons rfl (Step.assign (p := (.one (.nil))) rfl rfl (lt_ok rfl) rfl) ?_
   refine TL.cons rfl (Step.assign (p := (.one (.d (.int .i64 0)))) rfl rfl (lt_ok rfl) rfl) ?_
   refine TL.cons rfl (Step.assign (p := (.one (.d (.int .i64 1)))) rfl rfl (lt_ok rfl) rfl) ?_
   refine TL.nil ?_
   refine T.ret ?_
   exact ⟨[(false, [.nil]), (false, [.d (.int .i64 0)]), (false, [.d (.int .i64 1)])], (.cons rfl (.cons rfl (.cons rfl .nil))), rfl, [], (RetC.nilown' rfl (by first | (congr 1; unfold getRaw; first | (rw [if_pos (by omega)]; done) | (rw [if_neg (by omega)]; done)) | (simp only [D.size]; unfold getRaw; rw [if_neg (by omega)]; rfl)) (by first | exact trivial | exact D.wf_nil _) (RetC.rd' (by first | (congr 1; unfold getRaw; first | (rw [if_pos (by omega)]; done) | (rw [if_neg (by omega)]; done)) | (simp only [D.size]; unfold getRaw; rw [if_neg (by omega)]; rfl)) (RetC.rd' (by first | (congr 1; unfold getRaw; first | (rw [if_pos (by omega)]; done) | (rw [if_neg (by omega)]; done)) | (simp only [D.size]; unfold getRaw; rw [if_neg (by omega)]; rfl)) .nil)))⟩
  ·
   replace h3 : (decide (0 ≤ n ∧ n ≤ ((b.length : Int) - a))) = true := by simpa only [Bool.not_eq_true', Bool.not_eq_false'] using h3
   replace h3 := of_decide_eq_true h3
   refine T.skip ?_
   refine T.seq ?_
   refine T.region ?_
   refine TL.cons rfl (Step.move (p := (.one (.d (.ints .u8 b)))) rfl rfl (lt_ok rfl) rfl) ?_
   refine TL.cons rfl (Step.move (p := (.one (.d (.int .i64 a)))) rfl rfl (lt_ok rfl) rfl) ?_
   refine TL.cons rfl (Step.move (p := (.one (.d (.int .i64 a)))) rfl rfl (lt_ok rfl) rfl) ?_
   refine TL.cons rfl (Step.move (p := (.one (.d (.int .i64 n)))) rfl rfl (lt_ok rfl) rfl) ?_
   refine TL.cons rfl (Step.bin (r := .int .i64 (a + n)) rfl rfl (lt_ok rfl) rfl rfl (Bin.add (a := a) (b := n) (by first | exact wrap_ok (by first | omega | (simp only [List.length_take, List.length_drop]; omega) | (simp; omega)) (by first | omega | (simp only [List.length_take, List.length_drop]; omega) | (simp; omega)) | rfl))) ?_
   refine TL.cons rfl (Step.slice (e := 5) (z := 1) (l := (a).toNat) (h := (a + n).toNat) rfl rfl (lt_ok rfl) (by kernel_rfl) rfl rfl rfl ((.some (i := a) rfl (by first | omega | (simp only [List.length_take, List.length_drop]; omega) | (simp; omega)))) ((.some (i := (a + n)) rfl (by first | omega | (simp only [List.length_take, List.length_drop]; omega) | (simp; omega)))) (by first | omega | (simp only [List.length_take, List.length_drop]; omega) | (simp; omega)) (by simp only [D.size]; first | omega | (simp only [List.length_take, List.length_drop]; omega) | (simp; omega)) rfl) ?_
   refine TL.cons rfl (Step.call (f := 83) (xs := [.tmp 28]) (ps := [(.one (.d (.ints .u8 ((b.drop (a).toNat).take ((a + n).toNat - (a).toNat)))))]) false (g := .func 83) rfl rfl (lt_ok rfl) rfl (by kernel_rfl) rfl (.cons (.one (.d _)) .nil) (ok_impl_copyBytes ((b.drop (a).toNat).take ((a + n).toNat - (a).toNat)) (by first | omega | assumption | (simp only [List.length_take, List.length_drop]; omega))) (.inr rfl) rfl (by simp) rfl) ?_
   refine TL.cons rfl (Step.move (p := (.one (.d (.int .i64 a)))) rfl rfl (lt_ok rfl) rfl) ?_
   refine TL.cons rfl (Step.move (p := (.one (.d (.int .i64 n)))) rfl rfl (lt_ok rfl) rfl) ?_
   refine TL.cons rfl (Step.bin (r := .int .i64 (a + n)) rfl rfl (lt_ok rfl) rfl rfl (Bin.add (a := a) (b := n) (by first | exact wrap_ok (by first | omega | (simp only [List.length_take, List.length_drop]; omega) | (simp; omega)) (by first | omega | (simp only [List.length_take, List.length_drop]; omega) | (simp; omega)) | rfl))) ?_
   refine TL.cons rfl (Step.assign (p := (.one (.row 1029 []))) rfl rfl (lt_ok rfl) rfl) ?_
   refine TL.cons rfl (Step.assign (p := (.one (.d (.int .i64 (a + n))))) rfl rfl (lt_ok rfl) rfl) ?_
   refine TL.cons rfl (Step.assign (p := (.one (.d (.int .i64 0)))) rfl rfl (lt_ok rfl) rfl) ?_
   refine TL.nil ?_
   refine T.ret ?_
   exact ⟨[(false, [.row 1029 []]), (false, [.d (.int .i64 (a + n))]), (false, [.d (.int .i64 0)])], (.cons rfl (.cons rfl (.cons rfl .nil))), rfl, [1029], (RetC.own' rfl (by first | (congr 1; unfold getRaw; first | (rw [if_pos (by omega)]; done) | (rw [if_neg (by omega)]; done)) | (simp only [D.size]; unfold getRaw; rw [if_neg (by omega)]; rfl)) rfl (RetC.rd' (by first | (congr 1; unfold getRaw; first | (rw [if_pos (by omega)]; done) | (rw [if_neg (by omega)]; done)) | (simp only [D.size]; unfold getRaw; rw [if_neg (by omega)]; rfl)) (RetC.rd' (by first | (congr 1; unfold getRaw; first | (rw [if_pos (by omega)]; done) | (rw [if_neg (by omega)]; done)) | (simp only [D.size]; unfold getRaw; rw [if_neg (by omega)]; rfl)) .nil)))⟩
theorem ok_impl_reader__raw (b : List Int) (s : SRS) (n : Int) (h0_ : U8s b) (h1_ : b.length ≤ 1048576) : BX Try.prog 179 [.bx, .rd (.one (.int .i64 n))] 184 [.rd (.ints .u8 b), .rd (.int .i64 s.f0), .rd (.int .i64 s.f1)] [.rd (.ints .u8 b), .rd (.int .i64 (rdRaw b s n).1.f0), .rd (.int .i64 (rdRaw b s n).1.f1)] [(false, [.own 5 (.ints .u8 (rdRaw b s n).2)])] := by
 refine BX.intro Try.func179 rfl 36 rfl (le_ok rfl) (le_ok rfl) fun w Z IX pin hp => ?_
 refine T.seq ?_
 refine T.region ?_
 refine TL.cons rfl (Step.assign (p := (.one (.nil))) rfl rfl (lt_ok rfl) rfl) ?_
 refine TL.nil ?_
 refine T.seq ?_
 refine T.seq ?_
 refine T.region ?_
 refine TL.cons rfl (Step.move (p := (.one (.ptr 800 0))) rfl rfl (lt_ok rfl) rfl) ?_
 refine TL.cons rfl (Step.nilCheck rfl rfl (lt_ok rfl) rfl) ?_
 refine TL.cons rfl (Step.fieldAddr (q := 0) (off := 2) (n := 1) (one := true) rfl rfl (lt_ok rfl) (by kernel_rfl) (Nat.succ_ne_zero _) rfl) ?_
 refine TL.cons rfl (Step.load_box (c := .d (.int .i64 s.f1)) rfl rfl (lt_ok rfl) (by kernel_rfl) rfl rfl rfl) ?_
 refine TL.cons rfl (Step.bin rfl rfl (lt_ok rfl) rfl rfl (Bin.neq (k := .i64) (a := s.f1) (b := 0))) ?_
 refine TL.nil ?_
 refine T.cond (b := decide (s.f1 ≠ 0)) rfl (fun h1 => ?_) (fun h1 => ?_)
 ·
  replace h1 := of_decide_eq_true h1
  refine T.seq ?_
  refine T.region ?_
  refine TL.cons rfl (Step.assign (p := (.one (.nil))) rfl rfl (lt_ok rfl) rfl) ?_
  refine TL.nil ?_
  refine T.ret ?_
  exact ⟨[.d (.ints .u8 b), .d (.int .i64 s.f0), .d (.int .i64 s.f1)], [(false, [.nil])], rfl, rfl, (.cons rfl .nil), rfl, [], (RetC.rd' (by first | rfl | (congr 1; unfold rdRaw; first | (rw [if_pos (by omega)]; done) | (rw [if_neg (by omega)]; done)) | (simp only [D.size]; unfold rdRaw; rw [if_neg (by omega)]; rfl)) (RetC.rd' (by first | rfl | (congr 1; unfold rdRaw; first | (rw [if_pos (by omega)]; done) | (rw [if_neg (by omega)]; done)) | (simp only [D.size]; unfold rdRaw; rw [if_neg (by omega)]; rfl)) (RetC.rd' (by first | rfl | (congr 1; unfold rdRaw; first | (rw [if_pos (by omega)]; done) | (rw [if_neg (by omega)]; done)) | (simp only [D.size]; unfold rdRaw; rw [if_neg (by omega)]; rfl)) (RetC.nilown' rfl (by first | rfl | (congr 1; unfold rdRaw; first | (rw [if_pos (by omega)]; done) | (rw [if_neg (by omega)]; done)) | (simp only [D.size]; unfold rdRaw; rw [if_neg (by omega)]; rfl)) (by first | exact trivial | exact D.wf_nil _) .nil))))⟩
 ·
  replace h1 := of_decide_eq_false h1
  refine T.skip ?_
  refine T.seq ?_
  have nn2 := getRaw_bd b s.f0 n
  refine T.draw [⟨14, (.one (.ptr 800 0)), []⟩, ⟨15, (.one (.ptr 800 0)), []⟩, ⟨16, (.one (.ptr 800 0)), []⟩, ⟨17, (.one (.d (.ints .u8 b))), []⟩, ⟨18, (.one (.ptr 800 0)), []⟩, ⟨19, (.one (.ptr 800 0)), []⟩, ⟨20, (.one (.ptr 800 1)), []⟩, ⟨21, (.one (.d (.int .i64 s.f0))), []⟩, ⟨22, (.one (.d (.int .i64 n))), []⟩, ⟨23, (.tup [(false, [.row 1023 []]), (false, [.d (.int .i64 (getRaw b s.f0 n).2.1)]), (false, [.d (.int .i64 (getRaw b s.f0 n).2.2)])]), [(1023, (5, (.ints .u8 (getRaw b s.f0 n).1)))]⟩, ⟨13, (.tup [(false, [.row 1023 []]), (false, [.d (.int .i64 (getRaw b s.f0 n).2.1)]), (false, [.d (.int .i64 (getRaw b s.f0 n).2.2)])]), []⟩, ⟨24, (.one (.row 1023 [])), []⟩, ⟨25, (.one (.d (.int .i64 (getRaw b s.f0 n).2.1))), []⟩, ⟨26, (.one (.d (.int .i64 (getRaw b s.f0 n).2.2))), []⟩, ⟨5, (.one (.row 1023 [])), []⟩, ⟨6, (.one (.d (.int .i64 (getRaw b s.f0 n).2.1))), []⟩, ⟨7, (.one (.d (.int .i64 (getRaw b s.f0 n).2.2))), []⟩] (by kernel_rfl) (by kernel_rfl) ?_ ?_
  ·
   refine .cons (fun E hA_ => by have g0 := hA_.get 0 (by decide); exact OpStep.plain rfl (Step.move (p := (.one (.ptr 800 0))) (t := 14) rfl rfl (by exact lt_ok rfl) (show Env.ev E (.tmp 0) = _ from g0.trans rfl))) ?_
   refine .cons (fun E hA_ => by have g14 := hA_.get 14 (by decide); exact OpStep.plain rfl (Step.nilCheck (t := 15) rfl rfl (by exact lt_ok rfl) (show Env.ev E (.tmp 14) = _ from g14.trans rfl))) ?_
   refine .cons (fun E hA_ => by have g15 := hA_.get 15 (by decide); exact OpStep.plain rfl (Step.fieldAddr (q := 0) (off := 0) (n := 1) (one := true) (t := 16) rfl rfl (by exact lt_ok rfl) (by kernel_rfl) (Nat.succ_ne_zero _) (show Env.ev E (.tmp 15) = _ from g15.trans rfl))) ?_
   refine .cons (fun E hA_ => by have g16 := hA_.get 16 (by decide); exact OpStep.plain rfl (Step.load_box (c := .d (.ints .u8 b)) (t := 17) rfl rfl (by exact lt_ok rfl) (by kernel_rfl) (show Env.ev E (.tmp 16) = _ from g16.trans rfl) (by exact hA_.box rfl) rfl)) ?_
   refine .cons (fun E hA_ => by have g0 := hA_.get 0 (by decide); exact OpStep.plain rfl (Step.move (p := (.one (.ptr 800 0))) (t := 18) rfl rfl (by exact lt_ok rfl) (show Env.ev E (.tmp 0) = _ from g0.trans rfl))) ?_
   refine .cons (fun E hA_ => by have g18 := hA_.get 18 (by decide); exact OpStep.plain rfl (Step.nilCheck (t := 19) rfl rfl (by exact lt_ok rfl) (show Env.ev E (.tmp 18) = _ from g18.trans rfl))) ?_
   refine .cons (fun E hA_ => by have g19 := hA_.get 19 (by decide); exact OpStep.plain rfl (Step.fieldAddr (q := 0) (off := 1) (n := 1) (one := true) (t := 20) rfl rfl (by exact lt_ok rfl) (by kernel_rfl) (Nat.succ_ne_zero _) (show Env.ev E (.tmp 19) = _ from g19.trans rfl))) ?_
   refine .cons (fun E hA_ => by have g20 := hA_.get 20 (by decide); exact OpStep.plain rfl (Step.load_box (c := .d (.int .i64 s.f0)) (t := 21) rfl rfl (by exact lt_ok rfl) (by kernel_rfl) (show Env.ev E (.tmp 20) = _ from g20.trans rfl) (by exact hA_.box rfl) rfl)) ?_
   refine .cons (fun E hA_ => by have g1 := hA_.get 1 (by decide); exact OpStep.plain rfl (Step.move (p := (.one (.d (.int .i64 n)))) (t := 22) rfl rfl (by exact lt_ok rfl) (show Env.ev E (.tmp 1) = _ from g1.trans rfl))) ?_
   refine .cons (fun E hA_ => by have g17 := hA_.get 17 (by decide); have g21 := hA_.get 21 (by decide); have g22 := hA_.get 22 (by decide); exact OpStep.plain rfl (Step.call (f := 182) (xs := [.tmp 17, .tmp 21, .tmp 22]) (ps := [(.one (.d (.ints .u8 b))), (.one (.d (.int .i64 s.f0))), (.one (.d (.int .i64 n)))]) false (g := .func 182) (t := 23) rfl rfl (by exact lt_ok rfl) rfl (by kernel_rfl) (evs_cons (show Env.ev E (.tmp 17) = _ from g17.trans rfl) (evs_cons (show Env.ev E (.tmp 21) = _ from g21.trans rfl) (evs_cons (show Env.ev E (.tmp 22) = _ from g22.trans rfl) (rfl)))) (.cons (.one (.d _)) (.cons (.one (.d _)) (.cons (.one (.d _)) .nil))) (ok_impl_GetRaw b s.f0 n (by first | omega | assumption | (simp only [List.length_append] at *; omega))) (.inr rfl) (At.freshRows hA_ rfl) (fun x hx => by have := hp x hx; omega) rfl)) ?_
   refine .cons (fun E hA_ => by have g23 := hA_.get 23 (by decide); exact OpStep.plain rfl (Step.move (p := (.tup [(false, [.row 1023 []]), (false, [.d (.int .i64 (getRaw b s.f0 n).2.1)]), (false, [.d (.int .i64 (getRaw b s.f0 n).2.2)])])) (t := 13) rfl rfl (by exact lt_ok rfl) (show Env.ev E (.tmp 23) = _ from g23.trans rfl))) ?_
   refine .cons (fun E hA_ => by have g13 := hA_.get 13 (by decide); exact OpStep.plain rfl (Step.extract (p := (.one (.row 1023 []))) (t := 24) rfl rfl (by exact lt_ok rfl) (show Env.ev E (.tmp 13) = _ from g13.trans rfl) rfl)) ?_
   refine .cons (fun E hA_ => by have g13 := hA_.get 13 (by decide); exact OpStep.plain rfl (Step.extract (p := (.one (.d (.int .i64 (getRaw b s.f0 n).2.1)))) (t := 25) rfl rfl (by exact lt_ok rfl) (show Env.ev E (.tmp 13) = _ from g13.trans rfl) rfl)) ?_
   refine .cons (fun E hA_ => by have g13 := hA_.get 13 (by decide); exact OpStep.plain rfl (Step.extract (p := (.one (.d (.int .i64 (getRaw b s.f0 n).2.2)))) (t := 26) rfl rfl (by exact lt_ok rfl) (show Env.ev E (.tmp 13) = _ from g13.trans rfl) rfl)) ?_
   refine .cons (fun E hA_ => by have g24 := hA_.get 24 (by decide); exact OpStep.plain rfl (Step.assign (p := (.one (.row 1023 []))) (t := 5) rfl rfl (by exact lt_ok rfl) (show Env.ev E (.tmp 24) = _ from g24.trans rfl))) ?_
   refine .cons (fun E hA_ => by have g25 := hA_.get 25 (by decide); exact OpStep.plain rfl (Step.assign (p := (.one (.d (.int .i64 (getRaw b s.f0 n).2.1)))) (t := 6) rfl rfl (by exact lt_ok rfl) (show Env.ev E (.tmp 25) = _ from g25.trans rfl))) ?_
   refine .cons (fun E hA_ => by have g26 := hA_.get 26 (by decide); exact OpStep.plain rfl (Step.assign (p := (.one (.d (.int .i64 (getRaw b s.f0 n).2.2)))) (t := 7) rfl rfl (by exact lt_ok rfl) (show Env.ev E (.tmp 26) = _ from g26.trans rfl))) ?_
   exact .nil _ _
  refine TL.nil ?_
  refine T.seq ?_
  refine T.region ?_
  refine TL.cons rfl (Step.move (p := (.one (.ptr 800 0))) rfl rfl (lt_ok rfl) rfl) ?_
  refine TL.cons rfl (Step.move (p := (.one (.ptr 800 0))) rfl rfl (lt_ok rfl) rfl) ?_
  refine TL.cons rfl (Step.move (p := (.one (.d (.int .i64 (getRaw b s.f0 n).2.1)))) rfl rfl (lt_ok rfl) rfl) ?_
  refine TL.cons rfl (Step.move (p := (.one (.d (.int .i64 (getRaw b s.f0 n).2.2)))) rfl rfl (lt_ok rfl) rfl) ?_
  refine TL.cons rfl (Step.nilCheck rfl rfl (lt_ok rfl) rfl) ?_
  refine TL.cons rfl (Step.fieldAddr (q := 0) (off := 1) (n := 1) (one := true) rfl rfl (lt_ok rfl) (by kernel_rfl) (Nat.succ_ne_zero _) rfl) ?_
  refine TL.cons rfl (Step.store_box (n := 1) (p := (.one (.d (.int .i64 (getRaw b s.f0 n).2.1)))) (qs := [.d (.int .i64 (getRaw b s.f0 n).2.1)]) (ps' := [.d (.ints .u8 b), .d (.int .i64 (getRaw b s.f0 n).2.1), .d (.int .i64 s.f1)]) rfl rfl (by kernel_rfl) rfl rfl rfl rfl rfl rfl (le_ok rfl) rfl) ?_
  refine TL.cons rfl (Step.nilCheck rfl rfl (lt_ok rfl) rfl) ?_
  refine TL.cons rfl (Step.fieldAddr (q := 0) (off := 2) (n := 1) (one := true) rfl rfl (lt_ok rfl) (by kernel_rfl) (Nat.succ_ne_zero _) rfl) ?_
  refine TL.cons rfl (Step.store_box (n := 1) (p := (.one (.d (.int .i64 (getRaw b s.f0 n).2.2)))) (qs := [.d (.int .i64 (getRaw b s.f0 n).2.2)]) (ps' := [.d (.ints .u8 b), .d (.int .i64 (getRaw b s.f0 n).2.1), .d (.int .i64 (getRaw b s.f0 n).2.2)]) rfl rfl (by kernel_rfl) rfl rfl rfl rfl rfl rfl (le_ok rfl) rfl) ?_
  refine TL.nil ?_
  refine T.seq ?_
  refine T.region ?_
  refine TL.cons rfl (Step.move (p := (.one (.row 1023 []))) rfl rfl (lt_ok rfl) rfl) ?_
  refine TL.cons rfl (Step.assign (p := (.one (.row 1023 []))) rfl rfl (lt_ok rfl) rfl) ?_
  refine TL.nil ?_
  refine T.ret ?_
  exact ⟨[.d (.ints .u8 b), .d (.int .i64 (getRaw b s.f0 n).2.1), .d (.int .i64 (getRaw b s.f0 n).2.2)], [(false, [.row 1023 []])], rfl, rfl, (.cons rfl .nil), rfl, [1023], (RetC.rd' (by first | rfl | (congr 1; unfold rdRaw; first | (rw [if_pos (by omega)]; done) | (rw [if_neg (by omega)]; done)) | (simp only [D.size]; unfold rdRaw; rw [if_neg (by omega)]; rfl)) (RetC.rd' (by first | rfl | (congr 1; unfold rdRaw; first | (rw [if_pos (by omega)]; done) | (rw [if_neg (by omega)]; done)) | (simp only [D.size]; unfold rdRaw; rw [if_neg (by omega)]; rfl)) (RetC.rd' (by first | rfl | (congr 1; unfold rdRaw; first | (rw [if_pos (by omega)]; done) | (rw [if_neg (by omega)]; done)) | (simp only [D.size]; unfold rdRaw; rw [if_neg (by omega)]; rfl)) (RetC.own' rfl (by first | rfl | (congr 1; unfold rdRaw; first | (rw [if_pos (by omega)]; done) | (rw [if_neg (by omega)]; done)) | (simp only [D.size]; unfold rdRaw; rw [if_neg (by omega)]; rfl)) rfl .nil))))⟩
theorem ok_impl_reader__hash (b : List Int) (s : SRS) (h0_ : U8s b) (h1_ : b.length ≤ 1048576) : BX Try.prog 168 [.bx] 184 [.rd (.ints .u8 b), .rd (.int .i64 s.f0), .rd (.int .i64 s.f1)] [.rd (.ints .u8 b), .rd (.int .i64 (rdRaw b s 32).1.f0), .rd (.int .i64 (rdRaw b s 32).1.f1)] [(false, [.own 5 (.ints .u8 (rdRaw b s 32).2)])] := by
 refine BX.intro Try.func168 rfl 5 rfl (le_ok rfl) (le_ok rfl) fun w Z IX pin hp => ?_
 refine T.seq ?_
 refine T.region ?_
 refine TL.cons rfl (Step.assign (p := (.one (.nil))) rfl rfl (lt_ok rfl) rfl) ?_
 refine TL.nil ?_
 refine T.seq ?_
 refine T.region ?_
 refine TL.cons rfl (Step.move (p := (.one (.ptr 800 0))) rfl rfl (lt_ok rfl) rfl) ?_
 have nn1 := rdRaw_len b s 32
 refine TL.cons rfl (Step.callX (f := 179) (b := 800) (T := 184) (xs := [.tmp 3, .const (.int .i64 32)]) (ps := [(.one (.ptr 800 0)), (.one (.d (.int .i64 32)))]) (args := [.bx, .rd (.one (.int .i64 32))]) (bps := [.d (.ints .u8 b), .d (.int .i64 s.f0), .d (.int .i64 s.f1)]) (cs := [.rd (.ints .u8 b), .rd (.int .i64 s.f0), .rd (.int .i64 s.f1)]) (cs' := [.rd (.ints .u8 b), .rd (.int .i64 (rdRaw b s 32).1.f0), .rd (.int .i64 (rdRaw b s 32).1.f1)]) (res := [(false, [.own 5 (.ints .u8 (rdRaw b s 32).2)])]) (ss := []) (g := .func 179) rfl rfl (lt_ok rfl) rfl (by kernel_rfl) rfl (.cons (.bx) (.cons (.rd (.one (.d _))) .nil)) rfl (.rd (.rd (.rd .nil))) (ok_impl_reader__raw b s 32 (by assumption) (by first | omega | assumption | (simp only [List.length_append] at *; omega))) rfl rfl (fun x hx => by have := hp x hx; omega) rfl) ?_
 refine TL.cons rfl (Step.assign (p := (.one (.row 4004 []))) rfl rfl (lt_ok rfl) rfl) ?_
 refine TL.nil ?_
 refine T.ret ?_
 exact ⟨[.d (.ints .u8 b), .d (.int .i64 (rdRaw b s 32).1.f0), .d (.int .i64 (rdRaw b s 32).1.f1)], [(false, [.row 4004 []])], rfl, rfl, (.cons rfl .nil), rfl, [4004], (RetC.rd' (by rfl) (RetC.rd' (by rfl) (RetC.rd' (by rfl) (RetC.own' rfl (by rfl) rfl .nil))))⟩
theorem ok_impl_reader__must (b : List Int) (s : SRS) (k : Bool) (c : Int) (h0_ : U8s b) (h1_ : b.length ≤ 1048576) : BX Try.prog 170 [.bx, .rd (.one (.bool k)), .rd (.one (.int .i64 c))] 184 [.rd (.ints .u8 b), .rd (.int .i64 s.f0), .rd (.int .i64 s.f1)] [.rd (.ints .u8 b), .rd (.int .i64 (rdMust s k c).f0), .rd (.int .i64 (rdMust s k c).f1)] [] := by
 refine BX.intro Try.func170 rfl 19 rfl (le_ok rfl) (le_ok rfl) fun w Z IX pin hp => ?_
 refine T.seq ?_
 refine T.region ?_
 refine TL.cons rfl (Step.move (p := (.one (.ptr 800 0))) rfl rfl (lt_ok rfl) rfl) ?_
 refine TL.cons rfl (Step.nilCheck rfl rfl (lt_ok rfl) rfl) ?_
 refine TL.cons rfl (Step.fieldAddr (q := 0) (off := 2) (n := 1) (one := true) rfl rfl (lt_ok rfl) (by kernel_rfl) (Nat.succ_ne_zero _) rfl) ?_
 refine TL.cons rfl (Step.load_box (c := .d (.int .i64 s.f1)) rfl rfl (lt_ok rfl) (by kernel_rfl) rfl rfl rfl) ?_
 refine TL.cons rfl (Step.bin rfl rfl (lt_ok rfl) rfl rfl (Bin.eql (k := .i64) (a := s.f1) (b := 0))) ?_
 refine TL.cons rfl (Step.move (p := (.one (.d (.bool (decide (s.f1 = 0)))))) rfl rfl (lt_ok rfl) rfl) ?_
 rcases Bool.eq_false_or_eq_true (decide (s.f1 = 0)) with hb1 | hb1
 ·
  refine TL.known 11 hb1 rfl ?_
  have hb1' := hb1
  replace hb1' := of_decide_eq_true hb1'
  refine TL.gyes 11 rfl rfl (lt_ok rfl) rfl (Step.move (p := (.one (.d (.bool k)))) rfl rfl (lt_ok rfl) rfl) ?_
  refine TL.gyes 11 rfl rfl (lt_ok rfl) rfl (Step.not (b := k) rfl rfl (lt_ok rfl) rfl) ?_
  refine TL.cons rfl (Step.pick (b := true) (p := (.one (.d (.bool (!k))))) rfl rfl (lt_ok rfl) rfl rfl) ?_
  refine TL.nil ?_
  refine T.cond (b := !k) rfl (fun h2 => ?_) (fun h2 => ?_)
  ·
   replace h2 : (k) = false := by simpa only [Bool.not_eq_true', Bool.not_eq_false'] using h2
   refine T.region ?_
   refine TL.cons rfl (Step.move (p := (.one (.ptr 800 0))) rfl rfl (lt_ok rfl) rfl) ?_
   refine TL.cons rfl (Step.move (p := (.one (.d (.int .i64 c)))) rfl rfl (lt_ok rfl) rfl) ?_
   refine TL.cons rfl (Step.nilCheck rfl rfl (lt_ok rfl) rfl) ?_
   refine TL.cons rfl (Step.fieldAddr (q := 0) (off := 2) (n := 1) (one := true) rfl rfl (lt_ok rfl) (by kernel_rfl) (Nat.succ_ne_zero _) rfl) ?_
   refine TL.cons rfl (Step.store_box (n := 1) (p := (.one (.d (.int .i64 c)))) (qs := [.d (.int .i64 c)]) (ps' := [.d (.ints .u8 b), .d (.int .i64 s.f0), .d (.int .i64 c)]) rfl rfl (by kernel_rfl) rfl rfl rfl rfl rfl rfl (le_ok rfl) rfl) ?_
   refine TL.nil ?_
   exact ⟨[.d (.ints .u8 b), .d (.int .i64 s.f0), .d (.int .i64 c)], [], rfl, rfl, .nil, rfl, [], (RetC.rd' (by first | rfl | (congr 1; first | (rw [rdMust_er (by omega)]; done) | (rw [rdMust_ok (by first | assumption | (rw [hk_, show bad = true from by assumption]; rfl) | (rw [hk_, show bad = false from by assumption]; rfl))]; done) | (rw [rdMust_hit (by omega) (by first | assumption | (rw [hk_, show bad = true from by assumption]; rfl) | (rw [hk_, show bad = false from by assumption]; rfl))]; done))) (RetC.rd' (by first | rfl | (congr 1; first | (rw [rdMust_er (by omega)]; done) | (rw [rdMust_ok (by first | assumption | (rw [hk_, show bad = true from by assumption]; rfl) | (rw [hk_, show bad = false from by assumption]; rfl))]; done) | (rw [rdMust_hit (by omega) (by first | assumption | (rw [hk_, show bad = true from by assumption]; rfl) | (rw [hk_, show bad = false from by assumption]; rfl))]; done))) (RetC.rd' (by first | rfl | (congr 1; first | (rw [rdMust_er (by omega)]; done) | (rw [rdMust_ok (by first | assumption | (rw [hk_, show bad = true from by assumption]; rfl) | (rw [hk_, show bad = false from by assumption]; rfl))]; done) | (rw [rdMust_hit (by omega) (by first | assumption | (rw [hk_, show bad = true from by assumption]; rfl) | (rw [hk_, show bad = false from by assumption]; rfl))]; done))) .nil)))⟩
  ·
   replace h2 : (k) = true := by simpa only [Bool.not_eq_true', Bool.not_eq_false'] using h2
   refine T.skip ?_
   exact ⟨[.d (.ints .u8 b), .d (.int .i64 s.f0), .d (.int .i64 s.f1)], [], rfl, rfl, .nil, rfl, [], (RetC.rd' (by first | rfl | (congr 1; first | (rw [rdMust_er (by omega)]; done) | (rw [rdMust_ok (by first | assumption | (rw [hk_, show bad = true from by assumption]; rfl) | (rw [hk_, show bad = false from by assumption]; rfl))]; done) | (rw [rdMust_hit (by omega) (by first | assumption | (rw [hk_, show bad = true from by assumption]; rfl) | (rw [hk_, show bad = false from by assumption]; rfl))]; done))) (RetC.rd' (by first | rfl | (congr 1; first | (rw [rdMust_er (by omega)]; done) | (rw [rdMust_ok (by first | assumption | (rw [hk_, show bad = true from by assumption]; rfl) | (rw [hk_, show bad = false from by assumption]; rfl))]; done) | (rw [rdMust_hit (by omega) (by first | assumption | (rw [hk_, show bad = true from by assumption]; rfl) | (rw [hk_, show bad = false from by assumption]; rfl))]; done))) (RetC.rd' (by first | rfl | (congr 1; first | (rw [rdMust_er (by omega)]; done) | (rw [rdMust_ok (by first | assumption | (rw [hk_, show bad = true from by assumption]; rfl) | (rw [hk_, show bad = false from by assumption]; rfl))]; done) | (rw [rdMust_hit (by omega) (by first | assumption | (rw [hk_, show bad = true from by assumption]; rfl) | (rw [hk_, show bad = false from by assumption]; rfl))]; done))) .nil)))⟩
 ·
  refine TL.known 11 hb1 rfl ?_
  have hb1' := hb1
  replace hb1' := of_decide_eq_false hb1'
  refine TL.goff 11 rfl rfl (lt_ok rfl) rfl rfl rfl (lt_ok rfl) ?_
  refine TL.goff 11 rfl rfl (lt_ok rfl) rfl rfl rfl (lt_ok rfl) ?_
  refine TL.cons rfl (Step.pick (b := false) (p := (.one (.d (.bool false)))) rfl rfl (lt_ok rfl) rfl rfl) ?_
  refine TL.nil ?_
  refine T.cond (b := false) rfl (fun h3_ => absurd h3_ (by simp)) (fun h3_ => ?_)
  refine T.skip ?_
  exact ⟨[.d (.ints .u8 b), .d (.int .i64 s.f0), .d (.int .i64 s.f1)], [], rfl, rfl, .nil, rfl, [], (RetC.rd' (by first | rfl | (congr 1; first | (rw [rdMust_er (by omega)]; done) | (rw [rdMust_ok (by first | assumption | (rw [hk_, show bad = true from by assumption]; rfl) | (rw [hk_, show bad = false from by assumption]; rfl))]; done) | (rw [rdMust_hit (by omega) (by first | assumption | (rw [hk_, show bad = true from by assumption]; rfl) | (rw [hk_, show bad = false from by assumption]; rfl))]; done))) (RetC.rd' (by first | rfl | (congr 1; first | (rw [rdMust_er (by omega)]; done) | (rw [rdMust_ok (by first | assumption | (rw [hk_, show bad = true from by assumption]; rfl) | (rw [hk_, show bad = false from by assumption]; rfl))]; done) | (rw [rdMust_hit (by omega) (by first | assumption | (rw [hk_, show bad = true from by assumption]; rfl) | (rw [hk_, show bad = false from by assumption]; rfl))]; done))) (RetC.rd' (by first | rfl | (congr 1; first | (rw [rdMust_er (by omega)]; done) | (rw [rdMust_ok (by first | assumption | (rw [hk_, show bad = true from by assumption]; rfl) | (rw [hk_, show bad = false from by assumption]; rfl))]; done) | (rw [rdMust_hit (by omega) (by first | assumption | (rw [hk_, show bad = true from by assumption]; rfl) | (rw [hk_, show bad = false from by assumption]; rfl))]; done))) .nil)))⟩
theorem ok_impl_reader__below (b : List Int) (s : SRS) (n : Int) (c : Int) (h0_ : U8s b) (h1_ : b.length ≤ 1048576) : BX Try.prog 169 [.bx, .rd (.one (.int .i64 n)), .rd (.one (.int .i64 c))] 184 [.rd (.ints .u8 b), .rd (.int .i64 s.f0), .rd (.int .i64 s.f1)] [.rd (.ints .u8 b), .rd (.int .i64 (rdBelow b s n c).1.f0), .rd (.int .i64 (rdBelow b s n c).1.f1)] [(false, [.rd (.int .i64 (rdBelow b s n c).2)])] := by
 refine BX.intro Try.func169 rfl 17 rfl (le_ok rfl) (le_ok rfl) fun w Z IX pin hp => ?_
 refine T.seq ?_
 refine T.region ?_
 refine TL.cons rfl (Step.assign (p := (.one (.d (.int .i64 0)))) rfl rfl (lt_ok rfl) rfl) ?_
 refine TL.nil ?_
 refine T.seq ?_
 refine T.region ?_
 refine TL.cons rfl (Step.move (p := (.one (.ptr 800 0))) rfl rfl (lt_ok rfl) rfl) ?_
 have nn1 := @rdNum_bd b (by assumption) s
 refine TL.cons rfl (Step.callX (f := 167) (b := 800) (T := 184) (xs := [.tmp 8]) (ps := [(.one (.ptr 800 0))]) (args := [.bx]) (bps := [.d (.ints .u8 b), .d (.int .i64 s.f0), .d (.int .i64 s.f1)]) (cs := [.rd (.ints .u8 b), .rd (.int .i64 s.f0), .rd (.int .i64 s.f1)]) (cs' := [.rd (.ints .u8 b), .rd (.int .i64 (rdNum b s).1.f0), .rd (.int .i64 (rdNum b s).1.f1)]) (res := [(false, [.rd (.int .i64 (rdNum b s).2)])]) (ss := []) (g := .func 167) rfl rfl (lt_ok rfl) rfl (by kernel_rfl) rfl (.cons (.bx) .nil) rfl (.rd (.rd (.rd .nil))) (ok_impl_reader__num b s (by assumption) (by first | omega | assumption | (simp only [List.length_append] at *; omega))) rfl rfl (fun x hx => by have := hp x hx; omega) rfl) ?_
 refine TL.cons rfl (Step.assign (p := (.one (.d (.int .i64 (rdNum b s).2)))) rfl rfl (lt_ok rfl) rfl) ?_
 refine TL.nil ?_
 refine T.seq ?_
 refine T.region ?_
 refine TL.cons rfl (Step.move (p := (.one (.ptr 800 0))) rfl rfl (lt_ok rfl) rfl) ?_
 refine TL.cons rfl (Step.move (p := (.one (.d (.int .i64 (rdNum b s).2)))) rfl rfl (lt_ok rfl) rfl) ?_
 refine TL.cons rfl (Step.move (p := (.one (.d (.int .i64 n)))) rfl rfl (lt_ok rfl) rfl) ?_
 refine TL.cons rfl (Step.bin rfl rfl (lt_ok rfl) rfl rfl (Bin.lss (k := .i64) (a := (rdNum b s).2) (b := n))) ?_
 refine TL.cons rfl (Step.move (p := (.one (.d (.int .i64 c)))) rfl rfl (lt_ok rfl) rfl) ?_
 refine TL.cons rfl (Step.callX (f := 170) (b := 800) (T := 184) (xs := [.tmp 10, .tmp 13, .tmp 14]) (ps := [(.one (.ptr 800 0)), (.one (.d (.bool (decide ((rdNum b s).2 < n))))), (.one (.d (.int .i64 c)))]) (args := [.bx, .rd (.one (.bool (decide ((rdNum b s).2 < n)))), .rd (.one (.int .i64 c))]) (bps := [.d (.ints .u8 b), .d (.int .i64 (rdNum b s).1.f0), .d (.int .i64 (rdNum b s).1.f1)]) (cs := [.rd (.ints .u8 b), .rd (.int .i64 (rdNum b s).1.f0), .rd (.int .i64 (rdNum b s).1.f1)]) (cs' := [.rd (.ints .u8 b), .rd (.int .i64 (rdMust (rdNum b s).1 (decide ((rdNum b s).2 < n)) c).f0), .rd (.int .i64 (rdMust (rdNum b s).1 (decide ((rdNum b s).2 < n)) c).f1)]) (res := []) (ss := []) (g := .func 170) rfl rfl (lt_ok rfl) rfl (by kernel_rfl) rfl (.cons (.bx) (.cons (.rd (.one (.d _))) (.cons (.rd (.one (.d _))) .nil))) rfl (.rd (.rd (.rd .nil))) (ok_impl_reader__must b (rdNum b s).1 (decide ((rdNum b s).2 < n)) c (by assumption) (by first | omega | assumption | (simp only [List.length_append] at *; omega))) rfl rfl (fun x hx => by have := hp x hx; omega) rfl) ?_
 refine TL.nil ?_
 refine T.seq ?_
 refine T.region ?_
 refine TL.cons rfl (Step.move (p := (.one (.d (.int .i64 (rdNum b s).2)))) rfl rfl (lt_ok rfl) rfl) ?_
 refine TL.cons rfl (Step.assign (p := (.one (.d (.int .i64 (rdNum b s).2)))) rfl rfl (lt_ok rfl) rfl) ?_
 refine TL.nil ?_
 refine T.ret ?_
 exact ⟨[.d (.ints .u8 b), .d (.int .i64 (rdMust (rdNum b s).1 (decide ((rdNum b s).2 < n)) c).f0), .d (.int .i64 (rdMust (rdNum b s).1 (decide ((rdNum b s).2 < n)) c).f1)], [(false, [.d (.int .i64 (rdNum b s).2)])], rfl, rfl, (.cons rfl .nil), rfl, [], (RetC.rd' (by rfl) (RetC.rd' (by rfl) (RetC.rd' (by rfl) (RetC.rd' (by rfl) .nil))))⟩
theorem ok_impl_GetText (b : List Int) (a : Int) (m : Int) (h0_ : U8s b) (h1_ : b.length ≤ 1099511627776) : RO Try.prog 181 [.one (.ints .u8 b), .one (.int .i64 a), .one (.int .i64 m)] [(false, [.own 5 (.ints .u8 (getText b a m).1)]), (false, [.rd (.int .i64 (getText b a m).2.1)]), (false, [.rd (.int .i64 (getText b a m).2.2)])] := by
 refine RO.intro Try.func181 rfl 31 rfl (le_ok rfl) fun w Z => ?_
 refine T.bnd 0 0 rfl rfl fun hb_0_0 => ?_
 simp only [D.size, List.length_map] at hb_0_0
 refine T.seq ?_
 refine T.region ?_
 refine TL.cons rfl (Step.assign (p := (.one (.nil))) rfl rfl (lt_ok rfl) rfl) ?_
 refine TL.cons rfl (Step.assign (p := (.one (.d (.int .i64 0)))) rfl rfl (lt_ok rfl) rfl) ?_
 refine TL.cons rfl (Step.assign (p := (.one (.d (.int .i64 0)))) rfl rfl (lt_ok rfl) rfl) ?_
 refine TL.nil ?_
 refine T.seq ?_
 refine T.region ?_
 refine TL.cons rfl (Step.move (p := (.one (.d (.ints .u8 b)))) rfl rfl (lt_ok rfl) rfl) ?_
 refine TL.cons rfl (Step.move (p := (.one (.d (.int .i64 a)))) rfl rfl (lt_ok rfl) rfl) ?_
 have nn1 := @getVar_bd b (by assumption) a
 refine TL.cons rfl (Step.call (f := 178) (xs := [.tmp 12, .tmp 13]) (ps := [(.one (.d (.ints .u8 b))), (.one (.d (.int .i64 a)))]) false (g := .func 178) rfl rfl (lt_ok rfl) rfl (by kernel_rfl) rfl (.cons (.one (.d _)) (.cons (.one (.d _)) .nil)) (ok_impl_GetVar b a (by assumption) (by first | omega | assumption | (simp only [List.length_append] at *; omega))) (.inr rfl) rfl (by simp) rfl) ?_
 refine TL.cons rfl (Step.move (p := (.tup [(false, [.d (.int .i64 (getVar b a).1)]), (false, [.d (.int .i64 (getVar b a).2.1)]), (false, [.d (.int .i64 (getVar b a).2.2)])])) rfl rfl (lt_ok rfl) rfl) ?_
 refine TL.cons rfl (Step.extract (p := (.one (.d (.int .i64 (getVar b a).1)))) rfl rfl (lt_ok rfl) rfl rfl) ?_
 refine TL.cons rfl (Step.extract (p := (.one (.d (.int .i64 (getVar b a).2.1)))) rfl rfl (lt_ok rfl) rfl rfl) ?_
 refine TL.cons rfl (Step.extract (p := (.one (.d (.int .i64 (getVar b a).2.2)))) rfl rfl (lt_ok rfl) rfl rfl) ?_
 refine TL.cons rfl (Step.assign (p := (.one (.d (.int .i64 (getVar b a).1)))) rfl rfl (lt_ok rfl) rfl) ?_
 refine TL.cons rfl (Step.assign (p := (.one (.d (.int .i64 (getVar b a).2.1)))) rfl rfl (lt_ok rfl) rfl) ?_
 refine TL.cons rfl (Step.assign (p := (.one (.d (.int .i64 (getVar b a).2.2)))) rfl rfl (lt_ok rfl) rfl) ?_
 refine TL.nil ?_
 refine T.seq ?_
 refine T.seq ?_
 refine T.region ?_
 refine TL.cons rfl (Step.move (p := (.one (.d (.int .i64 (getVar b a).2.2)))) rfl rfl (lt_ok rfl) rfl) ?_
 refine TL.cons rfl (Step.bin rfl rfl (lt_ok rfl) rfl rfl (Bin.neq (k := .i64) (a := (getVar b a).2.2) (b := 0))) ?_
 refine TL.nil ?_
 refine T.cond (b := decide ((getVar b a).2.2 ≠ 0)) rfl (fun h2 => ?_) (fun h2 => ?_)
 ·
  replace h2 := of_decide_eq_true h2
  refine T.seq ?_
  refine T.region ?_
  refine TL.cons rfl (Step.move (p := (.one (.d (.int .i64 (getVar b a).2.2)))) rfl rfl (lt_ok rfl) rfl) ?_
  refine TL.cons rfl (Step.assign (p := (.one (.nil))) rfl rfl (lt_ok rfl) rfl) ?_
  refine TL.cons rfl (Step.assign (p := (.one (.d (.int .i64 0)))) rfl rfl (lt_ok rfl) rfl) ?_
  refine TL.cons rfl (Step.assign (p := (.one (.d (.int .i64 (getVar b a).2.2)))) rfl rfl (lt_ok rfl) rfl) ?_
  refine TL.nil ?_
  refine T.ret ?_
  exact ⟨[(false, [.nil]), (false, [.d (.int .i64 0)]), (false, [.d (.int .i64 (getVar b a).2.2)])], (.cons rfl (.cons rfl (.cons rfl .nil))), rfl, [], (RetC.nilown' rfl (by first | (congr 1; unfold getText; first | (rw [if_pos (by omega), if_pos (by omega)]; done) | (rw [if_pos (by omega), if_neg (by omega)]; done) | (rw [if_neg (by omega)]; done)) | (simp only [D.size]; unfold getText; first | (rw [if_pos (by omega), if_pos (by omega)]; rfl) | (rw [if_neg (by omega)]; rfl))) (by first | exact trivial | exact D.wf_nil _) (RetC.rd' (by first | (congr 1; unfold getText; first | (rw [if_pos (by omega), if_pos (by omega)]; done) | (rw [if_pos (by omega), if_neg (by omega)]; done) | (rw [if_neg (by omega)]; done)) | (simp only [D.size]; unfold getText; first | (rw [if_pos (by omega), if_pos (by omega)]; rfl) | (rw [if_neg (by omega)]; rfl))) (RetC.rd' (by first | (congr 1; unfold getText; first | (rw [if_pos (by omega), if_pos (by omega)]; done) | (rw [if_pos (by omega), if_neg (by omega)]; done) | (rw [if_neg (by omega)]; done)) | (simp only [D.size]; unfold getText; first | (rw [if_pos (by omega), if_pos (by omega)]; rfl) | (rw [if_neg (by omega)]; rfl))) .nil)))⟩
 ·
  replace h2 := of_decide_eq_false h2
  refine T.skip ?_
  refine T.seq ?_
  refine T.seq ?_
  refine T.region ?_
  refine TL.cons rfl (Step.move (p := (.one (.d (.int .i64 (getVar b a).1)))) rfl rfl (lt_ok rfl) rfl) ?_
  refine TL.cons rfl (Step.move (p := (.one (.d (.int .i64 m)))) rfl rfl (lt_ok rfl) rfl) ?_
  refine TL.cons rfl (Step.bin rfl rfl (lt_ok rfl) rfl rfl (Bin.gtr (k := .i64) (a := (getVar b a).1) (b := m))) ?_
  refine TL.nil ?_
  refine T.cond (b := decide (m < (getVar b a).1)) rfl (fun h3 => ?_) (fun h3 => ?_)
  ·
   replace h3 := of_decide_eq_true h3
   refine T.seq ?_
   refine T.region ?_
   refine TL.cons rfl (Step.assign (p := (.one (.nil))) rfl rfl (lt_ok rfl) rfl) ?_
   refine TL.cons rfl (Step.assign (p := (.one (.d (.int .i64 0)))) rfl rfl (lt_ok rfl) rfl) ?_
   refine TL.cons rfl (Step.assign (p := (.one (.d (.int .i64 3)))) rfl rfl (lt_ok rfl) rfl) ?_
   refine TL.nil ?_
   refine T.ret ?_
   exact ⟨[(false, [.nil]), (false, [.d (.int .i64 0)]), (false, [.d (.int .i64 3)])], (.cons rfl (.cons rfl (.cons rfl .nil))), rfl, [], (RetC.nilown' rfl (by first | (congr 1; unfold getText; first | (rw [if_pos (by omega), if_pos (by omega)]; done) | (rw [if_pos (by omega), if_neg (by omega)]; done) | (rw [if_neg (by omega)]; done)) | (simp only [D.size]; unfold getText; first | (rw [if_pos (by omega), if_pos (by omega)]; rfl) | (rw [if_neg (by omega)]; rfl))) (by first | exact trivial | exact D.wf_nil _) (RetC.rd' (by first | (congr 1; unfold getText; first | (rw [if_pos (by omega), if_pos (by omega)]; done) | (rw [if_pos (by omega), if_neg (by omega)]; done) | (rw [if_neg (by omega)]; done)) | (simp only [D.size]; unfold getText; first | (rw [if_pos (by omega), if_pos (by omega)]; rfl) | (rw [if_neg (by omega)]; rfl))) (RetC.rd' (by first | (congr 1; unfold getText; first | (rw [if_pos (by omega), if_pos (by omega)]; done) | (rw [if_pos (by omega), if_neg (by omega)]; done) | (rw [if_neg (by omega)]; done)) | (simp only [D.size]; unfold getText; first | (rw [if_pos (by omega), if_pos (by omega)]; rfl) | (rw [if_neg (by omega)]; rfl))) .nil)))⟩
  ·
   replace h3 := of_decide_eq_false h3
   refine T.skip ?_
   refine T.seq ?_
   refine T.region ?_
   refine TL.cons rfl (Step.move (p := (.one (.d (.ints .u8 b)))) rfl rfl (lt_ok rfl) rfl) ?_
   refine TL.cons rfl (Step.move (p := (.one (.d (.int .i64 (getVar b a).2.1)))) rfl rfl (lt_ok rfl) rfl) ?_
   refine TL.cons rfl (Step.move (p := (.one (.d (.int .i64 (getVar b a).1)))) rfl rfl (lt_ok rfl) rfl) ?_
   have nn4 := getRaw_bd b (getVar b a).2.1 (getVar b a).1
   refine TL.cons rfl (Step.call (f := 182) (xs := [.tmp 24, .tmp 25, .tmp 26]) (ps := [(.one (.d (.ints .u8 b))), (.one (.d (.int .i64 (getVar b a).2.1))), (.one (.d (.int .i64 (getVar b a).1)))]) false (g := .func 182) rfl rfl (lt_ok rfl) rfl (by kernel_rfl) rfl (.cons (.one (.d _)) (.cons (.one (.d _)) (.cons (.one (.d _)) .nil))) (ok_impl_GetRaw b (getVar b a).2.1 (getVar b a).1 (by first | omega | assumption | (simp only [List.length_append] at *; omega))) (.inr rfl) rfl (by simp) rfl) ?_
   refine TL.cons rfl (Step.extract (p := (.one (.row 1027 []))) rfl rfl (lt_ok rfl) rfl rfl) ?_
   refine TL.cons rfl (Step.extract (p := (.one (.d (.int .i64 (getRaw b (getVar b a).2.1 (getVar b a).1).2.1)))) rfl rfl (lt_ok rfl) rfl rfl) ?_
   refine TL.cons rfl (Step.extract (p := (.one (.d (.int .i64 (getRaw b (getVar b a).2.1 (getVar b a).1).2.2)))) rfl rfl (lt_ok rfl) rfl rfl) ?_
   refine TL.cons rfl (Step.assign (p := (.one (.row 1027 []))) rfl rfl (lt_ok rfl) rfl) ?_
   refine TL.cons rfl (Step.assign (p := (.one (.d (.int .i64 (getRaw b (getVar b a).2.1 (getVar b a).1).2.1)))) rfl rfl (lt_ok rfl) rfl) ?_
   refine TL.cons rfl (Step.assign (p := (.one (.d (.int .i64 (getRaw b (getVar b a).2.1 (getVar b a).1).2.2)))) rfl rfl (lt_ok rfl) rfl) ?_
   refine TL.nil ?_
   refine T.ret ?_
   exact ⟨[(false, [.row 1027 []]), (false, [.d (.int .i64 (getRaw b (getVar b a).2.1 (getVar b a).1).2.1)]), (false, [.d (.int .i64 (getRaw b (getVar b a).2.1 (getVar b a).1).2.2)])], (.cons rfl (.cons rfl (.cons rfl .nil))), rfl, [1027], (RetC.own' rfl (by first | (congr 1; unfold getText; first | (rw [if_pos (by omega), if_pos (by omega)]; done) | (rw [if_pos (by omega), if_neg (by omega)]; done) | (rw [if_neg (by omega)]; done)) | (simp only [D.size]; unfold getText; first | (rw [if_pos (by omega), if_pos (by omega)]; rfl) | (rw [if_neg (by omega)]; rfl))) rfl (RetC.rd' (by first | (congr 1; unfold getText; first | (rw [if_pos (by omega), if_pos (by omega)]; done) | (rw [if_pos (by omega), if_neg (by omega)]; done) | (rw [if_neg (by omega)]; done)) | (simp only [D.size]; unfold getText; first | (rw [if_pos (by omega), if_pos (by omega)]; rfl) | (rw [if_neg (by omega)]; rfl))) (RetC.rd' (by first | (congr 1; unfold getText; first | (rw [if_pos (by omega), if_pos (by omega)]; done) | (rw [if_pos (by omega), if_neg (by omega)]; done) | (rw [if_neg (by omega)]; done)) | (simp only [D.size]; unfold getText; first | (rw [if_pos (by omega), if_pos (by omega)]; rfl) | (rw [if_neg (by omega)]; rfl))) .nil)))⟩
theorem ok_impl_reader__text (b : List Int) (s : SRS) (m : Int) (h0_ : U8s b) (h1_ : b.length ≤ 1048576) : BX Try.prog 172 [.bx, .rd (.one (.int .i64 m))] 184 [.rd (.ints .u8 b), .rd (.int .i64 s.f0), .rd (.int .i64 s.f1)] [.rd (.ints .u8 b), .rd (.int .i64 (rdText b s m).1.f0), .rd (.int .i64 (rdText b s m).1.f1)] [(false, [.own 5 (.ints .u8 (rdText b s m).2)])] := by
 refine BX.intro Try.func172 rfl 36 rfl (le_ok rfl) (le_ok rfl) fun w Z IX pin hp => ?_
 refine T.seq ?_
 refine T.region ?_
 refine TL.cons rfl (Step.assign (p := (.one (.nil))) rfl rfl (lt_ok rfl) rfl) ?_
 refine TL.nil ?_
 refine T.seq ?_
 refine T.seq ?_
 refine T.region ?_
 refine TL.cons rfl (Step.move (p := (.one (.ptr 800 0))) rfl rfl (lt_ok rfl) rfl) ?_
 refine TL.cons rfl (Step.nilCheck rfl rfl (lt_ok rfl) rfl) ?_
 refine TL.cons rfl (Step.fieldAddr (q := 0) (off := 2) (n := 1) (one := true) rfl rfl (lt_ok rfl) (by kernel_rfl) (Nat.succ_ne_zero _) rfl) ?_
 refine TL.cons rfl (Step.load_box (c := .d (.int .i64 s.f1)) rfl rfl (lt_ok rfl) (by kernel_rfl) rfl rfl rfl) ?_
 refine TL.cons rfl (Step.bin rfl rfl (lt_ok rfl) rfl rfl (Bin.neq (k := .i64) (a := s.f1) (b := 0))) ?_
 refine TL.nil ?_
 refine T.cond (b := decide (s.f1 ≠ 0)) rfl (fun h1 => ?_) (fun h1 => ?_)
 ·
  replace h1 := of_decide_eq_true h1
  refine T.seq ?_
  refine T.region ?_
  refine TL.cons rfl (Step.assign (p := (.one (.nil))) rfl rfl (lt_ok rfl) rfl) ?_
  refine TL.nil ?_
  refine T.ret ?_
  exact ⟨[.d (.ints .u8 b), .d (.int .i64 s.f0), .d (.int .i64 s.f1)], [(false, [.nil])], rfl, rfl, (.cons rfl .nil), rfl, [], (RetC.rd' (by first | rfl | (congr 1; unfold rdText; first | (rw [if_pos (by omega)]; done) | (rw [if_neg (by omega)]; done)) | (simp only [D.size]; unfold rdText; rw [if_neg (by omega)]; rfl)) (RetC.rd' (by first | rfl | (congr 1; unfold rdText; first | (rw [if_pos (by omega)]; done) | (rw [if_neg (by omega)]; done)) | (simp only [D.size]; unfold rdText; rw [if_neg (by omega)]; rfl)) (RetC.rd' (by first | rfl | (congr 1; unfold rdText; first | (rw [if_pos (by omega)]; done) | (rw [if_neg (by omega)]; done)) | (simp only [D.size]; unfold rdText; rw [if_neg (by omega)]; rfl)) (RetC.nilown' rfl (by first | rfl | (congr 1; unfold rdText; first | (rw [if_pos (by omega)]; done) | (rw [if_neg (by omega)]; done)) | (simp only [D.size]; unfold rdText; rw [if_neg (by omega)]; rfl)) (by first | exact trivial | exact D.wf_nil _) .nil))))⟩
 ·
  replace h1 := of_decide_eq_false h1
  refine T.skip ?_
  refine T.seq ?_
  have nn2 := getText_bd b s.f0 m
  refine T.draw [⟨14, (.one (.ptr 800 0)), []⟩, ⟨15, (.one (.ptr 800 0)), []⟩, ⟨16, (.one (.ptr 800 0)), []⟩, ⟨17, (.one (.d (.ints .u8 b))), []⟩, ⟨18, (.one (.ptr 800 0)), []⟩, ⟨19, (.one (.ptr 800 0)), []⟩, ⟨20, (.one (.ptr 800 1)), []⟩, ⟨21, (.one (.d (.int .i64 s.f0))), []⟩, ⟨22, (.one (.d (.int .i64 m))), []⟩, ⟨23, (.tup [(false, [.row 1023 []]), (false, [.d (.int .i64 (getText b s.f0 m).2.1)]), (false, [.d (.int .i64 (getText b s.f0 m).2.2)])]), [(1023, (5, (.ints .u8 (getText b s.f0 m).1)))]⟩, ⟨13, (.tup [(false, [.row 1023 []]), (false, [.d (.int .i64 (getText b s.f0 m).2.1)]), (false, [.d (.int .i64 (getText b s.f0 m).2.2)])]), []⟩, ⟨24, (.one (.row 1023 [])), []⟩, ⟨25, (.one (.d (.int .i64 (getText b s.f0 m).2.1))), []⟩, ⟨26, (.one (.d (.int .i64 (getText b s.f0 m).2.2))), []⟩, ⟨5, (.one (.row 1023 [])), []⟩, ⟨6, (.one (.d (.int .i64 (getText b s.f0 m).2.1))), []⟩, ⟨7, (.one (.d (.int .i64 (getText b s.f0 m).2.2))), []⟩] (by kernel_rfl) (by kernel_rfl) ?_ ?_
  ·
   refine .cons (fun E hA_ => by have g0 := hA_.get 0 (by decide); exact OpStep.plain rfl (Step.move (p := (.one (.ptr 800 0))) (t := 14) rfl rfl (by exact lt_ok rfl) (show Env.ev E (.tmp 0) = _ from g0.trans rfl))) ?_
   refine .cons (fun E hA_ => by have g14 := hA_.get 14 (by decide); exact OpStep.plain rfl (Step.nilCheck (t := 15) rfl rfl (by exact lt_ok rfl) (show Env.ev E (.tmp 14) = _ from g14.trans rfl))) ?_
   refine .cons (fun E hA_ => by have g15 := hA_.get 15 (by decide); exact OpStep.plain rfl (Step.fieldAddr (q := 0) (off := 0) (n := 1) (one := true) (t := 16) rfl rfl (by exact lt_ok rfl) (by kernel_rfl) (Nat.succ_ne_zero _) (show Env.ev E (.tmp 15) = _ from g15.trans rfl))) ?_
   refine .cons (fun E hA_ => by have g16 := hA_.get 16 (by decide); exact OpStep.plain rfl (Step.load_box (c := .d (.ints .u8 b)) (t := 17) rfl rfl (by exact lt_ok rfl) (by kernel_rfl) (show Env.ev E (.tmp 16) = _ from g16.trans rfl) (by exact hA_.box rfl) rfl)) ?_
   refine .cons (fun E hA_ => by have g0 := hA_.get 0 (by decide); exact OpStep.plain rfl (Step.move (p := (.one (.ptr 800 0))) (t := 18) rfl rfl (by exact lt_ok rfl) (show Env.ev E (.tmp 0) = _ from g0.trans rfl))) ?_
   refine .cons (fun E hA_ => by have g18 := hA_.get 18 (by decide); exact OpStep.plain rfl (Step.nilCheck (t := 19) rfl rfl (by exact lt_ok rfl) (show Env.ev E (.tmp 18) = _ from g18.trans rfl))) ?_
   refine .cons (fun E hA_ => by have g19 := hA_.get 19 (by decide); exact OpStep.plain rfl (Step.fieldAddr (q := 0) (off := 1) (n := 1) (one := true) (t := 20) rfl rfl (by exact lt_ok rfl) (by kernel_rfl) (Nat.succ_ne_zero _) (show Env.ev E (.tmp 19) = _ from g19.trans rfl))) ?_
   refine .cons (fun E hA_ => by have g20 := hA_.get 20 (by decide); exact OpStep.plain rfl (Step.load_box (c := .d (.int .i64 s.f0)) (t := 21) rfl rfl (by exact lt_ok rfl) (by kernel_rfl) (show Env.ev E (.tmp 20) = _ from g20.trans rfl) (by exact hA_.box rfl) rfl)) ?_
   refine .cons (fun E hA_ => by have g1 := hA_.get 1 (by decide); exact OpStep.plain rfl (Step.move (p := (.one (.d (.int .i64 m)))) (t := 22) rfl rfl (by exact lt_ok rfl) (show Env.ev E (.tmp 1) = _ from g1.trans rfl))) ?_
   refine .cons (fun E hA_ => by have g17 := hA_.get 17 (by decide); have g21 := hA_.get 21 (by decide); have g22 := hA_.get 22 (by decide); exact OpStep.plain rfl (Step.call (f := 181) (xs := [.tmp 17, .tmp 21, .tmp 22]) (ps := [(.one (.d (.ints .u8 b))), (.one (.d (.int .i64 s.f0))), (.one (.d (.int .i64 m)))]) false (g := .func 181) (t := 23) rfl rfl (by exact lt_ok rfl) rfl (by kernel_rfl) (evs_cons (show Env.ev E (.tmp 17) = _ from g17.trans rfl) (evs_cons (show Env.ev E (.tmp 21) = _ from g21.trans rfl) (evs_cons (show Env.ev E (.tmp 22) = _ from g22.trans rfl) (rfl)))) (.cons (.one (.d _)) (.cons (.one (.d _)) (.cons (.one (.d _)) .nil))) (ok_impl_GetText b s.f0 m (by assumption) (by first | omega | assumption | (simp only [List.length_append] at *; omega))) (.inr rfl) (At.freshRows hA_ rfl) (fun x hx => by have := hp x hx; omega) rfl)) ?_
   refine .cons (fun E hA_ => by have g23 := hA_.get 23 (by decide); exact OpStep.plain rfl (Step.move (p := (.tup [(false, [.row 1023 []]), (false, [.d (.int .i64 (getText b s.f0 m).2.1)]), (false, [.d (.int .i64 (getText b s.f0 m).2.2)])])) (t := 13) rfl rfl (by exact lt_ok rfl) (show Env.ev E (.tmp 23) = _ from g23.trans rfl))) ?_
   refine .cons (fun E hA_ => by have g13 := hA_.get 13 (by decide); exact OpStep.plain rfl (Step.extract (p := (.one (.row 1023 []))) (t := 24) rfl rfl (by exact lt_ok rfl) (show Env.ev E (.tmp 13) = _ from g13.trans rfl) rfl)) ?_
   refine .cons (fun E hA_ => by have g13 := hA_.get 13 (by decide); exact OpStep.plain rfl (Step.extract (p := (.one (.d (.int .i64 (getText b s.f0 m).2.1)))) (t := 25) rfl rfl (by exact lt_ok rfl) (show Env.ev E (.tmp 13) = _ from g13.trans rfl) rfl)) ?_
   refine .cons (fun E hA_ => by have g13 := hA_.get 13 (by decide); exact OpStep.plain rfl (Step.extract (p := (.one (.d (.int .i64 (getText b s.f0 m).2.2)))) (t := 26) rfl rfl (by exact lt_ok rfl) (show Env.ev E (.tmp 13) = _ from g13.trans rfl) rfl)) ?_
   refine .cons (fun E hA_ => by have g24 := hA_.get 24 (by decide); exact OpStep.plain rfl (Step.assign (p := (.one (.row 1023 []))) (t := 5) rfl rfl (by exact lt_ok rfl) (show Env.ev E (.tmp 24) = _ from g24.trans rfl))) ?_
   refine .cons (fun E hA_ => by have g25 := hA_.get 25 (by decide); exact OpStep.plain rfl (Step.assign (p := (.one (.d (.int .i64 (getText b s.f0 m).2.1)))) (t := 6) rfl rfl (by exact lt_ok rfl) (show Env.ev E (.tmp 25) = _ from g25.trans rfl))) ?_
   refine .cons (fun E hA_ => by have g26 := hA_.get 26 (by decide); exact OpStep.plain rfl (Step.assign (p := (.one (.d (.int .i64 (getText b s.f0 m).2.2)))) (t := 7) rfl rfl (by exact lt_ok rfl) (show Env.ev E (.tmp 26) = _ from g26.trans rfl))) ?_
   exact .nil _ _
  refine TL.nil ?_
  refine T.seq ?_
  refine T.region ?_
  refine TL.cons rfl (Step.move (p := (.one (.ptr 800 0))) rfl rfl (lt_ok rfl) rfl) ?_
  refine TL.cons rfl (Step.move (p := (.one (.ptr 800 0))) rfl rfl (lt_ok rfl) rfl) ?_
  refine TL.cons rfl (Step.move (p := (.one (.d (.int .i64 (getText b s.f0 m).2.1)))) rfl rfl (lt_ok rfl) rfl) ?_
  refine TL.cons rfl (Step.move (p := (.one (.d (.int .i64 (getText b s.f0 m).2.2)))) rfl rfl (lt_ok rfl) rfl) ?_
  refine TL.cons rfl (Step.nilCheck rfl rfl (lt_ok rfl) rfl) ?_
  refine TL.cons rfl (Step.fieldAddr (q := 0) (off := 1) (n := 1) (one := true) rfl rfl (lt_ok rfl) (by kernel_rfl) (Nat.succ_ne_zero _) rfl) ?_
  refine TL.cons rfl (Step.store_box (n := 1) (p := (.one (.d (.int .i64 (getText b s.f0 m).2.1)))) (qs := [.d (.int .i64 (getText b s.f0 m).2.1)]) (ps' := [.d (.ints .u8 b), .d (.int .i64 (getText b s.f0 m).2.1), .d (.int .i64 s.f1)]) rfl rfl (by kernel_rfl) rfl rfl rfl rfl rfl rfl (le_ok rfl) rfl) ?_
  refine TL.cons rfl (Step.nilCheck rfl rfl (lt_ok rfl) rfl) ?_
  refine TL.cons rfl (Step.fieldAddr (q := 0) (off := 2) (n := 1) (one := true) rfl rfl (lt_ok rfl) (by kernel_rfl) (Nat.succ_ne_zero _) rfl) ?_
  refine TL.cons rfl (Step.store_box (n := 1) (p := (.one (.d (.int .i64 (getText b s.f0 m).2.2)))) (qs := [.d (.int .i64 (getText b s.f0 m).2.2)]) (ps' := [.d (.ints .u8 b), .d (.int .i64 (getText b s.f0 m).2.1), .d (.int .i64 (getText b s.f0 m).2.2)]) rfl rfl (by kernel_rfl) rfl rfl rfl rfl rfl rfl (le_ok rfl) rfl) ?_
  refine TL.nil ?_
  refine T.seq ?_
  refine T.region ?_
  refine TL.cons rfl (Step.move (p := (.one (.row 1023 []))) rfl rfl (lt_ok rfl) rfl) ?_
  refine TL.cons rfl (Step.assign (p := (.one (.row 1023 []))) rfl rfl (lt_ok rfl) rfl) ?_
  refine TL.nil ?_
  refine T.ret ?_
  exact ⟨[.d (.ints .u8 b), .d (.int .i64 (getText b s.f0 m).2.1), .d (.int .i64 (getText b s.f0 m).2.2)], [(false, [.row 1023 []])], rfl, rfl, (.cons rfl .nil), rfl, [1023], (RetC.rd' (by first | rfl | (congr 1; unfold rdText; first | (rw [if_pos (by omega)]; done) | (rw [if_neg (by omega)]; done)) | (simp only [D.size]; unfold rdText; rw [if_neg (by omega)]; rfl)) (RetC.rd' (by first | rfl | (congr 1; unfold rdText; first | (rw [if_pos (by omega)]; done) | (rw [if_neg (by omega)]; done)) | (simp only [D.size]; unfold rdText; rw [if_neg (by omega)]; rfl)) (RetC.rd' (by first | rfl | (congr 1; unfold rdText; first | (rw [if_pos (by omega)]; done) | (rw [if_neg (by omega)]; done)) | (simp only [D.size]; unfold rdText; rw [if_neg (by omega)]; rfl)) (RetC.own' rfl (by first | rfl | (congr 1; unfold rdText; first | (rw [if_pos (by omega)]; done) | (rw [if_neg (by omega)]; done)) | (simp only [D.size]; unfold rdText; rw [if_neg (by omega)]; rfl)) rfl .nil))))⟩
theorem ok_impl_SplitAt (n : Int) (h0_ : n ≤ 9223372036854775807) : RO Try.prog 177 [.one (.int .i64 n)] [(false, [.rd (.int .i64 (splitAtT n))])] := by
 refine RO.intro Try.func177 rfl 14 rfl (le_ok rfl) fun w Z => ?_
 refine T.seq ?_
 refine T.region ?_
 refine TL.cons rfl (Step.assign (p := (.one (.d (.int .i64 0)))) rfl rfl (lt_ok rfl) rfl) ?_
 refine TL.nil ?_
 refine T.seq ?_
 refine T.seq ?_
 refine T.region ?_
 refine TL.cons rfl (Step.move (p := (.one (.d (.int .i64 n)))) rfl rfl (lt_ok rfl) rfl) ?_
 refine TL.cons rfl (Step.bin rfl rfl (lt_ok rfl) rfl rfl (Bin.lss (k := .i64) (a := n) (b := 2))) ?_
 refine TL.nil ?_
 refine T.cond (b := decide (n < 2)) rfl (fun h1 => ?_) (fun h1 => ?_)
 ·
  replace h1 := of_decide_eq_true h1
  refine T.seq ?_
  refine T.region ?_
  refine TL.cons rfl (Step.assign (p := (.one (.d (.int .i64 0)))) rfl rfl (lt_ok rfl) rfl) ?_
  refine TL.nil ?_
  refine T.ret ?_
  exact ⟨[(false, [.d (.int .i64 0)])], (.cons rfl .nil), rfl, [], (RetC.rd' (by (congr 1; unfold splitAtT; first | (rw [if_pos (by omega)]; done) | (rw [if_neg (by omega)]; rw [if_neg (by omega)] at hx4; exact hx4) | (rw [if_neg (by omega)]; omega))) .nil)⟩
 ·
  replace h1 := of_decide_eq_false h1
  refine T.skip ?_
  refine T.seq ?_
  refine T.region ?_
  refine TL.cons rfl (Step.assign (p := (.one (.d (.int .i64 1)))) rfl rfl (lt_ok rfl) rfl) ?_
  refine TL.nil ?_
  refine T.seq ?_
  refine T.block ?_
  refine T.loop (ι := Nat × Int) (fun xx_ => { tm := [(0, (.one (.d (.int .i64 n)))), (2, (.one (.d (.int .i64 0)))), (3, (.one (.d (.int .i64 (xx_.2)))))], rows := [], boxes := [] }) (fun xx_ => 1 ≤ (xx_.2) ∧ (xx_.2) < n ∧ n ≤ (xx_.2) + (xx_.1) ∧ splitGo (xx_.1) n (xx_.2) = splitAt n) (fun xx_ => (xx_.1)) (n.toNat, 1) ?_ ?_ ?_
  · exact Env.le_mk ⟨rfl, rfl, by first | rfl | (refine congrArg (fun n => PV.one (.d (.int .i64 n))) ?_; rfl), trivial⟩ trivial trivial
  · (dsimp only; refine ⟨by omega, by omega, by omega, rfl⟩)
  ·
   intro xx_ hx
   obtain ⟨d, x⟩ := xx_
   try dsimp only at hx ⊢
   obtain ⟨hx1, hx2, hx3, hx4⟩ := hx
   obtain ⟨d', rfl⟩ : ∃ d', d = d' + 1 := ⟨d - 1, by omega⟩
   unfold splitGo at hx4
   refine T.seq ?_
   refine T.seq ?_
   refine T.region ?_
   refine TL.cons rfl (Step.move (p := (.one (.d (.int .i64 x)))) rfl rfl (lt_ok rfl) rfl) ?_
   refine TL.cons rfl (Step.move (p := (.one (.d (.int .i64 n)))) rfl rfl (lt_ok rfl) rfl) ?_
   refine TL.cons rfl (Step.move (p := (.one (.d (.int .i64 x)))) rfl rfl (lt_ok rfl) rfl) ?_
   refine TL.cons rfl (Step.bin (r := .int .i64 (n - x)) rfl rfl (lt_ok rfl) rfl rfl (Bin.sub (a := n) (b := x) (by first | exact wrap_ok (by first | omega | (simp; omega)) (by first | omega | (simp; omega)) | rfl))) ?_
   refine TL.cons rfl (Step.bin rfl rfl (lt_ok rfl) rfl rfl (Bin.lss (k := .i64) (a := x) (b := (n - x)))) ?_
   refine TL.nil ?_
   refine T.cond (b := decide (x < (n - x))) rfl (fun h2 => ?_) (fun h2 => ?_)
   ·
    replace h2 := of_decide_eq_true h2
    refine T.skip ?_
    refine T.block ?_
    refine T.region ?_
    refine TL.cons rfl (Step.move (p := (.one (.d (.int .i64 x)))) rfl rfl (lt_ok rfl) rfl) ?_
    refine TL.cons rfl (Step.bin (r := .int .i64 (x * 2)) rfl rfl (lt_ok rfl) rfl rfl (Bin.mul (a := x) (b := 2) (by first | exact wrap_ok (by first | omega | (simp; omega)) (by first | omega | (simp; omega)) | rfl))) ?_
    refine TL.cons rfl (Step.assign (p := (.one (.d (.int .i64 (x * 2))))) rfl rfl (lt_ok rfl) rfl) ?_
    refine TL.nil ?_
    exact ⟨(d', x * 2), by (try dsimp only); (rw [if_pos (by omega)] at hx4; refine ⟨by omega, by omega, by omega, ?_⟩; first | exact hx4 | (rw [Int.mul_comm]; exact hx4)), by (dsimp only; omega), Env.le_mk ⟨rfl, rfl, by first | rfl | (refine congrArg (fun n => PV.one (.d (.int .i64 n))) ?_; rfl), trivial⟩ trivial trivial⟩
   ·
    replace h2 := of_decide_eq_false h2
    refine T.exit ?_
    refine T.seq ?_
    refine T.region ?_
    refine TL.cons rfl (Step.move (p := (.one (.d (.int .i64 x)))) rfl rfl (lt_ok rfl) rfl) ?_
    refine TL.cons rfl (Step.assign (p := (.one (.d (.int .i64 x)))) rfl rfl (lt_ok rfl) rfl) ?_
    refine TL.nil ?_
    refine T.ret ?_
    exact ⟨[(false, [.d (.int .i64 x)])], (.cons rfl .nil), rfl, [], (RetC.rd' (by (congr 1; unfold splitAtT; first | (rw [if_pos (by omega)]; done) | (rw [if_neg (by omega)]; rw [if_neg (by omega)] at hx4; exact hx4) | (rw [if_neg (by omega)]; omega))) .nil)⟩
theorem ok_impl_PathLen_r (d_ : Nat) : ∀ (i : Int) (n : Int) (hd_ : n.toNat = d_) , RO Try.prog 162 [.one (.int .i64 i), .one (.int .i64 n)] [(false, [.rd (.int .i64 (pathLenT i n))])] := by
 refine Nat.strongRecOn d_ ?_
 intro d_ ih i n hd_ 
 subst hd_
 refine RO.intro Try.func162 rfl 36 rfl (le_ok rfl) fun w Z => ?_
 have hsb_ := splitAtT_bd n
 refine T.seq ?_
 refine T.region ?_
 refine TL.cons rfl (Step.assign (p := (.one (.d (.int .i64 0)))) rfl rfl (lt_ok rfl) rfl) ?_
 refine TL.nil ?_
 refine T.seq ?_
 refine T.seq ?_
 refine T.region ?_
 refine TL.cons rfl (Step.move (p := (.one (.d (.int .i64 n)))) rfl rfl (lt_ok rfl) rfl) ?_
 refine TL.cons rfl (Step.bin rfl rfl (lt_ok rfl) rfl rfl (Bin.lss (k := .i64) (a := n) (b := 2))) ?_
 refine TL.cons rfl (Step.move (p := (.one (.d (.bool (decide (n < 2)))))) rfl rfl (lt_ok rfl) rfl) ?_
 rcases Bool.eq_false_or_eq_true (decide (n < 2)) with hb1 | hb1
 ·
  refine TL.known 8 hb1 rfl ?_
  have hb1' := hb1
  replace hb1' := of_decide_eq_true hb1'
  refine TL.goff 8 rfl rfl (lt_ok rfl) rfl rfl rfl (lt_ok rfl) ?_
  refine TL.goff 8 rfl rfl (lt_ok rfl) rfl rfl rfl (lt_ok rfl) ?_
  refine TL.cons rfl (Step.pick (b := true) (p := (.one (.d (.bool true)))) rfl rfl (lt_ok rfl) rfl rfl) ?_
  refine TL.cons rfl (Step.move (p := (.one (.d (.bool true)))) rfl rfl (lt_ok rfl) rfl) ?_
  refine TL.goff 12 rfl rfl (lt_ok rfl) rfl rfl rfl (lt_ok rfl) ?_
  refine TL.goff 12 rfl rfl (lt_ok rfl) rfl rfl rfl (lt_ok rfl) ?_
  refine TL.goff 12 rfl rfl (lt_ok rfl) rfl rfl rfl (lt_ok rfl) ?_
  refine TL.goff 12 rfl rfl (lt_ok rfl) rfl rfl rfl (lt_ok rfl) ?_
  refine TL.goff 12 rfl rfl (lt_ok rfl) rfl rfl rfl (lt_ok rfl) ?_
  refine TL.cons rfl (Step.pick (b := true) (p := (.one (.d (.bool true)))) rfl rfl (lt_ok rfl) rfl rfl) ?_
  refine TL.nil ?_
  refine T.cond (b := true) rfl (fun h2_ => ?_) (fun h2_ => absurd h2_ (by simp))
  refine T.seq ?_
  refine T.region ?_
  refine TL.cons rfl (Step.assign (p := (.one (.d (.int .i64 0)))) rfl rfl (lt_ok rfl) rfl) ?_
  refine TL.nil ?_
  refine T.ret ?_
  exact ⟨[(false, [.d (.int .i64 0)])], (.cons rfl .nil), rfl, [], (RetC.rd' (by (congr 1; first | (rw [pathLenT_no (i := i) (n := n) (by omega)]; done) | (rw [pathLenT_one (i := i) (n := n) (by omega)]; done) | (rw [pathLenT_left (i := i) (n := n) (by omega) (by omega) (by omega)]; done) | (rw [pathLenT_right (i := i) (n := n) (by omega) (by omega) (by omega)]; done))) .nil)⟩
 ·
  refine TL.known 8 hb1 rfl ?_
  have hb1' := hb1
  replace hb1' := of_decide_eq_false hb1'
  refine TL.gyes 8 rfl rfl (lt_ok rfl) rfl (Step.move (p := (.one (.d (.int .i64 n)))) rfl rfl (lt_ok rfl) rfl) ?_
  refine TL.gyes 8 rfl rfl (lt_ok rfl) rfl (Step.bin rfl rfl (lt_ok rfl) rfl rfl (Bin.gtr (k := .i64) (a := n) (b := 1048576))) ?_
  refine TL.cons rfl (Step.pick (b := false) (p := (.one (.d (.bool (decide (1048576 < n)))))) rfl rfl (lt_ok rfl) rfl rfl) ?_
  refine TL.cons rfl (Step.move (p := (.one (.d (.bool (decide (1048576 < n)))))) rfl rfl (lt_ok rfl) rfl) ?_
  rcases Bool.eq_false_or_eq_true (decide (1048576 < n)) with hb3 | hb3
  ·
   refine TL.known 12 hb3 rfl ?_
   have hb3' := hb3
   replace hb3' := of_decide_eq_true hb3'
   refine TL.goff 12 rfl rfl (lt_ok rfl) rfl rfl rfl (lt_ok rfl) ?_
   refine TL.goff 12 rfl rfl (lt_ok rfl) rfl rfl rfl (lt_ok rfl) ?_
   refine TL.goff 12 rfl rfl (lt_ok rfl) rfl rfl rfl (lt_ok rfl) ?_
   refine TL.goff 12 rfl rfl (lt_ok rfl) rfl rfl rfl (lt_ok rfl) ?_
   refine TL.goff 12 rfl rfl (lt_ok rfl) rfl rfl rfl (lt_ok rfl) ?_
   refine TL.cons rfl (Step.pick (b := true) (p := (.one (.d (.bool true)))) rfl rfl (lt_ok rfl) rfl rfl) ?_
   refine TL.nil ?_
   refine T.cond (b := true) rfl (fun h4_ => ?_) (fun h4_ => absurd h4_ (by simp))
   refine T.seq ?_
   refine T.region ?_
   refine TL.cons rfl (Step.assign (p := (.one (.d (.int .i64 0)))) rfl rfl (lt_ok rfl) rfl) ?_
   refine TL.nil ?_
   refine T.ret ?_
   exact ⟨[(false, [.d (.int .i64 0)])], (.cons rfl .nil), rfl, [], (RetC.rd' (by (congr 1; first | (rw [pathLenT_no (i := i) (n := n) (by omega)]; done) | (rw [pathLenT_one (i := i) (n := n) (by omega)]; done) | (rw [pathLenT_left (i := i) (n := n) (by omega) (by omega) (by omega)]; done) | (rw [pathLenT_right (i := i) (n := n) (by omega) (by omega) (by omega)]; done))) .nil)⟩
  ·
   refine TL.known 12 hb3 rfl ?_
   have hb3' := hb3
   replace hb3' := of_decide_eq_false hb3'
   refine TL.gyes 12 rfl rfl (lt_ok rfl) rfl (Step.move (p := (.one (.d (.int .i64 i)))) rfl rfl (lt_ok rfl) rfl) ?_
   refine TL.gyes 12 rfl rfl (lt_ok rfl) rfl (Step.move (p := (.one (.d (.int .i64 n)))) rfl rfl (lt_ok rfl) rfl) ?_
   refine TL.gyes 12 rfl rfl (lt_ok rfl) rfl (Step.bin (r := .int .i64 (n - 1)) rfl rfl (lt_ok rfl) rfl rfl (Bin.sub (a := n) (b := 1) (by first | exact wrap_ok (by first | omega | (simp; omega)) (by first | omega | (simp; omega)) | rfl))) ?_
   refine TL.gyes 12 rfl rfl (lt_ok rfl) rfl (Step.call (f := 144) (xs := [.tmp 13, .const (.int .i64 0), .tmp 15]) (ps := [(.one (.d (.int .i64 i))), (.one (.d (.int .i64 0))), (.one (.d (.int .i64 (n - 1))))]) false (g := .func 144) rfl rfl (lt_ok rfl) rfl (by kernel_rfl) rfl (.cons (.one (.d _)) (.cons (.one (.d _)) (.cons (.one (.d _)) .nil))) (ok_impl_within i 0 (n - 1)) (.inr rfl) rfl (by simp) rfl) ?_
   refine TL.gyes 12 rfl rfl (lt_ok rfl) rfl (Step.not (b := (decide (0 ≤ i ∧ i ≤ (n - 1)))) rfl rfl (lt_ok rfl) rfl) ?_
   refine TL.cons rfl (Step.pick (b := false) (p := (.one (.d (.bool (!(decide (0 ≤ i ∧ i ≤ (n - 1)))))))) rfl rfl (lt_ok rfl) rfl rfl) ?_
   refine TL.nil ?_
   refine T.cond (b := !(decide (0 ≤ i ∧ i ≤ (n - 1)))) rfl (fun h5 => ?_) (fun h5 => ?_)
   ·
    replace h5 : (decide (0 ≤ i ∧ i ≤ (n - 1))) = false := by simpa only [Bool.not_eq_true', Bool.not_eq_false'] using h5
    replace h5 := of_decide_eq_false h5
    refine T.seq ?_
    refine T.region ?_
    refine TL.cons rfl (Step.assign (p := (.one (.d (.int .i64 0)))) rfl rfl (lt_ok rfl) rfl) ?_
    refine TL.nil ?_
    refine T.ret ?_
    exact ⟨[(false, [.d (.int .i64 0)])], (.cons rfl .nil), rfl, [], (RetC.rd' (by (congr 1; first | (rw [pathLenT_no (i := i) (n := n) (by omega)]; done) | (rw [pathLenT_one (i := i) (n := n) (by omega)]; done) | (rw [pathLenT_left (i := i) (n := n) (by omega) (by omega) (by omega)]; done) | (rw [pathLenT_right (i := i) (n := n) (by omega) (by omega) (by omega)]; done))) .nil)⟩
   ·
    replace h5 : (decide (0 ≤ i ∧ i ≤ (n - 1))) = true := by simpa only [Bool.not_eq_true', Bool.not_eq_false'] using h5
    replace h5 := of_decide_eq_true h5
    refine T.skip ?_
    refine T.seq ?_
    refine T.region ?_
    refine TL.cons rfl (Step.move (p := (.one (.d (.int .i64 n)))) rfl rfl (lt_ok rfl) rfl) ?_
    have nn6 := splitAtT_bd n
    refine TL.cons rfl (Step.call (f := 177) (xs := [.tmp 19]) (ps := [(.one (.d (.int .i64 n)))]) false (g := .func 177) rfl rfl (lt_ok rfl) rfl (by kernel_rfl) rfl (.cons (.one (.d _)) .nil) (ok_impl_SplitAt n (by first | omega | assumption | (simp only [List.length_append] at *; omega))) (.inr rfl) rfl (by simp) rfl) ?_
    refine TL.cons rfl (Step.assign (p := (.one (.d (.int .i64 (splitAtT n))))) rfl rfl (lt_ok rfl) rfl) ?_
    refine TL.nil ?_
    refine T.seq ?_
    refine T.seq ?_
    refine T.region ?_
    refine TL.cons rfl (Step.move (p := (.one (.d (.int .i64 i)))) rfl rfl (lt_ok rfl) rfl) ?_
    refine TL.cons rfl (Step.move (p := (.one (.d (.int .i64 (splitAtT n))))) rfl rfl (lt_ok rfl) rfl) ?_
    refine TL.cons rfl (Step.bin rfl rfl (lt_ok rfl) rfl rfl (Bin.lss (k := .i64) (a := i) (b := (splitAtT n)))) ?_
    refine TL.nil ?_
    refine T.cond (b := decide (i < (splitAtT n))) rfl (fun h7 => ?_) (fun h7 => ?_)
    ·
     replace h7 := of_decide_eq_true h7
     refine T.seq ?_
     refine T.region ?_
     refine TL.cons rfl (Step.move (p := (.one (.d (.int .i64 i)))) rfl rfl (lt_ok rfl) rfl) ?_
     refine TL.cons rfl (Step.move (p := (.one (.d (.int .i64 (splitAtT n))))) rfl rfl (lt_ok rfl) rfl) ?_
     have nn8 := pathLenT_bd (i) ((splitAtT n))
     refine TL.cons rfl (Step.call (f := 162) (xs := [.tmp 24, .tmp 25]) (ps := [(.one (.d (.int .i64 i))), (.one (.d (.int .i64 (splitAtT n))))]) false (g := .func 162) rfl rfl (lt_ok rfl) rfl (by kernel_rfl) rfl (.cons (.one (.d _)) (.cons (.one (.d _)) .nil)) (ih (splitAtT n).toNat (by omega) i (splitAtT n) rfl) (.inr rfl) rfl (by simp) rfl) ?_
     refine TL.cons rfl (Step.bin (r := .int .i64 (1 + (pathLenT i (splitAtT n)))) rfl rfl (lt_ok rfl) rfl rfl (Bin.add (a := 1) (b := (pathLenT i (splitAtT n))) (by first | exact wrap_ok (by first | omega | (simp; omega)) (by first | omega | (simp; omega)) | rfl))) ?_
     refine TL.cons rfl (Step.assign (p := (.one (.d (.int .i64 (1 + (pathLenT i (splitAtT n))))))) rfl rfl (lt_ok rfl) rfl) ?_
     refine TL.nil ?_
     refine T.ret ?_
     exact ⟨[(false, [.d (.int .i64 (1 + (pathLenT i (splitAtT n))))])], (.cons rfl .nil), rfl, [], (RetC.rd' (by (congr 1; first | (rw [pathLenT_no (i := i) (n := n) (by omega)]; done) | (rw [pathLenT_one (i := i) (n := n) (by omega)]; done) | (rw [pathLenT_left (i := i) (n := n) (by omega) (by omega) (by omega)]; done) | (rw [pathLenT_right (i := i) (n := n) (by omega) (by omega) (by omega)]; done))) .nil)⟩
    ·
     replace h7 := of_decide_eq_false h7
     refine T.skip ?_
     refine T.seq ?_
     refine T.region ?_
     refine TL.cons rfl (Step.move (p := (.one (.d (.int .i64 i)))) rfl rfl (lt_ok rfl) rfl) ?_
     refine TL.cons rfl (Step.move (p := (.one (.d (.int .i64 (splitAtT n))))) rfl rfl (lt_ok rfl) rfl) ?_
     refine TL.cons rfl (Step.bin (r := .int .i64 (i - (splitAtT n))) rfl rfl (lt_ok rfl) rfl rfl (Bin.sub (a := i) (b := (splitAtT n)) (by first | exact wrap_ok (by first | omega | (simp; omega)) (by first | omega | (simp; omega)) | rfl))) ?_
     refine TL.cons rfl (Step.move (p := (.one (.d (.int .i64 n)))) rfl rfl (lt_ok rfl) rfl) ?_
     refine TL.cons rfl (Step.move (p := (.one (.d (.int .i64 (splitAtT n))))) rfl rfl (lt_ok rfl) rfl) ?_
     refine TL.cons rfl (Step.bin (r := .int .i64 (n - (splitAtT n))) rfl rfl (lt_ok rfl) rfl rfl (Bin.sub (a := n) (b := (splitAtT n)) (by first | exact wrap_ok (by first | omega | (simp; omega)) (by first | omega | (simp; omega)) | rfl))) ?_
     have nn9 := pathLenT_bd ((i - (splitAtT n))) ((n - (splitAtT n)))
     refine TL.cons rfl (Step.call (f := 162) (xs := [.tmp 30, .tmp 33]) (ps := [(.one (.d (.int .i64 (i - (splitAtT n))))), (.one (.d (.int .i64 (n - (splitAtT n)))))]) false (g := .func 162) rfl rfl (lt_ok rfl) rfl (by kernel_rfl) rfl (.cons (.one (.d _)) (.cons (.one (.d _)) .nil)) (ih (n - (splitAtT n)).toNat (by omega) (i - (splitAtT n)) (n - (splitAtT n)) rfl) (.inr rfl) rfl (by simp) rfl) ?_
     refine TL.cons rfl (Step.bin (r := .int .i64 (1 + (pathLenT (i - (splitAtT n)) (n - (splitAtT n))))) rfl rfl (lt_ok rfl) rfl rfl (Bin.add (a := 1) (b := (pathLenT (i - (splitAtT n)) (n - (splitAtT n)))) (by first | exact wrap_ok (by first | omega | (simp; omega)) (by first | omega | (simp; omega)) | rfl))) ?_
     refine TL.cons rfl (Step.assign (p := (.one (.d (.int .i64 (1 + (pathLenT (i - (splitAtT n)) (n - (splitAtT n)))))))) rfl rfl (lt_ok rfl) rfl) ?_
     refine TL.nil ?_
     refine T.ret ?_
     exact ⟨[(false, [.d (.int .i64 (1 + (pathLenT (i - (splitAtT n)) (n - (splitAtT n)))))])], (.cons rfl .nil), rfl, [], (RetC.rd' (by (congr 1; first | (rw [pathLenT_no (i := i) (n := n) (by omega)]; done) | (rw [pathLenT_one (i := i) (n := n) (by omega)]; done) | (rw [pathLenT_left (i := i) (n := n) (by omega) (by omega) (by omega)]; done) | (rw [pathLenT_right (i := i) (n := n) (by omega) (by omega) (by omega)]; done))) .nil)⟩
theorem ok_impl_PathLen (i : Int) (n : Int) : RO Try.prog 162 [.one (.int .i64 i), .one (.int .i64 n)] [(false, [.rd (.int .i64 (pathLenT i n))])] := ok_impl_PathLen_r _ i n rfl 
end Go.Proofs.Ythaagegnobegjaa.Rf
