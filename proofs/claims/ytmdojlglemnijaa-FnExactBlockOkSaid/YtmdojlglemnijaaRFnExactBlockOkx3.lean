/- The functions that FnExactBlockOk calls, each held to what it answers. Printed by a program of this session; Lean checks it. -/
import Derived.Test.YtmdojlglemnijaaProg
import Derived.Test.YtmdojlglemnijaaRFnExactBlockOkx2
namespace Go.Proofs.Ytmdojlglemnijaa.Rf
open Go.RowKit
set_option linter.unusedVariables false
set_option linter.unnecessarySimpa false
set_option linter.unusedSimpArgs false
set_option maxRecDepth 100000
set_option maxHeartbeats 800000
theorem ok_impl_QcOk (l : SLimits) (q : SQc) (h0_ : q.ok) (h1_ : q.sm) : RO Try.prog 98 [.agg l.cells, .agg q.cells] [(false, [.rd (.bool (qcOk l q))])] := by
 refine RO.intro Try.func98 rfl 44 rfl (le_ok rfl) fun w Z => ?_
 obtain ⟨o0, o1, o2, o3, o4⟩ := h0_
 obtain ⟨s0, s1, s2⟩ := h1_
 refine T.seq ?_
 refine T.region ?_
 refine TL.cons rfl (Step.box (p := (.agg [.d (.int .i64 l.f0), .d (.int .i64 l.f1), .d (.int .i64 l.f2), .d (.int .i64 l.f3), .d (.int .i64 l.f4)])) (ps := [.d (.int .i64 l.f0), .d (.int .i64 l.f1), .d (.int .i64 l.f2), .d (.int .i64 l.f3), .d (.int .i64 l.f4)]) rfl rfl (lt_ok rfl) rfl rfl rfl rfl rfl) ?_
 refine TL.cons rfl (Step.box (p := (.agg [.d (.int .i64 q.f0), .d (.int .i64 q.f1), .d (.ints .u8 q.f2), .d (.ints .u8 q.f3), .d (.bss q.f4)])) (ps := [.d (.int .i64 q.f0), .d (.int .i64 q.f1), .d (.ints .u8 q.f2), .d (.ints .u8 q.f3), .d (.bss q.f4)]) rfl rfl (lt_ok rfl) rfl rfl rfl rfl rfl) ?_
 refine TL.cons rfl (Step.assign (p := (.one (.d (.bool false)))) rfl rfl (lt_ok rfl) rfl) ?_
 refine TL.nil ?_
 refine T.seq ?_
 rcases Bool.eq_false_or_eq_true (limOk l) with hb1 | hb1
 ·
  rcases Bool.eq_false_or_eq_true (decide (0 ≤ q.f0 ∧ q.f0 ≤ 1152921504606846975)) with hb2 | hb2
  ·
   rcases Bool.eq_false_or_eq_true (decide (0 ≤ q.f1 ∧ q.f1 ≤ 1152921504606846975)) with hb3 | hb3
   ·
    rcases Bool.eq_false_or_eq_true (hashes [q.f2]) with hb4 | hb4
    ·
     rcases Bool.eq_false_or_eq_true (bitsOk q.f3 l.f0) with hb5 | hb5
     ·
      have nn6 := bitList_len q.f3
      rcases Bool.eq_false_or_eq_true (decide ((q.f4.length : Int) = ((bitList q.f3).length : Int))) with hb7 | hb7
      ·
       have nn8 := bitList_len q.f3
       refine T.draw [⟨5, (.agg [.d (.int .i64 l.f0), .d (.int .i64 l.f1), .d (.int .i64 l.f2), .d (.int .i64 l.f3), .d (.int .i64 l.f4)]), []⟩, ⟨6, (.one (.d (.bool true))), []⟩, ⟨7, (.one (.d (.bool true))), []⟩, ⟨8, (.one (.ptr 3 0)), []⟩, ⟨9, (.one (.d (.int .i64 q.f0))), []⟩, ⟨10, (.one (.d (.bool true))), []⟩, ⟨11, (.one (.d (.bool true))), []⟩, ⟨12, (.one (.d (.bool true))), []⟩, ⟨13, (.one (.ptr 3 1)), []⟩, ⟨14, (.one (.d (.int .i64 q.f1))), []⟩, ⟨15, (.one (.d (.bool true))), []⟩, ⟨16, (.one (.d (.bool true))), []⟩, ⟨17, (.one (.d (.bool true))), []⟩, ⟨18, (.one (.ptr 3 2)), []⟩, ⟨19, (.one (.d (.ints .u8 q.f2))), []⟩, ⟨20, (.one (.d (.bss [q.f2]))), []⟩, ⟨21, (.one (.d (.bool true))), []⟩, ⟨22, (.one (.d (.bool true))), []⟩, ⟨23, (.one (.d (.bool true))), []⟩, ⟨24, (.one (.ptr 3 3)), []⟩, ⟨25, (.one (.d (.ints .u8 q.f3))), []⟩, ⟨26, (.one (.ptr 2 0)), []⟩, ⟨27, (.one (.d (.int .i64 l.f0))), []⟩, ⟨28, (.one (.d (.bool true))), []⟩, ⟨29, (.one (.d (.bool true))), []⟩, ⟨30, (.one (.d (.bool true))), []⟩, ⟨31, (.one (.ptr 3 4)), []⟩, ⟨32, (.one (.d (.bss q.f4))), []⟩, ⟨33, (.one (.d (.int .i64 (q.f4.length : Int)))), []⟩, ⟨34, (.one (.ptr 3 3)), []⟩, ⟨35, (.one (.d (.ints .u8 q.f3))), []⟩, ⟨36, (.one (.d (.int .i64 ((bitList q.f3).length : Int)))), []⟩, ⟨37, (.one (.d (.bool true))), []⟩, ⟨38, (.one (.d (.bool true))), []⟩, ⟨39, (.one (.d (.bool true))), []⟩, ⟨40, (.one (.ptr 3 4)), []⟩, ⟨41, (.one (.d (.bss q.f4))), []⟩, ⟨42, (.one (.d (.bool (hashes q.f4)))), []⟩, ⟨43, (.one (.d (.bool (hashes q.f4)))), []⟩, ⟨4, (.one (.d (.bool (hashes q.f4)))), []⟩] (by kernel_rfl) (by kernel_rfl) ?_ ?_
       ·
        refine .cons (fun E hA_ => by have g2 := hA_.get 2 (by decide); exact OpStep.plain rfl (Step.load_box_agg (n := 5) (qs := [.d (.int .i64 l.f0), .d (.int .i64 l.f1), .d (.int .i64 l.f2), .d (.int .i64 l.f3), .d (.int .i64 l.f4)]) (t := 5) rfl rfl (by exact lt_ok rfl) (by kernel_rfl) (show Env.ev E (.tmp 2) = _ from g2.trans rfl) (by exact hA_.box rfl) rfl rfl)) ?_
        refine .cons (fun E hA_ => by have g5 := hA_.get 5 (by decide); exact OpStep.plain rfl (Step.to (E1 := E.set 6 (.one (.d (.bool (limOk l))))) (congrArg (fun b_ => E.set 6 (.one (.d (.bool b_)))) hb1) (Step.call (f := 114) (xs := [.tmp 5]) (ps := [(.agg [.d (.int .i64 l.f0), .d (.int .i64 l.f1), .d (.int .i64 l.f2), .d (.int .i64 l.f3), .d (.int .i64 l.f4)])]) false (g := .func 114) (t := 6) rfl rfl (by exact lt_ok rfl) rfl (by kernel_rfl) (evs_cons (show Env.ev E (.tmp 5) = _ from g5.trans rfl) (rfl)) (.cons (.agg (.cons (.d _) (.cons (.d _) (.cons (.d _) (.cons (.d _) (.cons (.d _) .nil)))))) .nil) (ok_impl_LimitsOk l) (.inr rfl) (At.freshRows hA_ rfl) (by simp) rfl))) ?_
        refine .cons (fun E hA_ => by have g6 := hA_.get 6 (by decide); exact OpStep.plain rfl (Step.move (p := (.one (.d (.bool true)))) (t := 7) rfl rfl (by exact lt_ok rfl) (show Env.ev E (.tmp 6) = _ from g6.trans rfl))) ?_
        refine .cons (fun E hA_ => by have g3 := hA_.get 3 (by decide); have g7 := hA_.get 7 (by decide); exact OpStep.yes (t := 7) rfl rfl (lt_ok rfl) (g7.trans rfl) (Step.fieldAddr (q := 0) (off := 0) (n := 1) (one := true) (t := 8) rfl rfl (by exact lt_ok rfl) (by kernel_rfl) (Nat.succ_ne_zero _) (show Env.ev E (.tmp 3) = _ from g3.trans rfl))) ?_
        refine .cons (fun E hA_ => by have g7 := hA_.get 7 (by decide); have g8 := hA_.get 8 (by decide); exact OpStep.yes (t := 7) rfl rfl (lt_ok rfl) (g7.trans rfl) (Step.load_box (c := .d (.int .i64 q.f0)) (t := 9) rfl rfl (by exact lt_ok rfl) (by kernel_rfl) (show Env.ev E (.tmp 8) = _ from g8.trans rfl) (by exact hA_.box rfl) rfl)) ?_
        refine .cons (fun E hA_ => by have g7 := hA_.get 7 (by decide); have g9 := hA_.get 9 (by decide); exact OpStep.yes (t := 7) rfl rfl (lt_ok rfl) (g7.trans rfl) (Step.to (E1 := E.set 10 (.one (.d (.bool (decide (0 ≤ q.f0 ∧ q.f0 ≤ 1152921504606846975)))))) (congrArg (fun b_ => E.set 10 (.one (.d (.bool b_)))) hb2) (Step.call (f := 99) (xs := [.tmp 9]) (ps := [(.one (.d (.int .i64 q.f0)))]) false (g := .func 99) (t := 10) rfl rfl (by exact lt_ok rfl) rfl (by kernel_rfl) (evs_cons (show Env.ev E (.tmp 9) = _ from g9.trans rfl) (rfl)) (.cons (.one (.d _)) .nil) (ok_impl_isNum q.f0) (.inr rfl) (At.freshRows hA_ rfl) (by simp) rfl))) ?_
        refine .cons (fun E hA_ => by have g7 := hA_.get 7 (by decide); have g10 := hA_.get 10 (by decide); exact OpStep.plain rfl (Step.pick (b := true) (p := (.one (.d (.bool true)))) (t := 11) rfl rfl (by exact lt_ok rfl) (show Env.ev E (.tmp 7) = _ from g7.trans rfl) (show Env.ev E (.tmp 10) = _ from g10.trans rfl))) ?_
        refine .cons (fun E hA_ => by have g11 := hA_.get 11 (by decide); exact OpStep.plain rfl (Step.move (p := (.one (.d (.bool true)))) (t := 12) rfl rfl (by exact lt_ok rfl) (show Env.ev E (.tmp 11) = _ from g11.trans rfl))) ?_
        refine .cons (fun E hA_ => by have g3 := hA_.get 3 (by decide); have g12 := hA_.get 12 (by decide); exact OpStep.yes (t := 12) rfl rfl (lt_ok rfl) (g12.trans rfl) (Step.fieldAddr (q := 0) (off := 1) (n := 1) (one := true) (t := 13) rfl rfl (by exact lt_ok rfl) (by kernel_rfl) (Nat.succ_ne_zero _) (show Env.ev E (.tmp 3) = _ from g3.trans rfl))) ?_
        refine .cons (fun E hA_ => by have g12 := hA_.get 12 (by decide); have g13 := hA_.get 13 (by decide); exact OpStep.yes (t := 12) rfl rfl (lt_ok rfl) (g12.trans rfl) (Step.load_box (c := .d (.int .i64 q.f1)) (t := 14) rfl rfl (by exact lt_ok rfl) (by kernel_rfl) (show Env.ev E (.tmp 13) = _ from g13.trans rfl) (by exact hA_.box rfl) rfl)) ?_
        refine .cons (fun E hA_ => by have g12 := hA_.get 12 (by decide); have g14 := hA_.get 14 (by decide); exact OpStep.yes (t := 12) rfl rfl (lt_ok rfl) (g12.trans rfl) (Step.to (E1 := E.set 15 (.one (.d (.bool (decide (0 ≤ q.f1 ∧ q.f1 ≤ 1152921504606846975)))))) (congrArg (fun b_ => E.set 15 (.one (.d (.bool b_)))) hb3) (Step.call (f := 99) (xs := [.tmp 14]) (ps := [(.one (.d (.int .i64 q.f1)))]) false (g := .func 99) (t := 15) rfl rfl (by exact lt_ok rfl) rfl (by kernel_rfl) (evs_cons (show Env.ev E (.tmp 14) = _ from g14.trans rfl) (rfl)) (.cons (.one (.d _)) .nil) (ok_impl_isNum q.f1) (.inr rfl) (At.freshRows hA_ rfl) (by simp) rfl))) ?_
        refine .cons (fun E hA_ => by have g12 := hA_.get 12 (by decide); have g15 := hA_.get 15 (by decide); exact OpStep.plain rfl (Step.pick (b := true) (p := (.one (.d (.bool true)))) (t := 16) rfl rfl (by exact lt_ok rfl) (show Env.ev E (.tmp 12) = _ from g12.trans rfl) (show Env.ev E (.tmp 15) = _ from g15.trans rfl))) ?_
        refine .cons (fun E hA_ => by have g16 := hA_.get 16 (by decide); exact OpStep.plain rfl (Step.move (p := (.one (.d (.bool true)))) (t := 17) rfl rfl (by exact lt_ok rfl) (show Env.ev E (.tmp 16) = _ from g16.trans rfl))) ?_
        refine .cons (fun E hA_ => by have g3 := hA_.get 3 (by decide); have g17 := hA_.get 17 (by decide); exact OpStep.yes (t := 17) rfl rfl (lt_ok rfl) (g17.trans rfl) (Step.fieldAddr (q := 0) (off := 2) (n := 1) (one := true) (t := 18) rfl rfl (by exact lt_ok rfl) (by kernel_rfl) (Nat.succ_ne_zero _) (show Env.ev E (.tmp 3) = _ from g3.trans rfl))) ?_
        refine .cons (fun E hA_ => by have g17 := hA_.get 17 (by decide); have g18 := hA_.get 18 (by decide); exact OpStep.yes (t := 17) rfl rfl (lt_ok rfl) (g17.trans rfl) (Step.load_box (c := .d (.ints .u8 q.f2)) (t := 19) rfl rfl (by exact lt_ok rfl) (by kernel_rfl) (show Env.ev E (.tmp 18) = _ from g18.trans rfl) (by exact hA_.box rfl) rfl)) ?_
        refine .cons (fun E hA_ => by have g17 := hA_.get 17 (by decide); have g19 := hA_.get 19 (by decide); exact OpStep.yes (t := 17) rfl rfl (lt_ok rfl) (g17.trans rfl) (Step.lit_d (e := 22) (z := 1) (by_ := 24) (xs := [.tmp 19]) (pss := [[.d (.ints .u8 q.f2)]]) (ds := [(.ints .u8 q.f2)]) (d := (.bss [q.f2])) (t := 20) rfl rfl (by exact lt_ok rfl) (by kernel_rfl) rfl rfl (.cons (by exact (congrArg PV.flat (show Env.ev E (.tmp 19) = _ from g19.trans rfl)).trans rfl) .nil) (by simp) (le_ok rfl) (le_ok rfl) rfl rfl trivial rfl rfl)) ?_
        refine .cons (fun E hA_ => by have g17 := hA_.get 17 (by decide); have g20 := hA_.get 20 (by decide); exact OpStep.yes (t := 17) rfl rfl (lt_ok rfl) (g17.trans rfl) (Step.to (E1 := E.set 21 (.one (.d (.bool (hashes [q.f2]))))) (congrArg (fun b_ => E.set 21 (.one (.d (.bool b_)))) hb4) (Step.call (f := 55) (xs := [.tmp 20]) (ps := [(.one (.d (.bss [q.f2])))]) false (g := .func 55) (t := 21) rfl rfl (by exact lt_ok rfl) rfl (by kernel_rfl) (evs_cons (show Env.ev E (.tmp 20) = _ from g20.trans rfl) (rfl)) (.cons (.one (.d _)) .nil) (ok_impl_areHashes [q.f2]) (.inr rfl) (At.freshRows hA_ rfl) (by simp) rfl))) ?_
        refine .cons (fun E hA_ => by have g17 := hA_.get 17 (by decide); have g21 := hA_.get 21 (by decide); exact OpStep.plain rfl (Step.pick (b := true) (p := (.one (.d (.bool true)))) (t := 22) rfl rfl (by exact lt_ok rfl) (show Env.ev E (.tmp 17) = _ from g17.trans rfl) (show Env.ev E (.tmp 21) = _ from g21.trans rfl))) ?_
        refine .cons (fun E hA_ => by have g22 := hA_.get 22 (by decide); exact OpStep.plain rfl (Step.move (p := (.one (.d (.bool true)))) (t := 23) rfl rfl (by exact lt_ok rfl) (show Env.ev E (.tmp 22) = _ from g22.trans rfl))) ?_
        refine .cons (fun E hA_ => by have g3 := hA_.get 3 (by decide); have g23 := hA_.get 23 (by decide); exact OpStep.yes (t := 23) rfl rfl (lt_ok rfl) (g23.trans rfl) (Step.fieldAddr (q := 0) (off := 3) (n := 1) (one := true) (t := 24) rfl rfl (by exact lt_ok rfl) (by kernel_rfl) (Nat.succ_ne_zero _) (show Env.ev E (.tmp 3) = _ from g3.trans rfl))) ?_
        refine .cons (fun E hA_ => by have g23 := hA_.get 23 (by decide); have g24 := hA_.get 24 (by decide); exact OpStep.yes (t := 23) rfl rfl (lt_ok rfl) (g23.trans rfl) (Step.load_box (c := .d (.ints .u8 q.f3)) (t := 25) rfl rfl (by exact lt_ok rfl) (by kernel_rfl) (show Env.ev E (.tmp 24) = _ from g24.trans rfl) (by exact hA_.box rfl) rfl)) ?_
        refine .cons (fun E hA_ => by have g2 := hA_.get 2 (by decide); have g23 := hA_.get 23 (by decide); exact OpStep.yes (t := 23) rfl rfl (lt_ok rfl) (g23.trans rfl) (Step.fieldAddr (q := 0) (off := 0) (n := 1) (one := true) (t := 26) rfl rfl (by exact lt_ok rfl) (by kernel_rfl) (Nat.succ_ne_zero _) (show Env.ev E (.tmp 2) = _ from g2.trans rfl))) ?_
        refine .cons (fun E hA_ => by have g23 := hA_.get 23 (by decide); have g26 := hA_.get 26 (by decide); exact OpStep.yes (t := 23) rfl rfl (lt_ok rfl) (g23.trans rfl) (Step.load_box (c := .d (.int .i64 l.f0)) (t := 27) rfl rfl (by exact lt_ok rfl) (by kernel_rfl) (show Env.ev E (.tmp 26) = _ from g26.trans rfl) (by exact hA_.box rfl) rfl)) ?_
        refine .cons (fun E hA_ => by have g23 := hA_.get 23 (by decide); have g25 := hA_.get 25 (by decide); have g27 := hA_.get 27 (by decide); exact OpStep.yes (t := 23) rfl rfl (lt_ok rfl) (g23.trans rfl) (Step.to (E1 := E.set 28 (.one (.d (.bool (bitsOk q.f3 l.f0))))) (congrArg (fun b_ => E.set 28 (.one (.d (.bool b_)))) hb5) (Step.call (f := 115) (xs := [.tmp 25, .tmp 27]) (ps := [(.one (.d (.ints .u8 q.f3))), (.one (.d (.int .i64 l.f0)))]) false (g := .func 115) (t := 28) rfl rfl (by exact lt_ok rfl) rfl (by kernel_rfl) (evs_cons (show Env.ev E (.tmp 25) = _ from g25.trans rfl) (evs_cons (show Env.ev E (.tmp 27) = _ from g27.trans rfl) (rfl))) (.cons (.one (.d _)) (.cons (.one (.d _)) .nil)) (ok_impl_BitsOk q.f3 l.f0 (by assumption) (by first | omega | assumption | (simp only [List.length_append] at *; omega))) (.inr rfl) (At.freshRows hA_ rfl) (by simp) rfl))) ?_
        refine .cons (fun E hA_ => by have g23 := hA_.get 23 (by decide); have g28 := hA_.get 28 (by decide); exact OpStep.plain rfl (Step.pick (b := true) (p := (.one (.d (.bool true)))) (t := 29) rfl rfl (by exact lt_ok rfl) (show Env.ev E (.tmp 23) = _ from g23.trans rfl) (show Env.ev E (.tmp 28) = _ from g28.trans rfl))) ?_
        refine .cons (fun E hA_ => by have g29 := hA_.get 29 (by decide); exact OpStep.plain rfl (Step.move (p := (.one (.d (.bool true)))) (t := 30) rfl rfl (by exact lt_ok rfl) (show Env.ev E (.tmp 29) = _ from g29.trans rfl))) ?_
        refine .cons (fun E hA_ => by have g3 := hA_.get 3 (by decide); have g30 := hA_.get 30 (by decide); exact OpStep.yes (t := 30) rfl rfl (lt_ok rfl) (g30.trans rfl) (Step.fieldAddr (q := 0) (off := 4) (n := 1) (one := true) (t := 31) rfl rfl (by exact lt_ok rfl) (by kernel_rfl) (Nat.succ_ne_zero _) (show Env.ev E (.tmp 3) = _ from g3.trans rfl))) ?_
        refine .cons (fun E hA_ => by have g30 := hA_.get 30 (by decide); have g31 := hA_.get 31 (by decide); exact OpStep.yes (t := 30) rfl rfl (lt_ok rfl) (g30.trans rfl) (Step.load_box (c := .d (.bss q.f4)) (t := 32) rfl rfl (by exact lt_ok rfl) (by kernel_rfl) (show Env.ev E (.tmp 31) = _ from g31.trans rfl) (by exact hA_.box rfl) rfl)) ?_
        refine .cons (fun E hA_ => by have g30 := hA_.get 30 (by decide); have g32 := hA_.get 32 (by decide); exact OpStep.yes (t := 30) rfl rfl (lt_ok rfl) (g30.trans rfl) (Step.len (e := 22) (z := 1) (d := (.bss q.f4)) (t := 33) rfl rfl (by exact lt_ok rfl) (by kernel_rfl) (show Env.ev E (.tmp 32) = _ from g32.trans rfl) rfl)) ?_
        refine .cons (fun E hA_ => by have g3 := hA_.get 3 (by decide); have g30 := hA_.get 30 (by decide); exact OpStep.yes (t := 30) rfl rfl (lt_ok rfl) (g30.trans rfl) (Step.fieldAddr (q := 0) (off := 3) (n := 1) (one := true) (t := 34) rfl rfl (by exact lt_ok rfl) (by kernel_rfl) (Nat.succ_ne_zero _) (show Env.ev E (.tmp 3) = _ from g3.trans rfl))) ?_
        refine .cons (fun E hA_ => by have g30 := hA_.get 30 (by decide); have g34 := hA_.get 34 (by decide); exact OpStep.yes (t := 30) rfl rfl (lt_ok rfl) (g30.trans rfl) (Step.load_box (c := .d (.ints .u8 q.f3)) (t := 35) rfl rfl (by exact lt_ok rfl) (by kernel_rfl) (show Env.ev E (.tmp 34) = _ from g34.trans rfl) (by exact hA_.box rfl) rfl)) ?_
        refine .cons (fun E hA_ => by have g30 := hA_.get 30 (by decide); have g35 := hA_.get 35 (by decide); exact OpStep.yes (t := 30) rfl rfl (lt_ok rfl) (g30.trans rfl) (Step.call (f := 116) (xs := [.tmp 35]) (ps := [(.one (.d (.ints .u8 q.f3)))]) false (g := .func 116) (t := 36) rfl rfl (by exact lt_ok rfl) rfl (by kernel_rfl) (evs_cons (show Env.ev E (.tmp 35) = _ from g35.trans rfl) (rfl)) (.cons (.one (.d _)) .nil) (ok_impl_BitsCount q.f3 (by first | assumption | exact fun x hx => by cases hx) (by first | omega | assumption | (simp only [List.length_append] at *; omega) | (simp; done))) (.inr rfl) (At.freshRows hA_ rfl) (by simp) rfl)) ?_
        refine .cons (fun E hA_ => by have g30 := hA_.get 30 (by decide); have g33 := hA_.get 33 (by decide); have g36 := hA_.get 36 (by decide); exact OpStep.yes (t := 30) rfl rfl (lt_ok rfl) (g30.trans rfl) (Step.to (E1 := E.set 37 (.one (.d (.bool (decide ((q.f4.length : Int) = ((bitList q.f3).length : Int))))))) (congrArg (fun b_ => E.set 37 (.one (.d (.bool b_)))) hb7) (Step.bin (t := 37) rfl rfl (by exact lt_ok rfl) (show Env.ev E (.tmp 33) = _ from g33.trans rfl) (show Env.ev E (.tmp 36) = _ from g36.trans rfl) (Bin.eql (k := .i64) (a := (q.f4.length : Int)) (b := ((bitList q.f3).length : Int)))))) ?_
        refine .cons (fun E hA_ => by have g30 := hA_.get 30 (by decide); have g37 := hA_.get 37 (by decide); exact OpStep.plain rfl (Step.pick (b := true) (p := (.one (.d (.bool true)))) (t := 38) rfl rfl (by exact lt_ok rfl) (show Env.ev E (.tmp 30) = _ from g30.trans rfl) (show Env.ev E (.tmp 37) = _ from g37.trans rfl))) ?_
        refine .cons (fun E hA_ => by have g38 := hA_.get 38 (by decide); exact OpStep.plain rfl (Step.move (p := (.one (.d (.bool true)))) (t := 39) rfl rfl (by exact lt_ok rfl) (show Env.ev E (.tmp 38) = _ from g38.trans rfl))) ?_
        refine .cons (fun E hA_ => by have g3 := hA_.get 3 (by decide); have g39 := hA_.get 39 (by decide); exact OpStep.yes (t := 39) rfl rfl (lt_ok rfl) (g39.trans rfl) (Step.fieldAddr (q := 0) (off := 4) (n := 1) (one := true) (t := 40) rfl rfl (by exact lt_ok rfl) (by kernel_rfl) (Nat.succ_ne_zero _) (show Env.ev E (.tmp 3) = _ from g3.trans rfl))) ?_
        refine .cons (fun E hA_ => by have g39 := hA_.get 39 (by decide); have g40 := hA_.get 40 (by decide); exact OpStep.yes (t := 39) rfl rfl (lt_ok rfl) (g39.trans rfl) (Step.load_box (c := .d (.bss q.f4)) (t := 41) rfl rfl (by exact lt_ok rfl) (by kernel_rfl) (show Env.ev E (.tmp 40) = _ from g40.trans rfl) (by exact hA_.box rfl) rfl)) ?_
        refine .cons (fun E hA_ => by have g39 := hA_.get 39 (by decide); have g41 := hA_.get 41 (by decide); exact OpStep.yes (t := 39) rfl rfl (lt_ok rfl) (g39.trans rfl) (Step.call (f := 55) (xs := [.tmp 41]) (ps := [(.one (.d (.bss q.f4)))]) false (g := .func 55) (t := 42) rfl rfl (by exact lt_ok rfl) rfl (by kernel_rfl) (evs_cons (show Env.ev E (.tmp 41) = _ from g41.trans rfl) (rfl)) (.cons (.one (.d _)) .nil) (ok_impl_areHashes q.f4) (.inr rfl) (At.freshRows hA_ rfl) (by simp) rfl)) ?_
        refine .cons (fun E hA_ => by have g39 := hA_.get 39 (by decide); have g42 := hA_.get 42 (by decide); exact OpStep.plain rfl (Step.pick (b := true) (p := (.one (.d (.bool (hashes q.f4))))) (t := 43) rfl rfl (by exact lt_ok rfl) (show Env.ev E (.tmp 39) = _ from g39.trans rfl) (show Env.ev E (.tmp 42) = _ from g42.trans rfl))) ?_
        refine .cons (fun E hA_ => by have g43 := hA_.get 43 (by decide); exact OpStep.plain rfl (Step.assign (p := (.one (.d (.bool (hashes q.f4))))) (t := 4) rfl rfl (by exact lt_ok rfl) (show Env.ev E (.tmp 43) = _ from g43.trans rfl))) ?_
        exact .nil _ _
       refine TL.nil ?_
       refine T.ret ?_
       refine ⟨[(false, [.d (.bool (hashes q.f4))])], (.cons rfl .nil), rfl, [], (RetC.rd' ?_ .nil)⟩ <;> (first | rfl | (congr 1; symm; simp only [qcOk, hashes, List.all_cons, List.all_nil, *, Bool.and_true, Bool.true_and, Bool.and_false, Bool.false_and, decide_true, decide_false, and_true, true_and, and_self, and_false, false_and, Bool.and_self, not_true, not_false, Bool.not_true, Bool.not_false, ge_iff_le, gt_iff_lt, if_true, if_false, Bool.false_eq_true, ite_true, ite_false, reduceIte]; done) | (congr 1; symm; simp_all [qcOk, hashes, List.all_cons, List.all_nil]; done) | (congr 1; symm; simp_all [qcOk, hashes, List.all_cons, List.all_nil]; omega))
      ·
       have nn9 := bitList_len q.f3
       refine T.draw [⟨5, (.agg [.d (.int .i64 l.f0), .d (.int .i64 l.f1), .d (.int .i64 l.f2), .d (.int .i64 l.f3), .d (.int .i64 l.f4)]), []⟩, ⟨6, (.one (.d (.bool true))), []⟩, ⟨7, (.one (.d (.bool true))), []⟩, ⟨8, (.one (.ptr 3 0)), []⟩, ⟨9, (.one (.d (.int .i64 q.f0))), []⟩, ⟨10, (.one (.d (.bool true))), []⟩, ⟨11, (.one (.d (.bool true))), []⟩, ⟨12, (.one (.d (.bool true))), []⟩, ⟨13, (.one (.ptr 3 1)), []⟩, ⟨14, (.one (.d (.int .i64 q.f1))), []⟩, ⟨15, (.one (.d (.bool true))), []⟩, ⟨16, (.one (.d (.bool true))), []⟩, ⟨17, (.one (.d (.bool true))), []⟩, ⟨18, (.one (.ptr 3 2)), []⟩, ⟨19, (.one (.d (.ints .u8 q.f2))), []⟩, ⟨20, (.one (.d (.bss [q.f2]))), []⟩, ⟨21, (.one (.d (.bool true))), []⟩, ⟨22, (.one (.d (.bool true))), []⟩, ⟨23, (.one (.d (.bool true))), []⟩, ⟨24, (.one (.ptr 3 3)), []⟩, ⟨25, (.one (.d (.ints .u8 q.f3))), []⟩, ⟨26, (.one (.ptr 2 0)), []⟩, ⟨27, (.one (.d (.int .i64 l.f0))), []⟩, ⟨28, (.one (.d (.bool true))), []⟩, ⟨29, (.one (.d (.bool true))), []⟩, ⟨30, (.one (.d (.bool true))), []⟩, ⟨31, (.one (.ptr 3 4)), []⟩, ⟨32, (.one (.d (.bss q.f4))), []⟩, ⟨33, (.one (.d (.int .i64 (q.f4.length : Int)))), []⟩, ⟨34, (.one (.ptr 3 3)), []⟩, ⟨35, (.one (.d (.ints .u8 q.f3))), []⟩, ⟨36, (.one (.d (.int .i64 ((bitList q.f3).length : Int)))), []⟩, ⟨37, (.one (.d (.bool false))), []⟩, ⟨38, (.one (.d (.bool false))), []⟩, ⟨39, (.one (.d (.bool false))), []⟩, ⟨40, (.tup []), []⟩, ⟨41, (.tup []), []⟩, ⟨42, (.tup []), []⟩, ⟨43, (.one (.d (.bool false))), []⟩, ⟨4, (.one (.d (.bool false))), []⟩] (by kernel_rfl) (by kernel_rfl) ?_ ?_
       ·
        refine .cons (fun E hA_ => by have g2 := hA_.get 2 (by decide); exact OpStep.plain rfl (Step.load_box_agg (n := 5) (qs := [.d (.int .i64 l.f0), .d (.int .i64 l.f1), .d (.int .i64 l.f2), .d (.int .i64 l.f3), .d (.int .i64 l.f4)]) (t := 5) rfl rfl (by exact lt_ok rfl) (by kernel_rfl) (show Env.ev E (.tmp 2) = _ from g2.trans rfl) (by exact hA_.box rfl) rfl rfl)) ?_
        refine .cons (fun E hA_ => by have g5 := hA_.get 5 (by decide); exact OpStep.plain rfl (Step.to (E1 := E.set 6 (.one (.d (.bool (limOk l))))) (congrArg (fun b_ => E.set 6 (.one (.d (.bool b_)))) hb1) (Step.call (f := 114) (xs := [.tmp 5]) (ps := [(.agg [.d (.int .i64 l.f0), .d (.int .i64 l.f1), .d (.int .i64 l.f2), .d (.int .i64 l.f3), .d (.int .i64 l.f4)])]) false (g := .func 114) (t := 6) rfl rfl (by exact lt_ok rfl) rfl (by kernel_rfl) (evs_cons (show Env.ev E (.tmp 5) = _ from g5.trans rfl) (rfl)) (.cons (.agg (.cons (.d _) (.cons (.d _) (.cons (.d _) (.cons (.d _) (.cons (.d _) .nil)))))) .nil) (ok_impl_LimitsOk l) (.inr rfl) (At.freshRows hA_ rfl) (by simp) rfl))) ?_
        refine .cons (fun E hA_ => by have g6 := hA_.get 6 (by decide); exact OpStep.plain rfl (Step.move (p := (.one (.d (.bool true)))) (t := 7) rfl rfl (by exact lt_ok rfl) (show Env.ev E (.tmp 6) = _ from g6.trans rfl))) ?_
        refine .cons (fun E hA_ => by have g3 := hA_.get 3 (by decide); have g7 := hA_.get 7 (by decide); exact OpStep.yes (t := 7) rfl rfl (lt_ok rfl) (g7.trans rfl) (Step.fieldAddr (q := 0) (off := 0) (n := 1) (one := true) (t := 8) rfl rfl (by exact lt_ok rfl) (by kernel_rfl) (Nat.succ_ne_zero _) (show Env.ev E (.tmp 3) = _ from g3.trans rfl))) ?_
        refine .cons (fun E hA_ => by have g7 := hA_.get 7 (by decide); have g8 := hA_.get 8 (by decide); exact OpStep.yes (t := 7) rfl rfl (lt_ok rfl) (g7.trans rfl) (Step.load_box (c := .d (.int .i64 q.f0)) (t := 9) rfl rfl (by exact lt_ok rfl) (by kernel_rfl) (show Env.ev E (.tmp 8) = _ from g8.trans rfl) (by exact hA_.box rfl) rfl)) ?_
        refine .cons (fun E hA_ => by have g7 := hA_.get 7 (by decide); have g9 := hA_.get 9 (by decide); exact OpStep.yes (t := 7) rfl rfl (lt_ok rfl) (g7.trans rfl) (Step.to (E1 := E.set 10 (.one (.d (.bool (decide (0 ≤ q.f0 ∧ q.f0 ≤ 1152921504606846975)))))) (congrArg (fun b_ => E.set 10 (.one (.d (.bool b_)))) hb2) (Step.call (f := 99) (xs := [.tmp 9]) (ps := [(.one (.d (.int .i64 q.f0)))]) false (g := .func 99) (t := 10) rfl rfl (by exact lt_ok rfl) rfl (by kernel_rfl) (evs_cons (show Env.ev E (.tmp 9) = _ from g9.trans rfl) (rfl)) (.cons (.one (.d _)) .nil) (ok_impl_isNum q.f0) (.inr rfl) (At.freshRows hA_ rfl) (by simp) rfl))) ?_
        refine .cons (fun E hA_ => by have g7 := hA_.get 7 (by decide); have g10 := hA_.get 10 (by decide); exact OpStep.plain rfl (Step.pick (b := true) (p := (.one (.d (.bool true)))) (t := 11) rfl rfl (by exact lt_ok rfl) (show Env.ev E (.tmp 7) = _ from g7.trans rfl) (show Env.ev E (.tmp 10) = _ from g10.trans rfl))) ?_
        refine .cons (fun E hA_ => by have g11 := hA_.get 11 (by decide); exact OpStep.plain rfl (Step.move (p := (.one (.d (.bool true)))) (t := 12) rfl rfl (by exact lt_ok rfl) (show Env.ev E (.tmp 11) = _ from g11.trans rfl))) ?_
        refine .cons (fun E hA_ => by have g3 := hA_.get 3 (by decide); have g12 := hA_.get 12 (by decide); exact OpStep.yes (t := 12) rfl rfl (lt_ok rfl) (g12.trans rfl) (Step.fieldAddr (q := 0) (off := 1) (n := 1) (one := true) (t := 13) rfl rfl (by exact lt_ok rfl) (by kernel_rfl) (Nat.succ_ne_zero _) (show Env.ev E (.tmp 3) = _ from g3.trans rfl))) ?_
        refine .cons (fun E hA_ => by have g12 := hA_.get 12 (by decide); have g13 := hA_.get 13 (by decide); exact OpStep.yes (t := 12) rfl rfl (lt_ok rfl) (g12.trans rfl) (Step.load_box (c := .d (.int .i64 q.f1)) (t := 14) rfl rfl (by exact lt_ok rfl) (by kernel_rfl) (show Env.ev E (.tmp 13) = _ from g13.trans rfl) (by exact hA_.box rfl) rfl)) ?_
        refine .cons (fun E hA_ => by have g12 := hA_.get 12 (by decide); have g14 := hA_.get 14 (by decide); exact OpStep.yes (t := 12) rfl rfl (lt_ok rfl) (g12.trans rfl) (Step.to (E1 := E.set 15 (.one (.d (.bool (decide (0 ≤ q.f1 ∧ q.f1 ≤ 1152921504606846975)))))) (congrArg (fun b_ => E.set 15 (.one (.d (.bool b_)))) hb3) (Step.call (f := 99) (xs := [.tmp 14]) (ps := [(.one (.d (.int .i64 q.f1)))]) false (g := .func 99) (t := 15) rfl rfl (by exact lt_ok rfl) rfl (by kernel_rfl) (evs_cons (show Env.ev E (.tmp 14) = _ from g14.trans rfl) (rfl)) (.cons (.one (.d _)) .nil) (ok_impl_isNum q.f1) (.inr rfl) (At.freshRows hA_ rfl) (by simp) rfl))) ?_
        refine .cons (fun E hA_ => by have g12 := hA_.get 12 (by decide); have g15 := hA_.get 15 (by decide); exact OpStep.plain rfl (Step.pick (b := true) (p := (.one (.d (.bool true)))) (t := 16) rfl rfl (by exact lt_ok rfl) (show Env.ev E (.tmp 12) = _ from g12.trans rfl) (show Env.ev E (.tmp 15) = _ from g15.trans rfl))) ?_
        refine .cons (fun E hA_ => by have g16 := hA_.get 16 (by decide); exact OpStep.plain rfl (Step.move (p := (.one (.d (.bool true)))) (t := 17) rfl rfl (by exact lt_ok rfl) (show Env.ev E (.tmp 16) = _ from g16.trans rfl))) ?_
        refine .cons (fun E hA_ => by have g3 := hA_.get 3 (by decide); have g17 := hA_.get 17 (by decide); exact OpStep.yes (t := 17) rfl rfl (lt_ok rfl) (g17.trans rfl) (Step.fieldAddr (q := 0) (off := 2) (n := 1) (one := true) (t := 18) rfl rfl (by exact lt_ok rfl) (by kernel_rfl) (Nat.succ_ne_zero _) (show Env.ev E (.tmp 3) = _ from g3.trans rfl))) ?_
        refine .cons (fun E hA_ => by have g17 := hA_.get 17 (by decide); have g18 := hA_.get 18 (by decide); exact OpStep.yes (t := 17) rfl rfl (lt_ok rfl) (g17.trans rfl) (Step.load_box (c := .d (.ints .u8 q.f2)) (t := 19) rfl rfl (by exact lt_ok rfl) (by kernel_rfl) (show Env.ev E (.tmp 18) = _ from g18.trans rfl) (by exact hA_.box rfl) rfl)) ?_
        refine .cons (fun E hA_ => by have g17 := hA_.get 17 (by decide); have g19 := hA_.get 19 (by decide); exact OpStep.yes (t := 17) rfl rfl (lt_ok rfl) (g17.trans rfl) (Step.lit_d (e := 22) (z := 1) (by_ := 24) (xs := [.tmp 19]) (pss := [[.d (.ints .u8 q.f2)]]) (ds := [(.ints .u8 q.f2)]) (d := (.bss [q.f2])) (t := 20) rfl rfl (by exact lt_ok rfl) (by kernel_rfl) rfl rfl (.cons (by exact (congrArg PV.flat (show Env.ev E (.tmp 19) = _ from g19.trans rfl)).trans rfl) .nil) (by simp) (le_ok rfl) (le_ok rfl) rfl rfl trivial rfl rfl)) ?_
        refine .cons (fun E hA_ => by have g17 := hA_.get 17 (by decide); have g20 := hA_.get 20 (by decide); exact OpStep.yes (t := 17) rfl rfl (lt_ok rfl) (g17.trans rfl) (Step.to (E1 := E.set 21 (.one (.d (.bool (hashes [q.f2]))))) (congrArg (fun b_ => E.set 21 (.one (.d (.bool b_)))) hb4) (Step.call (f := 55) (xs := [.tmp 20]) (ps := [(.one (.d (.bss [q.f2])))]) false (g := .func 55) (t := 21) rfl rfl (by exact lt_ok rfl) rfl (by kernel_rfl) (evs_cons (show Env.ev E (.tmp 20) = _ from g20.trans rfl) (rfl)) (.cons (.one (.d _)) .nil) (ok_impl_areHashes [q.f2]) (.inr rfl) (At.freshRows hA_ rfl) (by simp) rfl))) ?_
        refine .cons (fun E hA_ => by have g17 := hA_.get 17 (by decide); have g21 := hA_.get 21 (by decide); exact OpStep.plain rfl (Step.pick (b := true) (p := (.one (.d (.bool true)))) (t := 22) rfl rfl (by exact lt_ok rfl) (show Env.ev E (.tmp 17) = _ from g17.trans rfl) (show Env.ev E (.tmp 21) = _ from g21.trans rfl))) ?_
        refine .cons (fun E hA_ => by have g22 := hA_.get 22 (by decide); exact OpStep.plain rfl (Step.move (p := (.one (.d (.bool true)))) (t := 23) rfl rfl (by exact lt_ok rfl) (show Env.ev E (.tmp 22) = _ from g22.trans rfl))) ?_
        refine .cons (fun E hA_ => by have g3 := hA_.get 3 (by decide); have g23 := hA_.get 23 (by decide); exact OpStep.yes (t := 23) rfl rfl (lt_ok rfl) (g23.trans rfl) (Step.fieldAddr (q := 0) (off := 3) (n := 1) (one := true) (t := 24) rfl rfl (by exact lt_ok rfl) (by kernel_rfl) (Nat.succ_ne_zero _) (show Env.ev E (.tmp 3) = _ from g3.trans rfl))) ?_
        refine .cons (fun E hA_ => by have g23 := hA_.get 23 (by decide); have g24 := hA_.get 24 (by decide); exact OpStep.yes (t := 23) rfl rfl (lt_ok rfl) (g23.trans rfl) (Step.load_box (c := .d (.ints .u8 q.f3)) (t := 25) rfl rfl (by exact lt_ok rfl) (by kernel_rfl) (show Env.ev E (.tmp 24) = _ from g24.trans rfl) (by exact hA_.box rfl) rfl)) ?_
        refine .cons (fun E hA_ => by have g2 := hA_.get 2 (by decide); have g23 := hA_.get 23 (by decide); exact OpStep.yes (t := 23) rfl rfl (lt_ok rfl) (g23.trans rfl) (Step.fieldAddr (q := 0) (off := 0) (n := 1) (one := true) (t := 26) rfl rfl (by exact lt_ok rfl) (by kernel_rfl) (Nat.succ_ne_zero _) (show Env.ev E (.tmp 2) = _ from g2.trans rfl))) ?_
        refine .cons (fun E hA_ => by have g23 := hA_.get 23 (by decide); have g26 := hA_.get 26 (by decide); exact OpStep.yes (t := 23) rfl rfl (lt_ok rfl) (g23.trans rfl) (Step.load_box (c := .d (.int .i64 l.f0)) (t := 27) rfl rfl (by exact lt_ok rfl) (by kernel_rfl) (show Env.ev E (.tmp 26) = _ from g26.trans rfl) (by exact hA_.box rfl) rfl)) ?_
        refine .cons (fun E hA_ => by have g23 := hA_.get 23 (by decide); have g25 := hA_.get 25 (by decide); have g27 := hA_.get 27 (by decide); exact OpStep.yes (t := 23) rfl rfl (lt_ok rfl) (g23.trans rfl) (Step.to (E1 := E.set 28 (.one (.d (.bool (bitsOk q.f3 l.f0))))) (congrArg (fun b_ => E.set 28 (.one (.d (.bool b_)))) hb5) (Step.call (f := 115) (xs := [.tmp 25, .tmp 27]) (ps := [(.one (.d (.ints .u8 q.f3))), (.one (.d (.int .i64 l.f0)))]) false (g := .func 115) (t := 28) rfl rfl (by exact lt_ok rfl) rfl (by kernel_rfl) (evs_cons (show Env.ev E (.tmp 25) = _ from g25.trans rfl) (evs_cons (show Env.ev E (.tmp 27) = _ from g27.trans rfl) (rfl))) (.cons (.one (.d _)) (.cons (.one (.d _)) .nil)) (ok_impl_BitsOk q.f3 l.f0 (by assumption) (by first | omega | assumption | (simp only [List.length_append] at *; omega))) (.inr rfl) (At.freshRows hA_ rfl) (by simp) rfl))) ?_
        refine .cons (fun E hA_ => by have g23 := hA_.get 23 (by decide); have g28 := hA_.get 28 (by decide); exact OpStep.plain rfl (Step.pick (b := true) (p := (.one (.d (.bool true)))) (t := 29) rfl rfl (by exact lt_ok rfl) (show Env.ev E (.tmp 23) = _ from g23.trans rfl) (show Env.ev E (.tmp 28) = _ from g28.trans rfl))) ?_
        refine .cons (fun E hA_ => by have g29 := hA_.get 29 (by decide); exact OpStep.plain rfl (Step.move (p := (.one (.d (.bool true)))) (t := 30) rfl rfl (by exact lt_ok rfl) (show Env.ev E (.tmp 29) = _ from g29.trans rfl))) ?_
        refine .cons (fun E hA_ => by have g3 := hA_.get 3 (by decide); have g30 := hA_.get 30 (by decide); exact OpStep.yes (t := 30) rfl rfl (lt_ok rfl) (g30.trans rfl) (Step.fieldAddr (q := 0) (off := 4) (n := 1) (one := true) (t := 31) rfl rfl (by exact lt_ok rfl) (by kernel_rfl) (Nat.succ_ne_zero _) (show Env.ev E (.tmp 3) = _ from g3.trans rfl))) ?_
        refine .cons (fun E hA_ => by have g30 := hA_.get 30 (by decide); have g31 := hA_.get 31 (by decide); exact OpStep.yes (t := 30) rfl rfl (lt_ok rfl) (g30.trans rfl) (Step.load_box (c := .d (.bss q.f4)) (t := 32) rfl rfl (by exact lt_ok rfl) (by kernel_rfl) (show Env.ev E (.tmp 31) = _ from g31.trans rfl) (by exact hA_.box rfl) rfl)) ?_
        refine .cons (fun E hA_ => by have g30 := hA_.get 30 (by decide); have g32 := hA_.get 32 (by decide); exact OpStep.yes (t := 30) rfl rfl (lt_ok rfl) (g30.trans rfl) (Step.len (e := 22) (z := 1) (d := (.bss q.f4)) (t := 33) rfl rfl (by exact lt_ok rfl) (by kernel_rfl) (show Env.ev E (.tmp 32) = _ from g32.trans rfl) rfl)) ?_
        refine .cons (fun E hA_ => by have g3 := hA_.get 3 (by decide); have g30 := hA_.get 30 (by decide); exact OpStep.yes (t := 30) rfl rfl (lt_ok rfl) (g30.trans rfl) (Step.fieldAddr (q := 0) (off := 3) (n := 1) (one := true) (t := 34) rfl rfl (by exact lt_ok rfl) (by kernel_rfl) (Nat.succ_ne_zero _) (show Env.ev E (.tmp 3) = _ from g3.trans rfl))) ?_
        refine .cons (fun E hA_ => by have g30 := hA_.get 30 (by decide); have g34 := hA_.get 34 (by decide); exact OpStep.yes (t := 30) rfl rfl (lt_ok rfl) (g30.trans rfl) (Step.load_box (c := .d (.ints .u8 q.f3)) (t := 35) rfl rfl (by exact lt_ok rfl) (by kernel_rfl) (show Env.ev E (.tmp 34) = _ from g34.trans rfl) (by exact hA_.box rfl) rfl)) ?_
        refine .cons (fun E hA_ => by have g30 := hA_.get 30 (by decide); have g35 := hA_.get 35 (by decide); exact OpStep.yes (t := 30) rfl rfl (lt_ok rfl) (g30.trans rfl) (Step.call (f := 116) (xs := [.tmp 35]) (ps := [(.one (.d (.ints .u8 q.f3)))]) false (g := .func 116) (t := 36) rfl rfl (by exact lt_ok rfl) rfl (by kernel_rfl) (evs_cons (show Env.ev E (.tmp 35) = _ from g35.trans rfl) (rfl)) (.cons (.one (.d _)) .nil) (ok_impl_BitsCount q.f3 (by first | assumption | exact fun x hx => by cases hx) (by first | omega | assumption | (simp only [List.length_append] at *; omega) | (simp; done))) (.inr rfl) (At.freshRows hA_ rfl) (by simp) rfl)) ?_
        refine .cons (fun E hA_ => by have g30 := hA_.get 30 (by decide); have g33 := hA_.get 33 (by decide); have g36 := hA_.get 36 (by decide); exact OpStep.yes (t := 30) rfl rfl (lt_ok rfl) (g30.trans rfl) (Step.to (E1 := E.set 37 (.one (.d (.bool (decide ((q.f4.length : Int) = ((bitList q.f3).length : Int))))))) (congrArg (fun b_ => E.set 37 (.one (.d (.bool b_)))) hb7) (Step.bin (t := 37) rfl rfl (by exact lt_ok rfl) (show Env.ev E (.tmp 33) = _ from g33.trans rfl) (show Env.ev E (.tmp 36) = _ from g36.trans rfl) (Bin.eql (k := .i64) (a := (q.f4.length : Int)) (b := ((bitList q.f3).length : Int)))))) ?_
        refine .cons (fun E hA_ => by have g30 := hA_.get 30 (by decide); have g37 := hA_.get 37 (by decide); exact OpStep.plain rfl (Step.pick (b := true) (p := (.one (.d (.bool false)))) (t := 38) rfl rfl (by exact lt_ok rfl) (show Env.ev E (.tmp 30) = _ from g30.trans rfl) (show Env.ev E (.tmp 37) = _ from g37.trans rfl))) ?_
        refine .cons (fun E hA_ => by have g38 := hA_.get 38 (by decide); exact OpStep.plain rfl (Step.move (p := (.one (.d (.bool false)))) (t := 39) rfl rfl (by exact lt_ok rfl) (show Env.ev E (.tmp 38) = _ from g38.trans rfl))) ?_
        refine .cons (fun E hA_ => OpStep.off (t := 39) rfl rfl (lt_ok rfl) ((hA_.get 39 (by decide)).trans rfl) (by decide) rfl (lt_ok rfl)) ?_
        refine .cons (fun E hA_ => OpStep.off (t := 39) rfl rfl (lt_ok rfl) ((hA_.get 39 (by decide)).trans rfl) (by decide) rfl (lt_ok rfl)) ?_
        refine .cons (fun E hA_ => OpStep.off (t := 39) rfl rfl (lt_ok rfl) ((hA_.get 39 (by decide)).trans rfl) (by decide) rfl (lt_ok rfl)) ?_
        refine .cons (fun E hA_ => by have g39 := hA_.get 39 (by decide); have g42 := hA_.get 42 (by decide); exact OpStep.plain rfl (Step.pick (b := false) (p := (.one (.d (.bool false)))) (t := 43) rfl rfl (by exact lt_ok rfl) (show Env.ev E (.tmp 39) = _ from g39.trans rfl) rfl)) ?_
        refine .cons (fun E hA_ => by have g43 := hA_.get 43 (by decide); exact OpStep.plain rfl (Step.assign (p := (.one (.d (.bool false)))) (t := 4) rfl rfl (by exact lt_ok rfl) (show Env.ev E (.tmp 43) = _ from g43.trans rfl))) ?_
        exact .nil _ _
       refine TL.nil ?_
       refine T.ret ?_
       refine ⟨[(false, [.d (.bool false)])], (.cons rfl .nil), rfl, [], (RetC.rd' ?_ .nil)⟩ <;> (first | rfl | (congr 1; symm; simp only [qcOk, hashes, List.all_cons, List.all_nil, *, Bool.and_true, Bool.true_and, Bool.and_false, Bool.false_and, decide_true, decide_false, and_true, true_and, and_self, and_false, false_and, Bool.and_self, not_true, not_false, Bool.not_true, Bool.not_false, ge_iff_le, gt_iff_lt, if_true, if_false, Bool.false_eq_true, ite_true, ite_false, reduceIte]; done) | (congr 1; symm; simp_all [qcOk, hashes, List.all_cons, List.all_nil]; done) | (congr 1; symm; simp_all [qcOk, hashes, List.all_cons, List.all_nil]; omega))
     ·
      refine T.draw [⟨5, (.agg [.d (.int .i64 l.f0), .d (.int .i64 l.f1), .d (.int .i64 l.f2), .d (.int .i64 l.f3), .d (.int .i64 l.f4)]), []⟩, ⟨6, (.one (.d (.bool true))), []⟩, ⟨7, (.one (.d (.bool true))), []⟩, ⟨8, (.one (.ptr 3 0)), []⟩, ⟨9, (.one (.d (.int .i64 q.f0))), []⟩, ⟨10, (.one (.d (.bool true))), []⟩, ⟨11, (.one (.d (.bool true))), []⟩, ⟨12, (.one (.d (.bool true))), []⟩, ⟨13, (.one (.ptr 3 1)), []⟩, ⟨14, (.one (.d (.int .i64 q.f1))), []⟩, ⟨15, (.one (.d (.bool true))), []⟩, ⟨16, (.one (.d (.bool true))), []⟩, ⟨17, (.one (.d (.bool true))), []⟩, ⟨18, (.one (.ptr 3 2)), []⟩, ⟨19, (.one (.d (.ints .u8 q.f2))), []⟩, ⟨20, (.one (.d (.bss [q.f2]))), []⟩, ⟨21, (.one (.d (.bool true))), []⟩, ⟨22, (.one (.d (.bool true))), []⟩, ⟨23, (.one (.d (.bool true))), []⟩, ⟨24, (.one (.ptr 3 3)), []⟩, ⟨25, (.one (.d (.ints .u8 q.f3))), []⟩, ⟨26, (.one (.ptr 2 0)), []⟩, ⟨27, (.one (.d (.int .i64 l.f0))), []⟩, ⟨28, (.one (.d (.bool false))), []⟩, ⟨29, (.one (.d (.bool false))), []⟩, ⟨30, (.one (.d (.bool false))), []⟩, ⟨31, (.tup []), []⟩, ⟨32, (.tup []), []⟩, ⟨33, (.tup []), []⟩, ⟨34, (.tup []), []⟩, ⟨35, (.tup []), []⟩, ⟨36, (.tup []), []⟩, ⟨37, (.tup []), []⟩, ⟨38, (.one (.d (.bool false))), []⟩, ⟨39, (.one (.d (.bool false))), []⟩, ⟨40, (.tup []), []⟩, ⟨41, (.tup []), []⟩, ⟨42, (.tup []), []⟩, ⟨43, (.one (.d (.bool false))), []⟩, ⟨4, (.one (.d (.bool false))), []⟩] (by kernel_rfl) (by kernel_rfl) ?_ ?_
      ·
       refine .cons (fun E hA_ => by have g2 := hA_.get 2 (by decide); exact OpStep.plain rfl (Step.load_box_agg (n := 5) (qs := [.d (.int .i64 l.f0), .d (.int .i64 l.f1), .d (.int .i64 l.f2), .d (.int .i64 l.f3), .d (.int .i64 l.f4)]) (t := 5) rfl rfl (by exact lt_ok rfl) (by kernel_rfl) (show Env.ev E (.tmp 2) = _ from g2.trans rfl) (by exact hA_.box rfl) rfl rfl)) ?_
       refine .cons (fun E hA_ => by have g5 := hA_.get 5 (by decide); exact OpStep.plain rfl (Step.to (E1 := E.set 6 (.one (.d (.bool (limOk l))))) (congrArg (fun b_ => E.set 6 (.one (.d (.bool b_)))) hb1) (Step.call (f := 114) (xs := [.tmp 5]) (ps := [(.agg [.d (.int .i64 l.f0), .d (.int .i64 l.f1), .d (.int .i64 l.f2), .d (.int .i64 l.f3), .d (.int .i64 l.f4)])]) false (g := .func 114) (t := 6) rfl rfl (by exact lt_ok rfl) rfl (by kernel_rfl) (evs_cons (show Env.ev E (.tmp 5) = _ from g5.trans rfl) (rfl)) (.cons (.agg (.cons (.d _) (.cons (.d _) (.cons (.d _) (.cons (.d _) (.cons (.d _) .nil)))))) .nil) (ok_impl_LimitsOk l) (.inr rfl) (At.freshRows hA_ rfl) (by simp) rfl))) ?_
       refine .cons (fun E hA_ => by have g6 := hA_.get 6 (by decide); exact OpStep.plain rfl (Step.move (p := (.one (.d (.bool true)))) (t := 7) rfl rfl (by exact lt_ok rfl) (show Env.ev E (.tmp 6) = _ from g6.trans rfl))) ?_
       refine .cons (fun E hA_ => by have g3 := hA_.get 3 (by decide); have g7 := hA_.get 7 (by decide); exact OpStep.yes (t := 7) rfl rfl (lt_ok rfl) (g7.trans rfl) (Step.fieldAddr (q := 0) (off := 0) (n := 1) (one := true) (t := 8) rfl rfl (by exact lt_ok rfl) (by kernel_rfl) (Nat.succ_ne_zero _) (show Env.ev E (.tmp 3) = _ from g3.trans rfl))) ?_
       refine .cons (fun E hA_ => by have g7 := hA_.get 7 (by decide); have g8 := hA_.get 8 (by decide); exact OpStep.yes (t := 7) rfl rfl (lt_ok rfl) (g7.trans rfl) (Step.load_box (c := .d (.int .i64 q.f0)) (t := 9) rfl rfl (by exact lt_ok rfl) (by kernel_rfl) (show Env.ev E (.tmp 8) = _ from g8.trans rfl) (by exact hA_.box rfl) rfl)) ?_
       refine .cons (fun E hA_ => by have g7 := hA_.get 7 (by decide); have g9 := hA_.get 9 (by decide); exact OpStep.yes (t := 7) rfl rfl (lt_ok rfl) (g7.trans rfl) (Step.to (E1 := E.set 10 (.one (.d (.bool (decide (0 ≤ q.f0 ∧ q.f0 ≤ 1152921504606846975)))))) (congrArg (fun b_ => E.set 10 (.one (.d (.bool b_)))) hb2) (Step.call (f := 99) (xs := [.tmp 9]) (ps := [(.one (.d (.int .i64 q.f0)))]) false (g := .func 99) (t := 10) rfl rfl (by exact lt_ok rfl) rfl (by kernel_rfl) (evs_cons (show Env.ev E (.tmp 9) = _ from g9.trans rfl) (rfl)) (.cons (.one (.d _)) .nil) (ok_impl_isNum q.f0) (.inr rfl) (At.freshRows hA_ rfl) (by simp) rfl))) ?_
       refine .cons (fun E hA_ => by have g7 := hA_.get 7 (by decide); have g10 := hA_.get 10 (by decide); exact OpStep.plain rfl (Step.pick (b := true) (p := (.one (.d (.bool true)))) (t := 11) rfl rfl (by exact lt_ok rfl) (show Env.ev E (.tmp 7) = _ from g7.trans rfl) (show Env.ev E (.tmp 10) = _ from g10.trans rfl))) ?_
       refine .cons (fun E hA_ => by have g11 := hA_.get 11 (by decide); exact OpStep.plain rfl (Step.move (p := (.one (.d (.bool true)))) (t := 12) rfl rfl (by exact lt_ok rfl) (show Env.ev E (.tmp 11) = _ from g11.trans rfl))) ?_
       refine .cons (fun E hA_ => by have g3 := hA_.get 3 (by decide); have g12 := hA_.get 12 (by decide); exact OpStep.yes (t := 12) rfl rfl (lt_ok rfl) (g12.trans rfl) (Step.fieldAddr (q := 0) (off := 1) (n := 1) (one := true) (t := 13) rfl rfl (by exact lt_ok rfl) (by kernel_rfl) (Nat.succ_ne_zero _) (show Env.ev E (.tmp 3) = _ from g3.trans rfl))) ?_
       refine .cons (fun E hA_ => by have g12 := hA_.get 12 (by decide); have g13 := hA_.get 13 (by decide); exact OpStep.yes (t := 12) rfl rfl (lt_ok rfl) (g12.trans rfl) (Step.load_box (c := .d (.int .i64 q.f1)) (t := 14) rfl rfl (by exact lt_ok rfl) (by kernel_rfl) (show Env.ev E (.tmp 13) = _ from g13.trans rfl) (by exact hA_.box rfl) rfl)) ?_
       refine .cons (fun E hA_ => by have g12 := hA_.get 12 (by decide); have g14 := hA_.get 14 (by decide); exact OpStep.yes (t := 12) rfl rfl (lt_ok rfl) (g12.trans rfl) (Step.to (E1 := E.set 15 (.one (.d (.bool (decide (0 ≤ q.f1 ∧ q.f1 ≤ 1152921504606846975)))))) (congrArg (fun b_ => E.set 15 (.one (.d (.bool b_)))) hb3) (Step.call (f := 99) (xs := [.tmp 14]) (ps := [(.one (.d (.int .i64 q.f1)))]) false (g := .func 99) (t := 15) rfl rfl (by exact lt_ok rfl) rfl (by kernel_rfl) (evs_cons (show Env.ev E (.tmp 14) = _ from g14.trans rfl) (rfl)) (.cons (.one (.d _)) .nil) (ok_impl_isNum q.f1) (.inr rfl) (At.freshRows hA_ rfl) (by simp) rfl))) ?_
       refine .cons (fun E hA_ => by have g12 := hA_.get 12 (by decide); have g15 := hA_.get 15 (by decide); exact OpStep.plain rfl (Step.pick (b := true) (p := (.one (.d (.bool true)))) (t := 16) rfl rfl (by exact lt_ok rfl) (show Env.ev E (.tmp 12) = _ from g12.trans rfl) (show Env.ev E (.tmp 15) = _ from g15.trans rfl))) ?_
       refine .cons (fun E hA_ => by have g16 := hA_.get 16 (by decide); exact OpStep.plain rfl (Step.move (p := (.one (.d (.bool true)))) (t := 17) rfl rfl (by exact lt_ok rfl) (show Env.ev E (.tmp 16) = _ from g16.trans rfl))) ?_
       refine .cons (fun E hA_ => by have g3 := hA_.get 3 (by decide); have g17 := hA_.get 17 (by decide); exact OpStep.yes (t := 17) rfl rfl (lt_ok rfl) (g17.trans rfl) (Step.fieldAddr (q := 0) (off := 2) (n := 1) (one := true) (t := 18) rfl rfl (by exact lt_ok rfl) (by kernel_rfl) (Nat.succ_ne_zero _) (show Env.ev E (.tmp 3) = _ from g3.trans rfl))) ?_
       refine .cons (fun E hA_ => by have g17 := hA_.get 17 (by decide); have g18 := hA_.get 18 (by decide); exact OpStep.yes (t := 17) rfl rfl (lt_ok rfl) (g17.trans rfl) (Step.load_box (c := .d (.ints .u8 q.f2)) (t := 19) rfl rfl (by exact lt_ok rfl) (by kernel_rfl) (show Env.ev E (.tmp 18) = _ from g18.trans rfl) (by exact hA_.box rfl) rfl)) ?_
       refine .cons (fun E hA_ => by have g17 := hA_.get 17 (by decide); have g19 := hA_.get 19 (by decide); exact OpStep.yes (t := 17) rfl rfl (lt_ok rfl) (g17.trans rfl) (Step.lit_d (e := 22) (z := 1) (by_ := 24) (xs := [.tmp 19]) (pss := [[.d (.ints .u8 q.f2)]]) (ds := [(.ints .u8 q.f2)]) (d := (.bss [q.f2])) (t := 20) rfl rfl (by exact lt_ok rfl) (by kernel_rfl) rfl rfl (.cons (by exact (congrArg PV.flat (show Env.ev E (.tmp 19) = _ from g19.trans rfl)).trans rfl) .nil) (by simp) (le_ok rfl) (le_ok rfl) rfl rfl trivial rfl rfl)) ?_
       refine .cons (fun E hA_ => by have g17 := hA_.get 17 (by decide); have g20 := hA_.get 20 (by decide); exact OpStep.yes (t := 17) rfl rfl (lt_ok rfl) (g17.trans rfl) (Step.to (E1 := E.set 21 (.one (.d (.bool (hashes [q.f2]))))) (congrArg (fun b_ => E.set 21 (.one (.d (.bool b_)))) hb4) (Step.call (f := 55) (xs := [.tmp 20]) (ps := [(.one (.d (.bss [q.f2])))]) false (g := .func 55) (t := 21) rfl rfl (by exact lt_ok rfl) rfl (by kernel_rfl) (evs_cons (show Env.ev E (.tmp 20) = _ from g20.trans rfl) (rfl)) (.cons (.one (.d _)) .nil) (ok_impl_areHashes [q.f2]) (.inr rfl) (At.freshRows hA_ rfl) (by simp) rfl))) ?_
       refine .cons (fun E hA_ => by have g17 := hA_.get 17 (by decide); have g21 := hA_.get 21 (by decide); exact OpStep.plain rfl (Step.pick (b := true) (p := (.one (.d (.bool true)))) (t := 22) rfl rfl (by exact lt_ok rfl) (show Env.ev E (.tmp 17) = _ from g17.trans rfl) (show Env.ev E (.tmp 21) = _ from g21.trans rfl))) ?_
       refine .cons (fun E hA_ => by have g22 := hA_.get 22 (by decide); exact OpStep.plain rfl (Step.move (p := (.one (.d (.bool true)))) (t := 23) rfl rfl (by exact lt_ok rfl) (show Env.ev E (.tmp 22) = _ from g22.trans rfl))) ?_
       refine .cons (fun E hA_ => by have g3 := hA_.get 3 (by decide); have g23 := hA_.get 23 (by decide); exact OpStep.yes (t := 23) rfl rfl (lt_ok rfl) (g23.trans rfl) (Step.fieldAddr (q := 0) (off := 3) (n := 1) (one := true) (t := 24) rfl rfl (by exact lt_ok rfl) (by kernel_rfl) (Nat.succ_ne_zero _) (show Env.ev E (.tmp 3) = _ from g3.trans rfl))) ?_
       refine .cons (fun E hA_ => by have g23 := hA_.get 23 (by decide); have g24 := hA_.get 24 (by decide); exact OpStep.yes (t := 23) rfl rfl (lt_ok rfl) (g23.trans rfl) (Step.load_box (c := .d (.ints .u8 q.f3)) (t := 25) rfl rfl (by exact lt_ok rfl) (by kernel_rfl) (show Env.ev E (.tmp 24) = _ from g24.trans rfl) (by exact hA_.box rfl) rfl)) ?_
       refine .cons (fun E hA_ => by have g2 := hA_.get 2 (by decide); have g23 := hA_.get 23 (by decide); exact OpStep.yes (t := 23) rfl rfl (lt_ok rfl) (g23.trans rfl) (Step.fieldAddr (q := 0) (off := 0) (n := 1) (one := true) (t := 26) rfl rfl (by exact lt_ok rfl) (by kernel_rfl) (Nat.succ_ne_zero _) (show Env.ev E (.tmp 2) = _ from g2.trans rfl))) ?_
       refine .cons (fun E hA_ => by have g23 := hA_.get 23 (by decide); have g26 := hA_.get 26 (by decide); exact OpStep.yes (t := 23) rfl rfl (lt_ok rfl) (g23.trans rfl) (Step.load_box (c := .d (.int .i64 l.f0)) (t := 27) rfl rfl (by exact lt_ok rfl) (by kernel_rfl) (show Env.ev E (.tmp 26) = _ from g26.trans rfl) (by exact hA_.box rfl) rfl)) ?_
       refine .cons (fun E hA_ => by have g23 := hA_.get 23 (by decide); have g25 := hA_.get 25 (by decide); have g27 := hA_.get 27 (by decide); exact OpStep.yes (t := 23) rfl rfl (lt_ok rfl) (g23.trans rfl) (Step.to (E1 := E.set 28 (.one (.d (.bool (bitsOk q.f3 l.f0))))) (congrArg (fun b_ => E.set 28 (.one (.d (.bool b_)))) hb5) (Step.call (f := 115) (xs := [.tmp 25, .tmp 27]) (ps := [(.one (.d (.ints .u8 q.f3))), (.one (.d (.int .i64 l.f0)))]) false (g := .func 115) (t := 28) rfl rfl (by exact lt_ok rfl) rfl (by kernel_rfl) (evs_cons (show Env.ev E (.tmp 25) = _ from g25.trans rfl) (evs_cons (show Env.ev E (.tmp 27) = _ from g27.trans rfl) (rfl))) (.cons (.one (.d _)) (.cons (.one (.d _)) .nil)) (ok_impl_BitsOk q.f3 l.f0 (by assumption) (by first | omega | assumption | (simp only [List.length_append] at *; omega))) (.inr rfl) (At.freshRows hA_ rfl) (by simp) rfl))) ?_
       refine .cons (fun E hA_ => by have g23 := hA_.get 23 (by decide); have g28 := hA_.get 28 (by decide); exact OpStep.plain rfl (Step.pick (b := true) (p := (.one (.d (.bool false)))) (t := 29) rfl rfl (by exact lt_ok rfl) (show Env.ev E (.tmp 23) = _ from g23.trans rfl) (show Env.ev E (.tmp 28) = _ from g28.trans rfl))) ?_
       refine .cons (fun E hA_ => by have g29 := hA_.get 29 (by decide); exact OpStep.plain rfl (Step.move (p := (.one (.d (.bool false)))) (t := 30) rfl rfl (by exact lt_ok rfl) (show Env.ev E (.tmp 29) = _ from g29.trans rfl))) ?_
       refine .cons (fun E hA_ => OpStep.off (t := 30) rfl rfl (lt_ok rfl) ((hA_.get 30 (by decide)).trans rfl) (by decide) rfl (lt_ok rfl)) ?_
       refine .cons (fun E hA_ => OpStep.off (t := 30) rfl rfl (lt_ok rfl) ((hA_.get 30 (by decide)).trans rfl) (by decide) rfl (lt_ok rfl)) ?_
       refine .cons (fun E hA_ => OpStep.off (t := 30) rfl rfl (lt_ok rfl) ((hA_.get 30 (by decide)).trans rfl) (by decide) rfl (lt_ok rfl)) ?_
       refine .cons (fun E hA_ => OpStep.off (t := 30) rfl rfl (lt_ok rfl) ((hA_.get 30 (by decide)).trans rfl) (by decide) rfl (lt_ok rfl)) ?_
       refine .cons (fun E hA_ => OpStep.off (t := 30) rfl rfl (lt_ok rfl) ((hA_.get 30 (by decide)).trans rfl) (by decide) rfl (lt_ok rfl)) ?_
       refine .cons (fun E hA_ => OpStep.off (t := 30) rfl rfl (lt_ok rfl) ((hA_.get 30 (by decide)).trans rfl) (by decide) rfl (lt_ok rfl)) ?_
       refine .cons (fun E hA_ => OpStep.off (t := 30) rfl rfl (lt_ok rfl) ((hA_.get 30 (by decide)).trans rfl) (by decide) rfl (lt_ok rfl)) ?_
       refine .cons (fun E hA_ => by have g30 := hA_.get 30 (by decide); have g37 := hA_.get 37 (by decide); exact OpStep.plain rfl (Step.pick (b := false) (p := (.one (.d (.bool false)))) (t := 38) rfl rfl (by exact lt_ok rfl) (show Env.ev E (.tmp 30) = _ from g30.trans rfl) rfl)) ?_
       refine .cons (fun E hA_ => by have g38 := hA_.get 38 (by decide); exact OpStep.plain rfl (Step.move (p := (.one (.d (.bool false)))) (t := 39) rfl rfl (by exact lt_ok rfl) (show Env.ev E (.tmp 38) = _ from g38.trans rfl))) ?_
       refine .cons (fun E hA_ => OpStep.off (t := 39) rfl rfl (lt_ok rfl) ((hA_.get 39 (by decide)).trans rfl) (by decide) rfl (lt_ok rfl)) ?_
       refine .cons (fun E hA_ => OpStep.off (t := 39) rfl rfl (lt_ok rfl) ((hA_.get 39 (by decide)).trans rfl) (by decide) rfl (lt_ok rfl)) ?_
       refine .cons (fun E hA_ => OpStep.off (t := 39) rfl rfl (lt_ok rfl) ((hA_.get 39 (by decide)).trans rfl) (by decide) rfl (lt_ok rfl)) ?_
       refine .cons (fun E hA_ => by have g39 := hA_.get 39 (by decide); have g42 := hA_.get 42 (by decide); exact OpStep.plain rfl (Step.pick (b := false) (p := (.one (.d (.bool false)))) (t := 43) rfl rfl (by exact lt_ok rfl) (show Env.ev E (.tmp 39) = _ from g39.trans rfl) rfl)) ?_
       refine .cons (fun E hA_ => by have g43 := hA_.get 43 (by decide); exact OpStep.plain rfl (Step.assign (p := (.one (.d (.bool false)))) (t := 4) rfl rfl (by exact lt_ok rfl) (show Env.ev E (.tmp 43) = _ from g43.trans rfl))) ?_
       exact .nil _ _
      refine TL.nil ?_
      refine T.ret ?_
      refine ⟨[(false, [.d (.bool false)])], (.cons rfl .nil), rfl, [], (RetC.rd' ?_ .nil)⟩ <;> (first | rfl | (congr 1; symm; simp only [qcOk, hashes, List.all_cons, List.all_nil, *, Bool.and_true, Bool.true_and, Bool.and_false, Bool.false_and, decide_true, decide_false, and_true, true_and, and_self, and_false, false_and, Bool.and_self, not_true, not_false, Bool.not_true, Bool.not_false, ge_iff_le, gt_iff_lt, if_true, if_false, Bool.false_eq_true, ite_true, ite_false, reduceIte]; done) | (congr 1; symm; simp_all [qcOk, hashes, List.all_cons, List.all_nil]; done) | (congr 1; symm; simp_all [qcOk, hashes, List.all_cons, List.all_nil]; omega))
    ·
     refine T.draw [⟨5, (.agg [.d (.int .i64 l.f0), .d (.int .i64 l.f1), .d (.int .i64 l.f2), .d (.int .i64 l.f3), .d (.int .i64 l.f4)]), []⟩, ⟨6, (.one (.d (.bool true))), []⟩, ⟨7, (.one (.d (.bool true))), []⟩, ⟨8, (.one (.ptr 3 0)), []⟩, ⟨9, (.one (.d (.int .i64 q.f0))), []⟩, ⟨10, (.one (.d (.bool true))), []⟩, ⟨11, (.one (.d (.bool true))), []⟩, ⟨12, (.one (.d (.bool true))), []⟩, ⟨13, (.one (.ptr 3 1)), []⟩, ⟨14, (.one (.d (.int .i64 q.f1))), []⟩, ⟨15, (.one (.d (.bool true))), []⟩, ⟨16, (.one (.d (.bool true))), []⟩, ⟨17, (.one (.d (.bool true))), []⟩, ⟨18, (.one (.ptr 3 2)), []⟩, ⟨19, (.one (.d (.ints .u8 q.f2))), []⟩, ⟨20, (.one (.d (.bss [q.f2]))), []⟩, ⟨21, (.one (.d (.bool false))), []⟩, ⟨22, (.one (.d (.bool false))), []⟩, ⟨23, (.one (.d (.bool false))), []⟩, ⟨24, (.tup []), []⟩, ⟨25, (.tup []), []⟩, ⟨26, (.tup []), []⟩, ⟨27, (.tup []), []⟩, ⟨28, (.tup []), []⟩, ⟨29, (.one (.d (.bool false))), []⟩, ⟨30, (.one (.d (.bool false))), []⟩, ⟨31, (.tup []), []⟩, ⟨32, (.tup []), []⟩, ⟨33, (.tup []), []⟩, ⟨34, (.tup []), []⟩, ⟨35, (.tup []), []⟩, ⟨36, (.tup []), []⟩, ⟨37, (.tup []), []⟩, ⟨38, (.one (.d (.bool false))), []⟩, ⟨39, (.one (.d (.bool false))), []⟩, ⟨40, (.tup []), []⟩, ⟨41, (.tup []), []⟩, ⟨42, (.tup []), []⟩, ⟨43, (.one (.d (.bool false))), []⟩, ⟨4, (.one (.d (.bool false))), []⟩] (by kernel_rfl) (by kernel_rfl) ?_ ?_
     ·
      refine .cons (fun E hA_ => by have g2 := hA_.get 2 (by decide); exact OpStep.plain rfl (Step.load_box_agg (n := 5) (qs := [.d (.int .i64 l.f0), .d (.int .i64 l.f1), .d (.int .i64 l.f2), .d (.int .i64 l.f3), .d (.int .i64 l.f4)]) (t := 5) rfl rfl (by exact lt_ok rfl) (by kernel_rfl) (show Env.ev E (.tmp 2) = _ from g2.trans rfl) (by exact hA_.box rfl) rfl rfl)) ?_
      refine .cons (fun E hA_ => by have g5 := hA_.get 5 (by decide); exact OpStep.plain rfl (Step.to (E1 := E.set 6 (.one (.d (.bool (limOk l))))) (congrArg (fun b_ => E.set 6 (.one (.d (.bool b_)))) hb1) (Step.call (f := 114) (xs := [.tmp 5]) (ps := [(.agg [.d (.int .i64 l.f0), .d (.int .i64 l.f1), .d (.int .i64 l.f2), .d (.int .i64 l.f3), .d (.int .i64 l.f4)])]) false (g := .func 114) (t := 6) rfl rfl (by exact lt_ok rfl) rfl (by kernel_rfl) (evs_cons (show Env.ev E (.tmp 5) = _ from g5.trans rfl) (rfl)) (.cons (.agg (.cons (.d _) (.cons (.d _) (.cons (.d _) (.cons (.d _) (.cons (.d _) .nil)))))) .nil) (ok_impl_LimitsOk l) (.inr rfl) (At.freshRows hA_ rfl) (by simp) rfl))) ?_
      refine .cons (fun E hA_ => by have g6 := hA_.get 6 (by decide); exact OpStep.plain rfl (Step.move (p := (.one (.d (.bool true)))) (t := 7) rfl rfl (by exact lt_ok rfl) (show Env.ev E (.tmp 6) = _ from g6.trans rfl))) ?_
      refine .cons (fun E hA_ => by have g3 := hA_.get 3 (by decide); have g7 := hA_.get 7 (by decide); exact OpStep.yes (t := 7) rfl rfl (lt_ok rfl) (g7.trans rfl) (Step.fieldAddr (q := 0) (off := 0) (n := 1) (one := true) (t := 8) rfl rfl (by exact lt_ok rfl) (by kernel_rfl) (Nat.succ_ne_zero _) (show Env.ev E (.tmp 3) = _ from g3.trans rfl))) ?_
      refine .cons (fun E hA_ => by have g7 := hA_.get 7 (by decide); have g8 := hA_.get 8 (by decide); exact OpStep.yes (t := 7) rfl rfl (lt_ok rfl) (g7.trans rfl) (Step.load_box (c := .d (.int .i64 q.f0)) (t := 9) rfl rfl (by exact lt_ok rfl) (by kernel_rfl) (show Env.ev E (.tmp 8) = _ from g8.trans rfl) (by exact hA_.box rfl) rfl)) ?_
      refine .cons (fun E hA_ => by have g7 := hA_.get 7 (by decide); have g9 := hA_.get 9 (by decide); exact OpStep.yes (t := 7) rfl rfl (lt_ok rfl) (g7.trans rfl) (Step.to (E1 := E.set 10 (.one (.d (.bool (decide (0 ≤ q.f0 ∧ q.f0 ≤ 1152921504606846975)))))) (congrArg (fun b_ => E.set 10 (.one (.d (.bool b_)))) hb2) (Step.call (f := 99) (xs := [.tmp 9]) (ps := [(.one (.d (.int .i64 q.f0)))]) false (g := .func 99) (t := 10) rfl rfl (by exact lt_ok rfl) rfl (by kernel_rfl) (evs_cons (show Env.ev E (.tmp 9) = _ from g9.trans rfl) (rfl)) (.cons (.one (.d _)) .nil) (ok_impl_isNum q.f0) (.inr rfl) (At.freshRows hA_ rfl) (by simp) rfl))) ?_
      refine .cons (fun E hA_ => by have g7 := hA_.get 7 (by decide); have g10 := hA_.get 10 (by decide); exact OpStep.plain rfl (Step.pick (b := true) (p := (.one (.d (.bool true)))) (t := 11) rfl rfl (by exact lt_ok rfl) (show Env.ev E (.tmp 7) = _ from g7.trans rfl) (show Env.ev E (.tmp 10) = _ from g10.trans rfl))) ?_
      refine .cons (fun E hA_ => by have g11 := hA_.get 11 (by decide); exact OpStep.plain rfl (Step.move (p := (.one (.d (.bool true)))) (t := 12) rfl rfl (by exact lt_ok rfl) (show Env.ev E (.tmp 11) = _ from g11.trans rfl))) ?_
      refine .cons (fun E hA_ => by have g3 := hA_.get 3 (by decide); have g12 := hA_.get 12 (by decide); exact OpStep.yes (t := 12) rfl rfl (lt_ok rfl) (g12.trans rfl) (Step.fieldAddr (q := 0) (off := 1) (n := 1) (one := true) (t := 13) rfl rfl (by exact lt_ok rfl) (by kernel_rfl) (Nat.succ_ne_zero _) (show Env.ev E (.tmp 3) = _ from g3.trans rfl))) ?_
      refine .cons (fun E hA_ => by have g12 := hA_.get 12 (by decide); have g13 := hA_.get 13 (by decide); exact OpStep.yes (t := 12) rfl rfl (lt_ok rfl) (g12.trans rfl) (Step.load_box (c := .d (.int .i64 q.f1)) (t := 14) rfl rfl (by exact lt_ok rfl) (by kernel_rfl) (show Env.ev E (.tmp 13) = _ from g13.trans rfl) (by exact hA_.box rfl) rfl)) ?_
      refine .cons (fun E hA_ => by have g12 := hA_.get 12 (by decide); have g14 := hA_.get 14 (by decide); exact OpStep.yes (t := 12) rfl rfl (lt_ok rfl) (g12.trans rfl) (Step.to (E1 := E.set 15 (.one (.d (.bool (decide (0 ≤ q.f1 ∧ q.f1 ≤ 1152921504606846975)))))) (congrArg (fun b_ => E.set 15 (.one (.d (.bool b_)))) hb3) (Step.call (f := 99) (xs := [.tmp 14]) (ps := [(.one (.d (.int .i64 q.f1)))]) false (g := .func 99) (t := 15) rfl rfl (by exact lt_ok rfl) rfl (by kernel_rfl) (evs_cons (show Env.ev E (.tmp 14) = _ from g14.trans rfl) (rfl)) (.cons (.one (.d _)) .nil) (ok_impl_isNum q.f1) (.inr rfl) (At.freshRows hA_ rfl) (by simp) rfl))) ?_
      refine .cons (fun E hA_ => by have g12 := hA_.get 12 (by decide); have g15 := hA_.get 15 (by decide); exact OpStep.plain rfl (Step.pick (b := true) (p := (.one (.d (.bool true)))) (t := 16) rfl rfl (by exact lt_ok rfl) (show Env.ev E (.tmp 12) = _ from g12.trans rfl) (show Env.ev E (.tmp 15) = _ from g15.trans rfl))) ?_
      refine .cons (fun E hA_ => by have g16 := hA_.get 16 (by decide); exact OpStep.plain rfl (Step.move (p := (.one (.d (.bool true)))) (t := 17) rfl rfl (by exact lt_ok rfl) (show Env.ev E (.tmp 16) = _ from g16.trans rfl))) ?_
      refine .cons (fun E hA_ => by have g3 := hA_.get 3 (by decide); have g17 := hA_.get 17 (by decide); exact OpStep.yes (t := 17) rfl rfl (lt_ok rfl) (g17.trans rfl) (Step.fieldAddr (q := 0) (off := 2) (n := 1) (one := true) (t := 18) rfl rfl (by exact lt_ok rfl) (by kernel_rfl) (Nat.succ_ne_zero _) (show Env.ev E (.tmp 3) = _ from g3.trans rfl))) ?_
      refine .cons (fun E hA_ => by have g17 := hA_.get 17 (by decide); have g18 := hA_.get 18 (by decide); exact OpStep.yes (t := 17) rfl rfl (lt_ok rfl) (g17.trans rfl) (Step.load_box (c := .d (.ints .u8 q.f2)) (t := 19) rfl rfl (by exact lt_ok rfl) (by kernel_rfl) (show Env.ev E (.tmp 18) = _ from g18.trans rfl) (by exact hA_.box rfl) rfl)) ?_
      refine .cons (fun E hA_ => by have g17 := hA_.get 17 (by decide); have g19 := hA_.get 19 (by decide); exact OpStep.yes (t := 17) rfl rfl (lt_ok rfl) (g17.trans rfl) (Step.lit_d (e := 22) (z := 1) (by_ := 24) (xs := [.tmp 19]) (pss := [[.d (.ints .u8 q.f2)]]) (ds := [(.ints .u8 q.f2)]) (d := (.bss [q.f2])) (t := 20) rfl rfl (by exact lt_ok rfl) (by kernel_rfl) rfl rfl (.cons (by exact (congrArg PV.flat (show Env.ev E (.tmp 19) = _ from g19.trans rfl)).trans rfl) .nil) (by simp) (le_ok rfl) (le_ok rfl) rfl rfl trivial rfl rfl)) ?_
      refine .cons (fun E hA_ => by have g17 := hA_.get 17 (by decide); have g20 := hA_.get 20 (by decide); exact OpStep.yes (t := 17) rfl rfl (lt_ok rfl) (g17.trans rfl) (Step.to (E1 := E.set 21 (.one (.d (.bool (hashes [q.f2]))))) (congrArg (fun b_ => E.set 21 (.one (.d (.bool b_)))) hb4) (Step.call (f := 55) (xs := [.tmp 20]) (ps := [(.one (.d (.bss [q.f2])))]) false (g := .func 55) (t := 21) rfl rfl (by exact lt_ok rfl) rfl (by kernel_rfl) (evs_cons (show Env.ev E (.tmp 20) = _ from g20.trans rfl) (rfl)) (.cons (.one (.d _)) .nil) (ok_impl_areHashes [q.f2]) (.inr rfl) (At.freshRows hA_ rfl) (by simp) rfl))) ?_
      refine .cons (fun E hA_ => by have g17 := hA_.get 17 (by decide); have g21 := hA_.get 21 (by decide); exact OpStep.plain rfl (Step.pick (b := true) (p := (.one (.d (.bool false)))) (t := 22) rfl rfl (by exact lt_ok rfl) (show Env.ev E (.tmp 17) = _ from g17.trans rfl) (show Env.ev E (.tmp 21) = _ from g21.trans rfl))) ?_
      refine .cons (fun E hA_ => by have g22 := hA_.get 22 (by decide); exact OpStep.plain rfl (Step.move (p := (.one (.d (.bool false)))) (t := 23) rfl rfl (by exact lt_ok rfl) (show Env.ev E (.tmp 22) = _ from g22.trans rfl))) ?_
      refine .cons (fun E hA_ => OpStep.off (t := 23) rfl rfl (lt_ok rfl) ((hA_.get 23 (by decide)).trans rfl) (by decide) rfl (lt_ok rfl)) ?_
      refine .cons (fun E hA_ => OpStep.off (t := 23) rfl rfl (lt_ok rfl) ((hA_.get 23 (by decide)).trans rfl) (by decide) rfl (lt_ok rfl)) ?_
      refine .cons (fun E hA_ => OpStep.off (t := 23) rfl rfl (lt_ok rfl) ((hA_.get 23 (by decide)).trans rfl) (by decide) rfl (lt_ok rfl)) ?_
      refine .cons (fun E hA_ => OpStep.off (t := 23) rfl rfl (lt_ok rfl) ((hA_.get 23 (by decide)).trans rfl) (by decide) rfl (lt_ok rfl)) ?_
      refine .cons (fun E hA_ => OpStep.off (t := 23) rfl rfl (lt_ok rfl) ((hA_.get 23 (by decide)).trans rfl) (by decide) rfl (lt_ok rfl)) ?_
      refine .cons (fun E hA_ => by have g23 := hA_.get 23 (by decide); have g28 := hA_.get 28 (by decide); exact OpStep.plain rfl (Step.pick (b := false) (p := (.one (.d (.bool false)))) (t := 29) rfl rfl (by exact lt_ok rfl) (show Env.ev E (.tmp 23) = _ from g23.trans rfl) rfl)) ?_
      refine .cons (fun E hA_ => by have g29 := hA_.get 29 (by decide); exact OpStep.plain rfl (Step.move (p := (.one (.d (.bool false)))) (t := 30) rfl rfl (by exact lt_ok rfl) (show Env.ev E (.tmp 29) = _ from g29.trans rfl))) ?_
      refine .cons (fun E hA_ => OpStep.off (t := 30) rfl rfl (lt_ok rfl) ((hA_.get 30 (by decide)).trans rfl) (by decide) rfl (lt_ok rfl)) ?_
      refine .cons (fun E hA_ => OpStep.off (t := 30) rfl rfl (lt_ok rfl) ((hA_.get 30 (by decide)).trans rfl) (by decide) rfl (lt_ok rfl)) ?_
      refine .cons (fun E hA_ => OpStep.off (t := 30) rfl rfl (lt_ok rfl) ((hA_.get 30 (by decide)).trans rfl) (by decide) rfl (lt_ok rfl)) ?_
      refine .cons (fun E hA_ => OpStep.off (t := 30) rfl rfl (lt_ok rfl) ((hA_.get 30 (by decide)).trans rfl) (by decide) rfl (lt_ok rfl)) ?_
      refine .cons (fun E hA_ => OpStep.off (t := 30) rfl rfl (lt_ok rfl) ((hA_.get 30 (by decide)).trans rfl) (by decide) rfl (lt_ok rfl)) ?_
      refine .cons (fun E hA_ => OpStep.off (t := 30) rfl rfl (lt_ok rfl) ((hA_.get 30 (by decide)).trans rfl) (by decide) rfl (lt_ok rfl)) ?_
      refine .cons (fun E hA_ => OpStep.off (t := 30) rfl rfl (lt_ok rfl) ((hA_.get 30 (by decide)).trans rfl) (by decide) rfl (lt_ok rfl)) ?_
      refine .cons (fun E hA_ => by have g30 := hA_.get 30 (by decide); have g37 := hA_.get 37 (by decide); exact OpStep.plain rfl (Step.pick (b := false) (p := (.one (.d (.bool false)))) (t := 38) rfl rfl (by exact lt_ok rfl) (show Env.ev E (.tmp 30) = _ from g30.trans rfl) rfl)) ?_
      refine .cons (fun E hA_ => by have g38 := hA_.get 38 (by decide); exact OpStep.plain rfl (Step.move (p := (.one (.d (.bool false)))) (t := 39) rfl rfl (by exact lt_ok rfl) (show Env.ev E (.tmp 38) = _ from g38.trans rfl))) ?_
      refine .cons (fun E hA_ => OpStep.off (t := 39) rfl rfl (lt_ok rfl) ((hA_.get 39 (by decide)).trans rfl) (by decide) rfl (lt_ok rfl)) ?_
      refine .cons (fun E hA_ => OpStep.off (t := 39) rfl rfl (lt_ok rfl) ((hA_.get 39 (by decide)).trans rfl) (by decide) rfl (lt_ok rfl)) ?_
      refine .cons (fun E hA_ => OpStep.off (t := 39) rfl rfl (lt_ok rfl) ((hA_.get 39 (by decide)).trans rfl) (by decide) rfl (lt_ok rfl)) ?_
      refine .cons (fun E hA_ => by have g39 := hA_.get 39 (by decide); have g42 := hA_.get 42 (by decide); exact OpStep.plain rfl (Step.pick (b := false) (p := (.one (.d (.bool false)))) (t := 43) rfl rfl (by exact lt_ok rfl) (show Env.ev E (.tmp 39) = _ from g39.trans rfl) rfl)) ?_
      refine .cons (fun E hA_ => by have g43 := hA_.get 43 (by decide); exact OpStep.plain rfl (Step.assign (p := (.one (.d (.bool false)))) (t := 4) rfl rfl (by exact lt_ok rfl) (show Env.ev E (.tmp 43) = _ from g43.trans rfl))) ?_
      exact .nil _ _
     refine TL.nil ?_
     refine T.ret ?_
     refine ⟨[(false, [.d (.bool false)])], (.cons rfl .nil), rfl, [], (RetC.rd' ?_ .nil)⟩ <;> (first | rfl | (congr 1; symm; simp only [qcOk, hashes, List.all_cons, List.all_nil, *, Bool.and_true, Bool.true_and, Bool.and_false, Bool.false_and, decide_true, decide_false, and_true, true_and, and_self, and_false, false_and, Bool.and_self, not_true, not_false, Bool.not_true, Bool.not_false, ge_iff_le, gt_iff_lt, if_true, if_false, Bool.false_eq_true, ite_true, ite_false, reduceIte]; done) | (congr 1; symm; simp_all [qcOk, hashes, List.all_cons, List.all_nil]; done) | (congr 1; symm; simp_all [qcOk, hashes, List.all_cons, List.all_nil]; omega))
   ·
    refine T.draw [⟨5, (.agg [.d (.int .i64 l.f0), .d (.int .i64 l.f1), .d (.int .i64 l.f2), .d (.int .i64 l.f3), .d (.int .i64 l.f4)]), []⟩, ⟨6, (.one (.d (.bool true))), []⟩, ⟨7, (.one (.d (.bool true))), []⟩, ⟨8, (.one (.ptr 3 0)), []⟩, ⟨9, (.one (.d (.int .i64 q.f0))), []⟩, ⟨10, (.one (.d (.bool true))), []⟩, ⟨11, (.one (.d (.bool true))), []⟩, ⟨12, (.one (.d (.bool true))), []⟩, ⟨13, (.one (.ptr 3 1)), []⟩, ⟨14, (.one (.d (.int .i64 q.f1))), []⟩, ⟨15, (.one (.d (.bool false))), []⟩, ⟨16, (.one (.d (.bool false))), []⟩, ⟨17, (.one (.d (.bool false))), []⟩, ⟨18, (.tup []), []⟩, ⟨19, (.tup []), []⟩, ⟨20, (.tup []), []⟩, ⟨21, (.tup []), []⟩, ⟨22, (.one (.d (.bool false))), []⟩, ⟨23, (.one (.d (.bool false))), []⟩, ⟨24, (.tup []), []⟩, ⟨25, (.tup []), []⟩, ⟨26, (.tup []), []⟩, ⟨27, (.tup []), []⟩, ⟨28, (.tup []), []⟩, ⟨29, (.one (.d (.bool false))), []⟩, ⟨30, (.one (.d (.bool false))), []⟩, ⟨31, (.tup []), []⟩, ⟨32, (.tup []), []⟩, ⟨33, (.tup []), []⟩, ⟨34, (.tup []), []⟩, ⟨35, (.tup []), []⟩, ⟨36, (.tup []), []⟩, ⟨37, (.tup []), []⟩, ⟨38, (.one (.d (.bool false))), []⟩, ⟨39, (.one (.d (.bool false))), []⟩, ⟨40, (.tup []), []⟩, ⟨41, (.tup []), []⟩, ⟨42, (.tup []), []⟩, ⟨43, (.one (.d (.bool false))), []⟩, ⟨4, (.one (.d (.bool false))), []⟩] (by kernel_rfl) (by kernel_rfl) ?_ ?_
    ·
     refine .cons (fun E hA_ => by have g2 := hA_.get 2 (by decide); exact OpStep.plain rfl (Step.load_box_agg (n := 5) (qs := [.d (.int .i64 l.f0), .d (.int .i64 l.f1), .d (.int .i64 l.f2), .d (.int .i64 l.f3), .d (.int .i64 l.f4)]) (t := 5) rfl rfl (by exact lt_ok rfl) (by kernel_rfl) (show Env.ev E (.tmp 2) = _ from g2.trans rfl) (by exact hA_.box rfl) rfl rfl)) ?_
     refine .cons (fun E hA_ => by have g5 := hA_.get 5 (by decide); exact OpStep.plain rfl (Step.to (E1 := E.set 6 (.one (.d (.bool (limOk l))))) (congrArg (fun b_ => E.set 6 (.one (.d (.bool b_)))) hb1) (Step.call (f := 114) (xs := [.tmp 5]) (ps := [(.agg [.d (.int .i64 l.f0), .d (.int .i64 l.f1), .d (.int .i64 l.f2), .d (.int .i64 l.f3), .d (.int .i64 l.f4)])]) false (g := .func 114) (t := 6) rfl rfl (by exact lt_ok rfl) rfl (by kernel_rfl) (evs_cons (show Env.ev E (.tmp 5) = _ from g5.trans rfl) (rfl)) (.cons (.agg (.cons (.d _) (.cons (.d _) (.cons (.d _) (.cons (.d _) (.cons (.d _) .nil)))))) .nil) (ok_impl_LimitsOk l) (.inr rfl) (At.freshRows hA_ rfl) (by simp) rfl))) ?_
     refine .cons (fun E hA_ => by have g6 := hA_.get 6 (by decide); exact OpStep.plain rfl (Step.move (p := (.one (.d (.bool true)))) (t := 7) rfl rfl (by exact lt_ok rfl) (show Env.ev E (.tmp 6) = _ from g6.trans rfl))) ?_
     refine .cons (fun E hA_ => by have g3 := hA_.get 3 (by decide); have g7 := hA_.get 7 (by decide); exact OpStep.yes (t := 7) rfl rfl (lt_ok rfl) (g7.trans rfl) (Step.fieldAddr (q := 0) (off := 0) (n := 1) (one := true) (t := 8) rfl rfl (by exact lt_ok rfl) (by kernel_rfl) (Nat.succ_ne_zero _) (show Env.ev E (.tmp 3) = _ from g3.trans rfl))) ?_
     refine .cons (fun E hA_ => by have g7 := hA_.get 7 (by decide); have g8 := hA_.get 8 (by decide); exact OpStep.yes (t := 7) rfl rfl (lt_ok rfl) (g7.trans rfl) (Step.load_box (c := .d (.int .i64 q.f0)) (t := 9) rfl rfl (by exact lt_ok rfl) (by kernel_rfl) (show Env.ev E (.tmp 8) = _ from g8.trans rfl) (by exact hA_.box rfl) rfl)) ?_
     refine .cons (fun E hA_ => by have g7 := hA_.get 7 (by decide); have g9 := hA_.get 9 (by decide); exact OpStep.yes (t := 7) rfl rfl (lt_ok rfl) (g7.trans rfl) (Step.to (E1 := E.set 10 (.one (.d (.bool (decide (0 ≤ q.f0 ∧ q.f0 ≤ 1152921504606846975)))))) (congrArg (fun b_ => E.set 10 (.one (.d (.bool b_)))) hb2) (Step.call (f := 99) (xs := [.tmp 9]) (ps := [(.one (.d (.int .i64 q.f0)))]) false (g := .func 99) (t := 10) rfl rfl (by exact lt_ok rfl) rfl (by kernel_rfl) (evs_cons (show Env.ev E (.tmp 9) = _ from g9.trans rfl) (rfl)) (.cons (.one (.d _)) .nil) (ok_impl_isNum q.f0) (.inr rfl) (At.freshRows hA_ rfl) (by simp) rfl))) ?_
     refine .cons (fun E hA_ => by have g7 := hA_.get 7 (by decide); have g10 := hA_.get 10 (by decide); exact OpStep.plain rfl (Step.pick (b := true) (p := (.one (.d (.bool true)))) (t := 11) rfl rfl (by exact lt_ok rfl) (show Env.ev E (.tmp 7) = _ from g7.trans rfl) (show Env.ev E (.tmp 10) = _ from g10.trans rfl))) ?_
     refine .cons (fun E hA_ => by have g11 := hA_.get 11 (by decide); exact OpStep.plain rfl (Step.move (p := (.one (.d (.bool true)))) (t := 12) rfl rfl (by exact lt_ok rfl) (show Env.ev E (.tmp 11) = _ from g11.trans rfl))) ?_
     refine .cons (fun E hA_ => by have g3 := hA_.get 3 (by decide); have g12 := hA_.get 12 (by decide); exact OpStep.yes (t := 12) rfl rfl (lt_ok rfl) (g12.trans rfl) (Step.fieldAddr (q := 0) (off := 1) (n := 1) (one := true) (t := 13) rfl rfl (by exact lt_ok rfl) (by kernel_rfl) (Nat.succ_ne_zero _) (show Env.ev E (.tmp 3) = _ from g3.trans rfl))) ?_
     refine .cons (fun E hA_ => by have g12 := hA_.get 12 (by decide); have g13 := hA_.get 13 (by decide); exact OpStep.yes (t := 12) rfl rfl (lt_ok rfl) (g12.trans rfl) (Step.load_box (c := .d (.int .i64 q.f1)) (t := 14) rfl rfl (by exact lt_ok rfl) (by kernel_rfl) (show Env.ev E (.tmp 13) = _ from g13.trans rfl) (by exact hA_.box rfl) rfl)) ?_
     refine .cons (fun E hA_ => by have g12 := hA_.get 12 (by decide); have g14 := hA_.get 14 (by decide); exact OpStep.yes (t := 12) rfl rfl (lt_ok rfl) (g12.trans rfl) (Step.to (E1 := E.set 15 (.one (.d (.bool (decide (0 ≤ q.f1 ∧ q.f1 ≤ 1152921504606846975)))))) (congrArg (fun b_ => E.set 15 (.one (.d (.bool b_)))) hb3) (Step.call (f := 99) (xs := [.tmp 14]) (ps := [(.one (.d (.int .i64 q.f1)))]) false (g := .func 99) (t := 15) rfl rfl (by exact lt_ok rfl) rfl (by kernel_rfl) (evs_cons (show Env.ev E (.tmp 14) = _ from g14.trans rfl) (rfl)) (.cons (.one (.d _)) .nil) (ok_impl_isNum q.f1) (.inr rfl) (At.freshRows hA_ rfl) (by simp) rfl))) ?_
     refine .cons (fun E hA_ => by have g12 := hA_.get 12 (by decide); have g15 := hA_.get 15 (by decide); exact OpStep.plain rfl (Step.pick (b := true) (p := (.one (.d (.bool false)))) (t := 16) rfl rfl (by exact lt_ok rfl) (show Env.ev E (.tmp 12) = _ from g12.trans rfl) (show Env.ev E (.tmp 15) = _ from g15.trans rfl))) ?_
     refine .cons (fun E hA_ => by have g16 := hA_.get 16 (by decide); exact OpStep.plain rfl (Step.move (p := (.one (.d (.bool false)))) (t := 17) rfl rfl (by exact lt_ok rfl) (show Env.ev E (.tmp 16) = _ from g16.trans rfl))) ?_
     refine .cons (fun E hA_ => OpStep.off (t := 17) rfl rfl (lt_ok rfl) ((hA_.get 17 (by decide)).trans rfl) (by decide) rfl (lt_ok rfl)) ?_
     refine .cons (fun E hA_ => OpStep.off (t := 17) rfl rfl (lt_ok rfl) ((hA_.get 17 (by decide)).trans rfl) (by decide) rfl (lt_ok rfl)) ?_
     refine .cons (fun E hA_ => OpStep.off (t := 17) rfl rfl (lt_ok rfl) ((hA_.get 17 (by decide)).trans rfl) (by decide) rfl (lt_ok rfl)) ?_
     refine .cons (fun E hA_ => OpStep.off (t := 17) rfl rfl (lt_ok rfl) ((hA_.get 17 (by decide)).trans rfl) (by decide) rfl (lt_ok rfl)) ?_
     refine .cons (fun E hA_ => by have g17 := hA_.get 17 (by decide); have g21 := hA_.get 21 (by decide); exact OpStep.plain rfl (Step.pick (b := false) (p := (.one (.d (.bool false)))) (t := 22) rfl rfl (by exact lt_ok rfl) (show Env.ev E (.tmp 17) = _ from g17.trans rfl) rfl)) ?_
     refine .cons (fun E hA_ => by have g22 := hA_.get 22 (by decide); exact OpStep.plain rfl (Step.move (p := (.one (.d (.bool false)))) (t := 23) rfl rfl (by exact lt_ok rfl) (show Env.ev E (.tmp 22) = _ from g22.trans rfl))) ?_
     refine .cons (fun E hA_ => OpStep.off (t := 23) rfl rfl (lt_ok rfl) ((hA_.get 23 (by decide)).trans rfl) (by decide) rfl (lt_ok rfl)) ?_
     refine .cons (fun E hA_ => OpStep.off (t := 23) rfl rfl (lt_ok rfl) ((hA_.get 23 (by decide)).trans rfl) (by decide) rfl (lt_ok rfl)) ?_
     refine .cons (fun E hA_ => OpStep.off (t := 23) rfl rfl (lt_ok rfl) ((hA_.get 23 (by decide)).trans rfl) (by decide) rfl (lt_ok rfl)) ?_
     refine .cons (fun E hA_ => OpStep.off (t := 23) rfl rfl (lt_ok rfl) ((hA_.get 23 (by decide)).trans rfl) (by decide) rfl (lt_ok rfl)) ?_
     refine .cons (fun E hA_ => OpStep.off (t := 23) rfl rfl (lt_ok rfl) ((hA_.get 23 (by decide)).trans rfl) (by decide) rfl (lt_ok rfl)) ?_
     refine .cons (fun E hA_ => by have g23 := hA_.get 23 (by decide); have g28 := hA_.get 28 (by decide); exact OpStep.plain rfl (Step.pick (b := false) (p := (.one (.d (.bool false)))) (t := 29) rfl rfl (by exact lt_ok rfl) (show Env.ev E (.tmp 23) = _ from g23.trans rfl) rfl)) ?_
     refine .cons (fun E hA_ => by have g29 := hA_.get 29 (by decide); exact OpStep.plain rfl (Step.move (p := (.one (.d (.bool false)))) (t := 30) rfl rfl (by exact lt_ok rfl) (show Env.ev E (.tmp 29) = _ from g29.trans rfl))) ?_
     refine .cons (fun E hA_ => OpStep.off (t := 30) rfl rfl (lt_ok rfl) ((hA_.get 30 (by decide)).trans rfl) (by decide) rfl (lt_ok rfl)) ?_
     refine .cons (fun E hA_ => OpStep.off (t := 30) rfl rfl (lt_ok rfl) ((hA_.get 30 (by decide)).trans rfl) (by decide) rfl (lt_ok rfl)) ?_
     refine .cons (fun E hA_ => OpStep.off (t := 30) rfl rfl (lt_ok rfl) ((hA_.get 30 (by decide)).trans rfl) (by decide) rfl (lt_ok rfl)) ?_
     refine .cons (fun E hA_ => OpStep.off (t := 30) rfl rfl (lt_ok rfl) ((hA_.get 30 (by decide)).trans rfl) (by decide) rfl (lt_ok rfl)) ?_
     refine .cons (fun E hA_ => OpStep.off (t := 30) rfl rfl (lt_ok rfl) ((hA_.get 30 (by decide)).trans rfl) (by decide) rfl (lt_ok rfl)) ?_
     refine .cons (fun E hA_ => OpStep.off (t := 30) rfl rfl (lt_ok rfl) ((hA_.get 30 (by decide)).trans rfl) (by decide) rfl (lt_ok rfl)) ?_
     refine .cons (fun E hA_ => OpStep.off (t := 30) rfl rfl (lt_ok rfl) ((hA_.get 30 (by decide)).trans rfl) (by decide) rfl (lt_ok rfl)) ?_
     refine .cons (fun E hA_ => by have g30 := hA_.get 30 (by decide); have g37 := hA_.get 37 (by decide); exact OpStep.plain rfl (Step.pick (b := false) (p := (.one (.d (.bool false)))) (t := 38) rfl rfl (by exact lt_ok rfl) (show Env.ev E (.tmp 30) = _ from g30.trans rfl) rfl)) ?_
     refine .cons (fun E hA_ => by have g38 := hA_.get 38 (by decide); exact OpStep.plain rfl (Step.move (p := (.one (.d (.bool false)))) (t := 39) rfl rfl (by exact lt_ok rfl) (show Env.ev E (.tmp 38) = _ from g38.trans rfl))) ?_
     refine .cons (fun E hA_ => OpStep.off (t := 39) rfl rfl (lt_ok rfl) ((hA_.get 39 (by decide)).trans rfl) (by decide) rfl (lt_ok rfl)) ?_
     refine .cons (fun E hA_ => OpStep.off (t := 39) rfl rfl (lt_ok rfl) ((hA_.get 39 (by decide)).trans rfl) (by decide) rfl (lt_ok rfl)) ?_
     refine .cons (fun E hA_ => OpStep.off (t := 39) rfl rfl (lt_ok rfl) ((hA_.get 39 (by decide)).trans rfl) (by decide) rfl (lt_ok rfl)) ?_
     refine .cons (fun E hA_ => by have g39 := hA_.get 39 (by decide); have g42 := hA_.get 42 (by decide); exact OpStep.plain rfl (Step.pick (b := false) (p := (.one (.d (.bool false)))) (t := 43) rfl rfl (by exact lt_ok rfl) (show Env.ev E (.tmp 39) = _ from g39.trans rfl) rfl)) ?_
     refine .cons (fun E hA_ => by have g43 := hA_.get 43 (by decide); exact OpStep.plain rfl (Step.assign (p := (.one (.d (.bool false)))) (t := 4) rfl rfl (by exact lt_ok rfl) (show Env.ev E (.tmp 43) = _ from g43.trans rfl))) ?_
     exact .nil _ _
    refine TL.nil ?_
    refine T.ret ?_
    refine ⟨[(false, [.d (.bool false)])], (.cons rfl .nil), rfl, [], (RetC.rd' ?_ .nil)⟩ <;> (first | rfl | (congr 1; symm; simp only [qcOk, hashes, List.all_cons, List.all_nil, *, Bool.and_true, Bool.true_and, Bool.and_false, Bool.false_and, decide_true, decide_false, and_true, true_and, and_self, and_false, false_and, Bool.and_self, not_true, not_false, Bool.not_true, Bool.not_false, ge_iff_le, gt_iff_lt, if_true, if_false, Bool.false_eq_true, ite_true, ite_false, reduceIte]; done) | (congr 1; symm; simp_all [qcOk, hashes, List.all_cons, List.all_nil]; done) | (congr 1; symm; simp_all [qcOk, hashes, List.all_cons, List.all_nil]; omega))
  ·
   refine T.draw [⟨5, (.agg [.d (.int .i64 l.f0), .d (.int .i64 l.f1), .d (.int .i64 l.f2), .d (.int .i64 l.f3), .d (.int .i64 l.f4)]), []⟩, ⟨6, (.one (.d (.bool true))), []⟩, ⟨7, (.one (.d (.bool true))), []⟩, ⟨8, (.one (.ptr 3 0)), []⟩, ⟨9, (.one (.d (.int .i64 q.f0))), []⟩, ⟨10, (.one (.d (.bool false))), []⟩, ⟨11, (.one (.d (.bool false))), []⟩, ⟨12, (.one (.d (.bool false))), []⟩, ⟨13, (.tup []), []⟩, ⟨14, (.tup []), []⟩, ⟨15, (.tup []), []⟩, ⟨16, (.one (.d (.bool false))), []⟩, ⟨17, (.one (.d (.bool false))), []⟩, ⟨18, (.tup []), []⟩, ⟨19, (.tup []), []⟩, ⟨20, (.tup []), []⟩, ⟨21, (.tup []), []⟩, ⟨22, (.one (.d (.bool false))), []⟩, ⟨23, (.one (.d (.bool false))), []⟩, ⟨24, (.tup []), []⟩, ⟨25, (.tup []), []⟩, ⟨26, (.tup []), []⟩, ⟨27, (.tup []), []⟩, ⟨28, (.tup []), []⟩, ⟨29, (.one (.d (.bool false))), []⟩, ⟨30, (.one (.d (.bool false))), []⟩, ⟨31, (.tup []), []⟩, ⟨32, (.tup []), []⟩, ⟨33, (.tup []), []⟩, ⟨34, (.tup []), []⟩, ⟨35, (.tup []), []⟩, ⟨36, (.tup []), []⟩, ⟨37, (.tup []), []⟩, ⟨38, (.one (.d (.bool false))), []⟩, ⟨39, (.one (.d (.bool false))), []⟩, ⟨40, (.tup []), []⟩, ⟨41, (.tup []), []⟩, ⟨42, (.tup []), []⟩, ⟨43, (.one (.d (.bool false))), []⟩, ⟨4, (.one (.d (.bool false))), []⟩] (by kernel_rfl) (by kernel_rfl) ?_ ?_
   ·
    refine .cons (fun E hA_ => by have g2 := hA_.get 2 (by decide); exact OpStep.plain rfl (Step.load_box_agg (n := 5) (qs := [.d (.int .i64 l.f0), .d (.int .i64 l.f1), .d (.int .i64 l.f2), .d (.int .i64 l.f3), .d (.int .i64 l.f4)]) (t := 5) rfl rfl (by exact lt_ok rfl) (by kernel_rfl) (show Env.ev E (.tmp 2) = _ from g2.trans rfl) (by exact hA_.box rfl) rfl rfl)) ?_
    refine .cons (fun E hA_ => by have g5 := hA_.get 5 (by decide); exact OpStep.plain rfl (Step.to (E1 := E.set 6 (.one (.d (.bool (limOk l))))) (congrArg (fun b_ => E.set 6 (.one (.d (.bool b_)))) hb1) (Step.call (f := 114) (xs := [.tmp 5]) (ps := [(.agg [.d (.int .i64 l.f0), .d (.int .i64 l.f1), .d (.int .i64 l.f2), .d (.int .i64 l.f3), .d (.int .i64 l.f4)])]) false (g := .func 114) (t := 6) rfl rfl (by exact lt_ok rfl) rfl (by kernel_rfl) (evs_cons (show Env.ev E (.tmp 5) = _ from g5.trans rfl) (rfl)) (.cons (.agg (.cons (.d _) (.cons (.d _) (.cons (.d _) (.cons (.d _) (.cons (.d _) .nil)))))) .nil) (ok_impl_LimitsOk l) (.inr rfl) (At.freshRows hA_ rfl) (by simp) rfl))) ?_
    refine .cons (fun E hA_ => by have g6 := hA_.get 6 (by decide); exact OpStep.plain rfl (Step.move (p := (.one (.d (.bool true)))) (t := 7) rfl rfl (by exact lt_ok rfl) (show Env.ev E (.tmp 6) = _ from g6.trans rfl))) ?_
    refine .cons (fun E hA_ => by have g3 := hA_.get 3 (by decide); have g7 := hA_.get 7 (by decide); exact OpStep.yes (t := 7) rfl rfl (lt_ok rfl) (g7.trans rfl) (Step.fieldAddr (q := 0) (off := 0) (n := 1) (one := true) (t := 8) rfl rfl (by exact lt_ok rfl) (by kernel_rfl) (Nat.succ_ne_zero _) (show Env.ev E (.tmp 3) = _ from g3.trans rfl))) ?_
    refine .cons (fun E hA_ => by have g7 := hA_.get 7 (by decide); have g8 := hA_.get 8 (by decide); exact OpStep.yes (t := 7) rfl rfl (lt_ok rfl) (g7.trans rfl) (Step.load_box (c := .d (.int .i64 q.f0)) (t := 9) rfl rfl (by exact lt_ok rfl) (by kernel_rfl) (show Env.ev E (.tmp 8) = _ from g8.trans rfl) (by exact hA_.box rfl) rfl)) ?_
    refine .cons (fun E hA_ => by have g7 := hA_.get 7 (by decide); have g9 := hA_.get 9 (by decide); exact OpStep.yes (t := 7) rfl rfl (lt_ok rfl) (g7.trans rfl) (Step.to (E1 := E.set 10 (.one (.d (.bool (decide (0 ≤ q.f0 ∧ q.f0 ≤ 1152921504606846975)))))) (congrArg (fun b_ => E.set 10 (.one (.d (.bool b_)))) hb2) (Step.call (f := 99) (xs := [.tmp 9]) (ps := [(.one (.d (.int .i64 q.f0)))]) false (g := .func 99) (t := 10) rfl rfl (by exact lt_ok rfl) rfl (by kernel_rfl) (evs_cons (show Env.ev E (.tmp 9) = _ from g9.trans rfl) (rfl)) (.cons (.one (.d _)) .nil) (ok_impl_isNum q.f0) (.inr rfl) (At.freshRows hA_ rfl) (by simp) rfl))) ?_
    refine .cons (fun E hA_ => by have g7 := hA_.get 7 (by decide); have g10 := hA_.get 10 (by decide); exact OpStep.plain rfl (Step.pick (b := true) (p := (.one (.d (.bool false)))) (t := 11) rfl rfl (by exact lt_ok rfl) (show Env.ev E (.tmp 7) = _ from g7.trans rfl) (show Env.ev E (.tmp 10) = _ from g10.trans rfl))) ?_
    refine .cons (fun E hA_ => by have g11 := hA_.get 11 (by decide); exact OpStep.plain rfl (Step.move (p := (.one (.d (.bool false)))) (t := 12) rfl rfl (by exact lt_ok rfl) (show Env.ev E (.tmp 11) = _ from g11.trans rfl))) ?_
    refine .cons (fun E hA_ => OpStep.off (t := 12) rfl rfl (lt_ok rfl) ((hA_.get 12 (by decide)).trans rfl) (by decide) rfl (lt_ok rfl)) ?_
    refine .cons (fun E hA_ => OpStep.off (t := 12) rfl rfl (lt_ok rfl) ((hA_.get 12 (by decide)).trans rfl) (by decide) rfl (lt_ok rfl)) ?_
    refine .cons (fun E hA_ => OpStep.off (t := 12) rfl rfl (lt_ok rfl) ((hA_.get 12 (by decide)).trans rfl) (by decide) rfl (lt_ok rfl)) ?_
    refine .cons (fun E hA_ => by have g12 := hA_.get 12 (by decide); have g15 := hA_.get 15 (by decide); exact OpStep.plain rfl (Step.pick (b := false) (p := (.one (.d (.bool false)))) (t := 16) rfl rfl (by exact lt_ok rfl) (show Env.ev E (.tmp 12) = _ from g12.trans rfl) rfl)) ?_
    refine .cons (fun E hA_ => by have g16 := hA_.get 16 (by decide); exact OpStep.plain rfl (Step.move (p := (.one (.d (.bool false)))) (t := 17) rfl rfl (by exact lt_ok rfl) (show Env.ev E (.tmp 16) = _ from g16.trans rfl))) ?_
    refine .cons (fun E hA_ => OpStep.off (t := 17) rfl rfl (lt_ok rfl) ((hA_.get 17 (by decide)).trans rfl) (by decide) rfl (lt_ok rfl)) ?_
    refine .cons (fun E hA_ => OpStep.off (t := 17) rfl rfl (lt_ok rfl) ((hA_.get 17 (by decide)).trans rfl) (by decide) rfl (lt_ok rfl)) ?_
    refine .cons (fun E hA_ => OpStep.off (t := 17) rfl rfl (lt_ok rfl) ((hA_.get 17 (by decide)).trans rfl) (by decide) rfl (lt_ok rfl)) ?_
    refine .cons (fun E hA_ => OpStep.off (t := 17) rfl rfl (lt_ok rfl) ((hA_.get 17 (by decide)).trans rfl) (by decide) rfl (lt_ok rfl)) ?_
    refine .cons (fun E hA_ => by have g17 := hA_.get 17 (by decide); have g21 := hA_.get 21 (by decide); exact OpStep.plain rfl (Step.pick (b := false) (p := (.one (.d (.bool false)))) (t := 22) rfl rfl (by exact lt_ok rfl) (show Env.ev E (.tmp 17) = _ from g17.trans rfl) rfl)) ?_
    refine .cons (fun E hA_ => by have g22 := hA_.get 22 (by decide); exact OpStep.plain rfl (Step.move (p := (.one (.d (.bool false)))) (t := 23) rfl rfl (by exact lt_ok rfl) (show Env.ev E (.tmp 22) = _ from g22.trans rfl))) ?_
    refine .cons (fun E hA_ => OpStep.off (t := 23) rfl rfl (lt_ok rfl) ((hA_.get 23 (by decide)).trans rfl) (by decide) rfl (lt_ok rfl)) ?_
    refine .cons (fun E hA_ => OpStep.off (t := 23) rfl rfl (lt_ok rfl) ((hA_.get 23 (by decide)).trans rfl) (by decide) rfl (lt_ok rfl)) ?_
    refine .cons (fun E hA_ => OpStep.off (t := 23) rfl rfl (lt_ok rfl) ((hA_.get 23 (by decide)).trans rfl) (by decide) rfl (lt_ok rfl)) ?_
    refine .cons (fun E hA_ => OpStep.off (t := 23) rfl rfl (lt_ok rfl) ((hA_.get 23 (by decide)).trans rfl) (by decide) rfl (lt_ok rfl)) ?_
    refine .cons (fun E hA_ => OpStep.off (t := 23) rfl rfl (lt_ok rfl) ((hA_.get 23 (by decide)).trans rfl) (by decide) rfl (lt_ok rfl)) ?_
    refine .cons (fun E hA_ => by have g23 := hA_.get 23 (by decide); have g28 := hA_.get 28 (by decide); exact OpStep.plain rfl (Step.pick (b := false) (p := (.one (.d (.bool false)))) (t := 29) rfl rfl (by exact lt_ok rfl) (show Env.ev E (.tmp 23) = _ from g23.trans rfl) rfl)) ?_
    refine .cons (fun E hA_ => by have g29 := hA_.get 29 (by decide); exact OpStep.plain rfl (Step.move (p := (.one (.d (.bool false)))) (t := 30) rfl rfl (by exact lt_ok rfl) (show Env.ev E (.tmp 29) = _ from g29.trans rfl))) ?_
    refine .cons (fun E hA_ => OpStep.off (t := 30) rfl rfl (lt_ok rfl) ((hA_.get 30 (by decide)).trans rfl) (by decide) rfl (lt_ok rfl)) ?_
    refine .cons (fun E hA_ => OpStep.off (t := 30) rfl rfl (lt_ok rfl) ((hA_.get 30 (by decide)).trans rfl) (by decide) rfl (lt_ok rfl)) ?_
    refine .cons (fun E hA_ => OpStep.off (t := 30) rfl rfl (lt_ok rfl) ((hA_.get 30 (by decide)).trans rfl) (by decide) rfl (lt_ok rfl)) ?_
    refine .cons (fun E hA_ => OpStep.off (t := 30) rfl rfl (lt_ok rfl) ((hA_.get 30 (by decide)).trans rfl) (by decide) rfl (lt_ok rfl)) ?_
    refine .cons (fun E hA_ => OpStep.off (t := 30) rfl rfl (lt_ok rfl) ((hA_.get 30 (by decide)).trans rfl) (by decide) rfl (lt_ok rfl)) ?_
    refine .cons (fun E hA_ => OpStep.off (t := 30) rfl rfl (lt_ok rfl) ((hA_.get 30 (by decide)).trans rfl) (by decide) rfl (lt_ok rfl)) ?_
    refine .cons (fun E hA_ => OpStep.off (t := 30) rfl rfl (lt_ok rfl) ((hA_.get 30 (by decide)).trans rfl) (by decide) rfl (lt_ok rfl)) ?_
    refine .cons (fun E hA_ => by have g30 := hA_.get 30 (by decide); have g37 := hA_.get 37 (by decide); exact OpStep.plain rfl (Step.pick (b := false) (p := (.one (.d (.bool false)))) (t := 38) rfl rfl (by exact lt_ok rfl) (show Env.ev E (.tmp 30) = _ from g30.trans rfl) rfl)) ?_
    refine .cons (fun E hA_ => by have g38 := hA_.get 38 (by decide); exact OpStep.plain rfl (Step.move (p := (.one (.d (.bool false)))) (t := 39) rfl rfl (by exact lt_ok rfl) (show Env.ev E (.tmp 38) = _ from g38.trans rfl))) ?_
    refine .cons (fun E hA_ => OpStep.off (t := 39) rfl rfl (lt_ok rfl) ((hA_.get 39 (by decide)).trans rfl) (by decide) rfl (lt_ok rfl)) ?_
    refine .cons (fun E hA_ => OpStep.off (t := 39) rfl rfl (lt_ok rfl) ((hA_.get 39 (by decide)).trans rfl) (by decide) rfl (lt_ok rfl)) ?_
    refine .cons (fun E hA_ => OpStep.off (t := 39) rfl rfl (lt_ok rfl) ((hA_.get 39 (by decide)).trans rfl) (by decide) rfl (lt_ok rfl)) ?_
    refine .cons (fun E hA_ => by have g39 := hA_.get 39 (by decide); have g42 := hA_.get 42 (by decide); exact OpStep.plain rfl (Step.pick (b := false) (p := (.one (.d (.bool false)))) (t := 43) rfl rfl (by exact lt_ok rfl) (show Env.ev E (.tmp 39) = _ from g39.trans rfl) rfl)) ?_
    refine .cons (fun E hA_ => by have g43 := hA_.get 43 (by decide); exact OpStep.plain rfl (Step.assign (p := (.one (.d (.bool false)))) (t := 4) rfl rfl (by exact lt_ok rfl) (show Env.ev E (.tmp 43) = _ from g43.trans rfl))) ?_
    exact .nil _ _
   refine TL.nil ?_
   refine T.ret ?_
   refine ⟨[(false, [.d (.bool false)])], (.cons rfl .nil), rfl, [], (RetC.rd' ?_ .nil)⟩ <;> (first | rfl | (congr 1; symm; simp only [qcOk, hashes, List.all_cons, List.all_nil, *, Bool.and_true, Bool.true_and, Bool.and_false, Bool.false_and, decide_true, decide_false, and_true, true_and, and_self, and_false, false_and, Bool.and_self, not_true, not_false, Bool.not_true, Bool.not_false, ge_iff_le, gt_iff_lt, if_true, if_false, Bool.false_eq_true, ite_true, ite_false, reduceIte]; done) | (congr 1; symm; simp_all [qcOk, hashes, List.all_cons, List.all_nil]; done) | (congr 1; symm; simp_all [qcOk, hashes, List.all_cons, List.all_nil]; omega))
 ·
  refine T.draw [⟨5, (.agg [.d (.int .i64 l.f0), .d (.int .i64 l.f1), .d (.int .i64 l.f2), .d (.int .i64 l.f3), .d (.int .i64 l.f4)]), []⟩, ⟨6, (.one (.d (.bool false))), []⟩, ⟨7, (.one (.d (.bool false))), []⟩, ⟨8, (.tup []), []⟩, ⟨9, (.tup []), []⟩, ⟨10, (.tup []), []⟩, ⟨11, (.one (.d (.bool false))), []⟩, ⟨12, (.one (.d (.bool false))), []⟩, ⟨13, (.tup []), []⟩, ⟨14, (.tup []), []⟩, ⟨15, (.tup []), []⟩, ⟨16, (.one (.d (.bool false))), []⟩, ⟨17, (.one (.d (.bool false))), []⟩, ⟨18, (.tup []), []⟩, ⟨19, (.tup []), []⟩, ⟨20, (.tup []), []⟩, ⟨21, (.tup []), []⟩, ⟨22, (.one (.d (.bool false))), []⟩, ⟨23, (.one (.d (.bool false))), []⟩, ⟨24, (.tup []), []⟩, ⟨25, (.tup []), []⟩, ⟨26, (.tup []), []⟩, ⟨27, (.tup []), []⟩, ⟨28, (.tup []), []⟩, ⟨29, (.one (.d (.bool false))), []⟩, ⟨30, (.one (.d (.bool false))), []⟩, ⟨31, (.tup []), []⟩, ⟨32, (.tup []), []⟩, ⟨33, (.tup []), []⟩, ⟨34, (.tup []), []⟩, ⟨35, (.tup []), []⟩, ⟨36, (.tup []), []⟩, ⟨37, (.tup []), []⟩, ⟨38, (.one (.d (.bool false))), []⟩, ⟨39, (.one (.d (.bool false))), []⟩, ⟨40, (.tup []), []⟩, ⟨41, (.tup []), []⟩, ⟨42, (.tup []), []⟩, ⟨43, (.one (.d (.bool false))), []⟩, ⟨4, (.one (.d (.bool false))), []⟩] (by kernel_rfl) (by kernel_rfl) ?_ ?_
  ·
   refine .cons (fun E hA_ => by have g2 := hA_.get 2 (by decide); exact OpStep.plain rfl (Step.load_box_agg (n := 5) (qs := [.d (.int .i64 l.f0), .d (.int .i64 l.f1), .d (.int .i64 l.f2), .d (.int .i64 l.f3), .d (.int .i64 l.f4)]) (t := 5) rfl rfl (by exact lt_ok rfl) (by kernel_rfl) (show Env.ev E (.tmp 2) = _ from g2.trans rfl) (by exact hA_.box rfl) rfl rfl)) ?_
   refine .cons (fun E hA_ => by have g5 := hA_.get 5 (by decide); exact OpStep.plain rfl (Step.to (E1 := E.set 6 (.one (.d (.bool (limOk l))))) (congrArg (fun b_ => E.set 6 (.one (.d (.bool b_)))) hb1) (Step.call (f := 114) (xs := [.tmp 5]) (ps := [(.agg [.d (.int .i64 l.f0), .d (.int .i64 l.f1), .d (.int .i64 l.f2), .d (.int .i64 l.f3), .d (.int .i64 l.f4)])]) false (g := .func 114) (t := 6) rfl rfl (by exact lt_ok rfl) rfl (by kernel_rfl) (evs_cons (show Env.ev E (.tmp 5) = _ from g5.trans rfl) (rfl)) (.cons (.agg (.cons (.d _) (.cons (.d _) (.cons (.d _) (.cons (.d _) (.cons (.d _) .nil)))))) .nil) (ok_impl_LimitsOk l) (.inr rfl) (At.freshRows hA_ rfl) (by simp) rfl))) ?_
   refine .cons (fun E hA_ => by have g6 := hA_.get 6 (by decide); exact OpStep.plain rfl (Step.move (p := (.one (.d (.bool false)))) (t := 7) rfl rfl (by exact lt_ok rfl) (show Env.ev E (.tmp 6) = _ from g6.trans rfl))) ?_
   refine .cons (fun E hA_ => OpStep.off (t := 7) rfl rfl (lt_ok rfl) ((hA_.get 7 (by decide)).trans rfl) (by decide) rfl (lt_ok rfl)) ?_
   refine .cons (fun E hA_ => OpStep.off (t := 7) rfl rfl (lt_ok rfl) ((hA_.get 7 (by decide)).trans rfl) (by decide) rfl (lt_ok rfl)) ?_
   refine .cons (fun E hA_ => OpStep.off (t := 7) rfl rfl (lt_ok rfl) ((hA_.get 7 (by decide)).trans rfl) (by decide) rfl (lt_ok rfl)) ?_
   refine .cons (fun E hA_ => by have g7 := hA_.get 7 (by decide); have g10 := hA_.get 10 (by decide); exact OpStep.plain rfl (Step.pick (b := false) (p := (.one (.d (.bool false)))) (t := 11) rfl rfl (by exact lt_ok rfl) (show Env.ev E (.tmp 7) = _ from g7.trans rfl) rfl)) ?_
   refine .cons (fun E hA_ => by have g11 := hA_.get 11 (by decide); exact OpStep.plain rfl (Step.move (p := (.one (.d (.bool false)))) (t := 12) rfl rfl (by exact lt_ok rfl) (show Env.ev E (.tmp 11) = _ from g11.trans rfl))) ?_
   refine .cons (fun E hA_ => OpStep.off (t := 12) rfl rfl (lt_ok rfl) ((hA_.get 12 (by decide)).trans rfl) (by decide) rfl (lt_ok rfl)) ?_
   refine .cons (fun E hA_ => OpStep.off (t := 12) rfl rfl (lt_ok rfl) ((hA_.get 12 (by decide)).trans rfl) (by decide) rfl (lt_ok rfl)) ?_
   refine .cons (fun E hA_ => OpStep.off (t := 12) rfl rfl (lt_ok rfl) ((hA_.get 12 (by decide)).trans rfl) (by decide) rfl (lt_ok rfl)) ?_
   refine .cons (fun E hA_ => by have g12 := hA_.get 12 (by decide); have g15 := hA_.get 15 (by decide); exact OpStep.plain rfl (Step.pick (b := false) (p := (.one (.d (.bool false)))) (t := 16) rfl rfl (by exact lt_ok rfl) (show Env.ev E (.tmp 12) = _ from g12.trans rfl) rfl)) ?_
   refine .cons (fun E hA_ => by have g16 := hA_.get 16 (by decide); exact OpStep.plain rfl (Step.move (p := (.one (.d (.bool false)))) (t := 17) rfl rfl (by exact lt_ok rfl) (show Env.ev E (.tmp 16) = _ from g16.trans rfl))) ?_
   refine .cons (fun E hA_ => OpStep.off (t := 17) rfl rfl (lt_ok rfl) ((hA_.get 17 (by decide)).trans rfl) (by decide) rfl (lt_ok rfl)) ?_
   refine .cons (fun E hA_ => OpStep.off (t := 17) rfl rfl (lt_ok rfl) ((hA_.get 17 (by decide)).trans rfl) (by decide) rfl (lt_ok rfl)) ?_
   refine .cons (fun E hA_ => OpStep.off (t := 17) rfl rfl (lt_ok rfl) ((hA_.get 17 (by decide)).trans rfl) (by decide) rfl (lt_ok rfl)) ?_
   refine .cons (fun E hA_ => OpStep.off (t := 17) rfl rfl (lt_ok rfl) ((hA_.get 17 (by decide)).trans rfl) (by decide) rfl (lt_ok rfl)) ?_
   refine .cons (fun E hA_ => by have g17 := hA_.get 17 (by decide); have g21 := hA_.get 21 (by decide); exact OpStep.plain rfl (Step.pick (b := false) (p := (.one (.d (.bool false)))) (t := 22) rfl rfl (by exact lt_ok rfl) (show Env.ev E (.tmp 17) = _ from g17.trans rfl) rfl)) ?_
   refine .cons (fun E hA_ => by have g22 := hA_.get 22 (by decide); exact OpStep.plain rfl (Step.move (p := (.one (.d (.bool false)))) (t := 23) rfl rfl (by exact lt_ok rfl) (show Env.ev E (.tmp 22) = _ from g22.trans rfl))) ?_
   refine .cons (fun E hA_ => OpStep.off (t := 23) rfl rfl (lt_ok rfl) ((hA_.get 23 (by decide)).trans rfl) (by decide) rfl (lt_ok rfl)) ?_
   refine .cons (fun E hA_ => OpStep.off (t := 23) rfl rfl (lt_ok rfl) ((hA_.get 23 (by decide)).trans rfl) (by decide) rfl (lt_ok rfl)) ?_
   refine .cons (fun E hA_ => OpStep.off (t := 23) rfl rfl (lt_ok rfl) ((hA_.get 23 (by decide)).trans rfl) (by decide) rfl (lt_ok rfl)) ?_
   refine .cons (fun E hA_ => OpStep.off (t := 23) rfl rfl (lt_ok rfl) ((hA_.get 23 (by decide)).trans rfl) (by decide) rfl (lt_ok rfl)) ?_
   refine .cons (fun E hA_ => OpStep.off (t := 23) rfl rfl (lt_ok rfl) ((hA_.get 23 (by decide)).trans rfl) (by decide) rfl (lt_ok rfl)) ?_
   refine .cons (fun E hA_ => by have g23 := hA_.get 23 (by decide); have g28 := hA_.get 28 (by decide); exact OpStep.plain rfl (Step.pick (b := false) (p := (.one (.d (.bool false)))) (t := 29) rfl rfl (by exact lt_ok rfl) (show Env.ev E (.tmp 23) = _ from g23.trans rfl) rfl)) ?_
   refine .cons (fun E hA_ => by have g29 := hA_.get 29 (by decide); exact OpStep.plain rfl (Step.move (p := (.one (.d (.bool false)))) (t := 30) rfl rfl (by exact lt_ok rfl) (show Env.ev E (.tmp 29) = _ from g29.trans rfl))) ?_
   refine .cons (fun E hA_ => OpStep.off (t := 30) rfl rfl (lt_ok rfl) ((hA_.get 30 (by decide)).trans rfl) (by decide) rfl (lt_ok rfl)) ?_
   refine .cons (fun E hA_ => OpStep.off (t := 30) rfl rfl (lt_ok rfl) ((hA_.get 30 (by decide)).trans rfl) (by decide) rfl (lt_ok rfl)) ?_
   refine .cons (fun E hA_ => OpStep.off (t := 30) rfl rfl (lt_ok rfl) ((hA_.get 30 (by decide)).trans rfl) (by decide) rfl (lt_ok rfl)) ?_
   refine .cons (fun E hA_ => OpStep.off (t := 30) rfl rfl (lt_ok rfl) ((hA_.get 30 (by decide)).trans rfl) (by decide) rfl (lt_ok rfl)) ?_
   refine .cons (fun E hA_ => OpStep.off (t := 30) rfl rfl (lt_ok rfl) ((hA_.get 30 (by decide)).trans rfl) (by decide) rfl (lt_ok rfl)) ?_
   refine .cons (fun E hA_ => OpStep.off (t := 30) rfl rfl (lt_ok rfl) ((hA_.get 30 (by decide)).trans rfl) (by decide) rfl (lt_ok rfl)) ?_
   refine .cons (fun E hA_ => OpStep.off (t := 30) rfl rfl (lt_ok rfl) ((hA_.get 30 (by decide)).trans rfl) (by decide) rfl (lt_ok rfl)) ?_
   refine .cons (fun E hA_ => by have g30 := hA_.get 30 (by decide); have g37 := hA_.get 37 (by decide); exact OpStep.plain rfl (Step.pick (b := false) (p := (.one (.d (.bool false)))) (t := 38) rfl rfl (by exact lt_ok rfl) (show Env.ev E (.tmp 30) = _ from g30.trans rfl) rfl)) ?_
   refine .cons (fun E hA_ => by have g38 := hA_.get 38 (by decide); exact OpStep.plain rfl (Step.move (p := (.one (.d (.bool false)))) (t := 39) rfl rfl (by exact lt_ok rfl) (show Env.ev E (.tmp 38) = _ from g38.trans rfl))) ?_
   refine .cons (fun E hA_ => OpStep.off (t := 39) rfl rfl (lt_ok rfl) ((hA_.get 39 (by decide)).trans rfl) (by decide) rfl (lt_ok rfl)) ?_
   refine .cons (fun E hA_ => OpStep.off (t := 39) rfl rfl (lt_ok rfl) ((hA_.get 39 (by decide)).trans rfl) (by decide) rfl (lt_ok rfl)) ?_
   refine .cons (fun E hA_ => OpStep.off (t := 39) rfl rfl (lt_ok rfl) ((hA_.get 39 (by decide)).trans rfl) (by decide) rfl (lt_ok rfl)) ?_
   refine .cons (fun E hA_ => by have g39 := hA_.get 39 (by decide); have g42 := hA_.get 42 (by decide); exact OpStep.plain rfl (Step.pick (b := false) (p := (.one (.d (.bool false)))) (t := 43) rfl rfl (by exact lt_ok rfl) (show Env.ev E (.tmp 39) = _ from g39.trans rfl) rfl)) ?_
   refine .cons (fun E hA_ => by have g43 := hA_.get 43 (by decide); exact OpStep.plain rfl (Step.assign (p := (.one (.d (.bool false)))) (t := 4) rfl rfl (by exact lt_ok rfl) (show Env.ev E (.tmp 43) = _ from g43.trans rfl))) ?_
   exact .nil _ _
  refine TL.nil ?_
  refine T.ret ?_
  refine ⟨[(false, [.d (.bool false)])], (.cons rfl .nil), rfl, [], (RetC.rd' ?_ .nil)⟩ <;> (first | rfl | (congr 1; symm; simp only [qcOk, hashes, List.all_cons, List.all_nil, *, Bool.and_true, Bool.true_and, Bool.and_false, Bool.false_and, decide_true, decide_false, and_true, true_and, and_self, and_false, false_and, Bool.and_self, not_true, not_false, Bool.not_true, Bool.not_false, ge_iff_le, gt_iff_lt, if_true, if_false, Bool.false_eq_true, ite_true, ite_false, reduceIte]; done) | (congr 1; symm; simp_all [qcOk, hashes, List.all_cons, List.all_nil]; done) | (congr 1; symm; simp_all [qcOk, hashes, List.all_cons, List.all_nil]; omega))
theorem ok_impl_Head__matches (h : SHead) (h0_ : h.ok) : RO Try.prog 100 [.agg h.cells] [(false, [.rd (.bool (headFits h))])] := by
 refine RO.intro Try.func100 rfl 26 rfl (le_ok rfl) fun w Z => ?_
 obtain ⟨o0, o1, o2, o3, o4, o5, o6, o7, o8, o9⟩ := h0_
 refine T.seq ?_
 refine T.region ?_
 refine TL.cons rfl (Step.box (p := (.agg [.d (.int .i64 h.f0), .d (.int .i64 h.f1), .d (.int .i64 h.f2), .d (.ints .u8 h.f3), .d (.ints .u8 h.f4), .d (.int .i64 h.f5.f0), .d (.int .i64 h.f5.f1), .d (.ints .u8 h.f5.f2), .d (.ints .u8 h.f5.f3), .d (.bss h.f5.f4)])) (ps := [.d (.int .i64 h.f0), .d (.int .i64 h.f1), .d (.int .i64 h.f2), .d (.ints .u8 h.f3), .d (.ints .u8 h.f4), .d (.int .i64 h.f5.f0), .d (.int .i64 h.f5.f1), .d (.ints .u8 h.f5.f2), .d (.ints .u8 h.f5.f3), .d (.bss h.f5.f4)]) rfl rfl (lt_ok rfl) rfl rfl rfl rfl rfl) ?_
 refine TL.cons rfl (Step.assign (p := (.one (.d (.bool false)))) rfl rfl (lt_ok rfl) rfl) ?_
 refine TL.nil ?_
 refine T.seq ?_
 refine T.region ?_
 refine TL.cons rfl (Step.fieldAddr (q := 0) (off := 5) (n := 5) (one := false) rfl rfl (lt_ok rfl) (by kernel_rfl) (Nat.succ_ne_zero _) rfl) ?_
 refine TL.cons rfl (Step.fieldAddr (q := 5) (off := 0) (n := 1) (one := true) rfl rfl (lt_ok rfl) (by kernel_rfl) (Nat.succ_ne_zero _) rfl) ?_
 refine TL.cons rfl (Step.load_box (c := .d (.int .i64 h.f5.f0)) rfl rfl (lt_ok rfl) (by kernel_rfl) rfl rfl rfl) ?_
 refine TL.cons rfl (Step.fieldAddr (q := 0) (off := 0) (n := 1) (one := true) rfl rfl (lt_ok rfl) (by kernel_rfl) (Nat.succ_ne_zero _) rfl) ?_
 refine TL.cons rfl (Step.load_box (c := .d (.int .i64 h.f0)) rfl rfl (lt_ok rfl) (by kernel_rfl) rfl rfl rfl) ?_
 refine TL.cons rfl (Step.bin rfl rfl (lt_ok rfl) rfl rfl (Bin.lss (k := .i64) (a := h.f5.f0) (b := h.f0))) ?_
 refine TL.cons rfl (Step.move (p := (.one (.d (.bool (decide (h.f5.f0 < h.f0)))))) rfl rfl (lt_ok rfl) rfl) ?_
 rcases Bool.eq_false_or_eq_true (decide (h.f5.f0 < h.f0)) with hb1 | hb1
 ·
  refine TL.known 9 hb1 rfl ?_
  refine TL.gyes 9 rfl rfl (lt_ok rfl) rfl (Step.fieldAddr (q := 0) (off := 5) (n := 5) (one := false) rfl rfl (lt_ok rfl) (by kernel_rfl) (Nat.succ_ne_zero _) rfl) ?_
  refine TL.gyes 9 rfl rfl (lt_ok rfl) rfl (Step.fieldAddr (q := 5) (off := 1) (n := 1) (one := true) rfl rfl (lt_ok rfl) (by kernel_rfl) (Nat.succ_ne_zero _) rfl) ?_
  refine TL.gyes 9 rfl rfl (lt_ok rfl) rfl (Step.load_box (c := .d (.int .i64 h.f5.f1)) rfl rfl (lt_ok rfl) (by kernel_rfl) rfl rfl rfl) ?_
  refine TL.gyes 9 rfl rfl (lt_ok rfl) rfl (Step.fieldAddr (q := 0) (off := 1) (n := 1) (one := true) rfl rfl (lt_ok rfl) (by kernel_rfl) (Nat.succ_ne_zero _) rfl) ?_
  refine TL.gyes 9 rfl rfl (lt_ok rfl) rfl (Step.load_box (c := .d (.int .i64 h.f1)) rfl rfl (lt_ok rfl) (by kernel_rfl) rfl rfl rfl) ?_
  refine TL.gyes 9 rfl rfl (lt_ok rfl) rfl (Step.bin (r := .int .i64 (IntKind.i64.wrap (h.f1 - 1))) rfl rfl (lt_ok rfl) rfl rfl (Bin.sub (a := h.f1) (b := 1) (rfl))) ?_
  refine TL.gyes 9 rfl rfl (lt_ok rfl) rfl (Step.bin rfl rfl (lt_ok rfl) rfl rfl (Bin.eql (k := .i64) (a := h.f5.f1) (b := (IntKind.i64.wrap (h.f1 - 1))))) ?_
  refine TL.cons rfl (Step.pick (b := true) (p := (.one (.d (.bool (decide (h.f5.f1 = (IntKind.i64.wrap (h.f1 - 1)))))))) rfl rfl (lt_ok rfl) rfl rfl) ?_
  refine TL.cons rfl (Step.move (p := (.one (.d (.bool (decide (h.f5.f1 = (IntKind.i64.wrap (h.f1 - 1)))))))) rfl rfl (lt_ok rfl) rfl) ?_
  rcases Bool.eq_false_or_eq_true (decide (h.f5.f1 = (IntKind.i64.wrap (h.f1 - 1)))) with hb2 | hb2
  ·
   refine TL.known 18 hb2 rfl ?_
   refine TL.gyes 18 rfl rfl (lt_ok rfl) rfl (Step.fieldAddr (q := 0) (off := 5) (n := 5) (one := false) rfl rfl (lt_ok rfl) (by kernel_rfl) (Nat.succ_ne_zero _) rfl) ?_
   refine TL.gyes 18 rfl rfl (lt_ok rfl) rfl (Step.fieldAddr (q := 5) (off := 2) (n := 1) (one := true) rfl rfl (lt_ok rfl) (by kernel_rfl) (Nat.succ_ne_zero _) rfl) ?_
   refine TL.gyes 18 rfl rfl (lt_ok rfl) rfl (Step.load_box (c := .d (.ints .u8 h.f5.f2)) rfl rfl (lt_ok rfl) (by kernel_rfl) rfl rfl rfl) ?_
   refine TL.gyes 18 rfl rfl (lt_ok rfl) rfl (Step.fieldAddr (q := 0) (off := 3) (n := 1) (one := true) rfl rfl (lt_ok rfl) (by kernel_rfl) (Nat.succ_ne_zero _) rfl) ?_
   refine TL.gyes 18 rfl rfl (lt_ok rfl) rfl (Step.load_box (c := .d (.ints .u8 h.f3)) rfl rfl (lt_ok rfl) (by kernel_rfl) rfl rfl rfl) ?_
   refine TL.gyes 18 rfl rfl (lt_ok rfl) rfl (Step.call (f := 17) (xs := [.tmp 21, .tmp 23]) (ps := [(.one (.d (.ints .u8 h.f5.f2))), (.one (.d (.ints .u8 h.f3)))]) false (g := .func 17) rfl rfl (lt_ok rfl) rfl (by kernel_rfl) rfl (.cons (.one (.d _)) (.cons (.one (.d _)) .nil)) (ok_impl_SameBytes h.f5.f2 h.f3 (by first | assumption | omega) (by first | assumption | omega)) (.inr rfl) rfl (by simp) rfl) ?_
   refine TL.cons rfl (Step.pick (b := true) (p := (.one (.d (.bool (decide (h.f5.f2 = h.f3)))))) rfl rfl (lt_ok rfl) rfl rfl) ?_
   refine TL.cons rfl (Step.assign (p := (.one (.d (.bool (decide (h.f5.f2 = h.f3)))))) rfl rfl (lt_ok rfl) rfl) ?_
   refine TL.nil ?_
   refine T.ret ?_
   refine ⟨[(false, [.d (.bool (decide (h.f5.f2 = h.f3)))])], (.cons rfl .nil), rfl, [], (RetC.rd' ?_ .nil)⟩ <;> (first | rfl | (congr 1; symm; simp only [headFits, *, Bool.and_true, Bool.true_and, Bool.and_false, Bool.false_and, decide_true, decide_false, and_true, true_and, and_self, and_false, false_and, Bool.and_self, not_true, not_false, Bool.not_true, Bool.not_false, ge_iff_le, gt_iff_lt, if_true, if_false, Bool.false_eq_true, ite_true, ite_false, reduceIte]; done) | (congr 1; symm; simp_all [headFits]; done) | (congr 1; symm; simp_all [headFits]; omega))
  ·
   refine TL.known 18 hb2 rfl ?_
   refine TL.goff 18 rfl rfl (lt_ok rfl) rfl rfl rfl (lt_ok rfl) ?_
   refine TL.goff 18 rfl rfl (lt_ok rfl) rfl rfl rfl (lt_ok rfl) ?_
   refine TL.goff 18 rfl rfl (lt_ok rfl) rfl rfl rfl (lt_ok rfl) ?_
   refine TL.goff 18 rfl rfl (lt_ok rfl) rfl rfl rfl (lt_ok rfl) ?_
   refine TL.goff 18 rfl rfl (lt_ok rfl) rfl rfl rfl (lt_ok rfl) ?_
   refine TL.goff 18 rfl rfl (lt_ok rfl) rfl rfl rfl (lt_ok rfl) ?_
   refine TL.cons rfl (Step.pick (b := false) (p := (.one (.d (.bool false)))) rfl rfl (lt_ok rfl) rfl rfl) ?_
   refine TL.cons rfl (Step.assign (p := (.one (.d (.bool false)))) rfl rfl (lt_ok rfl) rfl) ?_
   refine TL.nil ?_
   refine T.ret ?_
   refine ⟨[(false, [.d (.bool false)])], (.cons rfl .nil), rfl, [], (RetC.rd' ?_ .nil)⟩ <;> (first | rfl | (congr 1; symm; simp only [headFits, *, Bool.and_true, Bool.true_and, Bool.and_false, Bool.false_and, decide_true, decide_false, and_true, true_and, and_self, and_false, false_and, Bool.and_self, not_true, not_false, Bool.not_true, Bool.not_false, ge_iff_le, gt_iff_lt, if_true, if_false, Bool.false_eq_true, ite_true, ite_false, reduceIte]; done) | (congr 1; symm; simp_all [headFits]; done) | (congr 1; symm; simp_all [headFits]; omega))
 ·
  refine TL.known 9 hb1 rfl ?_
  refine TL.goff 9 rfl rfl (lt_ok rfl) rfl rfl rfl (lt_ok rfl) ?_
  refine TL.goff 9 rfl rfl (lt_ok rfl) rfl rfl rfl (lt_ok rfl) ?_
  refine TL.goff 9 rfl rfl (lt_ok rfl) rfl rfl rfl (lt_ok rfl) ?_
  refine TL.goff 9 rfl rfl (lt_ok rfl) rfl rfl rfl (lt_ok rfl) ?_
  refine TL.goff 9 rfl rfl (lt_ok rfl) rfl rfl rfl (lt_ok rfl) ?_
  refine TL.goff 9 rfl rfl (lt_ok rfl) rfl rfl rfl (lt_ok rfl) ?_
  refine TL.goff 9 rfl rfl (lt_ok rfl) rfl rfl rfl (lt_ok rfl) ?_
  refine TL.cons rfl (Step.pick (b := false) (p := (.one (.d (.bool false)))) rfl rfl (lt_ok rfl) rfl rfl) ?_
  refine TL.cons rfl (Step.move (p := (.one (.d (.bool false)))) rfl rfl (lt_ok rfl) rfl) ?_
  refine TL.goff 18 rfl rfl (lt_ok rfl) rfl rfl rfl (lt_ok rfl) ?_
  refine TL.goff 18 rfl rfl (lt_ok rfl) rfl rfl rfl (lt_ok rfl) ?_
  refine TL.goff 18 rfl rfl (lt_ok rfl) rfl rfl rfl (lt_ok rfl) ?_
  refine TL.goff 18 rfl rfl (lt_ok rfl) rfl rfl rfl (lt_ok rfl) ?_
  refine TL.goff 18 rfl rfl (lt_ok rfl) rfl rfl rfl (lt_ok rfl) ?_
  refine TL.goff 18 rfl rfl (lt_ok rfl) rfl rfl rfl (lt_ok rfl) ?_
  refine TL.cons rfl (Step.pick (b := false) (p := (.one (.d (.bool false)))) rfl rfl (lt_ok rfl) rfl rfl) ?_
  refine TL.cons rfl (Step.assign (p := (.one (.d (.bool false)))) rfl rfl (lt_ok rfl) rfl) ?_
  refine TL.nil ?_
  refine T.ret ?_
  refine ⟨[(false, [.d (.bool false)])], (.cons rfl .nil), rfl, [], (RetC.rd' ?_ .nil)⟩ <;> (first | rfl | (congr 1; symm; simp only [headFits, *, Bool.and_true, Bool.true_and, Bool.and_false, Bool.false_and, decide_true, decide_false, and_true, true_and, and_self, and_false, false_and, Bool.and_self, not_true, not_false, Bool.not_true, Bool.not_false, ge_iff_le, gt_iff_lt, if_true, if_false, Bool.false_eq_true, ite_true, ite_false, reduceIte]; done) | (congr 1; symm; simp_all [headFits]; done) | (congr 1; symm; simp_all [headFits]; omega))
theorem ok_impl_HeadOk (l : SLimits) (h : SHead) (h0_ : h.ok) (h1_ : h.sm) : RO Try.prog 79 [.agg l.cells, .agg h.cells] [(false, [.rd (.bool (headOk l h))])] := by
 refine RO.intro Try.func79 rfl 39 rfl (le_ok rfl) fun w Z => ?_
 have hok_ := h0_
 have hsm_ := h1_
 obtain ⟨o0, o1, o2, o3, o4, o5⟩ := h0_
 obtain ⟨s0, s1, s2⟩ := h1_
 refine T.seq ?_
 refine T.region ?_
 refine TL.cons rfl (Step.box (p := (.agg [.d (.int .i64 l.f0), .d (.int .i64 l.f1), .d (.int .i64 l.f2), .d (.int .i64 l.f3), .d (.int .i64 l.f4)])) (ps := [.d (.int .i64 l.f0), .d (.int .i64 l.f1), .d (.int .i64 l.f2), .d (.int .i64 l.f3), .d (.int .i64 l.f4)]) rfl rfl (lt_ok rfl) rfl rfl rfl rfl rfl) ?_
 refine TL.cons rfl (Step.box (p := (.agg [.d (.int .i64 h.f0), .d (.int .i64 h.f1), .d (.int .i64 h.f2), .d (.ints .u8 h.f3), .d (.ints .u8 h.f4), .d (.int .i64 h.f5.f0), .d (.int .i64 h.f5.f1), .d (.ints .u8 h.f5.f2), .d (.ints .u8 h.f5.f3), .d (.bss h.f5.f4)])) (ps := [.d (.int .i64 h.f0), .d (.int .i64 h.f1), .d (.int .i64 h.f2), .d (.ints .u8 h.f3), .d (.ints .u8 h.f4), .d (.int .i64 h.f5.f0), .d (.int .i64 h.f5.f1), .d (.ints .u8 h.f5.f2), .d (.ints .u8 h.f5.f3), .d (.bss h.f5.f4)]) rfl rfl (lt_ok rfl) rfl rfl rfl rfl rfl) ?_
 refine TL.cons rfl (Step.assign (p := (.one (.d (.bool false)))) rfl rfl (lt_ok rfl) rfl) ?_
 refine TL.nil ?_
 refine T.seq ?_
 refine T.region ?_
 refine TL.cons rfl (Step.load_box_agg (n := 5) (qs := [.d (.int .i64 l.f0), .d (.int .i64 l.f1), .d (.int .i64 l.f2), .d (.int .i64 l.f3), .d (.int .i64 l.f4)]) rfl rfl (lt_ok rfl) (by kernel_rfl) rfl rfl rfl rfl) ?_
 refine TL.cons rfl (Step.fieldAddr (q := 0) (off := 5) (n := 5) (one := false) rfl rfl (lt_ok rfl) (by kernel_rfl) (Nat.succ_ne_zero _) rfl) ?_
 refine TL.cons rfl (Step.load_box_agg (n := 5) (qs := [.d (.int .i64 h.f5.f0), .d (.int .i64 h.f5.f1), .d (.ints .u8 h.f5.f2), .d (.ints .u8 h.f5.f3), .d (.bss h.f5.f4)]) rfl rfl (lt_ok rfl) (by kernel_rfl) rfl rfl rfl rfl) ?_
 refine TL.cons rfl (Step.call (f := 98) (xs := [.tmp 5, .tmp 7]) (ps := [(.agg [.d (.int .i64 l.f0), .d (.int .i64 l.f1), .d (.int .i64 l.f2), .d (.int .i64 l.f3), .d (.int .i64 l.f4)]), (.agg [.d (.int .i64 h.f5.f0), .d (.int .i64 h.f5.f1), .d (.ints .u8 h.f5.f2), .d (.ints .u8 h.f5.f3), .d (.bss h.f5.f4)])]) false (g := .func 98) rfl rfl (lt_ok rfl) rfl (by kernel_rfl) rfl (.cons (.agg (.cons (.d _) (.cons (.d _) (.cons (.d _) (.cons (.d _) (.cons (.d _) .nil)))))) (.cons (.agg (.cons (.d _) (.cons (.d _) (.cons (.d _) (.cons (.d _) (.cons (.d _) .nil)))))) .nil)) (ok_impl_QcOk l h.f5 (by assumption) (by assumption)) (.inr rfl) rfl (by simp) rfl) ?_
 refine TL.cons rfl (Step.move (p := (.one (.d (.bool (qcOk l h.f5))))) rfl rfl (lt_ok rfl) rfl) ?_
 rcases Bool.eq_false_or_eq_true (qcOk l h.f5) with hb1 | hb1
 ·
  refine TL.known 9 hb1 rfl ?_
  refine TL.gyes 9 rfl rfl (lt_ok rfl) rfl (Step.fieldAddr (q := 0) (off := 0) (n := 1) (one := true) rfl rfl (lt_ok rfl) (by kernel_rfl) (Nat.succ_ne_zero _) rfl) ?_
  refine TL.gyes 9 rfl rfl (lt_ok rfl) rfl (Step.load_box (c := .d (.int .i64 h.f0)) rfl rfl (lt_ok rfl) (by kernel_rfl) rfl rfl rfl) ?_
  refine TL.gyes 9 rfl rfl (lt_ok rfl) rfl (Step.call (f := 99) (xs := [.tmp 11]) (ps := [(.one (.d (.int .i64 h.f0)))]) false (g := .func 99) rfl rfl (lt_ok rfl) rfl (by kernel_rfl) rfl (.cons (.one (.d _)) .nil) (ok_impl_isNum h.f0) (.inr rfl) rfl (by simp) rfl) ?_
  refine TL.cons rfl (Step.pick (b := true) (p := (.one (.d (.bool (decide (0 ≤ h.f0 ∧ h.f0 ≤ 1152921504606846975)))))) rfl rfl (lt_ok rfl) rfl rfl) ?_
  refine TL.cons rfl (Step.move (p := (.one (.d (.bool (decide (0 ≤ h.f0 ∧ h.f0 ≤ 1152921504606846975)))))) rfl rfl (lt_ok rfl) rfl) ?_
  rcases Bool.eq_false_or_eq_true (decide (0 ≤ h.f0 ∧ h.f0 ≤ 1152921504606846975)) with hb2 | hb2
  ·
   refine TL.known 14 hb2 rfl ?_
   refine TL.gyes 14 rfl rfl (lt_ok rfl) rfl (Step.fieldAddr (q := 0) (off := 1) (n := 1) (one := true) rfl rfl (lt_ok rfl) (by kernel_rfl) (Nat.succ_ne_zero _) rfl) ?_
   refine TL.gyes 14 rfl rfl (lt_ok rfl) rfl (Step.load_box (c := .d (.int .i64 h.f1)) rfl rfl (lt_ok rfl) (by kernel_rfl) rfl rfl rfl) ?_
   refine TL.gyes 14 rfl rfl (lt_ok rfl) rfl (Step.call (f := 52) (xs := [.tmp 16, .const (.int .i64 1), .const (.int .i64 1152921504606846975)]) (ps := [(.one (.d (.int .i64 h.f1))), (.one (.d (.int .i64 1))), (.one (.d (.int .i64 1152921504606846975)))]) false (g := .func 52) rfl rfl (lt_ok rfl) rfl (by kernel_rfl) rfl (.cons (.one (.d _)) (.cons (.one (.d _)) (.cons (.one (.d _)) .nil))) (ok_impl_within h.f1 1 1152921504606846975) (.inr rfl) rfl (by simp) rfl) ?_
   refine TL.cons rfl (Step.pick (b := true) (p := (.one (.d (.bool (decide (1 ≤ h.f1 ∧ h.f1 ≤ 1152921504606846975)))))) rfl rfl (lt_ok rfl) rfl rfl) ?_
   refine TL.cons rfl (Step.move (p := (.one (.d (.bool (decide (1 ≤ h.f1 ∧ h.f1 ≤ 1152921504606846975)))))) rfl rfl (lt_ok rfl) rfl) ?_
   rcases Bool.eq_false_or_eq_true (decide (1 ≤ h.f1 ∧ h.f1 ≤ 1152921504606846975)) with hb3 | hb3
   ·
    refine TL.known 19 hb3 rfl ?_
    refine TL.gyes 19 rfl rfl (lt_ok rfl) rfl (Step.fieldAddr (q := 0) (off := 2) (n := 1) (one := true) rfl rfl (lt_ok rfl) (by kernel_rfl) (Nat.succ_ne_zero _) rfl) ?_
    refine TL.gyes 19 rfl rfl (lt_ok rfl) rfl (Step.load_box (c := .d (.int .i64 h.f2)) rfl rfl (lt_ok rfl) (by kernel_rfl) rfl rfl rfl) ?_
    refine TL.gyes 19 rfl rfl (lt_ok rfl) rfl (Step.fieldAddr (q := 0) (off := 0) (n := 1) (one := true) rfl rfl (lt_ok rfl) (by kernel_rfl) (Nat.succ_ne_zero _) rfl) ?_
    refine TL.gyes 19 rfl rfl (lt_ok rfl) rfl (Step.load_box (c := .d (.int .i64 l.f0)) rfl rfl (lt_ok rfl) (by kernel_rfl) rfl rfl rfl) ?_
    refine TL.gyes 19 rfl rfl (lt_ok rfl) rfl (Step.bin (r := .int .i64 (IntKind.i64.wrap (l.f0 - 1))) rfl rfl (lt_ok rfl) rfl rfl (Bin.sub (a := l.f0) (b := 1) (rfl))) ?_
    refine TL.gyes 19 rfl rfl (lt_ok rfl) rfl (Step.call (f := 52) (xs := [.tmp 21, .const (.int .i64 0), .tmp 24]) (ps := [(.one (.d (.int .i64 h.f2))), (.one (.d (.int .i64 0))), (.one (.d (.int .i64 (IntKind.i64.wrap (l.f0 - 1)))))]) false (g := .func 52) rfl rfl (lt_ok rfl) rfl (by kernel_rfl) rfl (.cons (.one (.d _)) (.cons (.one (.d _)) (.cons (.one (.d _)) .nil))) (ok_impl_within h.f2 0 (IntKind.i64.wrap (l.f0 - 1))) (.inr rfl) rfl (by simp) rfl) ?_
    refine TL.cons rfl (Step.pick (b := true) (p := (.one (.d (.bool (decide (0 ≤ h.f2 ∧ h.f2 ≤ (IntKind.i64.wrap (l.f0 - 1)))))))) rfl rfl (lt_ok rfl) rfl rfl) ?_
    refine TL.cons rfl (Step.move (p := (.one (.d (.bool (decide (0 ≤ h.f2 ∧ h.f2 ≤ (IntKind.i64.wrap (l.f0 - 1)))))))) rfl rfl (lt_ok rfl) rfl) ?_
    rcases Bool.eq_false_or_eq_true (decide (0 ≤ h.f2 ∧ h.f2 ≤ (IntKind.i64.wrap (l.f0 - 1)))) with hb4 | hb4
    ·
     refine TL.known 27 hb4 rfl ?_
     refine TL.gyes 27 rfl rfl (lt_ok rfl) rfl (Step.fieldAddr (q := 0) (off := 3) (n := 1) (one := true) rfl rfl (lt_ok rfl) (by kernel_rfl) (Nat.succ_ne_zero _) rfl) ?_
     refine TL.gyes 27 rfl rfl (lt_ok rfl) rfl (Step.load_box (c := .d (.ints .u8 h.f3)) rfl rfl (lt_ok rfl) (by kernel_rfl) rfl rfl rfl) ?_
     refine TL.gyes 27 rfl rfl (lt_ok rfl) rfl (Step.fieldAddr (q := 0) (off := 4) (n := 1) (one := true) rfl rfl (lt_ok rfl) (by kernel_rfl) (Nat.succ_ne_zero _) rfl) ?_
     refine TL.gyes 27 rfl rfl (lt_ok rfl) rfl (Step.load_box (c := .d (.ints .u8 h.f4)) rfl rfl (lt_ok rfl) (by kernel_rfl) rfl rfl rfl) ?_
     refine TL.gyes 27 rfl rfl (lt_ok rfl) rfl (Step.lit_d (e := 22) (z := 1) (by_ := 24) (xs := [.tmp 29, .tmp 31]) (pss := [[.d (.ints .u8 h.f3)], [.d (.ints .u8 h.f4)]]) (ds := [(.ints .u8 h.f3), (.ints .u8 h.f4)]) (d := (.bss [h.f3, h.f4])) rfl rfl (lt_ok rfl) (by kernel_rfl) rfl rfl (.cons rfl (.cons rfl .nil)) (by simp) (le_ok rfl) (le_ok rfl) rfl rfl trivial rfl rfl) ?_
     refine TL.gyes 27 rfl rfl (lt_ok rfl) rfl (Step.call (f := 55) (xs := [.tmp 32]) (ps := [(.one (.d (.bss [h.f3, h.f4])))]) false (g := .func 55) rfl rfl (lt_ok rfl) rfl (by kernel_rfl) rfl (.cons (.one (.d _)) .nil) (ok_impl_areHashes [h.f3, h.f4]) (.inr rfl) rfl (by simp) rfl) ?_
     refine TL.cons rfl (Step.pick (b := true) (p := (.one (.d (.bool (hashes [h.f3, h.f4]))))) rfl rfl (lt_ok rfl) rfl rfl) ?_
     refine TL.cons rfl (Step.move (p := (.one (.d (.bool (hashes [h.f3, h.f4]))))) rfl rfl (lt_ok rfl) rfl) ?_
     rcases Bool.eq_false_or_eq_true (hashes [h.f3, h.f4]) with hb5 | hb5
     ·
      refine TL.known 35 hb5 rfl ?_
      refine TL.gyes 35 rfl rfl (lt_ok rfl) rfl (Step.load_box_agg (n := 10) (qs := [.d (.int .i64 h.f0), .d (.int .i64 h.f1), .d (.int .i64 h.f2), .d (.ints .u8 h.f3), .d (.ints .u8 h.f4), .d (.int .i64 h.f5.f0), .d (.int .i64 h.f5.f1), .d (.ints .u8 h.f5.f2), .d (.ints .u8 h.f5.f3), .d (.bss h.f5.f4)]) rfl rfl (lt_ok rfl) (by kernel_rfl) rfl rfl rfl rfl) ?_
      refine TL.gyes 35 rfl rfl (lt_ok rfl) rfl (Step.call (f := 100) (xs := [.tmp 36]) (ps := [(.agg [.d (.int .i64 h.f0), .d (.int .i64 h.f1), .d (.int .i64 h.f2), .d (.ints .u8 h.f3), .d (.ints .u8 h.f4), .d (.int .i64 h.f5.f0), .d (.int .i64 h.f5.f1), .d (.ints .u8 h.f5.f2), .d (.ints .u8 h.f5.f3), .d (.bss h.f5.f4)])]) false (g := .func 100) rfl rfl (lt_ok rfl) rfl (by kernel_rfl) rfl (.cons (.agg (.cons (.d _) (.cons (.d _) (.cons (.d _) (.cons (.d _) (.cons (.d _) (.cons (.d _) (.cons (.d _) (.cons (.d _) (.cons (.d _) (.cons (.d _) .nil))))))))))) .nil) (ok_impl_Head__matches h (by first | assumption | exact rdHead_ok (l := l) (s := s) h0_)) (.inr rfl) rfl (by simp) rfl) ?_
      refine TL.cons rfl (Step.pick (b := true) (p := (.one (.d (.bool (headFits h))))) rfl rfl (lt_ok rfl) rfl rfl) ?_
      refine TL.cons rfl (Step.assign (p := (.one (.d (.bool (headFits h))))) rfl rfl (lt_ok rfl) rfl) ?_
      refine TL.nil ?_
      refine T.weaken (E' := { tm := [(4, (.one (.d (.bool (headFits h)))))], rows := [], boxes := [] }) (Env.le_mk ⟨by kernel_rfl, trivial⟩ trivial trivial) ?_
      refine T.ret ?_
      refine ⟨[(false, [.d (.bool (headFits h))])], (.cons rfl .nil), rfl, [], (RetC.rd' ?_ .nil)⟩ <;> (first | rfl | (congr 1; symm; simp only [headOk, hashes, List.all_cons, List.all_nil, *, Bool.and_true, Bool.true_and, Bool.and_false, Bool.false_and, decide_true, decide_false, and_true, true_and, and_self, and_false, false_and, Bool.and_self, not_true, not_false, Bool.not_true, Bool.not_false, ge_iff_le, gt_iff_lt, if_true, if_false, Bool.false_eq_true, ite_true, ite_false, reduceIte]; done) | (congr 1; symm; simp_all [headOk, hashes, List.all_cons, List.all_nil]; done) | (congr 1; symm; simp_all [headOk, hashes, List.all_cons, List.all_nil]; omega))
     ·
      refine TL.known 35 hb5 rfl ?_
      refine TL.goff 35 rfl rfl (lt_ok rfl) rfl rfl rfl (lt_ok rfl) ?_
      refine TL.goff 35 rfl rfl (lt_ok rfl) rfl rfl rfl (lt_ok rfl) ?_
      refine TL.cons rfl (Step.pick (b := false) (p := (.one (.d (.bool false)))) rfl rfl (lt_ok rfl) rfl rfl) ?_
      refine TL.cons rfl (Step.assign (p := (.one (.d (.bool false)))) rfl rfl (lt_ok rfl) rfl) ?_
      refine TL.nil ?_
      refine T.ret ?_
      refine ⟨[(false, [.d (.bool false)])], (.cons rfl .nil), rfl, [], (RetC.rd' ?_ .nil)⟩ <;> (first | rfl | (congr 1; symm; simp only [headOk, hashes, List.all_cons, List.all_nil, *, Bool.and_true, Bool.true_and, Bool.and_false, Bool.false_and, decide_true, decide_false, and_true, true_and, and_self, and_false, false_and, Bool.and_self, not_true, not_false, Bool.not_true, Bool.not_false, ge_iff_le, gt_iff_lt, if_true, if_false, Bool.false_eq_true, ite_true, ite_false, reduceIte]; done) | (congr 1; symm; simp_all [headOk, hashes, List.all_cons, List.all_nil]; done) | (congr 1; symm; simp_all [headOk, hashes, List.all_cons, List.all_nil]; omega))
    ·
     refine TL.known 27 hb4 rfl ?_
     refine TL.goff 27 rfl rfl (lt_ok rfl) rfl rfl rfl (lt_ok rfl) ?_
     refine TL.goff 27 rfl rfl (lt_ok rfl) rfl rfl rfl (lt_ok rfl) ?_
     refine TL.goff 27 rfl rfl (lt_ok rfl) rfl rfl rfl (lt_ok rfl) ?_
     refine TL.goff 27 rfl rfl (lt_ok rfl) rfl rfl rfl (lt_ok rfl) ?_
     refine TL.goff 27 rfl rfl (lt_ok rfl) rfl rfl rfl (lt_ok rfl) ?_
     refine TL.goff 27 rfl rfl (lt_ok rfl) rfl rfl rfl (lt_ok rfl) ?_
     refine TL.cons rfl (Step.pick (b := false) (p := (.one (.d (.bool false)))) rfl rfl (lt_ok rfl) rfl rfl) ?_
     refine TL.cons rfl (Step.move (p := (.one (.d (.bool false)))) rfl rfl (lt_ok rfl) rfl) ?_
     refine TL.goff 35 rfl rfl (lt_ok rfl) rfl rfl rfl (lt_ok rfl) ?_
     refine TL.goff 35 rfl rfl (lt_ok rfl) rfl rfl rfl (lt_ok rfl) ?_
     refine TL.cons rfl (Step.pick (b := false) (p := (.one (.d (.bool false)))) rfl rfl (lt_ok rfl) rfl rfl) ?_
     refine TL.cons rfl (Step.assign (p := (.one (.d (.bool false)))) rfl rfl (lt_ok rfl) rfl) ?_
     refine TL.nil ?_
     refine T.ret ?_
     refine ⟨[(false, [.d (.bool false)])], (.cons rfl .nil), rfl, [], (RetC.rd' ?_ .nil)⟩ <;> (first | rfl | (congr 1; symm; simp only [headOk, hashes, List.all_cons, List.all_nil, *, Bool.and_true, Bool.true_and, Bool.and_false, Bool.false_and, decide_true, decide_false, and_true, true_and, and_self, and_false, false_and, Bool.and_self, not_true, not_false, Bool.not_true, Bool.not_false, ge_iff_le, gt_iff_lt, if_true, if_false, Bool.false_eq_true, ite_true, ite_false, reduceIte]; done) | (congr 1; symm; simp_all [headOk, hashes, List.all_cons, List.all_nil]; done) | (congr 1; symm; simp_all [headOk, hashes, List.all_cons, List.all_nil]; omega))
   ·
    refine TL.known 19 hb3 rfl ?_
    refine TL.goff 19 rfl rfl (lt_ok rfl) rfl rfl rfl (lt_ok rfl) ?_
    refine TL.goff 19 rfl rfl (lt_ok rfl) rfl rfl rfl (lt_ok rfl) ?_
    refine TL.goff 19 rfl rfl (lt_ok rfl) rfl rfl rfl (lt_ok rfl) ?_
    refine TL.goff 19 rfl rfl (lt_ok rfl) rfl rfl rfl (lt_ok rfl) ?_
    refine TL.goff 19 rfl rfl (lt_ok rfl) rfl rfl rfl (lt_ok rfl) ?_
    refine TL.goff 19 rfl rfl (lt_ok rfl) rfl rfl rfl (lt_ok rfl) ?_
    refine TL.cons rfl (Step.pick (b := false) (p := (.one (.d (.bool false)))) rfl rfl (lt_ok rfl) rfl rfl) ?_
    refine TL.cons rfl (Step.move (p := (.one (.d (.bool false)))) rfl rfl (lt_ok rfl) rfl) ?_
    refine TL.goff 27 rfl rfl (lt_ok rfl) rfl rfl rfl (lt_ok rfl) ?_
    refine TL.goff 27 rfl rfl (lt_ok rfl) rfl rfl rfl (lt_ok rfl) ?_
    refine TL.goff 27 rfl rfl (lt_ok rfl) rfl rfl rfl (lt_ok rfl) ?_
    refine TL.goff 27 rfl rfl (lt_ok rfl) rfl rfl rfl (lt_ok rfl) ?_
    refine TL.goff 27 rfl rfl (lt_ok rfl) rfl rfl rfl (lt_ok rfl) ?_
    refine TL.goff 27 rfl rfl (lt_ok rfl) rfl rfl rfl (lt_ok rfl) ?_
    refine TL.cons rfl (Step.pick (b := false) (p := (.one (.d (.bool false)))) rfl rfl (lt_ok rfl) rfl rfl) ?_
    refine TL.cons rfl (Step.move (p := (.one (.d (.bool false)))) rfl rfl (lt_ok rfl) rfl) ?_
    refine TL.goff 35 rfl rfl (lt_ok rfl) rfl rfl rfl (lt_ok rfl) ?_
    refine TL.goff 35 rfl rfl (lt_ok rfl) rfl rfl rfl (lt_ok rfl) ?_
    refine TL.cons rfl (Step.pick (b := false) (p := (.one (.d (.bool false)))) rfl rfl (lt_ok rfl) rfl rfl) ?_
    refine TL.cons rfl (Step.assign (p := (.one (.d (.bool false)))) rfl rfl (lt_ok rfl) rfl) ?_
    refine TL.nil ?_
    refine T.ret ?_
    refine ⟨[(false, [.d (.bool false)])], (.cons rfl .nil), rfl, [], (RetC.rd' ?_ .nil)⟩ <;> (first | rfl | (congr 1; symm; simp only [headOk, hashes, List.all_cons, List.all_nil, *, Bool.and_true, Bool.true_and, Bool.and_false, Bool.false_and, decide_true, decide_false, and_true, true_and, and_self, and_false, false_and, Bool.and_self, not_true, not_false, Bool.not_true, Bool.not_false, ge_iff_le, gt_iff_lt, if_true, if_false, Bool.false_eq_true, ite_true, ite_false, reduceIte]; done) | (congr 1; symm; simp_all [headOk, hashes, List.all_cons, List.all_nil]; done) | (congr 1; symm; simp_all [headOk, hashes, List.all_cons, List.all_nil]; omega))
  ·
   refine TL.known 14 hb2 rfl ?_
   refine TL.goff 14 rfl rfl (lt_ok rfl) rfl rfl rfl (lt_ok rfl) ?_
   refine TL.goff 14 rfl rfl (lt_ok rfl) rfl rfl rfl (lt_ok rfl) ?_
   refine TL.goff 14 rfl rfl (lt_ok rfl) rfl rfl rfl (lt_ok rfl) ?_
   refine TL.cons rfl (Step.pick (b := false) (p := (.one (.d (.bool false)))) rfl rfl (lt_ok rfl) rfl rfl) ?_
   refine TL.cons rfl (Step.move (p := (.one (.d (.bool false)))) rfl rfl (lt_ok rfl) rfl) ?_
   refine TL.goff 19 rfl rfl (lt_ok rfl) rfl rfl rfl (lt_ok rfl) ?_
   refine TL.goff 19 rfl rfl (lt_ok rfl) rfl rfl rfl (lt_ok rfl) ?_
   refine TL.goff 19 rfl rfl (lt_ok rfl) rfl rfl rfl (lt_ok rfl) ?_
   refine TL.goff 19 rfl rfl (lt_ok rfl) rfl rfl rfl (lt_ok rfl) ?_
   refine TL.goff 19 rfl rfl (lt_ok rfl) rfl rfl rfl (lt_ok rfl) ?_
   refine TL.goff 19 rfl rfl (lt_ok rfl) rfl rfl rfl (lt_ok rfl) ?_
   refine TL.cons rfl (Step.pick (b := false) (p := (.one (.d (.bool false)))) rfl rfl (lt_ok rfl) rfl rfl) ?_
   refine TL.cons rfl (Step.move (p := (.one (.d (.bool false)))) rfl rfl (lt_ok rfl) rfl) ?_
   refine TL.goff 27 rfl rfl (lt_ok rfl) rfl rfl rfl (lt_ok rfl) ?_
   refine TL.goff 27 rfl rfl (lt_ok rfl) rfl rfl rfl (lt_ok rfl) ?_
   refine TL.goff 27 rfl rfl (lt_ok rfl) rfl rfl rfl (lt_ok rfl) ?_
   refine TL.goff 27 rfl rfl (lt_ok rfl) rfl rfl rfl (lt_ok rfl) ?_
   refine TL.goff 27 rfl rfl (lt_ok rfl) rfl rfl rfl (lt_ok rfl) ?_
   refine TL.goff 27 rfl rfl (lt_ok rfl) rfl rfl rfl (lt_ok rfl) ?_
   refine TL.cons rfl (Step.pick (b := false) (p := (.one (.d (.bool false)))) rfl rfl (lt_ok rfl) rfl rfl) ?_
   refine TL.cons rfl (Step.move (p := (.one (.d (.bool false)))) rfl rfl (lt_ok rfl) rfl) ?_
   refine TL.goff 35 rfl rfl (lt_ok rfl) rfl rfl rfl (lt_ok rfl) ?_
   refine TL.goff 35 rfl rfl (lt_ok rfl) rfl rfl rfl (lt_ok rfl) ?_
   refine TL.cons rfl (Step.pick (b := false) (p := (.one (.d (.bool false)))) rfl rfl (lt_ok rfl) rfl rfl) ?_
   refine TL.cons rfl (Step.assign (p := (.one (.d (.bool false)))) rfl rfl (lt_ok rfl) rfl) ?_
   refine TL.nil ?_
   refine T.ret ?_
   refine ⟨[(false, [.d (.bool false)])], (.cons rfl .nil), rfl, [], (RetC.rd' ?_ .nil)⟩ <;> (first | rfl | (congr 1; symm; simp only [headOk, hashes, List.all_cons, List.all_nil, *, Bool.and_true, Bool.true_and, Bool.and_false, Bool.false_and, decide_true, decide_false, and_true, true_and, and_self, and_false, false_and, Bool.and_self, not_true, not_false, Bool.not_true, Bool.not_false, ge_iff_le, gt_iff_lt, if_true, if_false, Bool.false_eq_true, ite_true, ite_false, reduceIte]; done) | (congr 1; symm; simp_all [headOk, hashes, List.all_cons, List.all_nil]; done) | (congr 1; symm; simp_all [headOk, hashes, List.all_cons, List.all_nil]; omega))
 ·
  refine TL.known 9 hb1 rfl ?_
  refine TL.goff 9 rfl rfl (lt_ok rfl) rfl rfl rfl (lt_ok rfl) ?_
  refine TL.goff 9 rfl rfl (lt_ok rfl) rfl rfl rfl (lt_ok rfl) ?_
  refine TL.goff 9 rfl rfl (lt_ok rfl) rfl rfl rfl (lt_ok rfl) ?_
  refine TL.cons rfl (Step.pick (b := false) (p := (.one (.d (.bool false)))) rfl rfl (lt_ok rfl) rfl rfl) ?_
  refine TL.cons rfl (Step.move (p := (.one (.d (.bool false)))) rfl rfl (lt_ok rfl) rfl) ?_
  refine TL.goff 14 rfl rfl (lt_ok rfl) rfl rfl rfl (lt_ok rfl) ?_
  refine TL.goff 14 rfl rfl (lt_ok rfl) rfl rfl rfl (lt_ok rfl) ?_
  refine TL.goff 14 rfl rfl (lt_ok rfl) rfl rfl rfl (lt_ok rfl) ?_
  refine TL.cons rfl (Step.pick (b := false) (p := (.one (.d (.bool false)))) rfl rfl (lt_ok rfl) rfl rfl) ?_
  refine TL.cons rfl (Step.move (p := (.one (.d (.bool false)))) rfl rfl (lt_ok rfl) rfl) ?_
  refine TL.goff 19 rfl rfl (lt_ok rfl) rfl rfl rfl (lt_ok rfl) ?_
  refine TL.goff 19 rfl rfl (lt_ok rfl) rfl rfl rfl (lt_ok rfl) ?_
  refine TL.goff 19 rfl rfl (lt_ok rfl) rfl rfl rfl (lt_ok rfl) ?_
  refine TL.goff 19 rfl rfl (lt_ok rfl) rfl rfl rfl (lt_ok rfl) ?_
  refine TL.goff 19 rfl rfl (lt_ok rfl) rfl rfl rfl (lt_ok rfl) ?_
  refine TL.goff 19 rfl rfl (lt_ok rfl) rfl rfl rfl (lt_ok rfl) ?_
  refine TL.cons rfl (Step.pick (b := false) (p := (.one (.d (.bool false)))) rfl rfl (lt_ok rfl) rfl rfl) ?_
  refine TL.cons rfl (Step.move (p := (.one (.d (.bool false)))) rfl rfl (lt_ok rfl) rfl) ?_
  refine TL.goff 27 rfl rfl (lt_ok rfl) rfl rfl rfl (lt_ok rfl) ?_
  refine TL.goff 27 rfl rfl (lt_ok rfl) rfl rfl rfl (lt_ok rfl) ?_
  refine TL.goff 27 rfl rfl (lt_ok rfl) rfl rfl rfl (lt_ok rfl) ?_
  refine TL.goff 27 rfl rfl (lt_ok rfl) rfl rfl rfl (lt_ok rfl) ?_
  refine TL.goff 27 rfl rfl (lt_ok rfl) rfl rfl rfl (lt_ok rfl) ?_
  refine TL.goff 27 rfl rfl (lt_ok rfl) rfl rfl rfl (lt_ok rfl) ?_
  refine TL.cons rfl (Step.pick (b := false) (p := (.one (.d (.bool false)))) rfl rfl (lt_ok rfl) rfl rfl) ?_
  refine TL.cons rfl (Step.move (p := (.one (.d (.bool false)))) rfl rfl (lt_ok rfl) rfl) ?_
  refine TL.goff 35 rfl rfl (lt_ok rfl) rfl rfl rfl (lt_ok rfl) ?_
  refine TL.goff 35 rfl rfl (lt_ok rfl) rfl rfl rfl (lt_ok rfl) ?_
  refine TL.cons rfl (Step.pick (b := false) (p := (.one (.d (.bool false)))) rfl rfl (lt_ok rfl) rfl rfl) ?_
  refine TL.cons rfl (Step.assign (p := (.one (.d (.bool false)))) rfl rfl (lt_ok rfl) rfl) ?_
  refine TL.nil ?_
  refine T.ret ?_
  refine ⟨[(false, [.d (.bool false)])], (.cons rfl .nil), rfl, [], (RetC.rd' ?_ .nil)⟩ <;> (first | rfl | (congr 1; symm; simp only [headOk, hashes, List.all_cons, List.all_nil, *, Bool.and_true, Bool.true_and, Bool.and_false, Bool.false_and, decide_true, decide_false, and_true, true_and, and_self, and_false, false_and, Bool.and_self, not_true, not_false, Bool.not_true, Bool.not_false, ge_iff_le, gt_iff_lt, if_true, if_false, Bool.false_eq_true, ite_true, ite_false, reduceIte]; done) | (congr 1; symm; simp_all [headOk, hashes, List.all_cons, List.all_nil]; done) | (congr 1; symm; simp_all [headOk, hashes, List.all_cons, List.all_nil]; omega))
theorem ok_impl_BlockOk (l : SLimits) (x : SBlock) (h0_ : x.ok) (h1_ : x.sm) : RO Try.prog 41 [.agg l.cells, .agg x.cells] [(false, [.rd (.bool (blockOk l x))])] := by
 refine RO.intro Try.func41 rfl 41 rfl (le_ok rfl) fun w Z => ?_
 refine T.bnd 1 3 rfl rfl fun hb_1_3 => ?_
 simp only [D.size, List.length_map] at hb_1_3
 refine T.bnd 1 4 rfl rfl fun hb_1_4 => ?_
 simp only [D.size, List.length_map] at hb_1_4
 refine T.bnd 1 7 rfl rfl fun hb_1_7 => ?_
 simp only [D.size, List.length_map] at hb_1_7
 refine T.bnd 1 8 rfl rfl fun hb_1_8 => ?_
 simp only [D.size, List.length_map] at hb_1_8
 refine T.bnd 1 9 rfl rfl fun hb_1_9 => ?_
 simp only [D.size, List.length_map] at hb_1_9
 refine T.bnd 1 10 rfl rfl fun hb_1_10 => ?_
 simp only [D.size, List.length_map] at hb_1_10
 have hok_ := h0_
 have hsm_ := h1_
 obtain ⟨o0, o1⟩ := h0_
 obtain ⟨s0, s1⟩ := h1_
 have hrt_ := treeRoot_u8 x.f1
 have ho4_ := o0.2.2.2.2.1
 refine T.seq ?_
 refine T.region ?_
 refine TL.cons rfl (Step.box (p := (.agg [.d (.int .i64 l.f0), .d (.int .i64 l.f1), .d (.int .i64 l.f2), .d (.int .i64 l.f3), .d (.int .i64 l.f4)])) (ps := [.d (.int .i64 l.f0), .d (.int .i64 l.f1), .d (.int .i64 l.f2), .d (.int .i64 l.f3), .d (.int .i64 l.f4)]) rfl rfl (lt_ok rfl) rfl rfl rfl rfl rfl) ?_
 refine TL.cons rfl (Step.box (p := (.agg [.d (.int .i64 x.f0.f0), .d (.int .i64 x.f0.f1), .d (.int .i64 x.f0.f2), .d (.ints .u8 x.f0.f3), .d (.ints .u8 x.f0.f4), .d (.int .i64 x.f0.f5.f0), .d (.int .i64 x.f0.f5.f1), .d (.ints .u8 x.f0.f5.f2), .d (.ints .u8 x.f0.f5.f3), .d (.bss x.f0.f5.f4), .d (.bss x.f1)])) (ps := [.d (.int .i64 x.f0.f0), .d (.int .i64 x.f0.f1), .d (.int .i64 x.f0.f2), .d (.ints .u8 x.f0.f3), .d (.ints .u8 x.f0.f4), .d (.int .i64 x.f0.f5.f0), .d (.int .i64 x.f0.f5.f1), .d (.ints .u8 x.f0.f5.f2), .d (.ints .u8 x.f0.f5.f3), .d (.bss x.f0.f5.f4), .d (.bss x.f1)]) rfl rfl (lt_ok rfl) rfl rfl rfl rfl rfl) ?_
 refine TL.cons rfl (Step.assign (p := (.one (.d (.bool false)))) rfl rfl (lt_ok rfl) rfl) ?_
 refine TL.nil ?_
 refine T.seq ?_
 refine T.seq ?_
 refine T.region ?_
 refine TL.cons rfl (Step.fieldAddr (q := 0) (off := 10) (n := 1) (one := true) rfl rfl (lt_ok rfl) (by kernel_rfl) (Nat.succ_ne_zero _) rfl) ?_
 refine TL.cons rfl (Step.load_box (c := .d (.bss x.f1)) rfl rfl (lt_ok rfl) (by kernel_rfl) rfl rfl rfl) ?_
 refine TL.cons rfl (Step.len (e := 22) (z := 1) (d := (.bss x.f1)) rfl rfl (lt_ok rfl) (by kernel_rfl) rfl rfl) ?_
 refine TL.cons rfl (Step.move (p := (.one (.d (.int .i64 0)))) rfl rfl (lt_ok rfl) rfl) ?_
 refine TL.nil ?_
 refine T.block ?_
 refine T.loop (ι := Nat) (fun xx_ => { tm := [(2, (.one (.ptr 2 0))), (3, (.one (.ptr 3 0))), (8, (.one (.d (.bss x.f1)))), (9, (.one (.d (.int .i64 (x.f1.length : Int))))), (10, (.one (.d (.int .i64 (xx_ : Int)))))], rows := [], boxes := [(2, (55, [.d (.int .i64 l.f0), .d (.int .i64 l.f1), .d (.int .i64 l.f2), .d (.int .i64 l.f3), .d (.int .i64 l.f4)])), (3, (61, [.d (.int .i64 x.f0.f0), .d (.int .i64 x.f0.f1), .d (.int .i64 x.f0.f2), .d (.ints .u8 x.f0.f3), .d (.ints .u8 x.f0.f4), .d (.int .i64 x.f0.f5.f0), .d (.int .i64 x.f0.f5.f1), .d (.ints .u8 x.f0.f5.f2), .d (.ints .u8 x.f0.f5.f3), .d (.bss x.f0.f5.f4), .d (.bss x.f1)]))] }) (fun xx_ => xx_ ≤ x.f1.length ∧ txsOk l (x.f1.take xx_) = true) (fun xx_ => x.f1.length - xx_) 0 ?_ ?_ ?_
 · refine Env.le_mk ⟨rfl, rfl, rfl, rfl, ?_, trivial⟩ trivial ⟨rfl, rfl, trivial⟩ <;> (first | rfl | (simp; done) | (congr 3; omega))
 · exact ⟨Nat.zero_le _, by rw [List.take_zero]; rfl⟩
 ·
  intro i hx
  try dsimp only at hx ⊢
  obtain ⟨hx1, hx2⟩ := hx
  refine T.seq ?_
  refine T.region ?_
  refine TL.cons rfl (Step.bin rfl rfl (lt_ok rfl) rfl rfl (Bin.lss (k := .i64) (a := (i : Int)) (b := (x.f1.length : Int)))) ?_
  refine TL.nil ?_
  refine T.seq ?_
  refine T.cond (b := decide ((i : Int) < (x.f1.length : Int))) rfl (fun h1 => ?_) (fun h1 => ?_)
  ·
   replace h1 := of_decide_eq_true h1
   refine T.skip ?_
   refine T.seq ?_
   refine T.block ?_
   refine T.seq ?_
   refine T.region ?_
   refine TL.cons rfl (Step.index (e := 22) (z := 1) (i := (i : Int)) rfl rfl (lt_ok rfl) (by kernel_rfl) rfl rfl rfl (lt_ok rfl) rfl (by first | omega | (simp; omega)) (by simp only [D.size]; first | omega | (simp; omega))) ?_
   refine TL.cons rfl (Step.load (e := (.ints .u8 (x.f1.getD i []))) rfl rfl (lt_ok rfl) (by kernel_rfl) rfl rfl) ?_
   refine TL.cons rfl (Step.assign (p := (.one (.d (.ints .u8 (x.f1.getD i []))))) rfl rfl (lt_ok rfl) rfl) ?_
   refine TL.nil ?_
   refine T.seq ?_
   refine T.region ?_
   refine TL.cons rfl (Step.move (p := (.one (.d (.ints .u8 (x.f1.getD i []))))) rfl rfl (lt_ok rfl) rfl) ?_
   refine TL.cons rfl (Step.len (e := 5) (z := 1) (d := (.ints .u8 (x.f1.getD i []))) rfl rfl (lt_ok rfl) (by kernel_rfl) rfl rfl) ?_
   refine TL.cons rfl (Step.fieldAddr (q := 0) (off := 1) (n := 1) (one := true) rfl rfl (lt_ok rfl) (by kernel_rfl) (Nat.succ_ne_zero _) rfl) ?_
   refine TL.cons rfl (Step.load_box (c := .d (.int .i64 l.f1)) rfl rfl (lt_ok rfl) (by kernel_rfl) rfl rfl rfl) ?_
   refine TL.cons rfl (Step.bin rfl rfl (lt_ok rfl) rfl rfl (Bin.gtr (k := .i64) (a := ((x.f1.getD i []).length : Int)) (b := l.f1))) ?_
   refine TL.nil ?_
   refine T.cond (b := decide (l.f1 < ((x.f1.getD i []).length : Int))) rfl (fun h2 => ?_) (fun h2 => ?_)
   ·
    replace h2 := of_decide_eq_true h2
    refine T.seq ?_
    refine T.region ?_
    refine TL.cons rfl (Step.assign (p := (.one (.d (.bool false)))) rfl rfl (lt_ok rfl) rfl) ?_
    refine TL.nil ?_
    refine T.ret ?_
    refine ⟨[(false, [.d (.bool false)])], (.cons rfl .nil), rfl, [], (RetC.rd' ?_ .nil)⟩ <;> ((congr 1; symm; first | (unfold blockOk; rw [txsOk_no (i := i) (by omega) (by omega)]; simp; done) | (rw [List.take_of_length_le (by omega)] at hx2; rw [blockOk_mk (by assumption) (by omega) hx2]; first | done | rfl | assumption | exact decide_eq_true ‹_› | exact decide_eq_false ‹_›) | (rw [List.take_of_length_le (by omega)] at hx2; simp_all [blockOk]; done) | (simp_all [blockOk]; done) | (rw [List.take_of_length_le (by omega)] at hx2; simp_all [blockOk]; omega) | (simp_all [blockOk]; omega)))
   ·
    replace h2 := of_decide_eq_false h2
    refine T.skip ?_
    refine T.region ?_
    refine TL.cons rfl (Step.bin (r := .int .i64 ((i : Int) + 1)) rfl rfl (lt_ok rfl) rfl rfl (Bin.add (a := (i : Int)) (b := 1) (by first | exact wrap_ok (by first | omega | (simp; omega)) (by first | omega | (simp; omega)) | rfl))) ?_
    refine TL.cons rfl (Step.move (p := (.one (.d (.int .i64 ((i : Int) + 1))))) rfl rfl (lt_ok rfl) rfl) ?_
    refine TL.nil ?_
    refine ⟨i + 1, by (refine ⟨by omega, txsOk_step (by omega) hx2 (by omega)⟩), by first | omega | (dsimp only; omega), Env.le_mk ⟨rfl, rfl, rfl, rfl, ?_, trivial⟩ trivial ⟨rfl, rfl, trivial⟩⟩ <;> (first | rfl | (simp; done) | (congr 3; omega))
  ·
   replace h1 := of_decide_eq_false h1
   refine T.exit ?_
   refine T.seq ?_
   rcases Bool.eq_false_or_eq_true (headOk l x.f0) with hb3 | hb3
   ·
    rcases Bool.eq_false_or_eq_true (decide ((x.f1.length : Int) ≤ l.f2)) with hb4 | hb4
    ·
     have hb4' := hb4
     replace hb4' := of_decide_eq_true hb4'
     have nn5 := treeRoot_len x.f1
     have nn6 := treeRoot_u8 x.f1
     refine T.draw [⟨20, (.agg [.d (.int .i64 l.f0), .d (.int .i64 l.f1), .d (.int .i64 l.f2), .d (.int .i64 l.f3), .d (.int .i64 l.f4)]), []⟩, ⟨21, (.one (.ptr 3 0)), []⟩, ⟨22, (.agg [.d (.int .i64 x.f0.f0), .d (.int .i64 x.f0.f1), .d (.int .i64 x.f0.f2), .d (.ints .u8 x.f0.f3), .d (.ints .u8 x.f0.f4), .d (.int .i64 x.f0.f5.f0), .d (.int .i64 x.f0.f5.f1), .d (.ints .u8 x.f0.f5.f2), .d (.ints .u8 x.f0.f5.f3), .d (.bss x.f0.f5.f4)]), []⟩, ⟨23, (.one (.d (.bool true))), []⟩, ⟨24, (.one (.d (.bool true))), []⟩, ⟨25, (.one (.ptr 3 10)), []⟩, ⟨26, (.one (.d (.bss x.f1))), []⟩, ⟨27, (.one (.d (.int .i64 (x.f1.length : Int)))), []⟩, ⟨28, (.one (.ptr 2 2)), []⟩, ⟨29, (.one (.d (.int .i64 l.f2))), []⟩, ⟨30, (.one (.d (.bool true))), []⟩, ⟨31, (.one (.d (.bool true))), []⟩, ⟨32, (.one (.d (.bool true))), []⟩, ⟨33, (.one (.ptr 3 0)), []⟩, ⟨34, (.one (.ptr 3 4)), []⟩, ⟨35, (.one (.d (.ints .u8 x.f0.f4))), []⟩, ⟨36, (.one (.ptr 3 10)), []⟩, ⟨37, (.one (.d (.bss x.f1))), []⟩, ⟨38, (.one (.row 1038 [])), [(1038, (5, (.ints .u8 (treeRoot x.f1))))]⟩, ⟨39, (.one (.d (.bool (decide (x.f0.f4 = (treeRoot x.f1)))))), []⟩, ⟨40, (.one (.d (.bool (decide (x.f0.f4 = (treeRoot x.f1)))))), []⟩, ⟨4, (.one (.d (.bool (decide (x.f0.f4 = (treeRoot x.f1)))))), []⟩] (by kernel_rfl) (by kernel_rfl) ?_ ?_
     ·
      refine .cons (fun E hA_ => by have g2 := hA_.get 2 (by decide); exact OpStep.plain rfl (Step.load_box_agg (n := 5) (qs := [.d (.int .i64 l.f0), .d (.int .i64 l.f1), .d (.int .i64 l.f2), .d (.int .i64 l.f3), .d (.int .i64 l.f4)]) (t := 20) rfl rfl (by exact lt_ok rfl) (by kernel_rfl) (show Env.ev E (.tmp 2) = _ from g2.trans rfl) (by exact hA_.box rfl) rfl rfl)) ?_
      refine .cons (fun E hA_ => by have g3 := hA_.get 3 (by decide); exact OpStep.plain rfl (Step.fieldAddr (q := 0) (off := 0) (n := 10) (one := false) (t := 21) rfl rfl (by exact lt_ok rfl) (by kernel_rfl) (Nat.succ_ne_zero _) (show Env.ev E (.tmp 3) = _ from g3.trans rfl))) ?_
      refine .cons (fun E hA_ => by have g21 := hA_.get 21 (by decide); exact OpStep.plain rfl (Step.load_box_agg (n := 10) (qs := [.d (.int .i64 x.f0.f0), .d (.int .i64 x.f0.f1), .d (.int .i64 x.f0.f2), .d (.ints .u8 x.f0.f3), .d (.ints .u8 x.f0.f4), .d (.int .i64 x.f0.f5.f0), .d (.int .i64 x.f0.f5.f1), .d (.ints .u8 x.f0.f5.f2), .d (.ints .u8 x.f0.f5.f3), .d (.bss x.f0.f5.f4)]) (t := 22) rfl rfl (by exact lt_ok rfl) (by kernel_rfl) (show Env.ev E (.tmp 21) = _ from g21.trans rfl) (by exact hA_.box rfl) rfl rfl)) ?_
      refine .cons (fun E hA_ => by have g20 := hA_.get 20 (by decide); have g22 := hA_.get 22 (by decide); exact OpStep.plain rfl (Step.to (E1 := E.set 23 (.one (.d (.bool (headOk l x.f0))))) (congrArg (fun b_ => E.set 23 (.one (.d (.bool b_)))) hb3) (Step.call (f := 79) (xs := [.tmp 20, .tmp 22]) (ps := [(.agg [.d (.int .i64 l.f0), .d (.int .i64 l.f1), .d (.int .i64 l.f2), .d (.int .i64 l.f3), .d (.int .i64 l.f4)]), (.agg [.d (.int .i64 x.f0.f0), .d (.int .i64 x.f0.f1), .d (.int .i64 x.f0.f2), .d (.ints .u8 x.f0.f3), .d (.ints .u8 x.f0.f4), .d (.int .i64 x.f0.f5.f0), .d (.int .i64 x.f0.f5.f1), .d (.ints .u8 x.f0.f5.f2), .d (.ints .u8 x.f0.f5.f3), .d (.bss x.f0.f5.f4)])]) false (g := .func 79) (t := 23) rfl rfl (by exact lt_ok rfl) rfl (by kernel_rfl) (evs_cons (show Env.ev E (.tmp 20) = _ from g20.trans rfl) (evs_cons (show Env.ev E (.tmp 22) = _ from g22.trans rfl) (rfl))) (.cons (.agg (.cons (.d _) (.cons (.d _) (.cons (.d _) (.cons (.d _) (.cons (.d _) .nil)))))) (.cons (.agg (.cons (.d _) (.cons (.d _) (.cons (.d _) (.cons (.d _) (.cons (.d _) (.cons (.d _) (.cons (.d _) (.cons (.d _) (.cons (.d _) (.cons (.d _) .nil))))))))))) .nil)) (ok_impl_HeadOk l x.f0 (by first | assumption | exact mem_getD o0 (by omega) | exact mem_getD h0_ (by omega)) (by first | assumption | exact mem_getD s0.2 (by omega) | exact mem_getD h1_ (by omega))) (.inr rfl) (At.freshRows hA_ rfl) (by simp) rfl))) ?_
      refine .cons (fun E hA_ => by have g23 := hA_.get 23 (by decide); exact OpStep.plain rfl (Step.move (p := (.one (.d (.bool true)))) (t := 24) rfl rfl (by exact lt_ok rfl) (show Env.ev E (.tmp 23) = _ from g23.trans rfl))) ?_
      refine .cons (fun E hA_ => by have g3 := hA_.get 3 (by decide); have g24 := hA_.get 24 (by decide); exact OpStep.yes (t := 24) rfl rfl (lt_ok rfl) (g24.trans rfl) (Step.fieldAddr (q := 0) (off := 10) (n := 1) (one := true) (t := 25) rfl rfl (by exact lt_ok rfl) (by kernel_rfl) (Nat.succ_ne_zero _) (show Env.ev E (.tmp 3) = _ from g3.trans rfl))) ?_
      refine .cons (fun E hA_ => by have g24 := hA_.get 24 (by decide); have g25 := hA_.get 25 (by decide); exact OpStep.yes (t := 24) rfl rfl (lt_ok rfl) (g24.trans rfl) (Step.load_box (c := .d (.bss x.f1)) (t := 26) rfl rfl (by exact lt_ok rfl) (by kernel_rfl) (show Env.ev E (.tmp 25) = _ from g25.trans rfl) (by exact hA_.box rfl) rfl)) ?_
      refine .cons (fun E hA_ => by have g24 := hA_.get 24 (by decide); have g26 := hA_.get 26 (by decide); exact OpStep.yes (t := 24) rfl rfl (lt_ok rfl) (g24.trans rfl) (Step.len (e := 22) (z := 1) (d := (.bss x.f1)) (t := 27) rfl rfl (by exact lt_ok rfl) (by kernel_rfl) (show Env.ev E (.tmp 26) = _ from g26.trans rfl) rfl)) ?_
      refine .cons (fun E hA_ => by have g2 := hA_.get 2 (by decide); have g24 := hA_.get 24 (by decide); exact OpStep.yes (t := 24) rfl rfl (lt_ok rfl) (g24.trans rfl) (Step.fieldAddr (q := 0) (off := 2) (n := 1) (one := true) (t := 28) rfl rfl (by exact lt_ok rfl) (by kernel_rfl) (Nat.succ_ne_zero _) (show Env.ev E (.tmp 2) = _ from g2.trans rfl))) ?_
      refine .cons (fun E hA_ => by have g24 := hA_.get 24 (by decide); have g28 := hA_.get 28 (by decide); exact OpStep.yes (t := 24) rfl rfl (lt_ok rfl) (g24.trans rfl) (Step.load_box (c := .d (.int .i64 l.f2)) (t := 29) rfl rfl (by exact lt_ok rfl) (by kernel_rfl) (show Env.ev E (.tmp 28) = _ from g28.trans rfl) (by exact hA_.box rfl) rfl)) ?_
      refine .cons (fun E hA_ => by have g24 := hA_.get 24 (by decide); have g27 := hA_.get 27 (by decide); have g29 := hA_.get 29 (by decide); exact OpStep.yes (t := 24) rfl rfl (lt_ok rfl) (g24.trans rfl) (Step.to (E1 := E.set 30 (.one (.d (.bool (decide ((x.f1.length : Int) ≤ l.f2)))))) (congrArg (fun b_ => E.set 30 (.one (.d (.bool b_)))) hb4) (Step.bin (t := 30) rfl rfl (by exact lt_ok rfl) (show Env.ev E (.tmp 27) = _ from g27.trans rfl) (show Env.ev E (.tmp 29) = _ from g29.trans rfl) (Bin.leq (k := .i64) (a := (x.f1.length : Int)) (b := l.f2))))) ?_
      refine .cons (fun E hA_ => by have g24 := hA_.get 24 (by decide); have g30 := hA_.get 30 (by decide); exact OpStep.plain rfl (Step.pick (b := true) (p := (.one (.d (.bool true)))) (t := 31) rfl rfl (by exact lt_ok rfl) (show Env.ev E (.tmp 24) = _ from g24.trans rfl) (show Env.ev E (.tmp 30) = _ from g30.trans rfl))) ?_
      refine .cons (fun E hA_ => by have g31 := hA_.get 31 (by decide); exact OpStep.plain rfl (Step.move (p := (.one (.d (.bool true)))) (t := 32) rfl rfl (by exact lt_ok rfl) (show Env.ev E (.tmp 31) = _ from g31.trans rfl))) ?_
      refine .cons (fun E hA_ => by have g3 := hA_.get 3 (by decide); have g32 := hA_.get 32 (by decide); exact OpStep.yes (t := 32) rfl rfl (lt_ok rfl) (g32.trans rfl) (Step.fieldAddr (q := 0) (off := 0) (n := 10) (one := false) (t := 33) rfl rfl (by exact lt_ok rfl) (by kernel_rfl) (Nat.succ_ne_zero _) (show Env.ev E (.tmp 3) = _ from g3.trans rfl))) ?_
      refine .cons (fun E hA_ => by have g32 := hA_.get 32 (by decide); have g33 := hA_.get 33 (by decide); exact OpStep.yes (t := 32) rfl rfl (lt_ok rfl) (g32.trans rfl) (Step.fieldAddr (q := 0) (off := 4) (n := 1) (one := true) (t := 34) rfl rfl (by exact lt_ok rfl) (by kernel_rfl) (Nat.succ_ne_zero _) (show Env.ev E (.tmp 33) = _ from g33.trans rfl))) ?_
      refine .cons (fun E hA_ => by have g32 := hA_.get 32 (by decide); have g34 := hA_.get 34 (by decide); exact OpStep.yes (t := 32) rfl rfl (lt_ok rfl) (g32.trans rfl) (Step.load_box (c := .d (.ints .u8 x.f0.f4)) (t := 35) rfl rfl (by exact lt_ok rfl) (by kernel_rfl) (show Env.ev E (.tmp 34) = _ from g34.trans rfl) (by exact hA_.box rfl) rfl)) ?_
      refine .cons (fun E hA_ => by have g3 := hA_.get 3 (by decide); have g32 := hA_.get 32 (by decide); exact OpStep.yes (t := 32) rfl rfl (lt_ok rfl) (g32.trans rfl) (Step.fieldAddr (q := 0) (off := 10) (n := 1) (one := true) (t := 36) rfl rfl (by exact lt_ok rfl) (by kernel_rfl) (Nat.succ_ne_zero _) (show Env.ev E (.tmp 3) = _ from g3.trans rfl))) ?_
      refine .cons (fun E hA_ => by have g32 := hA_.get 32 (by decide); have g36 := hA_.get 36 (by decide); exact OpStep.yes (t := 32) rfl rfl (lt_ok rfl) (g32.trans rfl) (Step.load_box (c := .d (.bss x.f1)) (t := 37) rfl rfl (by exact lt_ok rfl) (by kernel_rfl) (show Env.ev E (.tmp 36) = _ from g36.trans rfl) (by exact hA_.box rfl) rfl)) ?_
      refine .cons (fun E hA_ => by have g32 := hA_.get 32 (by decide); have g37 := hA_.get 37 (by decide); exact OpStep.yes (t := 32) rfl rfl (lt_ok rfl) (g32.trans rfl) (Step.call (f := 13) (xs := [.tmp 37]) (ps := [(.one (.d (.bss x.f1)))]) false (g := .func 13) (t := 38) rfl rfl (by exact lt_ok rfl) rfl (by kernel_rfl) (evs_cons (show Env.ev E (.tmp 37) = _ from g37.trans rfl) (rfl)) (.cons (.one (.d _)) .nil) (ok_impl_TreeRoot x.f1 (by first | assumption | exact mem_sub (by assumption) _ _ | exact s0.2 | exact o1) (by first | assumption | exact mem_sub (by assumption) _ _ | exact s0.2 | exact s1.2)) (.inr rfl) (At.freshRows hA_ rfl) (by simp) rfl)) ?_
      refine .cons (fun E hA_ => by have g32 := hA_.get 32 (by decide); have g35 := hA_.get 35 (by decide); have g38 := hA_.get 38 (by decide); exact OpStep.yes (t := 32) rfl rfl (lt_ok rfl) (g32.trans rfl) (Step.call (f := 17) (xs := [.tmp 35, .tmp 38]) (ps := [(.one (.d (.ints .u8 x.f0.f4))), (.one (.row 1038 []))]) false (g := .func 17) (t := 39) rfl rfl (by exact lt_ok rfl) rfl (by kernel_rfl) (evs_cons (show Env.ev E (.tmp 35) = _ from g35.trans rfl) (evs_cons (show Env.ev E (.tmp 38) = _ from g38.trans rfl) (rfl))) (.cons (.one (.d _)) (.cons (.one (.row rfl (by exact (hA_.row 1038 (by kernel_rfl)).trans rfl) rfl rfl)) .nil)) (ok_impl_SameBytes x.f0.f4 (treeRoot x.f1) (by first | assumption | exact s1.2 | exact o1 | omega) (by first | assumption | exact s1.2 | exact o1 | omega)) (.inr rfl) (At.freshRows hA_ rfl) (by simp) rfl)) ?_
      refine .cons (fun E hA_ => by have g32 := hA_.get 32 (by decide); have g39 := hA_.get 39 (by decide); exact OpStep.plain rfl (Step.pick (b := true) (p := (.one (.d (.bool (decide (x.f0.f4 = (treeRoot x.f1))))))) (t := 40) rfl rfl (by exact lt_ok rfl) (show Env.ev E (.tmp 32) = _ from g32.trans rfl) (show Env.ev E (.tmp 39) = _ from g39.trans rfl))) ?_
      refine .cons (fun E hA_ => by have g40 := hA_.get 40 (by decide); exact OpStep.plain rfl (Step.assign (p := (.one (.d (.bool (decide (x.f0.f4 = (treeRoot x.f1))))))) (t := 4) rfl rfl (by exact lt_ok rfl) (show Env.ev E (.tmp 40) = _ from g40.trans rfl))) ?_
      exact .nil _ _
     refine TL.nil ?_
     refine T.ret ?_
     refine ⟨[(false, [.d (.bool (decide (x.f0.f4 = (treeRoot x.f1))))])], (.cons rfl .nil), rfl, [], (RetC.rd' ?_ .nil)⟩ <;> ((congr 1; symm; first | (unfold blockOk; rw [txsOk_no (i := i) (by omega) (by omega)]; simp; done) | (rw [List.take_of_length_le (by omega)] at hx2; rw [blockOk_mk (by assumption) (by omega) hx2]; first | done | rfl | assumption | exact decide_eq_true ‹_› | exact decide_eq_false ‹_›) | (rw [List.take_of_length_le (by omega)] at hx2; simp_all [blockOk]; done) | (simp_all [blockOk]; done) | (rw [List.take_of_length_le (by omega)] at hx2; simp_all [blockOk]; omega) | (simp_all [blockOk]; omega)))
    ·
     have hb4' := hb4
     replace hb4' := of_decide_eq_false hb4'
     refine T.draw [⟨20, (.agg [.d (.int .i64 l.f0), .d (.int .i64 l.f1), .d (.int .i64 l.f2), .d (.int .i64 l.f3), .d (.int .i64 l.f4)]), []⟩, ⟨21, (.one (.ptr 3 0)), []⟩, ⟨22, (.agg [.d (.int .i64 x.f0.f0), .d (.int .i64 x.f0.f1), .d (.int .i64 x.f0.f2), .d (.ints .u8 x.f0.f3), .d (.ints .u8 x.f0.f4), .d (.int .i64 x.f0.f5.f0), .d (.int .i64 x.f0.f5.f1), .d (.ints .u8 x.f0.f5.f2), .d (.ints .u8 x.f0.f5.f3), .d (.bss x.f0.f5.f4)]), []⟩, ⟨23, (.one (.d (.bool true))), []⟩, ⟨24, (.one (.d (.bool true))), []⟩, ⟨25, (.one (.ptr 3 10)), []⟩, ⟨26, (.one (.d (.bss x.f1))), []⟩, ⟨27, (.one (.d (.int .i64 (x.f1.length : Int)))), []⟩, ⟨28, (.one (.ptr 2 2)), []⟩, ⟨29, (.one (.d (.int .i64 l.f2))), []⟩, ⟨30, (.one (.d (.bool false))), []⟩, ⟨31, (.one (.d (.bool false))), []⟩, ⟨32, (.one (.d (.bool false))), []⟩, ⟨33, (.tup []), []⟩, ⟨34, (.tup []), []⟩, ⟨35, (.tup []), []⟩, ⟨36, (.tup []), []⟩, ⟨37, (.tup []), []⟩, ⟨38, (.tup []), []⟩, ⟨39, (.tup []), []⟩, ⟨40, (.one (.d (.bool false))), []⟩, ⟨4, (.one (.d (.bool false))), []⟩] (by kernel_rfl) (by kernel_rfl) ?_ ?_
     ·
      refine .cons (fun E hA_ => by have g2 := hA_.get 2 (by decide); exact OpStep.plain rfl (Step.load_box_agg (n := 5) (qs := [.d (.int .i64 l.f0), .d (.int .i64 l.f1), .d (.int .i64 l.f2), .d (.int .i64 l.f3), .d (.int .i64 l.f4)]) (t := 20) rfl rfl (by exact lt_ok rfl) (by kernel_rfl) (show Env.ev E (.tmp 2) = _ from g2.trans rfl) (by exact hA_.box rfl) rfl rfl)) ?_
      refine .cons (fun E hA_ => by have g3 := hA_.get 3 (by decide); exact OpStep.plain rfl (Step.fieldAddr (q := 0) (off := 0) (n := 10) (one := false) (t := 21) rfl rfl (by exact lt_ok rfl) (by kernel_rfl) (Nat.succ_ne_zero _) (show Env.ev E (.tmp 3) = _ from g3.trans rfl))) ?_
      refine .cons (fun E hA_ => by have g21 := hA_.get 21 (by decide); exact OpStep.plain rfl (Step.load_box_agg (n := 10) (qs := [.d (.int .i64 x.f0.f0), .d (.int .i64 x.f0.f1), .d (.int .i64 x.f0.f2), .d (.ints .u8 x.f0.f3), .d (.ints .u8 x.f0.f4), .d (.int .i64 x.f0.f5.f0), .d (.int .i64 x.f0.f5.f1), .d (.ints .u8 x.f0.f5.f2), .d (.ints .u8 x.f0.f5.f3), .d (.bss x.f0.f5.f4)]) (t := 22) rfl rfl (by exact lt_ok rfl) (by kernel_rfl) (show Env.ev E (.tmp 21) = _ from g21.trans rfl) (by exact hA_.box rfl) rfl rfl)) ?_
      refine .cons (fun E hA_ => by have g20 := hA_.get 20 (by decide); have g22 := hA_.get 22 (by decide); exact OpStep.plain rfl (Step.to (E1 := E.set 23 (.one (.d (.bool (headOk l x.f0))))) (congrArg (fun b_ => E.set 23 (.one (.d (.bool b_)))) hb3) (Step.call (f := 79) (xs := [.tmp 20, .tmp 22]) (ps := [(.agg [.d (.int .i64 l.f0), .d (.int .i64 l.f1), .d (.int .i64 l.f2), .d (.int .i64 l.f3), .d (.int .i64 l.f4)]), (.agg [.d (.int .i64 x.f0.f0), .d (.int .i64 x.f0.f1), .d (.int .i64 x.f0.f2), .d (.ints .u8 x.f0.f3), .d (.ints .u8 x.f0.f4), .d (.int .i64 x.f0.f5.f0), .d (.int .i64 x.f0.f5.f1), .d (.ints .u8 x.f0.f5.f2), .d (.ints .u8 x.f0.f5.f3), .d (.bss x.f0.f5.f4)])]) false (g := .func 79) (t := 23) rfl rfl (by exact lt_ok rfl) rfl (by kernel_rfl) (evs_cons (show Env.ev E (.tmp 20) = _ from g20.trans rfl) (evs_cons (show Env.ev E (.tmp 22) = _ from g22.trans rfl) (rfl))) (.cons (.agg (.cons (.d _) (.cons (.d _) (.cons (.d _) (.cons (.d _) (.cons (.d _) .nil)))))) (.cons (.agg (.cons (.d _) (.cons (.d _) (.cons (.d _) (.cons (.d _) (.cons (.d _) (.cons (.d _) (.cons (.d _) (.cons (.d _) (.cons (.d _) (.cons (.d _) .nil))))))))))) .nil)) (ok_impl_HeadOk l x.f0 (by first | assumption | exact mem_getD o0 (by omega) | exact mem_getD h0_ (by omega)) (by first | assumption | exact mem_getD s0.2 (by omega) | exact mem_getD h1_ (by omega))) (.inr rfl) (At.freshRows hA_ rfl) (by simp) rfl))) ?_
      refine .cons (fun E hA_ => by have g23 := hA_.get 23 (by decide); exact OpStep.plain rfl (Step.move (p := (.one (.d (.bool true)))) (t := 24) rfl rfl (by exact lt_ok rfl) (show Env.ev E (.tmp 23) = _ from g23.trans rfl))) ?_
      refine .cons (fun E hA_ => by have g3 := hA_.get 3 (by decide); have g24 := hA_.get 24 (by decide); exact OpStep.yes (t := 24) rfl rfl (lt_ok rfl) (g24.trans rfl) (Step.fieldAddr (q := 0) (off := 10) (n := 1) (one := true) (t := 25) rfl rfl (by exact lt_ok rfl) (by kernel_rfl) (Nat.succ_ne_zero _) (show Env.ev E (.tmp 3) = _ from g3.trans rfl))) ?_
      refine .cons (fun E hA_ => by have g24 := hA_.get 24 (by decide); have g25 := hA_.get 25 (by decide); exact OpStep.yes (t := 24) rfl rfl (lt_ok rfl) (g24.trans rfl) (Step.load_box (c := .d (.bss x.f1)) (t := 26) rfl rfl (by exact lt_ok rfl) (by kernel_rfl) (show Env.ev E (.tmp 25) = _ from g25.trans rfl) (by exact hA_.box rfl) rfl)) ?_
      refine .cons (fun E hA_ => by have g24 := hA_.get 24 (by decide); have g26 := hA_.get 26 (by decide); exact OpStep.yes (t := 24) rfl rfl (lt_ok rfl) (g24.trans rfl) (Step.len (e := 22) (z := 1) (d := (.bss x.f1)) (t := 27) rfl rfl (by exact lt_ok rfl) (by kernel_rfl) (show Env.ev E (.tmp 26) = _ from g26.trans rfl) rfl)) ?_
      refine .cons (fun E hA_ => by have g2 := hA_.get 2 (by decide); have g24 := hA_.get 24 (by decide); exact OpStep.yes (t := 24) rfl rfl (lt_ok rfl) (g24.trans rfl) (Step.fieldAddr (q := 0) (off := 2) (n := 1) (one := true) (t := 28) rfl rfl (by exact lt_ok rfl) (by kernel_rfl) (Nat.succ_ne_zero _) (show Env.ev E (.tmp 2) = _ from g2.trans rfl))) ?_
      refine .cons (fun E hA_ => by have g24 := hA_.get 24 (by decide); have g28 := hA_.get 28 (by decide); exact OpStep.yes (t := 24) rfl rfl (lt_ok rfl) (g24.trans rfl) (Step.load_box (c := .d (.int .i64 l.f2)) (t := 29) rfl rfl (by exact lt_ok rfl) (by kernel_rfl) (show Env.ev E (.tmp 28) = _ from g28.trans rfl) (by exact hA_.box rfl) rfl)) ?_
      refine .cons (fun E hA_ => by have g24 := hA_.get 24 (by decide); have g27 := hA_.get 27 (by decide); have g29 := hA_.get 29 (by decide); exact OpStep.yes (t := 24) rfl rfl (lt_ok rfl) (g24.trans rfl) (Step.to (E1 := E.set 30 (.one (.d (.bool (decide ((x.f1.length : Int) ≤ l.f2)))))) (congrArg (fun b_ => E.set 30 (.one (.d (.bool b_)))) hb4) (Step.bin (t := 30) rfl rfl (by exact lt_ok rfl) (show Env.ev E (.tmp 27) = _ from g27.trans rfl) (show Env.ev E (.tmp 29) = _ from g29.trans rfl) (Bin.leq (k := .i64) (a := (x.f1.length : Int)) (b := l.f2))))) ?_
      refine .cons (fun E hA_ => by have g24 := hA_.get 24 (by decide); have g30 := hA_.get 30 (by decide); exact OpStep.plain rfl (Step.pick (b := true) (p := (.one (.d (.bool false)))) (t := 31) rfl rfl (by exact lt_ok rfl) (show Env.ev E (.tmp 24) = _ from g24.trans rfl) (show Env.ev E (.tmp 30) = _ from g30.trans rfl))) ?_
      refine .cons (fun E hA_ => by have g31 := hA_.get 31 (by decide); exact OpStep.plain rfl (Step.move (p := (.one (.d (.bool false)))) (t := 32) rfl rfl (by exact lt_ok rfl) (show Env.ev E (.tmp 31) = _ from g31.trans rfl))) ?_
      refine .cons (fun E hA_ => OpStep.off (t := 32) rfl rfl (lt_ok rfl) ((hA_.get 32 (by decide)).trans rfl) (by decide) rfl (lt_ok rfl)) ?_
      refine .cons (fun E hA_ => OpStep.off (t := 32) rfl rfl (lt_ok rfl) ((hA_.get 32 (by decide)).trans rfl) (by decide) rfl (lt_ok rfl)) ?_
      refine .cons (fun E hA_ => OpStep.off (t := 32) rfl rfl (lt_ok rfl) ((hA_.get 32 (by decide)).trans rfl) (by decide) rfl (lt_ok rfl)) ?_
      refine .cons (fun E hA_ => OpStep.off (t := 32) rfl rfl (lt_ok rfl) ((hA_.get 32 (by decide)).trans rfl) (by decide) rfl (lt_ok rfl)) ?_
      refine .cons (fun E hA_ => OpStep.off (t := 32) rfl rfl (lt_ok rfl) ((hA_.get 32 (by decide)).trans rfl) (by decide) rfl (lt_ok rfl)) ?_
      refine .cons (fun E hA_ => OpStep.off (t := 32) rfl rfl (lt_ok rfl) ((hA_.get 32 (by decide)).trans rfl) (by decide) rfl (lt_ok rfl)) ?_
      refine .cons (fun E hA_ => OpStep.off (t := 32) rfl rfl (lt_ok rfl) ((hA_.get 32 (by decide)).trans rfl) (by decide) rfl (lt_ok rfl)) ?_
      refine .cons (fun E hA_ => by have g32 := hA_.get 32 (by decide); have g39 := hA_.get 39 (by decide); exact OpStep.plain rfl (Step.pick (b := false) (p := (.one (.d (.bool false)))) (t := 40) rfl rfl (by exact lt_ok rfl) (show Env.ev E (.tmp 32) = _ from g32.trans rfl) rfl)) ?_
      refine .cons (fun E hA_ => by have g40 := hA_.get 40 (by decide); exact OpStep.plain rfl (Step.assign (p := (.one (.d (.bool false)))) (t := 4) rfl rfl (by exact lt_ok rfl) (show Env.ev E (.tmp 40) = _ from g40.trans rfl))) ?_
      exact .nil _ _
     refine TL.nil ?_
     refine T.ret ?_
     refine ⟨[(false, [.d (.bool false)])], (.cons rfl .nil), rfl, [], (RetC.rd' ?_ .nil)⟩ <;> ((congr 1; symm; first | (unfold blockOk; rw [txsOk_no (i := i) (by omega) (by omega)]; simp; done) | (rw [List.take_of_length_le (by omega)] at hx2; rw [blockOk_mk (by assumption) (by omega) hx2]; first | done | rfl | assumption | exact decide_eq_true ‹_› | exact decide_eq_false ‹_›) | (rw [List.take_of_length_le (by omega)] at hx2; simp_all [blockOk]; done) | (simp_all [blockOk]; done) | (rw [List.take_of_length_le (by omega)] at hx2; simp_all [blockOk]; omega) | (simp_all [blockOk]; omega)))
   ·
    refine T.draw [⟨20, (.agg [.d (.int .i64 l.f0), .d (.int .i64 l.f1), .d (.int .i64 l.f2), .d (.int .i64 l.f3), .d (.int .i64 l.f4)]), []⟩, ⟨21, (.one (.ptr 3 0)), []⟩, ⟨22, (.agg [.d (.int .i64 x.f0.f0), .d (.int .i64 x.f0.f1), .d (.int .i64 x.f0.f2), .d (.ints .u8 x.f0.f3), .d (.ints .u8 x.f0.f4), .d (.int .i64 x.f0.f5.f0), .d (.int .i64 x.f0.f5.f1), .d (.ints .u8 x.f0.f5.f2), .d (.ints .u8 x.f0.f5.f3), .d (.bss x.f0.f5.f4)]), []⟩, ⟨23, (.one (.d (.bool false))), []⟩, ⟨24, (.one (.d (.bool false))), []⟩, ⟨25, (.tup []), []⟩, ⟨26, (.tup []), []⟩, ⟨27, (.tup []), []⟩, ⟨28, (.tup []), []⟩, ⟨29, (.tup []), []⟩, ⟨30, (.tup []), []⟩, ⟨31, (.one (.d (.bool false))), []⟩, ⟨32, (.one (.d (.bool false))), []⟩, ⟨33, (.tup []), []⟩, ⟨34, (.tup []), []⟩, ⟨35, (.tup []), []⟩, ⟨36, (.tup []), []⟩, ⟨37, (.tup []), []⟩, ⟨38, (.tup []), []⟩, ⟨39, (.tup []), []⟩, ⟨40, (.one (.d (.bool false))), []⟩, ⟨4, (.one (.d (.bool false))), []⟩] (by kernel_rfl) (by kernel_rfl) ?_ ?_
    ·
     refine .cons (fun E hA_ => by have g2 := hA_.get 2 (by decide); exact OpStep.plain rfl (Step.load_box_agg (n := 5) (qs := [.d (.int .i64 l.f0), .d (.int .i64 l.f1), .d (.int .i64 l.f2), .d (.int .i64 l.f3), .d (.int .i64 l.f4)]) (t := 20) rfl rfl (by exact lt_ok rfl) (by kernel_rfl) (show Env.ev E (.tmp 2) = _ from g2.trans rfl) (by exact hA_.box rfl) rfl rfl)) ?_
     refine .cons (fun E hA_ => by have g3 := hA_.get 3 (by decide); exact OpStep.plain rfl (Step.fieldAddr (q := 0) (off := 0) (n := 10) (one := false) (t := 21) rfl rfl (by exact lt_ok rfl) (by kernel_rfl) (Nat.succ_ne_zero _) (show Env.ev E (.tmp 3) = _ from g3.trans rfl))) ?_
     refine .cons (fun E hA_ => by have g21 := hA_.get 21 (by decide); exact OpStep.plain rfl (Step.load_box_agg (n := 10) (qs := [.d (.int .i64 x.f0.f0), .d (.int .i64 x.f0.f1), .d (.int .i64 x.f0.f2), .d (.ints .u8 x.f0.f3), .d (.ints .u8 x.f0.f4), .d (.int .i64 x.f0.f5.f0), .d (.int .i64 x.f0.f5.f1), .d (.ints .u8 x.f0.f5.f2), .d (.ints .u8 x.f0.f5.f3), .d (.bss x.f0.f5.f4)]) (t := 22) rfl rfl (by exact lt_ok rfl) (by kernel_rfl) (show Env.ev E (.tmp 21) = _ from g21.trans rfl) (by exact hA_.box rfl) rfl rfl)) ?_
     refine .cons (fun E hA_ => by have g20 := hA_.get 20 (by decide); have g22 := hA_.get 22 (by decide); exact OpStep.plain rfl (Step.to (E1 := E.set 23 (.one (.d (.bool (headOk l x.f0))))) (congrArg (fun b_ => E.set 23 (.one (.d (.bool b_)))) hb3) (Step.call (f := 79) (xs := [.tmp 20, .tmp 22]) (ps := [(.agg [.d (.int .i64 l.f0), .d (.int .i64 l.f1), .d (.int .i64 l.f2), .d (.int .i64 l.f3), .d (.int .i64 l.f4)]), (.agg [.d (.int .i64 x.f0.f0), .d (.int .i64 x.f0.f1), .d (.int .i64 x.f0.f2), .d (.ints .u8 x.f0.f3), .d (.ints .u8 x.f0.f4), .d (.int .i64 x.f0.f5.f0), .d (.int .i64 x.f0.f5.f1), .d (.ints .u8 x.f0.f5.f2), .d (.ints .u8 x.f0.f5.f3), .d (.bss x.f0.f5.f4)])]) false (g := .func 79) (t := 23) rfl rfl (by exact lt_ok rfl) rfl (by kernel_rfl) (evs_cons (show Env.ev E (.tmp 20) = _ from g20.trans rfl) (evs_cons (show Env.ev E (.tmp 22) = _ from g22.trans rfl) (rfl))) (.cons (.agg (.cons (.d _) (.cons (.d _) (.cons (.d _) (.cons (.d _) (.cons (.d _) .nil)))))) (.cons (.agg (.cons (.d _) (.cons (.d _) (.cons (.d _) (.cons (.d _) (.cons (.d _) (.cons (.d _) (.cons (.d _) (.cons (.d _) (.cons (.d _) (.cons (.d _) .nil))))))))))) .nil)) (ok_impl_HeadOk l x.f0 (by first | assumption | exact mem_getD o0 (by omega) | exact mem_getD h0_ (by omega)) (by first | assumption | exact mem_getD s0.2 (by omega) | exact mem_getD h1_ (by omega))) (.inr rfl) (At.freshRows hA_ rfl) (by simp) rfl))) ?_
     refine .cons (fun E hA_ => by have g23 := hA_.get 23 (by decide); exact OpStep.plain rfl (Step.move (p := (.one (.d (.bool false)))) (t := 24) rfl rfl (by exact lt_ok rfl) (show Env.ev E (.tmp 23) = _ from g23.trans rfl))) ?_
     refine .cons (fun E hA_ => OpStep.off (t := 24) rfl rfl (lt_ok rfl) ((hA_.get 24 (by decide)).trans rfl) (by decide) rfl (lt_ok rfl)) ?_
     refine .cons (fun E hA_ => OpStep.off (t := 24) rfl rfl (lt_ok rfl) ((hA_.get 24 (by decide)).trans rfl) (by decide) rfl (lt_ok rfl)) ?_
     refine .cons (fun E hA_ => OpStep.off (t := 24) rfl rfl (lt_ok rfl) ((hA_.get 24 (by decide)).trans rfl) (by decide) rfl (lt_ok rfl)) ?_
     refine .cons (fun E hA_ => OpStep.off (t := 24) rfl rfl (lt_ok rfl) ((hA_.get 24 (by decide)).trans rfl) (by decide) rfl (lt_ok rfl)) ?_
     refine .cons (fun E hA_ => OpStep.off (t := 24) rfl rfl (lt_ok rfl) ((hA_.get 24 (by decide)).trans rfl) (by decide) rfl (lt_ok rfl)) ?_
     refine .cons (fun E hA_ => OpStep.off (t := 24) rfl rfl (lt_ok rfl) ((hA_.get 24 (by decide)).trans rfl) (by decide) rfl (lt_ok rfl)) ?_
     refine .cons (fun E hA_ => by have g24 := hA_.get 24 (by decide); have g30 := hA_.get 30 (by decide); exact OpStep.plain rfl (Step.pick (b := false) (p := (.one (.d (.bool false)))) (t := 31) rfl rfl (by exact lt_ok rfl) (show Env.ev E (.tmp 24) = _ from g24.trans rfl) rfl)) ?_
     refine .cons (fun E hA_ => by have g31 := hA_.get 31 (by decide); exact OpStep.plain rfl (Step.move (p := (.one (.d (.bool false)))) (t := 32) rfl rfl (by exact lt_ok rfl) (show Env.ev E (.tmp 31) = _ from g31.trans rfl))) ?_
     refine .cons (fun E hA_ => OpStep.off (t := 32) rfl rfl (lt_ok rfl) ((hA_.get 32 (by decide)).trans rfl) (by decide) rfl (lt_ok rfl)) ?_
     refine .cons (fun E hA_ => OpStep.off (t := 32) rfl rfl (lt_ok rfl) ((hA_.get 32 (by decide)).trans rfl) (by decide) rfl (lt_ok rfl)) ?_
     refine .cons (fun E hA_ => OpStep.off (t := 32) rfl rfl (lt_ok rfl) ((hA_.get 32 (by decide)).trans rfl) (by decide) rfl (lt_ok rfl)) ?_
     refine .cons (fun E hA_ => OpStep.off (t := 32) rfl rfl (lt_ok rfl) ((hA_.get 32 (by decide)).trans rfl) (by decide) rfl (lt_ok rfl)) ?_
     refine .cons (fun E hA_ => OpStep.off (t := 32) rfl rfl (lt_ok rfl) ((hA_.get 32 (by decide)).trans rfl) (by decide) rfl (lt_ok rfl)) ?_
     refine .cons (fun E hA_ => OpStep.off (t := 32) rfl rfl (lt_ok rfl) ((hA_.get 32 (by decide)).trans rfl) (by decide) rfl (lt_ok rfl)) ?_
     refine .cons (fun E hA_ => OpStep.off (t := 32) rfl rfl (lt_ok rfl) ((hA_.get 32 (by decide)).trans rfl) (by decide) rfl (lt_ok rfl)) ?_
     refine .cons (fun E hA_ => by have g32 := hA_.get 32 (by decide); have g39 := hA_.get 39 (by decide); exact OpStep.plain rfl (Step.pick (b := false) (p := (.one (.d (.bool false)))) (t := 40) rfl rfl (by exact lt_ok rfl) (show Env.ev E (.tmp 32) = _ from g32.trans rfl) rfl)) ?_
     refine .cons (fun E hA_ => by have g40 := hA_.get 40 (by decide); exact OpStep.plain rfl (Step.assign (p := (.one (.d (.bool false)))) (t := 4) rfl rfl (by exact lt_ok rfl) (show Env.ev E (.tmp 40) = _ from g40.trans rfl))) ?_
     exact .nil _ _
    refine TL.nil ?_
    refine T.ret ?_
    refine ⟨[(false, [.d (.bool false)])], (.cons rfl .nil), rfl, [], (RetC.rd' ?_ .nil)⟩ <;> ((congr 1; symm; first | (unfold blockOk; rw [txsOk_no (i := i) (by omega) (by omega)]; simp; done) | (rw [List.take_of_length_le (by omega)] at hx2; rw [blockOk_mk (by assumption) (by omega) hx2]; first | done | rfl | assumption | exact decide_eq_true ‹_› | exact decide_eq_false ‹_›) | (rw [List.take_of_length_le (by omega)] at hx2; simp_all [blockOk]; done) | (simp_all [blockOk]; done) | (rw [List.take_of_length_le (by omega)] at hx2; simp_all [blockOk]; omega) | (simp_all [blockOk]; omega)))
theorem ok_laws_eqByteS (a : List Int) (b : List Int) : RO Try.prog 29 [.one (.ints .u8 a), .one (.ints .u8 b)] [(false, [.rd (.bool (decide (a = b)))])] := by
 refine RO.intro Try.func29 rfl 26 rfl (le_ok rfl) fun w Z => ?_
 refine T.bnd 0 0 rfl rfl fun hb_0_0 => ?_
 simp only [D.size, List.length_map] at hb_0_0
 refine T.bnd 1 0 rfl rfl fun hb_1_0 => ?_
 simp only [D.size, List.length_map] at hb_1_0
 refine T.seq ?_
 refine T.region ?_
 refine TL.cons rfl (Step.assign (p := (.one (.d (.bool false)))) rfl rfl (lt_ok rfl) rfl) ?_
 refine TL.nil ?_
 refine T.seq ?_
 refine T.seq ?_
 refine T.region ?_
 refine TL.cons rfl (Step.move (p := (.one (.d (.ints .u8 a)))) rfl rfl (lt_ok rfl) rfl) ?_
 refine TL.cons rfl (Step.len (e := 5) (z := 1) (d := (.ints .u8 a)) rfl rfl (lt_ok rfl) (by kernel_rfl) rfl rfl) ?_
 refine TL.cons rfl (Step.move (p := (.one (.d (.ints .u8 b)))) rfl rfl (lt_ok rfl) rfl) ?_
 refine TL.cons rfl (Step.len (e := 5) (z := 1) (d := (.ints .u8 b)) rfl rfl (lt_ok rfl) (by kernel_rfl) rfl rfl) ?_
 refine TL.cons rfl (Step.bin rfl rfl (lt_ok rfl) rfl rfl (Bin.neq (k := .i64) (a := (a.length : Int)) (b := (b.length : Int)))) ?_
 refine TL.nil ?_
 refine T.cond (b := decide ((a.length : Int) ≠ (b.length : Int))) rfl (fun h1 => ?_) (fun h1 => ?_)
 ·
  replace h1 := of_decide_eq_true h1
  refine T.seq ?_
  refine T.region ?_
  refine TL.cons rfl (Step.assign (p := (.one (.d (.bool false)))) rfl rfl (lt_ok rfl) rfl) ?_
  refine TL.nil ?_
  refine T.ret ?_
  refine ⟨[(false, [.d (.bool false)])], (.cons rfl .nil), rfl, [], (RetC.rd' ?_ .nil)⟩ <;> ((congr 1; symm; first | (apply decide_eq_false; rintro rfl; first | exact absurd rfl ‹¬ _ = _› | exact absurd rfl (of_decide_eq_false (by assumption)) | contradiction | simp_all) | (apply decide_eq_true; exact take_all hx2 (by omega) hx3)))
 ·
  replace h1 := of_decide_eq_false h1
  refine T.skip ?_
  refine T.seq ?_
  refine T.seq ?_
  refine T.region ?_
  refine TL.cons rfl (Step.assign (p := (.one (.d (.int .i64 0)))) rfl rfl (lt_ok rfl) rfl) ?_
  refine TL.nil ?_
  refine T.block ?_
  refine T.loop (ι := Nat) (fun xx_ => { tm := [(0, (.one (.d (.ints .u8 a)))), (1, (.one (.d (.ints .u8 b)))), (5, (.one (.d (.int .i64 (xx_ : Int)))))], rows := [], boxes := [] }) (fun xx_ => xx_ ≤ a.length ∧ a.length = b.length ∧ a.take xx_ = b.take xx_) (fun xx_ => a.length - xx_) 0 ?_ ?_ ?_
  · refine Env.le_mk ⟨rfl, rfl, ?_, trivial⟩ trivial trivial <;> (first | rfl | (simp; done) | (congr 3; omega))
  · (refine ⟨Nat.zero_le _, by omega, by simp⟩)
  ·
   intro i hx
   try dsimp only at hx ⊢
   obtain ⟨hx1, hx2, hx3⟩ := hx
   refine T.seq ?_
   refine T.seq ?_
   refine T.region ?_
   refine TL.cons rfl (Step.move (p := (.one (.d (.int .i64 (i : Int))))) rfl rfl (lt_ok rfl) rfl) ?_
   refine TL.cons rfl (Step.move (p := (.one (.d (.ints .u8 a)))) rfl rfl (lt_ok rfl) rfl) ?_
   refine TL.cons rfl (Step.len (e := 5) (z := 1) (d := (.ints .u8 a)) rfl rfl (lt_ok rfl) (by kernel_rfl) rfl rfl) ?_
   refine TL.cons rfl (Step.bin rfl rfl (lt_ok rfl) rfl rfl (Bin.lss (k := .i64) (a := (i : Int)) (b := (a.length : Int)))) ?_
   refine TL.nil ?_
   refine T.cond (b := decide ((i : Int) < (a.length : Int))) rfl (fun h2 => ?_) (fun h2 => ?_)
   ·
    replace h2 := of_decide_eq_true h2
    refine T.skip ?_
    refine T.seq ?_
    refine T.block ?_
    refine T.seq ?_
    refine T.draw [⟨17, (.one (.d (.ints .u8 a))), []⟩, ⟨18, (.one (.d (.int .i64 (i : Int)))), []⟩, ⟨19, (.one (.eptr (.ints .u8 a) i 0)), []⟩, ⟨20, (.one (.d (.int .u8 (a.getD i 0)))), []⟩, ⟨21, (.one (.d (.ints .u8 b))), []⟩, ⟨22, (.one (.d (.int .i64 (i : Int)))), []⟩, ⟨23, (.one (.eptr (.ints .u8 b) i 0)), []⟩, ⟨24, (.one (.d (.int .u8 (b.getD i 0)))), []⟩, ⟨25, (.one (.d (.bool (decide ((a.getD i 0) ≠ (b.getD i 0)))))), []⟩] (by kernel_rfl) (by kernel_rfl) ?_ ?_
    ·
     refine .cons (fun E hA_ => by have g0 := hA_.get 0 (by decide); exact OpStep.plain rfl (Step.move (p := (.one (.d (.ints .u8 a)))) (t := 17) rfl rfl (by exact lt_ok rfl) (show Env.ev E (.tmp 0) = _ from g0.trans rfl))) ?_
     refine .cons (fun E hA_ => by have g5 := hA_.get 5 (by decide); exact OpStep.plain rfl (Step.move (p := (.one (.d (.int .i64 (i : Int))))) (t := 18) rfl rfl (by exact lt_ok rfl) (show Env.ev E (.tmp 5) = _ from g5.trans rfl))) ?_
     refine .cons (fun E hA_ => by have g17 := hA_.get 17 (by decide); have g18 := hA_.get 18 (by decide); exact OpStep.plain rfl (Step.index (e := 5) (z := 1) (i := (i : Int)) (t := 19) rfl rfl (by exact lt_ok rfl) (by kernel_rfl) (show Env.ev E (.tmp 17) = _ from g17.trans rfl) rfl rfl (lt_ok rfl) (show Env.ev E (.tmp 18) = _ from g18.trans rfl) (by first | omega | (simp; omega)) (by simp only [D.size]; first | omega | (simp; omega)))) ?_
     refine .cons (fun E hA_ => by have g19 := hA_.get 19 (by decide); exact OpStep.plain rfl (Step.load (e := (.int .u8 (a.getD i 0))) (t := 20) rfl rfl (by exact lt_ok rfl) (by kernel_rfl) (show Env.ev E (.tmp 19) = _ from g19.trans rfl) rfl)) ?_
     refine .cons (fun E hA_ => by have g1 := hA_.get 1 (by decide); exact OpStep.plain rfl (Step.move (p := (.one (.d (.ints .u8 b)))) (t := 21) rfl rfl (by exact lt_ok rfl) (show Env.ev E (.tmp 1) = _ from g1.trans rfl))) ?_
     refine .cons (fun E hA_ => by have g5 := hA_.get 5 (by decide); exact OpStep.plain rfl (Step.move (p := (.one (.d (.int .i64 (i : Int))))) (t := 22) rfl rfl (by exact lt_ok rfl) (show Env.ev E (.tmp 5) = _ from g5.trans rfl))) ?_
     refine .cons (fun E hA_ => by have g21 := hA_.get 21 (by decide); have g22 := hA_.get 22 (by decide); exact OpStep.plain rfl (Step.index (e := 5) (z := 1) (i := (i : Int)) (t := 23) rfl rfl (by exact lt_ok rfl) (by kernel_rfl) (show Env.ev E (.tmp 21) = _ from g21.trans rfl) rfl rfl (lt_ok rfl) (show Env.ev E (.tmp 22) = _ from g22.trans rfl) (by first | omega | (simp; omega)) (by simp only [D.size]; first | omega | (simp; omega)))) ?_
     refine .cons (fun E hA_ => by have g23 := hA_.get 23 (by decide); exact OpStep.plain rfl (Step.load (e := (.int .u8 (b.getD i 0))) (t := 24) rfl rfl (by exact lt_ok rfl) (by kernel_rfl) (show Env.ev E (.tmp 23) = _ from g23.trans rfl) rfl)) ?_
     refine .cons (fun E hA_ => by have g20 := hA_.get 20 (by decide); have g24 := hA_.get 24 (by decide); exact OpStep.plain rfl (Step.bin (t := 25) rfl rfl (by exact lt_ok rfl) (show Env.ev E (.tmp 20) = _ from g20.trans rfl) (show Env.ev E (.tmp 24) = _ from g24.trans rfl) (Bin.neq (k := .u8) (a := (a.getD i 0)) (b := (b.getD i 0))))) ?_
     exact .nil _ _
    refine TL.nil ?_
    refine T.cond (b := decide ((a.getD i 0) ≠ (b.getD i 0))) rfl (fun h3 => ?_) (fun h3 => ?_)
    ·
     replace h3 := of_decide_eq_true h3
     refine T.seq ?_
     refine T.region ?_
     refine TL.cons rfl (Step.assign (p := (.one (.d (.bool false)))) rfl rfl (lt_ok rfl) rfl) ?_
     refine TL.nil ?_
     refine T.ret ?_
     refine ⟨[(false, [.d (.bool false)])], (.cons rfl .nil), rfl, [], (RetC.rd' ?_ .nil)⟩ <;> ((congr 1; symm; first | (apply decide_eq_false; rintro rfl; first | exact absurd rfl ‹¬ _ = _› | exact absurd rfl (of_decide_eq_false (by assumption)) | contradiction | simp_all) | (apply decide_eq_true; exact take_all hx2 (by omega) hx3)))
    ·
     replace h3 := of_decide_eq_false h3
     refine T.skip ?_
     refine T.region ?_
     refine TL.cons rfl (Step.move (p := (.one (.d (.int .i64 (i : Int))))) rfl rfl (lt_ok rfl) rfl) ?_
     refine TL.cons rfl (Step.bin (r := .int .i64 ((i : Int) + 1)) rfl rfl (lt_ok rfl) rfl rfl (Bin.add (a := (i : Int)) (b := 1) (by first | exact wrap_ok (by first | omega | (simp; omega)) (by first | omega | (simp; omega)) | rfl))) ?_
     refine TL.cons rfl (Step.assign (p := (.one (.d (.int .i64 ((i : Int) + 1))))) rfl rfl (lt_ok rfl) rfl) ?_
     refine TL.nil ?_
     refine ⟨i + 1, by (refine ⟨by omega, hx2, take_step (d := 0) hx2 (by omega) hx3 (by first | assumption | exact Decidable.not_not.1 (by assumption) | omega)⟩), by omega, Env.le_mk ⟨rfl, rfl, ?_, trivial⟩ trivial trivial⟩ <;> (first | rfl | (simp; done) | (congr 3; omega))
   ·
    replace h2 := of_decide_eq_false h2
    refine T.exit ?_
    refine T.seq ?_
    refine T.region ?_
    refine TL.cons rfl (Step.assign (p := (.one (.d (.bool true)))) rfl rfl (lt_ok rfl) rfl) ?_
    refine TL.nil ?_
    refine T.ret ?_
    refine ⟨[(false, [.d (.bool true)])], (.cons rfl .nil), rfl, [], (RetC.rd' ?_ .nil)⟩ <;> ((congr 1; symm; first | (apply decide_eq_false; rintro rfl; first | exact absurd rfl ‹¬ _ = _› | exact absurd rfl (of_decide_eq_false (by assumption)) | contradiction | simp_all) | (apply decide_eq_true; exact take_all hx2 (by omega) hx3)))
theorem ok_laws_eqByteSS (a : List (List Int)) (b : List (List Int)) : RO Try.prog 23 [.one (.bss a), .one (.bss b)] [(false, [.rd (.bool (decide (a = b)))])] := by
 refine RO.intro Try.func23 rfl 27 rfl (le_ok rfl) fun w Z => ?_
 refine T.bnd 0 0 rfl rfl fun hb_0_0 => ?_
 simp only [D.size, List.length_map] at hb_0_0
 refine T.bnd 1 0 rfl rfl fun hb_1_0 => ?_
 simp only [D.size, List.length_map] at hb_1_0
 refine T.seq ?_
 refine T.region ?_
 refine TL.cons rfl (Step.assign (p := (.one (.d (.bool false)))) rfl rfl (lt_ok rfl) rfl) ?_
 refine TL.nil ?_
 refine T.seq ?_
 refine T.seq ?_
 refine T.region ?_
 refine TL.cons rfl (Step.move (p := (.one (.d (.bss a)))) rfl rfl (lt_ok rfl) rfl) ?_
 refine TL.cons rfl (Step.len (e := 22) (z := 1) (d := (.bss a)) rfl rfl (lt_ok rfl) (by kernel_rfl) rfl rfl) ?_
 refine TL.cons rfl (Step.move (p := (.one (.d (.bss b)))) rfl rfl (lt_ok rfl) rfl) ?_
 refine TL.cons rfl (Step.len (e := 22) (z := 1) (d := (.bss b)) rfl rfl (lt_ok rfl) (by kernel_rfl) rfl rfl) ?_
 refine TL.cons rfl (Step.bin rfl rfl (lt_ok rfl) rfl rfl (Bin.neq (k := .i64) (a := (a.length : Int)) (b := (b.length : Int)))) ?_
 refine TL.nil ?_
 refine T.cond (b := decide ((a.length : Int) ≠ (b.length : Int))) rfl (fun h1 => ?_) (fun h1 => ?_)
 ·
  replace h1 := of_decide_eq_true h1
  refine T.seq ?_
  refine T.region ?_
  refine TL.cons rfl (Step.assign (p := (.one (.d (.bool false)))) rfl rfl (lt_ok rfl) rfl) ?_
  refine TL.nil ?_
  refine T.ret ?_
  refine ⟨[(false, [.d (.bool false)])], (.cons rfl .nil), rfl, [], (RetC.rd' ?_ .nil)⟩ <;> ((congr 1; symm; first | (apply decide_eq_false; rintro rfl; first | exact absurd rfl ‹¬ _ = _› | exact absurd rfl (of_decide_eq_false (by assumption)) | contradiction | simp_all) | (apply decide_eq_true; exact take_all hx2 (by omega) hx3)))
 ·
  replace h1 := of_decide_eq_false h1
  refine T.skip ?_
  refine T.seq ?_
  refine T.seq ?_
  refine T.region ?_
  refine TL.cons rfl (Step.assign (p := (.one (.d (.int .i64 0)))) rfl rfl (lt_ok rfl) rfl) ?_
  refine TL.nil ?_
  refine T.block ?_
  refine T.loop (ι := Nat) (fun xx_ => { tm := [(0, (.one (.d (.bss a)))), (1, (.one (.d (.bss b)))), (5, (.one (.d (.int .i64 (xx_ : Int)))))], rows := [], boxes := [] }) (fun xx_ => xx_ ≤ a.length ∧ a.length = b.length ∧ a.take xx_ = b.take xx_) (fun xx_ => a.length - xx_) 0 ?_ ?_ ?_
  · refine Env.le_mk ⟨rfl, rfl, ?_, trivial⟩ trivial trivial <;> (first | rfl | (simp; done) | (congr 3; omega))
  · (refine ⟨Nat.zero_le _, by omega, by simp⟩)
  ·
   intro i hx
   try dsimp only at hx ⊢
   obtain ⟨hx1, hx2, hx3⟩ := hx
   refine T.seq ?_
   refine T.seq ?_
   refine T.region ?_
   refine TL.cons rfl (Step.move (p := (.one (.d (.int .i64 (i : Int))))) rfl rfl (lt_ok rfl) rfl) ?_
   refine TL.cons rfl (Step.move (p := (.one (.d (.bss a)))) rfl rfl (lt_ok rfl) rfl) ?_
   refine TL.cons rfl (Step.len (e := 22) (z := 1) (d := (.bss a)) rfl rfl (lt_ok rfl) (by kernel_rfl) rfl rfl) ?_
   refine TL.cons rfl (Step.bin rfl rfl (lt_ok rfl) rfl rfl (Bin.lss (k := .i64) (a := (i : Int)) (b := (a.length : Int)))) ?_
   refine TL.nil ?_
   refine T.cond (b := decide ((i : Int) < (a.length : Int))) rfl (fun h2 => ?_) (fun h2 => ?_)
   ·
    replace h2 := of_decide_eq_true h2
    refine T.skip ?_
    refine T.seq ?_
    refine T.block ?_
    refine T.seq ?_
    refine T.draw [⟨17, (.one (.d (.bss a))), []⟩, ⟨18, (.one (.d (.int .i64 (i : Int)))), []⟩, ⟨19, (.one (.eptr (.bss a) i 0)), []⟩, ⟨20, (.one (.d (.ints .u8 (a.getD i [])))), []⟩, ⟨21, (.one (.d (.bss b))), []⟩, ⟨22, (.one (.d (.int .i64 (i : Int)))), []⟩, ⟨23, (.one (.eptr (.bss b) i 0)), []⟩, ⟨24, (.one (.d (.ints .u8 (b.getD i [])))), []⟩, ⟨25, (.one (.d (.bool (decide ((a.getD i []) = (b.getD i [])))))), []⟩, ⟨26, (.one (.d (.bool (!(decide ((a.getD i []) = (b.getD i []))))))), []⟩] (by kernel_rfl) (by kernel_rfl) ?_ ?_
    ·
     refine .cons (fun E hA_ => by have g0 := hA_.get 0 (by decide); exact OpStep.plain rfl (Step.move (p := (.one (.d (.bss a)))) (t := 17) rfl rfl (by exact lt_ok rfl) (show Env.ev E (.tmp 0) = _ from g0.trans rfl))) ?_
     refine .cons (fun E hA_ => by have g5 := hA_.get 5 (by decide); exact OpStep.plain rfl (Step.move (p := (.one (.d (.int .i64 (i : Int))))) (t := 18) rfl rfl (by exact lt_ok rfl) (show Env.ev E (.tmp 5) = _ from g5.trans rfl))) ?_
     refine .cons (fun E hA_ => by have g17 := hA_.get 17 (by decide); have g18 := hA_.get 18 (by decide); exact OpStep.plain rfl (Step.index (e := 22) (z := 1) (i := (i : Int)) (t := 19) rfl rfl (by exact lt_ok rfl) (by kernel_rfl) (show Env.ev E (.tmp 17) = _ from g17.trans rfl) rfl rfl (lt_ok rfl) (show Env.ev E (.tmp 18) = _ from g18.trans rfl) (by first | omega | (simp; omega)) (by simp only [D.size]; first | omega | (simp; omega)))) ?_
     refine .cons (fun E hA_ => by have g19 := hA_.get 19 (by decide); exact OpStep.plain rfl (Step.load (e := (.ints .u8 (a.getD i []))) (t := 20) rfl rfl (by exact lt_ok rfl) (by kernel_rfl) (show Env.ev E (.tmp 19) = _ from g19.trans rfl) rfl)) ?_
     refine .cons (fun E hA_ => by have g1 := hA_.get 1 (by decide); exact OpStep.plain rfl (Step.move (p := (.one (.d (.bss b)))) (t := 21) rfl rfl (by exact lt_ok rfl) (show Env.ev E (.tmp 1) = _ from g1.trans rfl))) ?_
     refine .cons (fun E hA_ => by have g5 := hA_.get 5 (by decide); exact OpStep.plain rfl (Step.move (p := (.one (.d (.int .i64 (i : Int))))) (t := 22) rfl rfl (by exact lt_ok rfl) (show Env.ev E (.tmp 5) = _ from g5.trans rfl))) ?_
     refine .cons (fun E hA_ => by have g21 := hA_.get 21 (by decide); have g22 := hA_.get 22 (by decide); exact OpStep.plain rfl (Step.index (e := 22) (z := 1) (i := (i : Int)) (t := 23) rfl rfl (by exact lt_ok rfl) (by kernel_rfl) (show Env.ev E (.tmp 21) = _ from g21.trans rfl) rfl rfl (lt_ok rfl) (show Env.ev E (.tmp 22) = _ from g22.trans rfl) (by first | omega | (simp; omega)) (by simp only [D.size]; first | omega | (simp; omega)))) ?_
     refine .cons (fun E hA_ => by have g23 := hA_.get 23 (by decide); exact OpStep.plain rfl (Step.load (e := (.ints .u8 (b.getD i []))) (t := 24) rfl rfl (by exact lt_ok rfl) (by kernel_rfl) (show Env.ev E (.tmp 23) = _ from g23.trans rfl) rfl)) ?_
     refine .cons (fun E hA_ => by have g20 := hA_.get 20 (by decide); have g24 := hA_.get 24 (by decide); exact OpStep.plain rfl (Step.call (f := 29) (xs := [.tmp 20, .tmp 24]) (ps := [(.one (.d (.ints .u8 (a.getD i [])))), (.one (.d (.ints .u8 (b.getD i []))))]) false (g := .func 29) (t := 25) rfl rfl (by exact lt_ok rfl) rfl (by kernel_rfl) (evs_cons (show Env.ev E (.tmp 20) = _ from g20.trans rfl) (evs_cons (show Env.ev E (.tmp 24) = _ from g24.trans rfl) (rfl))) (.cons (.one (.d _)) (.cons (.one (.d _)) .nil)) (ok_laws_eqByteS (a.getD i []) (b.getD i [])) (.inr rfl) (At.freshRows hA_ rfl) (by simp) rfl)) ?_
     refine .cons (fun E hA_ => by have g25 := hA_.get 25 (by decide); exact OpStep.plain rfl (Step.not (b := (decide ((a.getD i []) = (b.getD i [])))) (t := 26) rfl rfl (by exact lt_ok rfl) (show Env.ev E (.tmp 25) = _ from g25.trans rfl))) ?_
     exact .nil _ _
    refine TL.nil ?_
    refine T.cond (b := !(decide ((a.getD i []) = (b.getD i [])))) rfl (fun h3 => ?_) (fun h3 => ?_)
    ·
     replace h3 : (decide ((a.getD i []) = (b.getD i []))) = false := by simpa only [Bool.not_eq_true', Bool.not_eq_false'] using h3
     replace h3 := of_decide_eq_false h3
     refine T.seq ?_
     refine T.region ?_
     refine TL.cons rfl (Step.assign (p := (.one (.d (.bool false)))) rfl rfl (lt_ok rfl) rfl) ?_
     refine TL.nil ?_
     refine T.ret ?_
     refine ⟨[(false, [.d (.bool false)])], (.cons rfl .nil), rfl, [], (RetC.rd' ?_ .nil)⟩ <;> ((congr 1; symm; first | (apply decide_eq_false; rintro rfl; first | exact absurd rfl ‹¬ _ = _› | exact absurd rfl (of_decide_eq_false (by assumption)) | contradiction | simp_all) | (apply decide_eq_true; exact take_all hx2 (by omega) hx3)))
    ·
     replace h3 : (decide ((a.getD i []) = (b.getD i []))) = true := by simpa only [Bool.not_eq_true', Bool.not_eq_false'] using h3
     replace h3 := of_decide_eq_true h3
     refine T.skip ?_
     refine T.region ?_
     refine TL.cons rfl (Step.move (p := (.one (.d (.int .i64 (i : Int))))) rfl rfl (lt_ok rfl) rfl) ?_
     refine TL.cons rfl (Step.bin (r := .int .i64 ((i : Int) + 1)) rfl rfl (lt_ok rfl) rfl rfl (Bin.add (a := (i : Int)) (b := 1) (by first | exact wrap_ok (by first | omega | (simp; omega)) (by first | omega | (simp; omega)) | rfl))) ?_
     refine TL.cons rfl (Step.assign (p := (.one (.d (.int .i64 ((i : Int) + 1))))) rfl rfl (lt_ok rfl) rfl) ?_
     refine TL.nil ?_
     refine ⟨i + 1, by (refine ⟨by omega, hx2, take_step (d := []) hx2 (by omega) hx3 (by first | assumption | exact Decidable.not_not.1 (by assumption) | omega)⟩), by omega, Env.le_mk ⟨rfl, rfl, ?_, trivial⟩ trivial trivial⟩ <;> (first | rfl | (simp; done) | (congr 3; omega))
   ·
    replace h2 := of_decide_eq_false h2
    refine T.exit ?_
    refine T.seq ?_
    refine T.region ?_
    refine TL.cons rfl (Step.assign (p := (.one (.d (.bool true)))) rfl rfl (lt_ok rfl) rfl) ?_
    refine TL.nil ?_
    refine T.ret ?_
    refine ⟨[(false, [.d (.bool true)])], (.cons rfl .nil), rfl, [], (RetC.rd' ?_ .nil)⟩ <;> ((congr 1; symm; first | (apply decide_eq_false; rintro rfl; first | exact absurd rfl ‹¬ _ = _› | exact absurd rfl (of_decide_eq_false (by assumption)) | contradiction | simp_all) | (apply decide_eq_true; exact take_all hx2 (by omega) hx3)))
theorem ok_laws_eqQc (a : SQc) (b : SQc) : RO Try.prog 101 [.agg a.cells, .agg b.cells] [(false, [.rd (.bool (decide (a = b)))])] := by
 refine RO.intro Try.func101 rfl 33 rfl (le_ok rfl) fun w Z => ?_
 refine T.seq ?_
 refine T.region ?_
 refine TL.cons rfl (Step.box (p := (.agg [.d (.int .i64 a.f0), .d (.int .i64 a.f1), .d (.ints .u8 a.f2), .d (.ints .u8 a.f3), .d (.bss a.f4)])) (ps := [.d (.int .i64 a.f0), .d (.int .i64 a.f1), .d (.ints .u8 a.f2), .d (.ints .u8 a.f3), .d (.bss a.f4)]) rfl rfl (lt_ok rfl) rfl rfl rfl rfl rfl) ?_
 refine TL.cons rfl (Step.box (p := (.agg [.d (.int .i64 b.f0), .d (.int .i64 b.f1), .d (.ints .u8 b.f2), .d (.ints .u8 b.f3), .d (.bss b.f4)])) (ps := [.d (.int .i64 b.f0), .d (.int .i64 b.f1), .d (.ints .u8 b.f2), .d (.ints .u8 b.f3), .d (.bss b.f4)]) rfl rfl (lt_ok rfl) rfl rfl rfl rfl rfl) ?_
 refine TL.cons rfl (Step.assign (p := (.one (.d (.bool false)))) rfl rfl (lt_ok rfl) rfl) ?_
 refine TL.nil ?_
 refine T.seq ?_
 refine T.seq ?_
 refine T.region ?_
 refine TL.cons rfl (Step.fieldAddr (q := 0) (off := 0) (n := 1) (one := true) rfl rfl (lt_ok rfl) (by kernel_rfl) (Nat.succ_ne_zero _) rfl) ?_
 refine TL.cons rfl (Step.load_box (c := .d (.int .i64 a.f0)) rfl rfl (lt_ok rfl) (by kernel_rfl) rfl rfl rfl) ?_
 refine TL.cons rfl (Step.fieldAddr (q := 0) (off := 0) (n := 1) (one := true) rfl rfl (lt_ok rfl) (by kernel_rfl) (Nat.succ_ne_zero _) rfl) ?_
 refine TL.cons rfl (Step.load_box (c := .d (.int .i64 b.f0)) rfl rfl (lt_ok rfl) (by kernel_rfl) rfl rfl rfl) ?_
 refine TL.cons rfl (Step.bin rfl rfl (lt_ok rfl) rfl rfl (Bin.neq (k := .i64) (a := a.f0) (b := b.f0))) ?_
 refine TL.nil ?_
 refine T.cond (b := decide (a.f0 ≠ b.f0)) rfl (fun h1 => ?_) (fun h1 => ?_)
 ·
  replace h1 := of_decide_eq_true h1
  refine T.seq ?_
  refine T.region ?_
  refine TL.cons rfl (Step.assign (p := (.one (.d (.bool false)))) rfl rfl (lt_ok rfl) rfl) ?_
  refine TL.nil ?_
  refine T.ret ?_
  refine ⟨[(false, [.d (.bool false)])], (.cons rfl .nil), rfl, [], (RetC.rd' ?_ .nil)⟩ <;> ((congr 1; symm; first | (apply decide_eq_false; rintro rfl; first | exact absurd rfl ‹¬ _ = _› | contradiction) | (apply decide_eq_true; apply SQc.ext <;> first | assumption | exact Decidable.not_not.1 (by assumption))))
 ·
  replace h1 := of_decide_eq_false h1
  refine T.skip ?_
  refine T.seq ?_
  refine T.seq ?_
  refine T.region ?_
  refine TL.cons rfl (Step.fieldAddr (q := 0) (off := 1) (n := 1) (one := true) rfl rfl (lt_ok rfl) (by kernel_rfl) (Nat.succ_ne_zero _) rfl) ?_
  refine TL.cons rfl (Step.load_box (c := .d (.int .i64 a.f1)) rfl rfl (lt_ok rfl) (by kernel_rfl) rfl rfl rfl) ?_
  refine TL.cons rfl (Step.fieldAddr (q := 0) (off := 1) (n := 1) (one := true) rfl rfl (lt_ok rfl) (by kernel_rfl) (Nat.succ_ne_zero _) rfl) ?_
  refine TL.cons rfl (Step.load_box (c := .d (.int .i64 b.f1)) rfl rfl (lt_ok rfl) (by kernel_rfl) rfl rfl rfl) ?_
  refine TL.cons rfl (Step.bin rfl rfl (lt_ok rfl) rfl rfl (Bin.neq (k := .i64) (a := a.f1) (b := b.f1))) ?_
  refine TL.nil ?_
  refine T.cond (b := decide (a.f1 ≠ b.f1)) rfl (fun h2 => ?_) (fun h2 => ?_)
  ·
   replace h2 := of_decide_eq_true h2
   refine T.seq ?_
   refine T.region ?_
   refine TL.cons rfl (Step.assign (p := (.one (.d (.bool false)))) rfl rfl (lt_ok rfl) rfl) ?_
   refine TL.nil ?_
   refine T.ret ?_
   refine ⟨[(false, [.d (.bool false)])], (.cons rfl .nil), rfl, [], (RetC.rd' ?_ .nil)⟩ <;> ((congr 1; symm; first | (apply decide_eq_false; rintro rfl; first | exact absurd rfl ‹¬ _ = _› | contradiction) | (apply decide_eq_true; apply SQc.ext <;> first | assumption | exact Decidable.not_not.1 (by assumption))))
  ·
   replace h2 := of_decide_eq_false h2
   refine T.skip ?_
   refine T.seq ?_
   refine T.seq ?_
   refine T.region ?_
   refine TL.cons rfl (Step.fieldAddr (q := 0) (off := 2) (n := 1) (one := true) rfl rfl (lt_ok rfl) (by kernel_rfl) (Nat.succ_ne_zero _) rfl) ?_
   refine TL.cons rfl (Step.load_box (c := .d (.ints .u8 a.f2)) rfl rfl (lt_ok rfl) (by kernel_rfl) rfl rfl rfl) ?_
   refine TL.cons rfl (Step.fieldAddr (q := 0) (off := 2) (n := 1) (one := true) rfl rfl (lt_ok rfl) (by kernel_rfl) (Nat.succ_ne_zero _) rfl) ?_
   refine TL.cons rfl (Step.load_box (c := .d (.ints .u8 b.f2)) rfl rfl (lt_ok rfl) (by kernel_rfl) rfl rfl rfl) ?_
   refine TL.cons rfl (Step.call (f := 29) (xs := [.tmp 16, .tmp 18]) (ps := [(.one (.d (.ints .u8 a.f2))), (.one (.d (.ints .u8 b.f2)))]) false (g := .func 29) rfl rfl (lt_ok rfl) rfl (by kernel_rfl) rfl (.cons (.one (.d _)) (.cons (.one (.d _)) .nil)) (ok_laws_eqByteS a.f2 b.f2) (.inr rfl) rfl (by simp) rfl) ?_
   refine TL.cons rfl (Step.not (b := (decide (a.f2 = b.f2))) rfl rfl (lt_ok rfl) rfl) ?_
   refine TL.nil ?_
   refine T.cond (b := !(decide (a.f2 = b.f2))) rfl (fun h3 => ?_) (fun h3 => ?_)
   ·
    replace h3 : (decide (a.f2 = b.f2)) = false := by simpa only [Bool.not_eq_true', Bool.not_eq_false'] using h3
    replace h3 := of_decide_eq_false h3
    refine T.seq ?_
    refine T.region ?_
    refine TL.cons rfl (Step.assign (p := (.one (.d (.bool false)))) rfl rfl (lt_ok rfl) rfl) ?_
    refine TL.nil ?_
    refine T.ret ?_
    refine ⟨[(false, [.d (.bool false)])], (.cons rfl .nil), rfl, [], (RetC.rd' ?_ .nil)⟩ <;> ((congr 1; symm; first | (apply decide_eq_false; rintro rfl; first | exact absurd rfl ‹¬ _ = _› | contradiction) | (apply decide_eq_true; apply SQc.ext <;> first | assumption | exact Decidable.not_not.1 (by assumption))))
   ·
    replace h3 : (decide (a.f2 = b.f2)) = true := by simpa only [Bool.not_eq_true', Bool.not_eq_false'] using h3
    replace h3 := of_decide_eq_true h3
    refine T.skip ?_
    refine T.seq ?_
    refine T.seq ?_
    refine T.region ?_
    refine TL.cons rfl (Step.fieldAddr (q := 0) (off := 3) (n := 1) (one := true) rfl rfl (lt_ok rfl) (by kernel_rfl) (Nat.succ_ne_zero _) rfl) ?_
    refine TL.cons rfl (Step.load_box (c := .d (.ints .u8 a.f3)) rfl rfl (lt_ok rfl) (by kernel_rfl) rfl rfl rfl) ?_
    refine TL.cons rfl (Step.fieldAddr (q := 0) (off := 3) (n := 1) (one := true) rfl rfl (lt_ok rfl) (by kernel_rfl) (Nat.succ_ne_zero _) rfl) ?_
    refine TL.cons rfl (Step.load_box (c := .d (.ints .u8 b.f3)) rfl rfl (lt_ok rfl) (by kernel_rfl) rfl rfl rfl) ?_
    refine TL.cons rfl (Step.call (f := 29) (xs := [.tmp 22, .tmp 24]) (ps := [(.one (.d (.ints .u8 a.f3))), (.one (.d (.ints .u8 b.f3)))]) false (g := .func 29) rfl rfl (lt_ok rfl) rfl (by kernel_rfl) rfl (.cons (.one (.d _)) (.cons (.one (.d _)) .nil)) (ok_laws_eqByteS a.f3 b.f3) (.inr rfl) rfl (by simp) rfl) ?_
    refine TL.cons rfl (Step.not (b := (decide (a.f3 = b.f3))) rfl rfl (lt_ok rfl) rfl) ?_
    refine TL.nil ?_
    refine T.cond (b := !(decide (a.f3 = b.f3))) rfl (fun h4 => ?_) (fun h4 => ?_)
    ·
     replace h4 : (decide (a.f3 = b.f3)) = false := by simpa only [Bool.not_eq_true', Bool.not_eq_false'] using h4
     replace h4 := of_decide_eq_false h4
     refine T.seq ?_
     refine T.region ?_
     refine TL.cons rfl (Step.assign (p := (.one (.d (.bool false)))) rfl rfl (lt_ok rfl) rfl) ?_
     refine TL.nil ?_
     refine T.ret ?_
     refine ⟨[(false, [.d (.bool false)])], (.cons rfl .nil), rfl, [], (RetC.rd' ?_ .nil)⟩ <;> ((congr 1; symm; first | (apply decide_eq_false; rintro rfl; first | exact absurd rfl ‹¬ _ = _› | contradiction) | (apply decide_eq_true; apply SQc.ext <;> first | assumption | exact Decidable.not_not.1 (by assumption))))
    ·
     replace h4 : (decide (a.f3 = b.f3)) = true := by simpa only [Bool.not_eq_true', Bool.not_eq_false'] using h4
     replace h4 := of_decide_eq_true h4
     refine T.skip ?_
     refine T.seq ?_
     refine T.seq ?_
     refine T.region ?_
     refine TL.cons rfl (Step.fieldAddr (q := 0) (off := 4) (n := 1) (one := true) rfl rfl (lt_ok rfl) (by kernel_rfl) (Nat.succ_ne_zero _) rfl) ?_
     refine TL.cons rfl (Step.load_box (c := .d (.bss a.f4)) rfl rfl (lt_ok rfl) (by kernel_rfl) rfl rfl rfl) ?_
     refine TL.cons rfl (Step.fieldAddr (q := 0) (off := 4) (n := 1) (one := true) rfl rfl (lt_ok rfl) (by kernel_rfl) (Nat.succ_ne_zero _) rfl) ?_
     refine TL.cons rfl (Step.load_box (c := .d (.bss b.f4)) rfl rfl (lt_ok rfl) (by kernel_rfl) rfl rfl rfl) ?_
     refine TL.cons rfl (Step.call (f := 23) (xs := [.tmp 28, .tmp 30]) (ps := [(.one (.d (.bss a.f4))), (.one (.d (.bss b.f4)))]) false (g := .func 23) rfl rfl (lt_ok rfl) rfl (by kernel_rfl) rfl (.cons (.one (.d _)) (.cons (.one (.d _)) .nil)) (ok_laws_eqByteSS a.f4 b.f4) (.inr rfl) rfl (by simp) rfl) ?_
     refine TL.cons rfl (Step.not (b := (decide (a.f4 = b.f4))) rfl rfl (lt_ok rfl) rfl) ?_
     refine TL.nil ?_
     refine T.cond (b := !(decide (a.f4 = b.f4))) rfl (fun h5 => ?_) (fun h5 => ?_)
     ·
      replace h5 : (decide (a.f4 = b.f4)) = false := by simpa only [Bool.not_eq_true', Bool.not_eq_false'] using h5
      replace h5 := of_decide_eq_false h5
      refine T.seq ?_
      refine T.region ?_
      refine TL.cons rfl (Step.assign (p := (.one (.d (.bool false)))) rfl rfl (lt_ok rfl) rfl) ?_
      refine TL.nil ?_
      refine T.ret ?_
      refine ⟨[(false, [.d (.bool false)])], (.cons rfl .nil), rfl, [], (RetC.rd' ?_ .nil)⟩ <;> ((congr 1; symm; first | (apply decide_eq_false; rintro rfl; first | exact absurd rfl ‹¬ _ = _› | contradiction) | (apply decide_eq_true; apply SQc.ext <;> first | assumption | exact Decidable.not_not.1 (by assumption))))
     ·
      replace h5 : (decide (a.f4 = b.f4)) = true := by simpa only [Bool.not_eq_true', Bool.not_eq_false'] using h5
      replace h5 := of_decide_eq_true h5
      refine T.skip ?_
      refine T.seq ?_
      refine T.region ?_
      refine TL.cons rfl (Step.assign (p := (.one (.d (.bool true)))) rfl rfl (lt_ok rfl) rfl) ?_
      refine TL.nil ?_
      refine T.ret ?_
      refine ⟨[(false, [.d (.bool true)])], (.cons rfl .nil), rfl, [], (RetC.rd' ?_ .nil)⟩ <;> ((congr 1; symm; first | (apply decide_eq_false; rintro rfl; first | exact absurd rfl ‹¬ _ = _› | contradiction) | (apply decide_eq_true; apply SQc.ext <;> first | assumption | exact Decidable.not_not.1 (by assumption))))
theorem ok_laws_eqHead (a : SHead) (b : SHead) : RO Try.prog 80 [.agg a.cells, .agg b.cells] [(false, [.rd (.bool (decide (a = b)))])] := by
 refine RO.intro Try.func80 rfl 38 rfl (le_ok rfl) fun w Z => ?_
 refine T.seq ?_
 refine T.region ?_
 refine TL.cons rfl (Step.box (p := (.agg [.d (.int .i64 a.f0), .d (.int .i64 a.f1), .d (.int .i64 a.f2), .d (.ints .u8 a.f3), .d (.ints .u8 a.f4), .d (.int .i64 a.f5.f0), .d (.int .i64 a.f5.f1), .d (.ints .u8 a.f5.f2), .d (.ints .u8 a.f5.f3), .d (.bss a.f5.f4)])) (ps := [.d (.int .i64 a.f0), .d (.int .i64 a.f1), .d (.int .i64 a.f2), .d (.ints .u8 a.f3), .d (.ints .u8 a.f4), .d (.int .i64 a.f5.f0), .d (.int .i64 a.f5.f1), .d (.ints .u8 a.f5.f2), .d (.ints .u8 a.f5.f3), .d (.bss a.f5.f4)]) rfl rfl (lt_ok rfl) rfl rfl rfl rfl rfl) ?_
 refine TL.cons rfl (Step.box (p := (.agg [.d (.int .i64 b.f0), .d (.int .i64 b.f1), .d (.int .i64 b.f2), .d (.ints .u8 b.f3), .d (.ints .u8 b.f4), .d (.int .i64 b.f5.f0), .d (.int .i64 b.f5.f1), .d (.ints .u8 b.f5.f2), .d (.ints .u8 b.f5.f3), .d (.bss b.f5.f4)])) (ps := [.d (.int .i64 b.f0), .d (.int .i64 b.f1), .d (.int .i64 b.f2), .d (.ints .u8 b.f3), .d (.ints .u8 b.f4), .d (.int .i64 b.f5.f0), .d (.int .i64 b.f5.f1), .d (.ints .u8 b.f5.f2), .d (.ints .u8 b.f5.f3), .d (.bss b.f5.f4)]) rfl rfl (lt_ok rfl) rfl rfl rfl rfl rfl) ?_
 refine TL.cons rfl (Step.assign (p := (.one (.d (.bool false)))) rfl rfl (lt_ok rfl) rfl) ?_
 refine TL.nil ?_
 refine T.seq ?_
 refine T.seq ?_
 refine T.region ?_
 refine TL.cons rfl (Step.fieldAddr (q := 0) (off := 0) (n := 1) (one := true) rfl rfl (lt_ok rfl) (by kernel_rfl) (Nat.succ_ne_zero _) rfl) ?_
 refine TL.cons rfl (Step.load_box (c := .d (.int .i64 a.f0)) rfl rfl (lt_ok rfl) (by kernel_rfl) rfl rfl rfl) ?_
 refine TL.cons rfl (Step.fieldAddr (q := 0) (off := 0) (n := 1) (one := true) rfl rfl (lt_ok rfl) (by kernel_rfl) (Nat.succ_ne_zero _) rfl) ?_
 refine TL.cons rfl (Step.load_box (c := .d (.int .i64 b.f0)) rfl rfl (lt_ok rfl) (by kernel_rfl) rfl rfl rfl) ?_
 refine TL.cons rfl (Step.bin rfl rfl (lt_ok rfl) rfl rfl (Bin.neq (k := .i64) (a := a.f0) (b := b.f0))) ?_
 refine TL.nil ?_
 refine T.cond (b := decide (a.f0 ≠ b.f0)) rfl (fun h1 => ?_) (fun h1 => ?_)
 ·
  replace h1 := of_decide_eq_true h1
  refine T.seq ?_
  refine T.region ?_
  refine TL.cons rfl (Step.assign (p := (.one (.d (.bool false)))) rfl rfl (lt_ok rfl) rfl) ?_
  refine TL.nil ?_
  refine T.ret ?_
  refine ⟨[(false, [.d (.bool false)])], (.cons rfl .nil), rfl, [], (RetC.rd' ?_ .nil)⟩ <;> ((congr 1; symm; first | (apply decide_eq_false; rintro rfl; first | exact absurd rfl ‹¬ _ = _› | contradiction) | (apply decide_eq_true; apply SHead.ext <;> first | assumption | exact Decidable.not_not.1 (by assumption))))
 ·
  replace h1 := of_decide_eq_false h1
  refine T.skip ?_
  refine T.seq ?_
  refine T.seq ?_
  refine T.region ?_
  refine TL.cons rfl (Step.fieldAddr (q := 0) (off := 1) (n := 1) (one := true) rfl rfl (lt_ok rfl) (by kernel_rfl) (Nat.succ_ne_zero _) rfl) ?_
  refine TL.cons rfl (Step.load_box (c := .d (.int .i64 a.f1)) rfl rfl (lt_ok rfl) (by kernel_rfl) rfl rfl rfl) ?_
  refine TL.cons rfl (Step.fieldAddr (q := 0) (off := 1) (n := 1) (one := true) rfl rfl (lt_ok rfl) (by kernel_rfl) (Nat.succ_ne_zero _) rfl) ?_
  refine TL.cons rfl (Step.load_box (c := .d (.int .i64 b.f1)) rfl rfl (lt_ok rfl) (by kernel_rfl) rfl rfl rfl) ?_
  refine TL.cons rfl (Step.bin rfl rfl (lt_ok rfl) rfl rfl (Bin.neq (k := .i64) (a := a.f1) (b := b.f1))) ?_
  refine TL.nil ?_
  refine T.cond (b := decide (a.f1 ≠ b.f1)) rfl (fun h2 => ?_) (fun h2 => ?_)
  ·
   replace h2 := of_decide_eq_true h2
   refine T.seq ?_
   refine T.region ?_
   refine TL.cons rfl (Step.assign (p := (.one (.d (.bool false)))) rfl rfl (lt_ok rfl) rfl) ?_
   refine TL.nil ?_
   refine T.ret ?_
   refine ⟨[(false, [.d (.bool false)])], (.cons rfl .nil), rfl, [], (RetC.rd' ?_ .nil)⟩ <;> ((congr 1; symm; first | (apply decide_eq_false; rintro rfl; first | exact absurd rfl ‹¬ _ = _› | contradiction) | (apply decide_eq_true; apply SHead.ext <;> first | assumption | exact Decidable.not_not.1 (by assumption))))
  ·
   replace h2 := of_decide_eq_false h2
   refine T.skip ?_
   refine T.seq ?_
   refine T.seq ?_
   refine T.region ?_
   refine TL.cons rfl (Step.fieldAddr (q := 0) (off := 2) (n := 1) (one := true) rfl rfl (lt_ok rfl) (by kernel_rfl) (Nat.succ_ne_zero _) rfl) ?_
   refine TL.cons rfl (Step.load_box (c := .d (.int .i64 a.f2)) rfl rfl (lt_ok rfl) (by kernel_rfl) rfl rfl rfl) ?_
   refine TL.cons rfl (Step.fieldAddr (q := 0) (off := 2) (n := 1) (one := true) rfl rfl (lt_ok rfl) (by kernel_rfl) (Nat.succ_ne_zero _) rfl) ?_
   refine TL.cons rfl (Step.load_box (c := .d (.int .i64 b.f2)) rfl rfl (lt_ok rfl) (by kernel_rfl) rfl rfl rfl) ?_
   refine TL.cons rfl (Step.bin rfl rfl (lt_ok rfl) rfl rfl (Bin.neq (k := .i64) (a := a.f2) (b := b.f2))) ?_
   refine TL.nil ?_
   refine T.cond (b := decide (a.f2 ≠ b.f2)) rfl (fun h3 => ?_) (fun h3 => ?_)
   ·
    replace h3 := of_decide_eq_true h3
    refine T.seq ?_
    refine T.region ?_
    refine TL.cons rfl (Step.assign (p := (.one (.d (.bool false)))) rfl rfl (lt_ok rfl) rfl) ?_
    refine TL.nil ?_
    refine T.ret ?_
    refine ⟨[(false, [.d (.bool false)])], (.cons rfl .nil), rfl, [], (RetC.rd' ?_ .nil)⟩ <;> ((congr 1; symm; first | (apply decide_eq_false; rintro rfl; first | exact absurd rfl ‹¬ _ = _› | contradiction) | (apply decide_eq_true; apply SHead.ext <;> first | assumption | exact Decidable.not_not.1 (by assumption))))
   ·
    replace h3 := of_decide_eq_false h3
    refine T.skip ?_
    refine T.seq ?_
    refine T.seq ?_
    refine T.region ?_
    refine TL.cons rfl (Step.fieldAddr (q := 0) (off := 3) (n := 1) (one := true) rfl rfl (lt_ok rfl) (by kernel_rfl) (Nat.succ_ne_zero _) rfl) ?_
    refine TL.cons rfl (Step.load_box (c := .d (.ints .u8 a.f3)) rfl rfl (lt_ok rfl) (by kernel_rfl) rfl rfl rfl) ?_
    refine TL.cons rfl (Step.fieldAddr (q := 0) (off := 3) (n := 1) (one := true) rfl rfl (lt_ok rfl) (by kernel_rfl) (Nat.succ_ne_zero _) rfl) ?_
    refine TL.cons rfl (Step.load_box (c := .d (.ints .u8 b.f3)) rfl rfl (lt_ok rfl) (by kernel_rfl) rfl rfl rfl) ?_
    refine TL.cons rfl (Step.call (f := 29) (xs := [.tmp 21, .tmp 23]) (ps := [(.one (.d (.ints .u8 a.f3))), (.one (.d (.ints .u8 b.f3)))]) false (g := .func 29) rfl rfl (lt_ok rfl) rfl (by kernel_rfl) rfl (.cons (.one (.d _)) (.cons (.one (.d _)) .nil)) (ok_laws_eqByteS a.f3 b.f3) (.inr rfl) rfl (by simp) rfl) ?_
    refine TL.cons rfl (Step.not (b := (decide (a.f3 = b.f3))) rfl rfl (lt_ok rfl) rfl) ?_
    refine TL.nil ?_
    refine T.cond (b := !(decide (a.f3 = b.f3))) rfl (fun h4 => ?_) (fun h4 => ?_)
    ·
     replace h4 : (decide (a.f3 = b.f3)) = false := by simpa only [Bool.not_eq_true', Bool.not_eq_false'] using h4
     replace h4 := of_decide_eq_false h4
     refine T.seq ?_
     refine T.region ?_
     refine TL.cons rfl (Step.assign (p := (.one (.d (.bool false)))) rfl rfl (lt_ok rfl) rfl) ?_
     refine TL.nil ?_
     refine T.ret ?_
     refine ⟨[(false, [.d (.bool false)])], (.cons rfl .nil), rfl, [], (RetC.rd' ?_ .nil)⟩ <;> ((congr 1; symm; first | (apply decide_eq_false; rintro rfl; first | exact absurd rfl ‹¬ _ = _› | contradiction) | (apply decide_eq_true; apply SHead.ext <;> first | assumption | exact Decidable.not_not.1 (by assumption))))
    ·
     replace h4 : (decide (a.f3 = b.f3)) = true := by simpa only [Bool.not_eq_true', Bool.not_eq_false'] using h4
     replace h4 := of_decide_eq_true h4
     refine T.skip ?_
     refine T.seq ?_
     refine T.seq ?_
     refine T.region ?_
     refine TL.cons rfl (Step.fieldAddr (q := 0) (off := 4) (n := 1) (one := true) rfl rfl (lt_ok rfl) (by kernel_rfl) (Nat.succ_ne_zero _) rfl) ?_
     refine TL.cons rfl (Step.load_box (c := .d (.ints .u8 a.f4)) rfl rfl (lt_ok rfl) (by kernel_rfl) rfl rfl rfl) ?_
     refine TL.cons rfl (Step.fieldAddr (q := 0) (off := 4) (n := 1) (one := true) rfl rfl (lt_ok rfl) (by kernel_rfl) (Nat.succ_ne_zero _) rfl) ?_
     refine TL.cons rfl (Step.load_box (c := .d (.ints .u8 b.f4)) rfl rfl (lt_ok rfl) (by kernel_rfl) rfl rfl rfl) ?_
     refine TL.cons rfl (Step.call (f := 29) (xs := [.tmp 27, .tmp 29]) (ps := [(.one (.d (.ints .u8 a.f4))), (.one (.d (.ints .u8 b.f4)))]) false (g := .func 29) rfl rfl (lt_ok rfl) rfl (by kernel_rfl) rfl (.cons (.one (.d _)) (.cons (.one (.d _)) .nil)) (ok_laws_eqByteS a.f4 b.f4) (.inr rfl) rfl (by simp) rfl) ?_
     refine TL.cons rfl (Step.not (b := (decide (a.f4 = b.f4))) rfl rfl (lt_ok rfl) rfl) ?_
     refine TL.nil ?_
     refine T.cond (b := !(decide (a.f4 = b.f4))) rfl (fun h5 => ?_) (fun h5 => ?_)
     ·
      replace h5 : (decide (a.f4 = b.f4)) = false := by simpa only [Bool.not_eq_true', Bool.not_eq_false'] using h5
      replace h5 := of_decide_eq_false h5
      refine T.seq ?_
      refine T.region ?_
      refine TL.cons rfl (Step.assign (p := (.one (.d (.bool false)))) rfl rfl (lt_ok rfl) rfl) ?_
      refine TL.nil ?_
      refine T.ret ?_
      refine ⟨[(false, [.d (.bool false)])], (.cons rfl .nil), rfl, [], (RetC.rd' ?_ .nil)⟩ <;> ((congr 1; symm; first | (apply decide_eq_false; rintro rfl; first | exact absurd rfl ‹¬ _ = _› | contradiction) | (apply decide_eq_true; apply SHead.ext <;> first | assumption | exact Decidable.not_not.1 (by assumption))))
     ·
      replace h5 : (decide (a.f4 = b.f4)) = true := by simpa only [Bool.not_eq_true', Bool.not_eq_false'] using h5
      replace h5 := of_decide_eq_true h5
      refine T.skip ?_
      refine T.seq ?_
      refine T.seq ?_
      refine T.region ?_
      refine TL.cons rfl (Step.fieldAddr (q := 0) (off := 5) (n := 5) (one := false) rfl rfl (lt_ok rfl) (by kernel_rfl) (Nat.succ_ne_zero _) rfl) ?_
      refine TL.cons rfl (Step.load_box_agg (n := 5) (qs := [.d (.int .i64 a.f5.f0), .d (.int .i64 a.f5.f1), .d (.ints .u8 a.f5.f2), .d (.ints .u8 a.f5.f3), .d (.bss a.f5.f4)]) rfl rfl (lt_ok rfl) (by kernel_rfl) rfl rfl rfl rfl) ?_
      refine TL.cons rfl (Step.fieldAddr (q := 0) (off := 5) (n := 5) (one := false) rfl rfl (lt_ok rfl) (by kernel_rfl) (Nat.succ_ne_zero _) rfl) ?_
      refine TL.cons rfl (Step.load_box_agg (n := 5) (qs := [.d (.int .i64 b.f5.f0), .d (.int .i64 b.f5.f1), .d (.ints .u8 b.f5.f2), .d (.ints .u8 b.f5.f3), .d (.bss b.f5.f4)]) rfl rfl (lt_ok rfl) (by kernel_rfl) rfl rfl rfl rfl) ?_
      refine TL.cons rfl (Step.call (f := 101) (xs := [.tmp 33, .tmp 35]) (ps := [(.agg [.d (.int .i64 a.f5.f0), .d (.int .i64 a.f5.f1), .d (.ints .u8 a.f5.f2), .d (.ints .u8 a.f5.f3), .d (.bss a.f5.f4)]), (.agg [.d (.int .i64 b.f5.f0), .d (.int .i64 b.f5.f1), .d (.ints .u8 b.f5.f2), .d (.ints .u8 b.f5.f3), .d (.bss b.f5.f4)])]) false (g := .func 101) rfl rfl (lt_ok rfl) rfl (by kernel_rfl) rfl (.cons (.agg (.cons (.d _) (.cons (.d _) (.cons (.d _) (.cons (.d _) (.cons (.d _) .nil)))))) (.cons (.agg (.cons (.d _) (.cons (.d _) (.cons (.d _) (.cons (.d _) (.cons (.d _) .nil)))))) .nil)) (ok_laws_eqQc a.f5 b.f5) (.inr rfl) rfl (by simp) rfl) ?_
      refine TL.cons rfl (Step.not (b := (decide (a.f5 = b.f5))) rfl rfl (lt_ok rfl) rfl) ?_
      refine TL.nil ?_
      refine T.weaken (E' := { tm := [(4, (.one (.d (.bool false)))), (37, (.one (.d (.bool (!(decide (a.f5 = b.f5)))))))], rows := [], boxes := [] }) (Env.le_mk ⟨by kernel_rfl, by kernel_rfl, trivial⟩ trivial trivial) ?_
      refine T.cond (b := !(decide (a.f5 = b.f5))) rfl (fun h6 => ?_) (fun h6 => ?_)
      ·
       replace h6 : (decide (a.f5 = b.f5)) = false := by simpa only [Bool.not_eq_true', Bool.not_eq_false'] using h6
       replace h6 := of_decide_eq_false h6
       refine T.seq ?_
       refine T.region ?_
       refine TL.cons rfl (Step.assign (p := (.one (.d (.bool false)))) rfl rfl (lt_ok rfl) rfl) ?_
       refine TL.nil ?_
       refine T.ret ?_
       refine ⟨[(false, [.d (.bool false)])], (.cons rfl .nil), rfl, [], (RetC.rd' ?_ .nil)⟩ <;> ((congr 1; symm; first | (apply decide_eq_false; rintro rfl; first | exact absurd rfl ‹¬ _ = _› | contradiction) | (apply decide_eq_true; apply SHead.ext <;> first | assumption | exact Decidable.not_not.1 (by assumption))))
      ·
       replace h6 : (decide (a.f5 = b.f5)) = true := by simpa only [Bool.not_eq_true', Bool.not_eq_false'] using h6
       replace h6 := of_decide_eq_true h6
       refine T.skip ?_
       refine T.seq ?_
       refine T.region ?_
       refine TL.cons rfl (Step.assign (p := (.one (.d (.bool true)))) rfl rfl (lt_ok rfl) rfl) ?_
       refine TL.nil ?_
       refine T.ret ?_
       refine ⟨[(false, [.d (.bool true)])], (.cons rfl .nil), rfl, [], (RetC.rd' ?_ .nil)⟩ <;> ((congr 1; symm; first | (apply decide_eq_false; rintro rfl; first | exact absurd rfl ‹¬ _ = _› | contradiction) | (apply decide_eq_true; apply SHead.ext <;> first | assumption | exact Decidable.not_not.1 (by assumption))))
theorem ok_laws_eqBlock (a : SBlock) (b : SBlock) : RO Try.prog 42 [.agg a.cells, .agg b.cells] [(false, [.rd (.bool (decide (a = b)))])] := by
 refine RO.intro Try.func42 rfl 17 rfl (le_ok rfl) fun w Z => ?_
 refine T.seq ?_
 refine T.region ?_
 refine TL.cons rfl (Step.box (p := (.agg [.d (.int .i64 a.f0.f0), .d (.int .i64 a.f0.f1), .d (.int .i64 a.f0.f2), .d (.ints .u8 a.f0.f3), .d (.ints .u8 a.f0.f4), .d (.int .i64 a.f0.f5.f0), .d (.int .i64 a.f0.f5.f1), .d (.ints .u8 a.f0.f5.f2), .d (.ints .u8 a.f0.f5.f3), .d (.bss a.f0.f5.f4), .d (.bss a.f1)])) (ps := [.d (.int .i64 a.f0.f0), .d (.int .i64 a.f0.f1), .d (.int .i64 a.f0.f2), .d (.ints .u8 a.f0.f3), .d (.ints .u8 a.f0.f4), .d (.int .i64 a.f0.f5.f0), .d (.int .i64 a.f0.f5.f1), .d (.ints .u8 a.f0.f5.f2), .d (.ints .u8 a.f0.f5.f3), .d (.bss a.f0.f5.f4), .d (.bss a.f1)]) rfl rfl (lt_ok rfl) rfl rfl rfl rfl rfl) ?_
 refine TL.cons rfl (Step.box (p := (.agg [.d (.int .i64 b.f0.f0), .d (.int .i64 b.f0.f1), .d (.int .i64 b.f0.f2), .d (.ints .u8 b.f0.f3), .d (.ints .u8 b.f0.f4), .d (.int .i64 b.f0.f5.f0), .d (.int .i64 b.f0.f5.f1), .d (.ints .u8 b.f0.f5.f2), .d (.ints .u8 b.f0.f5.f3), .d (.bss b.f0.f5.f4), .d (.bss b.f1)])) (ps := [.d (.int .i64 b.f0.f0), .d (.int .i64 b.f0.f1), .d (.int .i64 b.f0.f2), .d (.ints .u8 b.f0.f3), .d (.ints .u8 b.f0.f4), .d (.int .i64 b.f0.f5.f0), .d (.int .i64 b.f0.f5.f1), .d (.ints .u8 b.f0.f5.f2), .d (.ints .u8 b.f0.f5.f3), .d (.bss b.f0.f5.f4), .d (.bss b.f1)]) rfl rfl (lt_ok rfl) rfl rfl rfl rfl rfl) ?_
 refine TL.cons rfl (Step.assign (p := (.one (.d (.bool false)))) rfl rfl (lt_ok rfl) rfl) ?_
 refine TL.nil ?_
 refine T.seq ?_
 refine T.seq ?_
 refine T.region ?_
 refine TL.cons rfl (Step.fieldAddr (q := 0) (off := 0) (n := 10) (one := false) rfl rfl (lt_ok rfl) (by kernel_rfl) (Nat.succ_ne_zero _) rfl) ?_
 refine TL.cons rfl (Step.load_box_agg (n := 10) (qs := [.d (.int .i64 a.f0.f0), .d (.int .i64 a.f0.f1), .d (.int .i64 a.f0.f2), .d (.ints .u8 a.f0.f3), .d (.ints .u8 a.f0.f4), .d (.int .i64 a.f0.f5.f0), .d (.int .i64 a.f0.f5.f1), .d (.ints .u8 a.f0.f5.f2), .d (.ints .u8 a.f0.f5.f3), .d (.bss a.f0.f5.f4)]) rfl rfl (lt_ok rfl) (by kernel_rfl) rfl rfl rfl rfl) ?_
 refine TL.cons rfl (Step.fieldAddr (q := 0) (off := 0) (n := 10) (one := false) rfl rfl (lt_ok rfl) (by kernel_rfl) (Nat.succ_ne_zero _) rfl) ?_
 refine TL.cons rfl (Step.load_box_agg (n := 10) (qs := [.d (.int .i64 b.f0.f0), .d (.int .i64 b.f0.f1), .d (.int .i64 b.f0.f2), .d (.ints .u8 b.f0.f3), .d (.ints .u8 b.f0.f4), .d (.int .i64 b.f0.f5.f0), .d (.int .i64 b.f0.f5.f1), .d (.ints .u8 b.f0.f5.f2), .d (.ints .u8 b.f0.f5.f3), .d (.bss b.f0.f5.f4)]) rfl rfl (lt_ok rfl) (by kernel_rfl) rfl rfl rfl rfl) ?_
 refine TL.cons rfl (Step.call (f := 80) (xs := [.tmp 6, .tmp 8]) (ps := [(.agg [.d (.int .i64 a.f0.f0), .d (.int .i64 a.f0.f1), .d (.int .i64 a.f0.f2), .d (.ints .u8 a.f0.f3), .d (.ints .u8 a.f0.f4), .d (.int .i64 a.f0.f5.f0), .d (.int .i64 a.f0.f5.f1), .d (.ints .u8 a.f0.f5.f2), .d (.ints .u8 a.f0.f5.f3), .d (.bss a.f0.f5.f4)]), (.agg [.d (.int .i64 b.f0.f0), .d (.int .i64 b.f0.f1), .d (.int .i64 b.f0.f2), .d (.ints .u8 b.f0.f3), .d (.ints .u8 b.f0.f4), .d (.int .i64 b.f0.f5.f0), .d (.int .i64 b.f0.f5.f1), .d (.ints .u8 b.f0.f5.f2), .d (.ints .u8 b.f0.f5.f3), .d (.bss b.f0.f5.f4)])]) false (g := .func 80) rfl rfl (lt_ok rfl) rfl (by kernel_rfl) rfl (.cons (.agg (.cons (.d _) (.cons (.d _) (.cons (.d _) (.cons (.d _) (.cons (.d _) (.cons (.d _) (.cons (.d _) (.cons (.d _) (.cons (.d _) (.cons (.d _) .nil))))))))))) (.cons (.agg (.cons (.d _) (.cons (.d _) (.cons (.d _) (.cons (.d _) (.cons (.d _) (.cons (.d _) (.cons (.d _) (.cons (.d _) (.cons (.d _) (.cons (.d _) .nil))))))))))) .nil)) (ok_laws_eqHead a.f0 b.f0) (.inr rfl) rfl (by simp) rfl) ?_
 refine TL.cons rfl (Step.not (b := (decide (a.f0 = b.f0))) rfl rfl (lt_ok rfl) rfl) ?_
 refine TL.nil ?_
 refine T.cond (b := !(decide (a.f0 = b.f0))) rfl (fun h1 => ?_) (fun h1 => ?_)
 ·
  replace h1 : (decide (a.f0 = b.f0)) = false := by simpa only [Bool.not_eq_true', Bool.not_eq_false'] using h1
  replace h1 := of_decide_eq_false h1
  refine T.seq ?_
  refine T.region ?_
  refine TL.cons rfl (Step.assign (p := (.one (.d (.bool false)))) rfl rfl (lt_ok rfl) rfl) ?_
  refine TL.nil ?_
  refine T.ret ?_
  refine ⟨[(false, [.d (.bool false)])], (.cons rfl .nil), rfl, [], (RetC.rd' ?_ .nil)⟩ <;> ((congr 1; symm; first | (apply decide_eq_false; rintro rfl; first | exact absurd rfl ‹¬ _ = _› | contradiction) | (apply decide_eq_true; apply SBlock.ext <;> first | assumption | exact Decidable.not_not.1 (by assumption))))
 ·
  replace h1 : (decide (a.f0 = b.f0)) = true := by simpa only [Bool.not_eq_true', Bool.not_eq_false'] using h1
  replace h1 := of_decide_eq_true h1
  refine T.skip ?_
  refine T.seq ?_
  refine T.seq ?_
  refine T.region ?_
  refine TL.cons rfl (Step.fieldAddr (q := 0) (off := 10) (n := 1) (one := true) rfl rfl (lt_ok rfl) (by kernel_rfl) (Nat.succ_ne_zero _) rfl) ?_
  refine TL.cons rfl (Step.load_box (c := .d (.bss a.f1)) rfl rfl (lt_ok rfl) (by kernel_rfl) rfl rfl rfl) ?_
  refine TL.cons rfl (Step.fieldAddr (q := 0) (off := 10) (n := 1) (one := true) rfl rfl (lt_ok rfl) (by kernel_rfl) (Nat.succ_ne_zero _) rfl) ?_
  refine TL.cons rfl (Step.load_box (c := .d (.bss b.f1)) rfl rfl (lt_ok rfl) (by kernel_rfl) rfl rfl rfl) ?_
  refine TL.cons rfl (Step.call (f := 23) (xs := [.tmp 12, .tmp 14]) (ps := [(.one (.d (.bss a.f1))), (.one (.d (.bss b.f1)))]) false (g := .func 23) rfl rfl (lt_ok rfl) rfl (by kernel_rfl) rfl (.cons (.one (.d _)) (.cons (.one (.d _)) .nil)) (ok_laws_eqByteSS a.f1 b.f1) (.inr rfl) rfl (by simp) rfl) ?_
  refine TL.cons rfl (Step.not (b := (decide (a.f1 = b.f1))) rfl rfl (lt_ok rfl) rfl) ?_
  refine TL.nil ?_
  refine T.cond (b := !(decide (a.f1 = b.f1))) rfl (fun h2 => ?_) (fun h2 => ?_)
  ·
   replace h2 : (decide (a.f1 = b.f1)) = false := by simpa only [Bool.not_eq_true', Bool.not_eq_false'] using h2
   replace h2 := of_decide_eq_false h2
   refine T.seq ?_
   refine T.region ?_
   refine TL.cons rfl (Step.assign (p := (.one (.d (.bool false)))) rfl rfl (lt_ok rfl) rfl) ?_
   refine TL.nil ?_
   refine T.ret ?_
   refine ⟨[(false, [.d (.bool false)])], (.cons rfl .nil), rfl, [], (RetC.rd' ?_ .nil)⟩ <;> ((congr 1; symm; first | (apply decide_eq_false; rintro rfl; first | exact absurd rfl ‹¬ _ = _› | contradiction) | (apply decide_eq_true; apply SBlock.ext <;> first | assumption | exact Decidable.not_not.1 (by assumption))))
  ·
   replace h2 : (decide (a.f1 = b.f1)) = true := by simpa only [Bool.not_eq_true', Bool.not_eq_false'] using h2
   replace h2 := of_decide_eq_true h2
   refine T.skip ?_
   refine T.seq ?_
   refine T.region ?_
   refine TL.cons rfl (Step.assign (p := (.one (.d (.bool true)))) rfl rfl (lt_ok rfl) rfl) ?_
   refine TL.nil ?_
   refine T.ret ?_
   refine ⟨[(false, [.d (.bool true)])], (.cons rfl .nil), rfl, [], (RetC.rd' ?_ .nil)⟩ <;> ((congr 1; symm; first | (apply decide_eq_false; rintro rfl; first | exact absurd rfl ‹¬ _ = _› | contradiction) | (apply decide_eq_true; apply SBlock.ext <;> first | assumption | exact Decidable.not_not.1 (by assumption))))
theorem ok_laws_FnExactBlockOk (aL : SLimits) (aX : SBlock) (h0_ : aL.ok) (h1_ : aX.ok) : RO Try.prog 10 [.agg aL.cells, .agg aX.cells] [(false, [.rd (.bool true)])] := by
 refine RO.intro Try.func10 rfl 33 rfl (le_ok rfl) fun w Z => ?_
 refine T.seq ?_
 refine T.region ?_
 refine TL.cons rfl (Step.box (p := (.agg [.d (.int .i64 aL.f0), .d (.int .i64 aL.f1), .d (.int .i64 aL.f2), .d (.int .i64 aL.f3), .d (.int .i64 aL.f4)])) (ps := [.d (.int .i64 aL.f0), .d (.int .i64 aL.f1), .d (.int .i64 aL.f2), .d (.int .i64 aL.f3), .d (.int .i64 aL.f4)]) rfl rfl (lt_ok rfl) rfl rfl rfl rfl rfl) ?_
 refine TL.cons rfl (Step.box (p := (.agg [.d (.int .i64 aX.f0.f0), .d (.int .i64 aX.f0.f1), .d (.int .i64 aX.f0.f2), .d (.ints .u8 aX.f0.f3), .d (.ints .u8 aX.f0.f4), .d (.int .i64 aX.f0.f5.f0), .d (.int .i64 aX.f0.f5.f1), .d (.ints .u8 aX.f0.f5.f2), .d (.ints .u8 aX.f0.f5.f3), .d (.bss aX.f0.f5.f4), .d (.bss aX.f1)])) (ps := [.d (.int .i64 aX.f0.f0), .d (.int .i64 aX.f0.f1), .d (.int .i64 aX.f0.f2), .d (.ints .u8 aX.f0.f3), .d (.ints .u8 aX.f0.f4), .d (.int .i64 aX.f0.f5.f0), .d (.int .i64 aX.f0.f5.f1), .d (.ints .u8 aX.f0.f5.f2), .d (.ints .u8 aX.f0.f5.f3), .d (.bss aX.f0.f5.f4), .d (.bss aX.f1)]) rfl rfl (lt_ok rfl) rfl rfl rfl rfl rfl) ?_
 refine TL.cons rfl (Step.assign (p := (.one (.d (.bool false)))) rfl rfl (lt_ok rfl) rfl) ?_
 refine TL.nil ?_
 refine T.seq ?_
 refine T.region ?_
 refine TL.cons rfl (Step.assign (p := (.one (.d (.int .i64 1048576)))) rfl rfl (lt_ok rfl) rfl) ?_
 refine TL.nil ?_
 refine T.seq ?_
 refine T.region ?_
 refine TL.cons rfl (Step.load_box_agg (n := 11) (qs := [.d (.int .i64 aX.f0.f0), .d (.int .i64 aX.f0.f1), .d (.int .i64 aX.f0.f2), .d (.ints .u8 aX.f0.f3), .d (.ints .u8 aX.f0.f4), .d (.int .i64 aX.f0.f5.f0), .d (.int .i64 aX.f0.f5.f1), .d (.ints .u8 aX.f0.f5.f2), .d (.ints .u8 aX.f0.f5.f3), .d (.bss aX.f0.f5.f4), .d (.bss aX.f1)]) rfl rfl (lt_ok rfl) (by kernel_rfl) rfl rfl rfl rfl) ?_
 refine TL.cons rfl (Step.move (p := (.one (.d (.int .i64 1048576)))) rfl rfl (lt_ok rfl) rfl) ?_
 refine TL.cons rfl (Step.call (f := 37) (xs := [.tmp 9, .tmp 10]) (ps := [(.agg [.d (.int .i64 aX.f0.f0), .d (.int .i64 aX.f0.f1), .d (.int .i64 aX.f0.f2), .d (.ints .u8 aX.f0.f3), .d (.ints .u8 aX.f0.f4), .d (.int .i64 aX.f0.f5.f0), .d (.int .i64 aX.f0.f5.f1), .d (.ints .u8 aX.f0.f5.f2), .d (.ints .u8 aX.f0.f5.f3), .d (.bss aX.f0.f5.f4), .d (.bss aX.f1)]), (.one (.d (.int .i64 1048576)))]) false (g := .func 37) rfl rfl (lt_ok rfl) rfl (by kernel_rfl) rfl (.cons (.agg (.cons (.d _) (.cons (.d _) (.cons (.d _) (.cons (.d _) (.cons (.d _) (.cons (.d _) (.cons (.d _) (.cons (.d _) (.cons (.d _) (.cons (.d _) (.cons (.d _) .nil)))))))))))) (.cons (.one (.d _)) .nil)) (ok_laws_szBlock aX 1048576 (by omega) (by omega)) (.inr rfl) rfl (by simp) rfl) ?_
 refine TL.cons rfl (Step.assign (p := (.one (.d (.int .i64 (aX.sz 1048576))))) rfl rfl (lt_ok rfl) rfl) ?_
 refine TL.nil ?_
 refine T.seq ?_
 refine T.seq ?_
 refine T.region ?_
 refine TL.cons rfl (Step.move (p := (.one (.d (.int .i64 (aX.sz 1048576))))) rfl rfl (lt_ok rfl) rfl) ?_
 refine TL.cons rfl (Step.bin rfl rfl (lt_ok rfl) rfl rfl (Bin.lss (k := .i64) (a := (aX.sz 1048576)) (b := 0))) ?_
 refine TL.nil ?_
 refine T.cond (b := decide ((aX.sz 1048576) < 0)) rfl (fun h2 => ?_) (fun h2 => ?_)
 ·
  replace h2 := of_decide_eq_true h2
  refine T.seq ?_
  refine T.region ?_
  refine TL.cons rfl (Step.assign (p := (.one (.d (.bool true)))) rfl rfl (lt_ok rfl) rfl) ?_
  refine TL.nil ?_
  refine T.ret ?_
  exact ⟨[(false, [.d (.bool true)])], (.cons rfl .nil), rfl, [], (RetC.rd' rfl .nil)⟩
 ·
  replace h2 := of_decide_eq_false h2
  have z1_le : aX.sz 1048576 ≤ 1048576 := SBlock.sz_le _ (by omega)
  have z1_sm := SBlock.sz_sm _ (by omega : (0 : Int) ≤ 1048576) (by omega : (1048576 : Int) ≤ 1048576) (by omega : (0 : Int) ≤ aX.sz 1048576)
  refine T.skip ?_
  refine T.seq ?_
  refine T.draw [⟨14, (.agg [.d (.int .i64 aL.f0), .d (.int .i64 aL.f1), .d (.int .i64 aL.f2), .d (.int .i64 aL.f3), .d (.int .i64 aL.f4)]), []⟩, ⟨15, (.agg [.d (.int .i64 aL.f0), .d (.int .i64 aL.f1), .d (.int .i64 aL.f2), .d (.int .i64 aL.f3), .d (.int .i64 aL.f4)]), []⟩, ⟨16, (.agg [.d (.int .i64 aX.f0.f0), .d (.int .i64 aX.f0.f1), .d (.int .i64 aX.f0.f2), .d (.ints .u8 aX.f0.f3), .d (.ints .u8 aX.f0.f4), .d (.int .i64 aX.f0.f5.f0), .d (.int .i64 aX.f0.f5.f1), .d (.ints .u8 aX.f0.f5.f2), .d (.ints .u8 aX.f0.f5.f3), .d (.bss aX.f0.f5.f4), .d (.bss aX.f1)]), []⟩, ⟨17, (.agg [.d (.int .i64 aX.f0.f0), .d (.int .i64 aX.f0.f1), .d (.int .i64 aX.f0.f2), .row 4017 [], .row 5017 [], .d (.int .i64 aX.f0.f5.f0), .d (.int .i64 aX.f0.f5.f1), .row 8017 [], .row 9017 [], .row 10017 [], .row 11017 []]), [(11017, (22, (.bss aX.f1))), (10017, (22, (.bss aX.f0.f5.f4))), (9017, (5, (.ints .u8 aX.f0.f5.f3))), (8017, (5, (.ints .u8 aX.f0.f5.f2))), (5017, (5, (.ints .u8 aX.f0.f4))), (4017, (5, (.ints .u8 aX.f0.f3)))]⟩, ⟨18, (.one (.d (.bool (blockOk aL aX)))), []⟩, ⟨6, (.one (.d (.bool (blockOk aL aX)))), []⟩] (by kernel_rfl) (by kernel_rfl) ?_ ?_
  ·
   refine .cons (fun E hA_ => by have g2 := hA_.get 2 (by decide); exact OpStep.plain rfl (Step.load_box_agg (n := 5) (qs := [.d (.int .i64 aL.f0), .d (.int .i64 aL.f1), .d (.int .i64 aL.f2), .d (.int .i64 aL.f3), .d (.int .i64 aL.f4)]) (t := 14) rfl rfl (by exact lt_ok rfl) (by kernel_rfl) (show Env.ev E (.tmp 2) = _ from g2.trans rfl) (by exact hA_.box rfl) rfl rfl)) ?_
   refine .cons (fun E hA_ => by have g14 := hA_.get 14 (by decide); exact OpStep.plain rfl (Step.call (f := 39) (xs := [.tmp 14]) (ps := [(.agg [.d (.int .i64 aL.f0), .d (.int .i64 aL.f1), .d (.int .i64 aL.f2), .d (.int .i64 aL.f3), .d (.int .i64 aL.f4)])]) false (g := .func 39) (t := 15) rfl rfl (by exact lt_ok rfl) rfl (by kernel_rfl) (evs_cons (show Env.ev E (.tmp 14) = _ from g14.trans rfl) (rfl)) (.cons (.agg (.cons (.d _) (.cons (.d _) (.cons (.d _) (.cons (.d _) (.cons (.d _) .nil)))))) .nil) (ok_laws_toLimits aL) (.inr rfl) (At.freshRows hA_ rfl) (by simp) rfl)) ?_
   refine .cons (fun E hA_ => by have g3 := hA_.get 3 (by decide); exact OpStep.plain rfl (Step.load_box_agg (n := 11) (qs := [.d (.int .i64 aX.f0.f0), .d (.int .i64 aX.f0.f1), .d (.int .i64 aX.f0.f2), .d (.ints .u8 aX.f0.f3), .d (.ints .u8 aX.f0.f4), .d (.int .i64 aX.f0.f5.f0), .d (.int .i64 aX.f0.f5.f1), .d (.ints .u8 aX.f0.f5.f2), .d (.ints .u8 aX.f0.f5.f3), .d (.bss aX.f0.f5.f4), .d (.bss aX.f1)]) (t := 16) rfl rfl (by exact lt_ok rfl) (by kernel_rfl) (show Env.ev E (.tmp 3) = _ from g3.trans rfl) (by exact hA_.box rfl) rfl rfl)) ?_
   refine .cons (fun E hA_ => by have g16 := hA_.get 16 (by decide); exact OpStep.plain rfl (Step.call (f := 40) (xs := [.tmp 16]) (ps := [(.agg [.d (.int .i64 aX.f0.f0), .d (.int .i64 aX.f0.f1), .d (.int .i64 aX.f0.f2), .d (.ints .u8 aX.f0.f3), .d (.ints .u8 aX.f0.f4), .d (.int .i64 aX.f0.f5.f0), .d (.int .i64 aX.f0.f5.f1), .d (.ints .u8 aX.f0.f5.f2), .d (.ints .u8 aX.f0.f5.f3), .d (.bss aX.f0.f5.f4), .d (.bss aX.f1)])]) false (g := .func 40) (t := 17) rfl rfl (by exact lt_ok rfl) rfl (by kernel_rfl) (evs_cons (show Env.ev E (.tmp 16) = _ from g16.trans rfl) (rfl)) (.cons (.agg (.cons (.d _) (.cons (.d _) (.cons (.d _) (.cons (.d _) (.cons (.d _) (.cons (.d _) (.cons (.d _) (.cons (.d _) (.cons (.d _) (.cons (.d _) (.cons (.d _) .nil)))))))))))) .nil) (ok_laws_toBlock aX (by first | assumption | exact ⟨‹_›, ‹_›⟩ | (refine mem_getD (p := SBlock.sm) h0_.2 (by omega)) | exact mem_getD h0_.2 (by omega))) (.inr rfl) (At.freshRows hA_ rfl) (by simp) rfl)) ?_
   refine .cons (fun E hA_ => by have g15 := hA_.get 15 (by decide); have g17 := hA_.get 17 (by decide); exact OpStep.plain rfl (Step.call (f := 38) (xs := [.tmp 15, .tmp 17]) (ps := [(.agg [.d (.int .i64 aL.f0), .d (.int .i64 aL.f1), .d (.int .i64 aL.f2), .d (.int .i64 aL.f3), .d (.int .i64 aL.f4)]), (.agg [.d (.int .i64 aX.f0.f0), .d (.int .i64 aX.f0.f1), .d (.int .i64 aX.f0.f2), .row 4017 [], .row 5017 [], .d (.int .i64 aX.f0.f5.f0), .d (.int .i64 aX.f0.f5.f1), .row 8017 [], .row 9017 [], .row 10017 [], .row 11017 []])]) false (g := .func 38) (t := 18) rfl rfl (by exact lt_ok rfl) rfl (by kernel_rfl) (evs_cons (show Env.ev E (.tmp 15) = _ from g15.trans rfl) (evs_cons (show Env.ev E (.tmp 17) = _ from g17.trans rfl) (rfl))) (.cons (.agg (.cons (.d _) (.cons (.d _) (.cons (.d _) (.cons (.d _) (.cons (.d _) .nil)))))) (.cons (.agg (.cons (.d _) (.cons (.d _) (.cons (.d _) (.cons (.row rfl (by exact (hA_.row 4017 (by kernel_rfl)).trans rfl) rfl rfl) (.cons (.row rfl (by exact (hA_.row 5017 (by kernel_rfl)).trans rfl) rfl rfl) (.cons (.d _) (.cons (.d _) (.cons (.row rfl (by exact (hA_.row 8017 (by kernel_rfl)).trans rfl) rfl rfl) (.cons (.row rfl (by exact (hA_.row 9017 (by kernel_rfl)).trans rfl) rfl rfl) (.cons (.row rfl (by exact (hA_.row 10017 (by kernel_rfl)).trans rfl) rfl rfl) (.cons (.row rfl (by exact (hA_.row 11017 (by kernel_rfl)).trans rfl) rfl rfl) .nil)))))))))))) .nil)) (ok_spec_BlockOk aL aX (by first | assumption | exact hok_) (by first | assumption | exact hsm_)) (.inr rfl) (At.freshRows hA_ rfl) (by simp) rfl)) ?_
   refine .cons (fun E hA_ => by have g18 := hA_.get 18 (by decide); exact OpStep.plain rfl (Step.assign (p := (.one (.d (.bool (blockOk aL aX))))) (t := 6) rfl rfl (by exact lt_ok rfl) (show Env.ev E (.tmp 18) = _ from g18.trans rfl))) ?_
   exact .nil _ _
  refine TL.nil ?_
  refine T.weaken (E' := { tm := [(2, (.one (.ptr 2 0))), (3, (.one (.ptr 3 0))), (4, (.one (.d (.bool false)))), (6, (.one (.d (.bool (blockOk aL aX)))))], rows := [], boxes := [(2, (46, [.d (.int .i64 aL.f0), .d (.int .i64 aL.f1), .d (.int .i64 aL.f2), .d (.int .i64 aL.f3), .d (.int .i64 aL.f4)])), (3, (52, [.d (.int .i64 aX.f0.f0), .d (.int .i64 aX.f0.f1), .d (.int .i64 aX.f0.f2), .d (.ints .u8 aX.f0.f3), .d (.ints .u8 aX.f0.f4), .d (.int .i64 aX.f0.f5.f0), .d (.int .i64 aX.f0.f5.f1), .d (.ints .u8 aX.f0.f5.f2), .d (.ints .u8 aX.f0.f5.f3), .d (.bss aX.f0.f5.f4), .d (.bss aX.f1)]))] }) (Env.le_mk ⟨by kernel_rfl, by kernel_rfl, by kernel_rfl, by kernel_rfl, trivial⟩ trivial ⟨by kernel_rfl, by kernel_rfl, trivial⟩) ?_
  refine T.seq ?_
  refine T.region ?_
  refine TL.cons rfl (Step.load_box_agg (n := 11) (qs := [.d (.int .i64 aX.f0.f0), .d (.int .i64 aX.f0.f1), .d (.int .i64 aX.f0.f2), .d (.ints .u8 aX.f0.f3), .d (.ints .u8 aX.f0.f4), .d (.int .i64 aX.f0.f5.f0), .d (.int .i64 aX.f0.f5.f1), .d (.ints .u8 aX.f0.f5.f2), .d (.ints .u8 aX.f0.f5.f3), .d (.bss aX.f0.f5.f4), .d (.bss aX.f1)]) rfl rfl (lt_ok rfl) (by kernel_rfl) rfl rfl rfl rfl) ?_
  refine TL.cons rfl (Step.call (f := 40) (xs := [.tmp 19]) (ps := [(.agg [.d (.int .i64 aX.f0.f0), .d (.int .i64 aX.f0.f1), .d (.int .i64 aX.f0.f2), .d (.ints .u8 aX.f0.f3), .d (.ints .u8 aX.f0.f4), .d (.int .i64 aX.f0.f5.f0), .d (.int .i64 aX.f0.f5.f1), .d (.ints .u8 aX.f0.f5.f2), .d (.ints .u8 aX.f0.f5.f3), .d (.bss aX.f0.f5.f4), .d (.bss aX.f1)])]) false (g := .func 40) rfl rfl (lt_ok rfl) rfl (by kernel_rfl) rfl (.cons (.agg (.cons (.d _) (.cons (.d _) (.cons (.d _) (.cons (.d _) (.cons (.d _) (.cons (.d _) (.cons (.d _) (.cons (.d _) (.cons (.d _) (.cons (.d _) (.cons (.d _) .nil)))))))))))) .nil) (ok_laws_toBlock aX (by first | assumption | exact ⟨‹_›, ‹_›⟩ | (refine mem_getD (p := SBlock.sm) h0_.2 (by omega)) | exact mem_getD h0_.2 (by omega))) (.inr rfl) rfl (by simp) rfl) ?_
  refine TL.cons rfl (Step.alloc (cs := [.int .i64 0, .int .i64 0, .int .i64 0, .slice none 0 0, .slice none 0 0, .int .i64 0, .int .i64 0, .slice none 0 0, .slice none 0 0, .slice none 0 0, .slice none 0 0]) (ps := [.d (.int .i64 0), .d (.int .i64 0), .d (.int .i64 0), .nil, .nil, .d (.int .i64 0), .d (.int .i64 0), .nil, .nil, .nil, .nil]) rfl rfl (lt_ok rfl) (by kernel_rfl) rfl rfl rfl rfl) ?_
  refine TL.cons rfl (Step.store_box (n := 11) (p := (.agg [.d (.int .i64 aX.f0.f0), .d (.int .i64 aX.f0.f1), .d (.int .i64 aX.f0.f2), .row 4020 [], .row 5020 [], .d (.int .i64 aX.f0.f5.f0), .d (.int .i64 aX.f0.f5.f1), .row 8020 [], .row 9020 [], .row 10020 [], .row 11020 []])) (qs := [.d (.int .i64 aX.f0.f0), .d (.int .i64 aX.f0.f1), .d (.int .i64 aX.f0.f2), .row 4020 [], .row 5020 [], .d (.int .i64 aX.f0.f5.f0), .d (.int .i64 aX.f0.f5.f1), .row 8020 [], .row 9020 [], .row 10020 [], .row 11020 []]) (ps' := [.d (.int .i64 aX.f0.f0), .d (.int .i64 aX.f0.f1), .d (.int .i64 aX.f0.f2), .row 4020 [], .row 5020 [], .d (.int .i64 aX.f0.f5.f0), .d (.int .i64 aX.f0.f5.f1), .row 8020 [], .row 9020 [], .row 10020 [], .row 11020 []]) rfl rfl (by kernel_rfl) rfl rfl rfl rfl rfl rfl (le_ok rfl) rfl) ?_
  refine TL.nil ?_
  refine T.seq ?_
  refine T.draw [⟨21, (.agg [.d (.int .i64 aL.f0), .d (.int .i64 aL.f1), .d (.int .i64 aL.f2), .d (.int .i64 aL.f3), .d (.int .i64 aL.f4)]), []⟩, ⟨22, (.agg [.d (.int .i64 aL.f0), .d (.int .i64 aL.f1), .d (.int .i64 aL.f2), .d (.int .i64 aL.f3), .d (.int .i64 aL.f4)]), []⟩, ⟨23, (.agg [.d (.int .i64 aX.f0.f0), .d (.int .i64 aX.f0.f1), .d (.int .i64 aX.f0.f2), .row 4020 [], .row 5020 [], .d (.int .i64 aX.f0.f5.f0), .d (.int .i64 aX.f0.f5.f1), .row 8020 [], .row 9020 [], .row 10020 [], .row 11020 []]), []⟩, ⟨24, (.one (.d (.bool (blockOk aL aX)))), []⟩, ⟨8, (.one (.d (.bool (blockOk aL aX)))), []⟩] (by kernel_rfl) (by kernel_rfl) ?_ ?_
  ·
   refine .cons (fun E hA_ => by have g2 := hA_.get 2 (by decide); exact OpStep.plain rfl (Step.load_box_agg (n := 5) (qs := [.d (.int .i64 aL.f0), .d (.int .i64 aL.f1), .d (.int .i64 aL.f2), .d (.int .i64 aL.f3), .d (.int .i64 aL.f4)]) (t := 21) rfl rfl (by exact lt_ok rfl) (by kernel_rfl) (show Env.ev E (.tmp 2) = _ from g2.trans rfl) (by exact hA_.box rfl) rfl rfl)) ?_
   refine .cons (fun E hA_ => by have g21 := hA_.get 21 (by decide); exact OpStep.plain rfl (Step.call (f := 39) (xs := [.tmp 21]) (ps := [(.agg [.d (.int .i64 aL.f0), .d (.int .i64 aL.f1), .d (.int .i64 aL.f2), .d (.int .i64 aL.f3), .d (.int .i64 aL.f4)])]) false (g := .func 39) (t := 22) rfl rfl (by exact lt_ok rfl) rfl (by kernel_rfl) (evs_cons (show Env.ev E (.tmp 21) = _ from g21.trans rfl) (rfl)) (.cons (.agg (.cons (.d _) (.cons (.d _) (.cons (.d _) (.cons (.d _) (.cons (.d _) .nil)))))) .nil) (ok_laws_toLimits aL) (.inr rfl) (At.freshRows hA_ rfl) (by simp) rfl)) ?_
   refine .cons (fun E hA_ => by have g7 := hA_.get 7 (by decide); exact OpStep.plain rfl (Step.load_box_agg (n := 11) (qs := [.d (.int .i64 aX.f0.f0), .d (.int .i64 aX.f0.f1), .d (.int .i64 aX.f0.f2), .row 4020 [], .row 5020 [], .d (.int .i64 aX.f0.f5.f0), .d (.int .i64 aX.f0.f5.f1), .row 8020 [], .row 9020 [], .row 10020 [], .row 11020 []]) (t := 23) rfl rfl (by exact lt_ok rfl) (by kernel_rfl) (show Env.ev E (.tmp 7) = _ from g7.trans rfl) (by exact hA_.box rfl) rfl rfl)) ?_
   refine .cons (fun E hA_ => by have g22 := hA_.get 22 (by decide); have g23 := hA_.get 23 (by decide); exact OpStep.plain rfl (Step.call (f := 41) (xs := [.tmp 22, .tmp 23]) (ps := [(.agg [.d (.int .i64 aL.f0), .d (.int .i64 aL.f1), .d (.int .i64 aL.f2), .d (.int .i64 aL.f3), .d (.int .i64 aL.f4)]), (.agg [.d (.int .i64 aX.f0.f0), .d (.int .i64 aX.f0.f1), .d (.int .i64 aX.f0.f2), .row 4020 [], .row 5020 [], .d (.int .i64 aX.f0.f5.f0), .d (.int .i64 aX.f0.f5.f1), .row 8020 [], .row 9020 [], .row 10020 [], .row 11020 []])]) false (g := .func 41) (t := 24) rfl rfl (by exact lt_ok rfl) rfl (by kernel_rfl) (evs_cons (show Env.ev E (.tmp 22) = _ from g22.trans rfl) (evs_cons (show Env.ev E (.tmp 23) = _ from g23.trans rfl) (rfl))) (.cons (.agg (.cons (.d _) (.cons (.d _) (.cons (.d _) (.cons (.d _) (.cons (.d _) .nil)))))) (.cons (.agg (.cons (.d _) (.cons (.d _) (.cons (.d _) (.cons (.row rfl (by exact (hA_.row 4020 (by kernel_rfl)).trans rfl) rfl rfl) (.cons (.row rfl (by exact (hA_.row 5020 (by kernel_rfl)).trans rfl) rfl rfl) (.cons (.d _) (.cons (.d _) (.cons (.row rfl (by exact (hA_.row 8020 (by kernel_rfl)).trans rfl) rfl rfl) (.cons (.row rfl (by exact (hA_.row 9020 (by kernel_rfl)).trans rfl) rfl rfl) (.cons (.row rfl (by exact (hA_.row 10020 (by kernel_rfl)).trans rfl) rfl rfl) (.cons (.row rfl (by exact (hA_.row 11020 (by kernel_rfl)).trans rfl) rfl rfl) .nil)))))))))))) .nil)) (ok_impl_BlockOk aL aX (by first | assumption | exact hok_) (by first | assumption | exact hsm_)) (.inr rfl) (At.freshRows hA_ rfl) (by simp) rfl)) ?_
   refine .cons (fun E hA_ => by have g24 := hA_.get 24 (by decide); exact OpStep.plain rfl (Step.assign (p := (.one (.d (.bool (blockOk aL aX))))) (t := 8) rfl rfl (by exact lt_ok rfl) (show Env.ev E (.tmp 24) = _ from g24.trans rfl))) ?_
   exact .nil _ _
  refine TL.nil ?_
  refine T.seq ?_
  refine T.seq ?_
  refine T.region ?_
  refine TL.cons rfl (Step.move (p := (.one (.d (.bool (blockOk aL aX))))) rfl rfl (lt_ok rfl) rfl) ?_
  refine TL.cons rfl (Step.move (p := (.one (.d (.bool (blockOk aL aX))))) rfl rfl (lt_ok rfl) rfl) ?_
  refine TL.cons rfl (Step.bneq (b := (blockOk aL aX)) (c := (blockOk aL aX)) rfl rfl (lt_ok rfl) (by kernel_rfl) rfl rfl) ?_
  refine TL.known 27 (c := false) (by simp) rfl ?_
  refine TL.nil ?_
  refine T.cond (b := false) rfl (fun h3_ => absurd h3_ (by simp)) (fun h3_ => ?_)
  refine T.skip ?_
  refine T.seq ?_
  refine T.seq ?_
  refine T.draw [⟨28, (.agg [.d (.int .i64 aX.f0.f0), .d (.int .i64 aX.f0.f1), .d (.int .i64 aX.f0.f2), .row 4020 [], .row 5020 [], .d (.int .i64 aX.f0.f5.f0), .d (.int .i64 aX.f0.f5.f1), .row 8020 [], .row 9020 [], .row 10020 [], .row 11020 []]), []⟩, ⟨29, (.agg [.d (.int .i64 aX.f0.f0), .d (.int .i64 aX.f0.f1), .d (.int .i64 aX.f0.f2), .d (.ints .u8 aX.f0.f3), .d (.ints .u8 aX.f0.f4), .d (.int .i64 aX.f0.f5.f0), .d (.int .i64 aX.f0.f5.f1), .d (.ints .u8 aX.f0.f5.f2), .d (.ints .u8 aX.f0.f5.f3), .d (.bss aX.f0.f5.f4), .d (.bss aX.f1)]), []⟩, ⟨30, (.agg [.d (.int .i64 aX.f0.f0), .d (.int .i64 aX.f0.f1), .d (.int .i64 aX.f0.f2), .row 4030 [], .row 5030 [], .d (.int .i64 aX.f0.f5.f0), .d (.int .i64 aX.f0.f5.f1), .row 8030 [], .row 9030 [], .row 10030 [], .row 11030 []]), [(11030, (22, (.bss aX.f1))), (10030, (22, (.bss aX.f0.f5.f4))), (9030, (5, (.ints .u8 aX.f0.f5.f3))), (8030, (5, (.ints .u8 aX.f0.f5.f2))), (5030, (5, (.ints .u8 aX.f0.f4))), (4030, (5, (.ints .u8 aX.f0.f3)))]⟩, ⟨31, (.one (.d (.bool true))), []⟩, ⟨32, (.one (.d (.bool false))), []⟩] (by kernel_rfl) (by kernel_rfl) ?_ ?_
  ·
   refine .cons (fun E hA_ => by have g7 := hA_.get 7 (by decide); exact OpStep.plain rfl (Step.load_box_agg (n := 11) (qs := [.d (.int .i64 aX.f0.f0), .d (.int .i64 aX.f0.f1), .d (.int .i64 aX.f0.f2), .row 4020 [], .row 5020 [], .d (.int .i64 aX.f0.f5.f0), .d (.int .i64 aX.f0.f5.f1), .row 8020 [], .row 9020 [], .row 10020 [], .row 11020 []]) (t := 28) rfl rfl (by exact lt_ok rfl) (by kernel_rfl) (show Env.ev E (.tmp 7) = _ from g7.trans rfl) (by exact hA_.box rfl) rfl rfl)) ?_
   refine .cons (fun E hA_ => by have g3 := hA_.get 3 (by decide); exact OpStep.plain rfl (Step.load_box_agg (n := 11) (qs := [.d (.int .i64 aX.f0.f0), .d (.int .i64 aX.f0.f1), .d (.int .i64 aX.f0.f2), .d (.ints .u8 aX.f0.f3), .d (.ints .u8 aX.f0.f4), .d (.int .i64 aX.f0.f5.f0), .d (.int .i64 aX.f0.f5.f1), .d (.ints .u8 aX.f0.f5.f2), .d (.ints .u8 aX.f0.f5.f3), .d (.bss aX.f0.f5.f4), .d (.bss aX.f1)]) (t := 29) rfl rfl (by exact lt_ok rfl) (by kernel_rfl) (show Env.ev E (.tmp 3) = _ from g3.trans rfl) (by exact hA_.box rfl) rfl rfl)) ?_
   refine .cons (fun E hA_ => by have g29 := hA_.get 29 (by decide); exact OpStep.plain rfl (Step.call (f := 40) (xs := [.tmp 29]) (ps := [(.agg [.d (.int .i64 aX.f0.f0), .d (.int .i64 aX.f0.f1), .d (.int .i64 aX.f0.f2), .d (.ints .u8 aX.f0.f3), .d (.ints .u8 aX.f0.f4), .d (.int .i64 aX.f0.f5.f0), .d (.int .i64 aX.f0.f5.f1), .d (.ints .u8 aX.f0.f5.f2), .d (.ints .u8 aX.f0.f5.f3), .d (.bss aX.f0.f5.f4), .d (.bss aX.f1)])]) false (g := .func 40) (t := 30) rfl rfl (by exact lt_ok rfl) rfl (by kernel_rfl) (evs_cons (show Env.ev E (.tmp 29) = _ from g29.trans rfl) (rfl)) (.cons (.agg (.cons (.d _) (.cons (.d _) (.cons (.d _) (.cons (.d _) (.cons (.d _) (.cons (.d _) (.cons (.d _) (.cons (.d _) (.cons (.d _) (.cons (.d _) (.cons (.d _) .nil)))))))))))) .nil) (ok_laws_toBlock aX (by first | assumption | exact ⟨‹_›, ‹_›⟩ | (refine mem_getD (p := SBlock.sm) h0_.2 (by omega)) | exact mem_getD h0_.2 (by omega))) (.inr rfl) (At.freshRows hA_ rfl) (by simp) rfl)) ?_
   refine .cons (fun E hA_ => by have g28 := hA_.get 28 (by decide); have g30 := hA_.get 30 (by decide); exact OpStep.plain rfl (Step.to (E1 := E.set 31 (.one (.d (.bool (decide (aX = aX)))))) (congrArg (fun b_ => E.set 31 (.one (.d (.bool b_)))) (by simp : (decide (aX = aX)) = true)) (Step.call (f := 42) (xs := [.tmp 28, .tmp 30]) (ps := [(.agg [.d (.int .i64 aX.f0.f0), .d (.int .i64 aX.f0.f1), .d (.int .i64 aX.f0.f2), .row 4020 [], .row 5020 [], .d (.int .i64 aX.f0.f5.f0), .d (.int .i64 aX.f0.f5.f1), .row 8020 [], .row 9020 [], .row 10020 [], .row 11020 []]), (.agg [.d (.int .i64 aX.f0.f0), .d (.int .i64 aX.f0.f1), .d (.int .i64 aX.f0.f2), .row 4030 [], .row 5030 [], .d (.int .i64 aX.f0.f5.f0), .d (.int .i64 aX.f0.f5.f1), .row 8030 [], .row 9030 [], .row 10030 [], .row 11030 []])]) false (g := .func 42) (t := 31) rfl rfl (by exact lt_ok rfl) rfl (by kernel_rfl) (evs_cons (show Env.ev E (.tmp 28) = _ from g28.trans rfl) (evs_cons (show Env.ev E (.tmp 30) = _ from g30.trans rfl) (rfl))) (.cons (.agg (.cons (.d _) (.cons (.d _) (.cons (.d _) (.cons (.row rfl (by exact (hA_.row 4020 (by kernel_rfl)).trans rfl) rfl rfl) (.cons (.row rfl (by exact (hA_.row 5020 (by kernel_rfl)).trans rfl) rfl rfl) (.cons (.d _) (.cons (.d _) (.cons (.row rfl (by exact (hA_.row 8020 (by kernel_rfl)).trans rfl) rfl rfl) (.cons (.row rfl (by exact (hA_.row 9020 (by kernel_rfl)).trans rfl) rfl rfl) (.cons (.row rfl (by exact (hA_.row 10020 (by kernel_rfl)).trans rfl) rfl rfl) (.cons (.row rfl (by exact (hA_.row 11020 (by kernel_rfl)).trans rfl) rfl rfl) .nil)))))))))))) (.cons (.agg (.cons (.d _) (.cons (.d _) (.cons (.d _) (.cons (.row rfl (by exact (hA_.row 4030 (by kernel_rfl)).trans rfl) rfl rfl) (.cons (.row rfl (by exact (hA_.row 5030 (by kernel_rfl)).trans rfl) rfl rfl) (.cons (.d _) (.cons (.d _) (.cons (.row rfl (by exact (hA_.row 8030 (by kernel_rfl)).trans rfl) rfl rfl) (.cons (.row rfl (by exact (hA_.row 9030 (by kernel_rfl)).trans rfl) rfl rfl) (.cons (.row rfl (by exact (hA_.row 10030 (by kernel_rfl)).trans rfl) rfl rfl) (.cons (.row rfl (by exact (hA_.row 11030 (by kernel_rfl)).trans rfl) rfl rfl) .nil)))))))))))) .nil)) (ok_laws_eqBlock aX aX) (.inr rfl) (At.freshRows hA_ rfl) (by simp) rfl))) ?_
   refine .cons (fun E hA_ => by have g31 := hA_.get 31 (by decide); exact OpStep.plain rfl (Step.not (b := true) (t := 32) rfl rfl (by exact lt_ok rfl) (show Env.ev E (.tmp 31) = _ from g31.trans rfl))) ?_
   exact .nil _ _
  refine TL.nil ?_
  refine T.weaken (E' := { tm := [(4, (.one (.d (.bool false)))), (32, (.one (.d (.bool false))))], rows := [], boxes := [] }) (Env.le_mk ⟨by kernel_rfl, by kernel_rfl, trivial⟩ trivial trivial) ?_
  refine T.cond (b := false) rfl (fun h4_ => absurd h4_ (by simp)) (fun h4_ => ?_)
  refine T.skip ?_
  refine T.seq ?_
  refine T.region ?_
  refine TL.cons rfl (Step.assign (p := (.one (.d (.bool true)))) rfl rfl (lt_ok rfl) rfl) ?_
  refine TL.nil ?_
  refine T.ret ?_
  exact ⟨[(false, [.d (.bool true)])], (.cons rfl .nil), rfl, [], (RetC.rd' rfl .nil)⟩
end Go.Proofs.Ytmdojlglemnijaa.Rf
