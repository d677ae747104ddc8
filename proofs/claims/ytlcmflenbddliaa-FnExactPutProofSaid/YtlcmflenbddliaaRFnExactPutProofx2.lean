/- The functions that FnExactPutProof calls, each held to what it answers. Printed by a program of this session; Lean checks it. -/
import Derived.Test.YtlcmflenbddliaaProg
import Derived.Test.YtlcmflenbddliaaRf27
import Derived.Test.YtlcmflenbddliaaRFnExactPutProofx1
namespace Go.Proofs.Ytlcmflenbddliaa.Rf
open Go.RowKit
set_option linter.unusedVariables false
set_option linter.unnecessarySimpa false
set_option linter.unusedSimpArgs false
set_option maxRecDepth 100000
set_option maxHeartbeats 4000000
theorem ok_impl_QcOk (l : SLimits) (q : SQc) (h0_ : q.ok) (h1_ : q.sm) : RO Try.prog 127 [.agg l.cells, .agg q.cells] [(false, [.rd (.bool (qcOk l q))])] := by
 refine RO.intro Try.func127 rfl 44 rfl (le_ok rfl) fun w Z => ?_
 obtain ⟨o0, o1, o2, o3, o4⟩ := h0_
 obtain ⟨s0, s1, s2⟩ := h1_
 refine T.seq ?_
 refine T.region ?_
 refine TL.cons rfl (Step.box (p := (.agg [.d (.int .i64 l.f0), .d (.int .i64 l.f1), .d (.int .i64 l.f2), .d (.int .i64 l.f3), .d (.int .i64 l.f4)])) (ps := [.d (.int .i64 l.f0), .d (.int .i64 l.f1), .d (.int .i64 l.f2), .d (.int .i64 l.f3), .d (.int .i64 l.f4)]) rfl rfl (lt_ok rfl) rfl rfl rfl rfl rfl) ?_
 refine TL.cons rfl (Step.box (p := (.agg [.d (.int .i64 q.f0), .d (.int .i64 q.f1), .d (.ints .u8 q.f2), .d (.ints .u8 q.f3), .d (.bss q.f4)])) (ps := [.d (.int .i64 q.f0), .d (.int .i64 q.f1), .d (.ints .u8 q.f2), .d (.ints .u8 q.f3), .d (.bss q.f4)]) rfl rfl (lt_ok rfl) rfl rfl rfl rfl rfl) ?_
 refine TL.cons rfl (Step.assign (p := (.one (.d (.bool false)))) rfl rfl (lt_ok rfl) rfl) ?_
 refine TL.nil ?_
 refine T.seq ?_
 rcases Bool.eq_false_or_eq_true (limOk l) with hb1 | hb1
 ·
  rcases Bool.eq_false_or_eq_true (decide (0 ≤ q.f0 ∧ q.f0 ≤ 1152921504606846975)) with hb2 | hb2
  ·
   rcases Bool.eq_false_or_eq_true (decide (0 ≤ q.f1 ∧ q.f1 ≤ 1152921504606846975)) with hb3 | hb3
   ·
    rcases Bool.eq_false_or_eq_true (hashes [q.f2]) with hb4 | hb4
    ·
     rcases Bool.eq_false_or_eq_true (bitsOk q.f3 l.f0) with hb5 | hb5
     ·
      have nn6 := bitList_len q.f3
      rcases Bool.eq_false_or_eq_true (decide ((q.f4.length : Int) = ((bitList q.f3).length : Int))) with hb7 | hb7
      ·
       have nn8 := bitList_len q.f3
       refine T.draw [⟨5, (.agg [.d (.int .i64 l.f0), .d (.int .i64 l.f1), .d (.int .i64 l.f2), .d (.int .i64 l.f3), .d (.int .i64 l.f4)]), []⟩, ⟨6, (.one (.d (.bool true))), []⟩, ⟨7, (.one (.d (.bool true))), []⟩, ⟨8, (.one (.ptr 3 0)), []⟩, ⟨9, (.one (.d (.int .i64 q.f0))), []⟩, ⟨10, (.one (.d (.bool true))), []⟩, ⟨11, (.one (.d (.bool true))), []⟩, ⟨12, (.one (.d (.bool true))), []⟩, ⟨13, (.one (.ptr 3 1)), []⟩, ⟨14, (.one (.d (.int .i64 q.f1))), []⟩, ⟨15, (.one (.d (.bool true))), []⟩, ⟨16, (.one (.d (.bool true))), []⟩, ⟨17, (.one (.d (.bool true))), []⟩, ⟨18, (.one (.ptr 3 2)), []⟩, ⟨19, (.one (.d (.ints .u8 q.f2))), []⟩, ⟨20, (.one (.d (.bss [q.f2]))), []⟩, ⟨21, (.one (.d (.bool true))), []⟩, ⟨22, (.one (.d (.bool true))), []⟩, ⟨23, (.one (.d (.bool true))), []⟩, ⟨24, (.one (.ptr 3 3)), []⟩, ⟨25, (.one (.d (.ints .u8 q.f3))), []⟩, ⟨26, (.one (.ptr 2 0)), []⟩, ⟨27, (.one (.d (.int .i64 l.f0))), []⟩, ⟨28, (.one (.d (.bool true))), []⟩, ⟨29, (.one (.d (.bool true))), []⟩, ⟨30, (.one (.d (.bool true))), []⟩, ⟨31, (.one (.ptr 3 4)), []⟩, ⟨32, (.one (.d (.bss q.f4))), []⟩, ⟨33, (.one (.d (.int .i64 (q.f4.length : Int)))), []⟩, ⟨34, (.one (.ptr 3 3)), []⟩, ⟨35, (.one (.d (.ints .u8 q.f3))), []⟩, ⟨36, (.one (.d (.int .i64 ((bitList q.f3).length : Int)))), []⟩, ⟨37, (.one (.d (.bool true))), []⟩, ⟨38, (.one (.d (.bool true))), []⟩, ⟨39, (.one (.d (.bool true))), []⟩, ⟨40, (.one (.ptr 3 4)), []⟩, ⟨41, (.one (.d (.bss q.f4))), []⟩, ⟨42, (.one (.d (.bool (hashes q.f4)))), []⟩, ⟨43, (.one (.d (.bool (hashes q.f4)))), []⟩, ⟨4, (.one (.d (.bool (hashes q.f4)))), []⟩] (by kernel_rfl) (by kernel_rfl) ?_ ?_
       ·
        refine .cons (fun E hA_ => by have g2 := hA_.get 2 (by decide); exact OpStep.plain rfl (Step.load_box_agg (n := 5) (qs := [.d (.int .i64 l.f0), .d (.int .i64 l.f1), .d (.int .i64 l.f2), .d (.int .i64 l.f3), .d (.int .i64 l.f4)]) (t := 5) rfl rfl (by exact lt_ok rfl) (by kernel_rfl) (show Env.ev E (.tmp 2) = _ from g2.trans rfl) (by exact hA_.box rfl) rfl rfl)) ?_
        refine .cons (fun E hA_ => by have g5 := hA_.get 5 (by decide); exact OpStep.plain rfl (Step.to (E1 := E.set 6 (.one (.d (.bool (limOk l))))) (congrArg (fun b_ => E.set 6 (.one (.d (.bool b_)))) hb1) (Step.call (f := 135) (xs := [.tmp 5]) (ps := [(.agg [.d (.int .i64 l.f0), .d (.int .i64 l.f1), .d (.int .i64 l.f2), .d (.int .i64 l.f3), .d (.int .i64 l.f4)])]) false (g := .func 135) (t := 6) rfl rfl (by exact lt_ok rfl) rfl (by kernel_rfl) (evs_cons (show Env.ev E (.tmp 5) = _ from g5.trans rfl) (rfl)) (.cons (.agg (.cons (.d _) (.cons (.d _) (.cons (.d _) (.cons (.d _) (.cons (.d _) .nil)))))) .nil) (ok_impl_LimitsOk l) (.inr rfl) (At.freshRows hA_ rfl) (by simp) rfl))) ?_
        refine .cons (fun E hA_ => by have g6 := hA_.get 6 (by decide); exact OpStep.plain rfl (Step.move (p := (.one (.d (.bool true)))) (t := 7) rfl rfl (by exact lt_ok rfl) (show Env.ev E (.tmp 6) = _ from g6.trans rfl))) ?_
        refine .cons (fun E hA_ => by have g3 := hA_.get 3 (by decide); have g7 := hA_.get 7 (by decide); exact OpStep.yes (t := 7) rfl rfl (lt_ok rfl) (g7.trans rfl) (Step.fieldAddr (q := 0) (off := 0) (n := 1) (one := true) (t := 8) rfl rfl (by exact lt_ok rfl) (by kernel_rfl) (Nat.succ_ne_zero _) (show Env.ev E (.tmp 3) = _ from g3.trans rfl))) ?_
        refine .cons (fun E hA_ => by have g7 := hA_.get 7 (by decide); have g8 := hA_.get 8 (by decide); exact OpStep.yes (t := 7) rfl rfl (lt_ok rfl) (g7.trans rfl) (Step.load_box (c := .d (.int .i64 q.f0)) (t := 9) rfl rfl (by exact lt_ok rfl) (by kernel_rfl) (show Env.ev E (.tmp 8) = _ from g8.trans rfl) (by exact hA_.box rfl) rfl)) ?_
        refine .cons (fun E hA_ => by have g7 := hA_.get 7 (by decide); have g9 := hA_.get 9 (by decide); exact OpStep.yes (t := 7) rfl rfl (lt_ok rfl) (g7.trans rfl) (Step.to (E1 := E.set 10 (.one (.d (.bool (decide (0 ≤ q.f0 ∧ q.f0 ≤ 1152921504606846975)))))) (congrArg (fun b_ => E.set 10 (.one (.d (.bool b_)))) hb2) (Step.call (f := 155) (xs := [.tmp 9]) (ps := [(.one (.d (.int .i64 q.f0)))]) false (g := .func 155) (t := 10) rfl rfl (by exact lt_ok rfl) rfl (by kernel_rfl) (evs_cons (show Env.ev E (.tmp 9) = _ from g9.trans rfl) (rfl)) (.cons (.one (.d _)) .nil) (ok_impl_isNum q.f0) (.inr rfl) (At.freshRows hA_ rfl) (by simp) rfl))) ?_
        refine .cons (fun E hA_ => by have g7 := hA_.get 7 (by decide); have g10 := hA_.get 10 (by decide); exact OpStep.plain rfl (Step.pick (b := true) (p := (.one (.d (.bool true)))) (t := 11) rfl rfl (by exact lt_ok rfl) (show Env.ev E (.tmp 7) = _ from g7.trans rfl) (show Env.ev E (.tmp 10) = _ from g10.trans rfl))) ?_
        refine .cons (fun E hA_ => by have g11 := hA_.get 11 (by decide); exact OpStep.plain rfl (Step.move (p := (.one (.d (.bool true)))) (t := 12) rfl rfl (by exact lt_ok rfl) (show Env.ev E (.tmp 11) = _ from g11.trans rfl))) ?_
        refine .cons (fun E hA_ => by have g3 := hA_.get 3 (by decide); have g12 := hA_.get 12 (by decide); exact OpStep.yes (t := 12) rfl rfl (lt_ok rfl) (g12.trans rfl) (Step.fieldAddr (q := 0) (off := 1) (n := 1) (one := true) (t := 13) rfl rfl (by exact lt_ok rfl) (by kernel_rfl) (Nat.succ_ne_zero _) (show Env.ev E (.tmp 3) = _ from g3.trans rfl))) ?_
        refine .cons (fun E hA_ => by have g12 := hA_.get 12 (by decide); have g13 := hA_.get 13 (by decide); exact OpStep.yes (t := 12) rfl rfl (lt_ok rfl) (g12.trans rfl) (Step.load_box (c := .d (.int .i64 q.f1)) (t := 14) rfl rfl (by exact lt_ok rfl) (by kernel_rfl) (show Env.ev E (.tmp 13) = _ from g13.trans rfl) (by exact hA_.box rfl) rfl)) ?_
        refine .cons (fun E hA_ => by have g12 := hA_.get 12 (by decide); have g14 := hA_.get 14 (by decide); exact OpStep.yes (t := 12) rfl rfl (lt_ok rfl) (g12.trans rfl) (Step.to (E1 := E.set 15 (.one (.d (.bool (decide (0 ≤ q.f1 ∧ q.f1 ≤ 1152921504606846975)))))) (congrArg (fun b_ => E.set 15 (.one (.d (.bool b_)))) hb3) (Step.call (f := 155) (xs := [.tmp 14]) (ps := [(.one (.d (.int .i64 q.f1)))]) false (g := .func 155) (t := 15) rfl rfl (by exact lt_ok rfl) rfl (by kernel_rfl) (evs_cons (show Env.ev E (.tmp 14) = _ from g14.trans rfl) (rfl)) (.cons (.one (.d _)) .nil) (ok_impl_isNum q.f1) (.inr rfl) (At.freshRows hA_ rfl) (by simp) rfl))) ?_
        refine .cons (fun E hA_ => by have g12 := hA_.get 12 (by decide); have g15 := hA_.get 15 (by decide); exact OpStep.plain rfl (Step.pick (b := true) (p := (.one (.d (.bool true)))) (t := 16) rfl rfl (by exact lt_ok rfl) (show Env.ev E (.tmp 12) = _ from g12.trans rfl) (show Env.ev E (.tmp 15) = _ from g15.trans rfl))) ?_
        refine .cons (fun E hA_ => by have g16 := hA_.get 16 (by decide); exact OpStep.plain rfl (Step.move (p := (.one (.d (.bool true)))) (t := 17) rfl rfl (by exact lt_ok rfl) (show Env.ev E (.tmp 16) = _ from g16.trans rfl))) ?_
        refine .cons (fun E hA_ => by have g3 := hA_.get 3 (by decide); have g17 := hA_.get 17 (by decide); exact OpStep.yes (t := 17) rfl rfl (lt_ok rfl) (g17.trans rfl) (Step.fieldAddr (q := 0) (off := 2) (n := 1) (one := true) (t := 18) rfl rfl (by exact lt_ok rfl) (by kernel_rfl) (Nat.succ_ne_zero _) (show Env.ev E (.tmp 3) = _ from g3.trans rfl))) ?_
        refine .cons (fun E hA_ => by have g17 := hA_.get 17 (by decide); have g18 := hA_.get 18 (by decide); exact OpStep.yes (t := 17) rfl rfl (lt_ok rfl) (g17.trans rfl) (Step.load_box (c := .d (.ints .u8 q.f2)) (t := 19) rfl rfl (by exact lt_ok rfl) (by kernel_rfl) (show Env.ev E (.tmp 18) = _ from g18.trans rfl) (by exact hA_.box rfl) rfl)) ?_
        refine .cons (fun E hA_ => by have g17 := hA_.get 17 (by decide); have g19 := hA_.get 19 (by decide); exact OpStep.yes (t := 17) rfl rfl (lt_ok rfl) (g17.trans rfl) (Step.lit_d (e := 24) (z := 1) (by_ := 24) (xs := [.tmp 19]) (pss := [[.d (.ints .u8 q.f2)]]) (ds := [(.ints .u8 q.f2)]) (d := (.bss [q.f2])) (t := 20) rfl rfl (by exact lt_ok rfl) (by kernel_rfl) rfl rfl (.cons (by exact (congrArg PV.flat (show Env.ev E (.tmp 19) = _ from g19.trans rfl)).trans rfl) .nil) (by simp) (le_ok rfl) (le_ok rfl) rfl rfl trivial rfl rfl)) ?_
        refine .cons (fun E hA_ => by have g17 := hA_.get 17 (by decide); have g20 := hA_.get 20 (by decide); exact OpStep.yes (t := 17) rfl rfl (lt_ok rfl) (g17.trans rfl) (Step.to (E1 := E.set 21 (.one (.d (.bool (hashes [q.f2]))))) (congrArg (fun b_ => E.set 21 (.one (.d (.bool b_)))) hb4) (Step.call (f := 156) (xs := [.tmp 20]) (ps := [(.one (.d (.bss [q.f2])))]) false (g := .func 156) (t := 21) rfl rfl (by exact lt_ok rfl) rfl (by kernel_rfl) (evs_cons (show Env.ev E (.tmp 20) = _ from g20.trans rfl) (rfl)) (.cons (.one (.d _)) .nil) (ok_impl_areHashes [q.f2]) (.inr rfl) (At.freshRows hA_ rfl) (by simp) rfl))) ?_
        refine .cons (fun E hA_ => by have g17 := hA_.get 17 (by decide); have g21 := hA_.get 21 (by decide); exact OpStep.plain rfl (Step.pick (b := true) (p := (.one (.d (.bool true)))) (t := 22) rfl rfl (by exact lt_ok rfl) (show Env.ev E (.tmp 17) = _ from g17.trans rfl) (show Env.ev E (.tmp 21) = _ from g21.trans rfl))) ?_
        refine .cons (fun E hA_ => by have g22 := hA_.get 22 (by decide); exact OpStep.plain rfl (Step.move (p := (.one (.d (.bool true)))) (t := 23) rfl rfl (by exact lt_ok rfl) (show Env.ev E (.tmp 22) = _ from g22.trans rfl))) ?_
        refine .cons (fun E hA_ => by have g3 := hA_.get 3 (by decide); have g23 := hA_.get 23 (by decide); exact OpStep.yes (t := 23) rfl rfl (lt_ok rfl) (g23.trans rfl) (Step.fieldAddr (q := 0) (off := 3) (n := 1) (one := true) (t := 24) rfl rfl (by exact lt_ok rfl) (by kernel_rfl) (Nat.succ_ne_zero _) (show Env.ev E (.tmp 3) = _ from g3.trans rfl))) ?_
        refine .cons (fun E hA_ => by have g23 := hA_.get 23 (by decide); have g24 := hA_.get 24 (by decide); exact OpStep.yes (t := 23) rfl rfl (lt_ok rfl) (g23.trans rfl) (Step.load_box (c := .d (.ints .u8 q.f3)) (t := 25) rfl rfl (by exact lt_ok rfl) (by kernel_rfl) (show Env.ev E (.tmp 24) = _ from g24.trans rfl) (by exact hA_.box rfl) rfl)) ?_
        refine .cons (fun E hA_ => by have g2 := hA_.get 2 (by decide); have g23 := hA_.get 23 (by decide); exact OpStep.yes (t := 23) rfl rfl (lt_ok rfl) (g23.trans rfl) (Step.fieldAddr (q := 0) (off := 0) (n := 1) (one := true) (t := 26) rfl rfl (by exact lt_ok rfl) (by kernel_rfl) (Nat.succ_ne_zero _) (show Env.ev E (.tmp 2) = _ from g2.trans rfl))) ?_
        refine .cons (fun E hA_ => by have g23 := hA_.get 23 (by decide); have g26 := hA_.get 26 (by decide); exact OpStep.yes (t := 23) rfl rfl (lt_ok rfl) (g23.trans rfl) (Step.load_box (c := .d (.int .i64 l.f0)) (t := 27) rfl rfl (by exact lt_ok rfl) (by kernel_rfl) (show Env.ev E (.tmp 26) = _ from g26.trans rfl) (by exact hA_.box rfl) rfl)) ?_
        refine .cons (fun E hA_ => by have g23 := hA_.get 23 (by decide); have g25 := hA_.get 25 (by decide); have g27 := hA_.get 27 (by decide); exact OpStep.yes (t := 23) rfl rfl (lt_ok rfl) (g23.trans rfl) (Step.to (E1 := E.set 28 (.one (.d (.bool (bitsOk q.f3 l.f0))))) (congrArg (fun b_ => E.set 28 (.one (.d (.bool b_)))) hb5) (Step.call (f := 174) (xs := [.tmp 25, .tmp 27]) (ps := [(.one (.d (.ints .u8 q.f3))), (.one (.d (.int .i64 l.f0)))]) false (g := .func 174) (t := 28) rfl rfl (by exact lt_ok rfl) rfl (by kernel_rfl) (evs_cons (show Env.ev E (.tmp 25) = _ from g25.trans rfl) (evs_cons (show Env.ev E (.tmp 27) = _ from g27.trans rfl) (rfl))) (.cons (.one (.d _)) (.cons (.one (.d _)) .nil)) (ok_impl_BitsOk q.f3 l.f0 (by assumption) (by first | omega | assumption | (simp only [List.length_append] at *; omega))) (.inr rfl) (At.freshRows hA_ rfl) (by simp) rfl))) ?_
        refine .cons (fun E hA_ => by have g23 := hA_.get 23 (by decide); have g28 := hA_.get 28 (by decide); exact OpStep.plain rfl (Step.pick (b := true) (p := (.one (.d (.bool true)))) (t := 29) rfl rfl (by exact lt_ok rfl) (show Env.ev E (.tmp 23) = _ from g23.trans rfl) (show Env.ev E (.tmp 28) = _ from g28.trans rfl))) ?_
        refine .cons (fun E hA_ => by have g29 := hA_.get 29 (by decide); exact OpStep.plain rfl (Step.move (p := (.one (.d (.bool true)))) (t := 30) rfl rfl (by exact lt_ok rfl) (show Env.ev E (.tmp 29) = _ from g29.trans rfl))) ?_
        refine .cons (fun E hA_ => by have g3 := hA_.get 3 (by decide); have g30 := hA_.get 30 (by decide); exact OpStep.yes (t := 30) rfl rfl (lt_ok rfl) (g30.trans rfl) (Step.fieldAddr (q := 0) (off := 4) (n := 1) (one := true) (t := 31) rfl rfl (by exact lt_ok rfl) (by kernel_rfl) (Nat.succ_ne_zero _) (show Env.ev E (.tmp 3) = _ from g3.trans rfl))) ?_
        refine .cons (fun E hA_ => by have g30 := hA_.get 30 (by decide); have g31 := hA_.get 31 (by decide); exact OpStep.yes (t := 30) rfl rfl (lt_ok rfl) (g30.trans rfl) (Step.load_box (c := .d (.bss q.f4)) (t := 32) rfl rfl (by exact lt_ok rfl) (by kernel_rfl) (show Env.ev E (.tmp 31) = _ from g31.trans rfl) (by exact hA_.box rfl) rfl)) ?_
        refine .cons (fun E hA_ => by have g30 := hA_.get 30 (by decide); have g32 := hA_.get 32 (by decide); exact OpStep.yes (t := 30) rfl rfl (lt_ok rfl) (g30.trans rfl) (Step.len (e := 24) (z := 1) (d := (.bss q.f4)) (t := 33) rfl rfl (by exact lt_ok rfl) (by kernel_rfl) (show Env.ev E (.tmp 32) = _ from g32.trans rfl) rfl)) ?_
        refine .cons (fun E hA_ => by have g3 := hA_.get 3 (by decide); have g30 := hA_.get 30 (by decide); exact OpStep.yes (t := 30) rfl rfl (lt_ok rfl) (g30.trans rfl) (Step.fieldAddr (q := 0) (off := 3) (n := 1) (one := true) (t := 34) rfl rfl (by exact lt_ok rfl) (by kernel_rfl) (Nat.succ_ne_zero _) (show Env.ev E (.tmp 3) = _ from g3.trans rfl))) ?_
        refine .cons (fun E hA_ => by have g30 := hA_.get 30 (by decide); have g34 := hA_.get 34 (by decide); exact OpStep.yes (t := 30) rfl rfl (lt_ok rfl) (g30.trans rfl) (Step.load_box (c := .d (.ints .u8 q.f3)) (t := 35) rfl rfl (by exact lt_ok rfl) (by kernel_rfl) (show Env.ev E (.tmp 34) = _ from g34.trans rfl) (by exact hA_.box rfl) rfl)) ?_
        refine .cons (fun E hA_ => by have g30 := hA_.get 30 (by decide); have g35 := hA_.get 35 (by decide); exact OpStep.yes (t := 30) rfl rfl (lt_ok rfl) (g30.trans rfl) (Step.call (f := 139) (xs := [.tmp 35]) (ps := [(.one (.d (.ints .u8 q.f3)))]) false (g := .func 139) (t := 36) rfl rfl (by exact lt_ok rfl) rfl (by kernel_rfl) (evs_cons (show Env.ev E (.tmp 35) = _ from g35.trans rfl) (rfl)) (.cons (.one (.d _)) .nil) (ok_impl_BitsCount q.f3 (by assumption) (by first | omega | assumption | (simp only [List.length_append] at *; omega))) (.inr rfl) (At.freshRows hA_ rfl) (by simp) rfl)) ?_
        refine .cons (fun E hA_ => by have g30 := hA_.get 30 (by decide); have g33 := hA_.get 33 (by decide); have g36 := hA_.get 36 (by decide); exact OpStep.yes (t := 30) rfl rfl (lt_ok rfl) (g30.trans rfl) (Step.to (E1 := E.set 37 (.one (.d (.bool (decide ((q.f4.length : Int) = ((bitList q.f3).length : Int))))))) (congrArg (fun b_ => E.set 37 (.one (.d (.bool b_)))) hb7) (Step.bin (t := 37) rfl rfl (by exact lt_ok rfl) (show Env.ev E (.tmp 33) = _ from g33.trans rfl) (show Env.ev E (.tmp 36) = _ from g36.trans rfl) (Bin.eql (k := .i64) (a := (q.f4.length : Int)) (b := ((bitList q.f3).length : Int)))))) ?_
        refine .cons (fun E hA_ => by have g30 := hA_.get 30 (by decide); have g37 := hA_.get 37 (by decide); exact OpStep.plain rfl (Step.pick (b := true) (p := (.one (.d (.bool true)))) (t := 38) rfl rfl (by exact lt_ok rfl) (show Env.ev E (.tmp 30) = _ from g30.trans rfl) (show Env.ev E (.tmp 37) = _ from g37.trans rfl))) ?_
        refine .cons (fun E hA_ => by have g38 := hA_.get 38 (by decide); exact OpStep.plain rfl (Step.move (p := (.one (.d (.bool true)))) (t := 39) rfl rfl (by exact lt_ok rfl) (show Env.ev E (.tmp 38) = _ from g38.trans rfl))) ?_
        refine .cons (fun E hA_ => by have g3 := hA_.get 3 (by decide); have g39 := hA_.get 39 (by decide); exact OpStep.yes (t := 39) rfl rfl (lt_ok rfl) (g39.trans rfl) (Step.fieldAddr (q := 0) (off := 4) (n := 1) (one := true) (t := 40) rfl rfl (by exact lt_ok rfl) (by kernel_rfl) (Nat.succ_ne_zero _) (show Env.ev E (.tmp 3) = _ from g3.trans rfl))) ?_
        refine .cons (fun E hA_ => by have g39 := hA_.get 39 (by decide); have g40 := hA_.get 40 (by decide); exact OpStep.yes (t := 39) rfl rfl (lt_ok rfl) (g39.trans rfl) (Step.load_box (c := .d (.bss q.f4)) (t := 41) rfl rfl (by exact lt_ok rfl) (by kernel_rfl) (show Env.ev E (.tmp 40) = _ from g40.trans rfl) (by exact hA_.box rfl) rfl)) ?_
        refine .cons (fun E hA_ => by have g39 := hA_.get 39 (by decide); have g41 := hA_.get 41 (by decide); exact OpStep.yes (t := 39) rfl rfl (lt_ok rfl) (g39.trans rfl) (Step.call (f := 156) (xs := [.tmp 41]) (ps := [(.one (.d (.bss q.f4)))]) false (g := .func 156) (t := 42) rfl rfl (by exact lt_ok rfl) rfl (by kernel_rfl) (evs_cons (show Env.ev E (.tmp 41) = _ from g41.trans rfl) (rfl)) (.cons (.one (.d _)) .nil) (ok_impl_areHashes q.f4) (.inr rfl) (At.freshRows hA_ rfl) (by simp) rfl)) ?_
        refine .cons (fun E hA_ => by have g39 := hA_.get 39 (by decide); have g42 := hA_.get 42 (by decide); exact OpStep.plain rfl (Step.pick (b := true) (p := (.one (.d (.bool (hashes q.f4))))) (t := 43) rfl rfl (by exact lt_ok rfl) (show Env.ev E (.tmp 39) = _ from g39.trans rfl) (show Env.ev E (.tmp 42) = _ from g42.trans rfl))) ?_
        refine .cons (fun E hA_ => by have g43 := hA_.get 43 (by decide); exact OpStep.plain rfl (Step.assign (p := (.one (.d (.bool (hashes q.f4))))) (t := 4) rfl rfl (by exact lt_ok rfl) (show Env.ev E (.tmp 43) = _ from g43.trans rfl))) ?_
        exact .nil _ _
       refine TL.nil ?_
       refine T.ret ?_
       exact ⟨[(false, [.d (.bool (hashes q.f4))])], (.cons rfl .nil), rfl, [], (RetC.rd' (by first | rfl | (congr 1; symm; simp only [qcOk, hashes, List.all_cons, List.all_nil, *, Bool.and_true, Bool.true_and, Bool.and_false, Bool.false_and, decide_true, decide_false, and_true, true_and, and_self, and_false, false_and, Bool.and_self, not_true, not_false, Bool.not_true, Bool.not_false, ge_iff_le, gt_iff_lt, if_true, if_false, Bool.false_eq_true, ite_true, ite_false, reduceIte]; done) | (congr 1; symm; simp_all [qcOk, hashes, List.all_cons, List.all_nil]; done) | (congr 1; symm; simp_all [qcOk, hashes, List.all_cons, List.all_nil]; omega)) .nil)⟩
      ·
       have nn9 := bitList_len q.f3
       refine T.draw [⟨5, (.agg [.d (.int .i64 l.f0), .d (.int .i64 l.f1), .d (.int .i64 l.f2), .d (.int .i64 l.f3), .d (.int .i64 l.f4)]), []⟩, ⟨6, (.one (.d (.bool true))), []⟩, ⟨7, (.one (.d (.bool true))), []⟩, ⟨8, (.one (.ptr 3 0)), []⟩, ⟨9, (.one (.d (.int .i64 q.f0))), []⟩, ⟨10, (.one (.d (.bool true))), []⟩, ⟨11, (.one (.d (.bool true))), []⟩, ⟨12, (.one (.d (.bool true))), []⟩, ⟨13, (.one (.ptr 3 1)), []⟩, ⟨14, (.one (.d (.int .i64 q.f1))), []⟩, ⟨15, (.one (.d (.bool true))), []⟩, ⟨16, (.one (.d (.bool true))), []⟩, ⟨17, (.one (.d (.bool true))), []⟩, ⟨18, (.one (.ptr 3 2)), []⟩, ⟨19, (.one (.d (.ints .u8 q.f2))), []⟩, ⟨20, (.one (.d (.bss [q.f2]))), []⟩, ⟨21, (.one (.d (.bool true))), []⟩, ⟨22, (.one (.d (.bool true))), []⟩, ⟨23, (.one (.d (.bool true))), []⟩, ⟨24, (.one (.ptr 3 3)), []⟩, ⟨25, (.one (.d (.ints .u8 q.f3))), []⟩, ⟨26, (.one (.ptr 2 0)), []⟩, ⟨27, (.one (.d (.int .i64 l.f0))), []⟩, ⟨28, (.one (.d (.bool true))), []⟩, ⟨29, (.one (.d (.bool true))), []⟩, ⟨30, (.one (.d (.bool true))), []⟩, ⟨31, (.one (.ptr 3 4)), []⟩, ⟨32, (.one (.d (.bss q.f4))), []⟩, ⟨33, (.one (.d (.int .i64 (q.f4.length : Int)))), []⟩, ⟨34, (.one (.ptr 3 3)), []⟩, ⟨35, (.one (.d (.ints .u8 q.f3))), []⟩, ⟨36, (.one (.d (.int .i64 ((bitList q.f3).length : Int)))), []⟩, ⟨37, (.one (.d (.bool false))), []⟩, ⟨38, (.one (.d (.bool false))), []⟩, ⟨39, (.one (.d (.bool false))), []⟩, ⟨40, (.tup []), []⟩, ⟨41, (.tup []), []⟩, ⟨42, (.tup []), []⟩, ⟨43, (.one (.d (.bool false))), []⟩, ⟨4, (.one (.d (.bool false))), []⟩] (by kernel_rfl) (by kernel_rfl) ?_ ?_
       ·
        refine .cons (fun E hA_ => by have g2 := hA_.get 2 (by decide); exact OpStep.plain rfl (Step.load_box_agg (n := 5) (qs := [.d (.int .i64 l.f0), .d (.int .i64 l.f1), .d (.int .i64 l.f2), .d (.int .i64 l.f3), .d (.int .i64 l.f4)]) (t := 5) rfl rfl (by exact lt_ok rfl) (by kernel_rfl) (show Env.ev E (.tmp 2) = _ from g2.trans rfl) (by exact hA_.box rfl) rfl rfl)) ?_
        refine .cons (fun E hA_ => by have g5 := hA_.get 5 (by decide); exact OpStep.plain rfl (Step.to (E1 := E.set 6 (.one (.d (.bool (limOk l))))) (congrArg (fun b_ => E.set 6 (.one (.d (.bool b_)))) hb1) (Step.call (f := 135) (xs := [.tmp 5]) (ps := [(.agg [.d (.int .i64 l.f0), .d (.int .i64 l.f1), .d (.int .i64 l.f2), .d (.int .i64 l.f3), .d (.int .i64 l.f4)])]) false (g := .func 135) (t := 6) rfl rfl (by exact lt_ok rfl) rfl (by kernel_rfl) (evs_cons (show Env.ev E (.tmp 5) = _ from g5.trans rfl) (rfl)) (.cons (.agg (.cons (.d _) (.cons (.d _) (.cons (.d _) (.cons (.d _) (.cons (.d _) .nil)))))) .nil) (ok_impl_LimitsOk l) (.inr rfl) (At.freshRows hA_ rfl) (by simp) rfl))) ?_
        refine .cons (fun E hA_ => by have g6 := hA_.get 6 (by decide); exact OpStep.plain rfl (Step.move (p := (.one (.d (.bool true)))) (t := 7) rfl rfl (by exact lt_ok rfl) (show Env.ev E (.tmp 6) = _ from g6.trans rfl))) ?_
        refine .cons (fun E hA_ => by have g3 := hA_.get 3 (by decide); have g7 := hA_.get 7 (by decide); exact OpStep.yes (t := 7) rfl rfl (lt_ok rfl) (g7.trans rfl) (Step.fieldAddr (q := 0) (off := 0) (n := 1) (one := true) (t := 8) rfl rfl (by exact lt_ok rfl) (by kernel_rfl) (Nat.succ_ne_zero _) (show Env.ev E (.tmp 3) = _ from g3.trans rfl))) ?_
        refine .cons (fun E hA_ => by have g7 := hA_.get 7 (by decide); have g8 := hA_.get 8 (by decide); exact OpStep.yes (t := 7) rfl rfl (lt_ok rfl) (g7.trans rfl) (Step.load_box (c := .d (.int .i64 q.f0)) (t := 9) rfl rfl (by exact lt_ok rfl) (by kernel_rfl) (show Env.ev E (.tmp 8) = _ from g8.trans rfl) (by exact hA_.box rfl) rfl)) ?_
        refine .cons (fun E hA_ => by have g7 := hA_.get 7 (by decide); have g9 := hA_.get 9 (by decide); exact OpStep.yes (t := 7) rfl rfl (lt_ok rfl) (g7.trans rfl) (Step.to (E1 := E.set 10 (.one (.d (.bool (decide (0 ≤ q.f0 ∧ q.f0 ≤ 1152921504606846975)))))) (congrArg (fun b_ => E.set 10 (.one (.d (.bool b_)))) hb2) (Step.call (f := 155) (xs := [.tmp 9]) (ps := [(.one (.d (.int .i64 q.f0)))]) false (g := .func 155) (t := 10) rfl rfl (by exact lt_ok rfl) rfl (by kernel_rfl) (evs_cons (show Env.ev E (.tmp 9) = _ from g9.trans rfl) (rfl)) (.cons (.one (.d _)) .nil) (ok_impl_isNum q.f0) (.inr rfl) (At.freshRows hA_ rfl) (by simp) rfl))) ?_
        refine .cons (fun E hA_ => by have g7 := hA_.get 7 (by decide); have g10 := hA_.get 10 (by decide); exact OpStep.plain rfl (Step.pick (b := true) (p := (.one (.d (.bool true)))) (t := 11) rfl rfl (by exact lt_ok rfl) (show Env.ev E (.tmp 7) = _ from g7.trans rfl) (show Env.ev E (.tmp 10) = _ from g10.trans rfl))) ?_
        refine .cons (fun E hA_ => by have g11 := hA_.get 11 (by decide); exact OpStep.plain rfl (Step.move (p := (.one (.d (.bool true)))) (t := 12) rfl rfl (by exact lt_ok rfl) (show Env.ev E (.tmp 11) = _ from g11.trans rfl))) ?_
        refine .cons (fun E hA_ => by have g3 := hA_.get 3 (by decide); have g12 := hA_.get 12 (by decide); exact OpStep.yes (t := 12) rfl rfl (lt_ok rfl) (g12.trans rfl) (Step.fieldAddr (q := 0) (off := 1) (n := 1) (one := true) (t := 13) rfl rfl (by exact lt_ok rfl) (by kernel_rfl) (Nat.succ_ne_zero _) (show Env.ev E (.tmp 3) = _ from g3.trans rfl))) ?_
        refine .cons (fun E hA_ => by have g12 := hA_.get 12 (by decide); have g13 := hA_.get 13 (by decide); exact OpStep.yes (t := 12) rfl rfl (lt_ok rfl) (g12.trans rfl) (Step.load_box (c := .d (.int .i64 q.f1)) (t := 14) rfl rfl (by exact lt_ok rfl) (by kernel_rfl) (show Env.ev E (.tmp 13) = _ from g13.trans rfl) (by exact hA_.box rfl) rfl)) ?_
        refine .cons (fun E hA_ => by have g12 := hA_.get 12 (by decide); have g14 := hA_.get 14 (by decide); exact OpStep.yes (t := 12) rfl rfl (lt_ok rfl) (g12.trans rfl) (Step.to (E1 := E.set 15 (.one (.d (.bool (decide (0 ≤ q.f1 ∧ q.f1 ≤ 1152921504606846975)))))) (congrArg (fun b_ => E.set 15 (.one (.d (.bool b_)))) hb3) (Step.call (f := 155) (xs := [.tmp 14]) (ps := [(.one (.d (.int .i64 q.f1)))]) false (g := .func 155) (t := 15) rfl rfl (by exact lt_ok rfl) rfl (by kernel_rfl) (evs_cons (show Env.ev E (.tmp 14) = _ from g14.trans rfl) (rfl)) (.cons (.one (.d _)) .nil) (ok_impl_isNum q.f1) (.inr rfl) (At.freshRows hA_ rfl) (by simp) rfl))) ?_
        refine .cons (fun E hA_ => by have g12 := hA_.get 12 (by decide); have g15 := hA_.get 15 (by decide); exact OpStep.plain rfl (Step.pick (b := true) (p := (.one (.d (.bool true)))) (t := 16) rfl rfl (by exact lt_ok rfl) (show Env.ev E (.tmp 12) = _ from g12.trans rfl) (show Env.ev E (.tmp 15) = _ from g15.trans rfl))) ?_
        refine .cons (fun E hA_ => by have g16 := hA_.get 16 (by decide); exact OpStep.plain rfl (Step.move (p := (.one (.d (.bool true)))) (t := 17) rfl rfl (by exact lt_ok rfl) (show Env.ev E (.tmp 16) = _ from g16.trans rfl))) ?_
        refine .cons (fun E hA_ => by have g3 := hA_.get 3 (by decide); have g17 := hA_.get 17 (by decide); exact OpStep.yes (t := 17) rfl rfl (lt_ok rfl) (g17.trans rfl) (Step.fieldAddr (q := 0) (off := 2) (n := 1) (one := true) (t := 18) rfl rfl (by exact lt_ok rfl) (by kernel_rfl) (Nat.succ_ne_zero _) (show Env.ev E (.tmp 3) = _ from g3.trans rfl))) ?_
        refine .cons (fun E hA_ => by have g17 := hA_.get 17 (by decide); have g18 := hA_.get 18 (by decide); exact OpStep.yes (t := 17) rfl rfl (lt_ok rfl) (g17.trans rfl) (Step.load_box (c := .d (.ints .u8 q.f2)) (t := 19) rfl rfl (by exact lt_ok rfl) (by kernel_rfl) (show Env.ev E (.tmp 18) = _ from g18.trans rfl) (by exact hA_.box rfl) rfl)) ?_
        refine .cons (fun E hA_ => by have g17 := hA_.get 17 (by decide); have g19 := hA_.get 19 (by decide); exact OpStep.yes (t := 17) rfl rfl (lt_ok rfl) (g17.trans rfl) (Step.lit_d (e := 24) (z := 1) (by_ := 24) (xs := [.tmp 19]) (pss := [[.d (.ints .u8 q.f2)]]) (ds := [(.ints .u8 q.f2)]) (d := (.bss [q.f2])) (t := 20) rfl rfl (by exact lt_ok rfl) (by kernel_rfl) rfl rfl (.cons (by exact (congrArg PV.flat (show Env.ev E (.tmp 19) = _ from g19.trans rfl)).trans rfl) .nil) (by simp) (le_ok rfl) (le_ok rfl) rfl rfl trivial rfl rfl)) ?_
        refine .cons (fun E hA_ => by have g17 := hA_.get 17 (by decide); have g20 := hA_.get 20 (by decide); exact OpStep.yes (t := 17) rfl rfl (lt_ok rfl) (g17.trans rfl) (Step.to (E1 := E.set 21 (.one (.d (.bool (hashes [q.f2]))))) (congrArg (fun b_ => E.set 21 (.one (.d (.bool b_)))) hb4) (Step.call (f := 156) (xs := [.tmp 20]) (ps := [(.one (.d (.bss [q.f2])))]) false (g := .func 156) (t := 21) rfl rfl (by exact lt_ok rfl) rfl (by kernel_rfl) (evs_cons (show Env.ev E (.tmp 20) = _ from g20.trans rfl) (rfl)) (.cons (.one (.d _)) .nil) (ok_impl_areHashes [q.f2]) (.inr rfl) (At.freshRows hA_ rfl) (by simp) rfl))) ?_
        refine .cons (fun E hA_ => by have g17 := hA_.get 17 (by decide); have g21 := hA_.get 21 (by decide); exact OpStep.plain rfl (Step.pick (b := true) (p := (.one (.d (.bool true)))) (t := 22) rfl rfl (by exact lt_ok rfl) (show Env.ev E (.tmp 17) = _ from g17.trans rfl) (show Env.ev E (.tmp 21) = _ from g21.trans rfl))) ?_
        refine .cons (fun E hA_ => by have g22 := hA_.get 22 (by decide); exact OpStep.plain rfl (Step.move (p := (.one (.d (.bool true)))) (t := 23) rfl rfl (by exact lt_ok rfl) (show Env.ev E (.tmp 22) = _ from g22.trans rfl))) ?_
        refine .cons (fun E hA_ => by have g3 := hA_.get 3 (by decide); have g23 := hA_.get 23 (by decide); exact OpStep.yes (t := 23) rfl rfl (lt_ok rfl) (g23.trans rfl) (Step.fieldAddr (q := 0) (off := 3) (n := 1) (one := true) (t := 24) rfl rfl (by exact lt_ok rfl) (by kernel_rfl) (Nat.succ_ne_zero _) (show Env.ev E (.tmp 3) = _ from g3.trans rfl))) ?_
        refine .cons (fun E hA_ => by have g23 := hA_.get 23 (by decide); have g24 := hA_.get 24 (by decide); exact OpStep.yes (t := 23) rfl rfl (lt_ok rfl) (g23.trans rfl) (Step.load_box (c := .d (.ints .u8 q.f3)) (t := 25) rfl rfl (by exact lt_ok rfl) (by kernel_rfl) (show Env.ev E (.tmp 24) = _ from g24.trans rfl) (by exact hA_.box rfl) rfl)) ?_
        refine .cons (fun E hA_ => by have g2 := hA_.get 2 (by decide); have g23 := hA_.get 23 (by decide); exact OpStep.yes (t := 23) rfl rfl (lt_ok rfl) (g23.trans rfl) (Step.fieldAddr (q := 0) (off := 0) (n := 1) (one := true) (t := 26) rfl rfl (by exact lt_ok rfl) (by kernel_rfl) (Nat.succ_ne_zero _) (show Env.ev E (.tmp 2) = _ from g2.trans rfl))) ?_
        refine .cons (fun E hA_ => by have g23 := hA_.get 23 (by decide); have g26 := hA_.get 26 (by decide); exact OpStep.yes (t := 23) rfl rfl (lt_ok rfl) (g23.trans rfl) (Step.load_box (c := .d (.int .i64 l.f0)) (t := 27) rfl rfl (by exact lt_ok rfl) (by kernel_rfl) (show Env.ev E (.tmp 26) = _ from g26.trans rfl) (by exact hA_.box rfl) rfl)) ?_
        refine .cons (fun E hA_ => by have g23 := hA_.get 23 (by decide); have g25 := hA_.get 25 (by decide); have g27 := hA_.get 27 (by decide); exact OpStep.yes (t := 23) rfl rfl (lt_ok rfl) (g23.trans rfl) (Step.to (E1 := E.set 28 (.one (.d (.bool (bitsOk q.f3 l.f0))))) (congrArg (fun b_ => E.set 28 (.one (.d (.bool b_)))) hb5) (Step.call (f := 174) (xs := [.tmp 25, .tmp 27]) (ps := [(.one (.d (.ints .u8 q.f3))), (.one (.d (.int .i64 l.f0)))]) false (g := .func 174) (t := 28) rfl rfl (by exact lt_ok rfl) rfl (by kernel_rfl) (evs_cons (show Env.ev E (.tmp 25) = _ from g25.trans rfl) (evs_cons (show Env.ev E (.tmp 27) = _ from g27.trans rfl) (rfl))) (.cons (.one (.d _)) (.cons (.one (.d _)) .nil)) (ok_impl_BitsOk q.f3 l.f0 (by assumption) (by first | omega | assumption | (simp only [List.length_append] at *; omega))) (.inr rfl) (At.freshRows hA_ rfl) (by simp) rfl))) ?_
        refine .cons (fun E hA_ => by have g23 := hA_.get 23 (by decide); have g28 := hA_.get 28 (by decide); exact OpStep.plain rfl (Step.pick (b := true) (p := (.one (.d (.bool true)))) (t := 29) rfl rfl (by exact lt_ok rfl) (show Env.ev E (.tmp 23) = _ from g23.trans rfl) (show Env.ev E (.tmp 28) = _ from g28.trans rfl))) ?_
        refine .cons (fun E hA_ => by have g29 := hA_.get 29 (by decide); exact OpStep.plain rfl (Step.move (p := (.one (.d (.bool true)))) (t := 30) rfl rfl (by exact lt_ok rfl) (show Env.ev E (.tmp 29) = _ from g29.trans rfl))) ?_
        refine .cons (fun E hA_ => by have g3 := hA_.get 3 (by decide); have g30 := hA_.get 30 (by decide); exact OpStep.yes (t := 30) rfl rfl (lt_ok rfl) (g30.trans rfl) (Step.fieldAddr (q := 0) (off := 4) (n := 1) (one := true) (t := 31) rfl rfl (by exact lt_ok rfl) (by kernel_rfl) (Nat.succ_ne_zero _) (show Env.ev E (.tmp 3) = _ from g3.trans rfl))) ?_
        refine .cons (fun E hA_ => by have g30 := hA_.get 30 (by decide); have g31 := hA_.get 31 (by decide); exact OpStep.yes (t := 30) rfl rfl (lt_ok rfl) (g30.trans rfl) (Step.load_box (c := .d (.bss q.f4)) (t := 32) rfl rfl (by exact lt_ok rfl) (by kernel_rfl) (show Env.ev E (.tmp 31) = _ from g31.trans rfl) (by exact hA_.box rfl) rfl)) ?_
        refine .cons (fun E hA_ => by have g30 := hA_.get 30 (by decide); have g32 := hA_.get 32 (by decide); exact OpStep.yes (t := 30) rfl rfl (lt_ok rfl) (g30.trans rfl) (Step.len (e := 24) (z := 1) (d := (.bss q.f4)) (t := 33) rfl rfl (by exact lt_ok rfl) (by kernel_rfl) (show Env.ev E (.tmp 32) = _ from g32.trans rfl) rfl)) ?_
        refine .cons (fun E hA_ => by have g3 := hA_.get 3 (by decide); have g30 := hA_.get 30 (by decide); exact OpStep.yes (t := 30) rfl rfl (lt_ok rfl) (g30.trans rfl) (Step.fieldAddr (q := 0) (off := 3) (n := 1) (one := true) (t := 34) rfl rfl (by exact lt_ok rfl) (by kernel_rfl) (Nat.succ_ne_zero _) (show Env.ev E (.tmp 3) = _ from g3.trans rfl))) ?_
        refine .cons (fun E hA_ => by have g30 := hA_.get 30 (by decide); have g34 := hA_.get 34 (by decide); exact OpStep.yes (t := 30) rfl rfl (lt_ok rfl) (g30.trans rfl) (Step.load_box (c := .d (.ints .u8 q.f3)) (t := 35) rfl rfl (by exact lt_ok rfl) (by kernel_rfl) (show Env.ev E (.tmp 34) = _ from g34.trans rfl) (by exact hA_.box rfl) rfl)) ?_
        refine .cons (fun E hA_ => by have g30 := hA_.get 30 (by decide); have g35 := hA_.get 35 (by decide); exact OpStep.yes (t := 30) rfl rfl (lt_ok rfl) (g30.trans rfl) (Step.call (f := 139) (xs := [.tmp 35]) (ps := [(.one (.d (.ints .u8 q.f3)))]) false (g := .func 139) (t := 36) rfl rfl (by exact lt_ok rfl) rfl (by kernel_rfl) (evs_cons (show Env.ev E (.tmp 35) = _ from g35.trans rfl) (rfl)) (.cons (.one (.d _)) .nil) (ok_impl_BitsCount q.f3 (by assumption) (by first | omega | assumption | (simp only [List.length_append] at *; omega))) (.inr rfl) (At.freshRows hA_ rfl) (by simp) rfl)) ?_
        refine .cons (fun E hA_ => by have g30 := hA_.get 30 (by decide); have g33 := hA_.get 33 (by decide); have g36 := hA_.get 36 (by decide); exact OpStep.yes (t := 30) rfl rfl (lt_ok rfl) (g30.trans rfl) (Step.to (E1 := E.set 37 (.one (.d (.bool (decide ((q.f4.length : Int) = ((bitList q.f3).length : Int))))))) (congrArg (fun b_ => E.set 37 (.one (.d (.bool b_)))) hb7) (Step.bin (t := 37) rfl rfl (by exact lt_ok rfl) (show Env.ev E (.tmp 33) = _ from g33.trans rfl) (show Env.ev E (.tmp 36) = _ from g36.trans rfl) (Bin.eql (k := .i64) (a := (q.f4.length : Int)) (b := ((bitList q.f3).length : Int)))))) ?_
        refine .cons (fun E hA_ => by have g30 := hA_.get 30 (by decide); have g37 := hA_.get 37 (by decide); exact OpStep.plain rfl (Step.pick (b := true) (p := (.one (.d (.bool false)))) (t := 38) rfl rfl (by exact lt_ok rfl) (show Env.ev E (.tmp 30) = _ from g30.trans rfl) (show Env.ev E (.tmp 37) = _ from g37.trans rfl))) ?_
        refine .cons (fun E hA_ => by have g38 := hA_.get 38 (by decide); exact OpStep.plain rfl (Step.move (p := (.one (.d (.bool false)))) (t := 39) rfl rfl (by exact lt_ok rfl) (show Env.ev E (.tmp 38) = _ from g38.trans rfl))) ?_
        refine .cons (fun E hA_ => OpStep.off (t := 39) rfl rfl (lt_ok rfl) ((hA_.get 39 (by decide)).trans rfl) (by decide) rfl (lt_ok rfl)) ?_
        refine .cons (fun E hA_ => OpStep.off (t := 39) rfl rfl (lt_ok rfl) ((hA_.get 39 (by decide)).trans rfl) (by decide) rfl (lt_ok rfl)) ?_
        refine .cons (fun E hA_ => OpStep.off (t := 39) rfl rfl (lt_ok rfl) ((hA_.get 39 (by decide)).trans rfl) (by decide) rfl (lt_ok rfl)) ?_
        refine .cons (fun E hA_ => by have g39 := hA_.get 39 (by decide); have g42 := hA_.get 42 (by decide); exact OpStep.plain rfl (Step.pick (b := false) (p := (.one (.d (.bool false)))) (t := 43) rfl rfl (by exact lt_ok rfl) (show Env.ev E (.tmp 39) = _ from g39.trans rfl) rfl)) ?_
        refine .cons (fun E hA_ => by have g43 := hA_.get 43 (by decide); exact OpStep.plain rfl (Step.assign (p := (.one (.d (.bool false)))) (t := 4) rfl rfl (by exact lt_ok rfl) (show Env.ev E (.tmp 43) = _ from g43.trans rfl))) ?_
        exact .nil _ _
       refine TL.nil ?_
       refine T.ret ?_
       exact ⟨[(false, [.d (.bool false)])], (.cons rfl .nil), rfl, [], (RetC.rd' (by first | rfl | (congr 1; symm; simp only [qcOk, hashes, List.all_cons, List.all_nil, *, Bool.and_true, Bool.true_and, Bool.and_false, Bool.false_and, decide_true, decide_false, and_true, true_and, and_self, and_false, false_and, Bool.and_self, not_true, not_false, Bool.not_true, Bool.not_false, ge_iff_le, gt_iff_lt, if_true, if_false, Bool.false_eq_true, ite_true, ite_false, reduceIte]; done) | (congr 1; symm; simp_all [qcOk, hashes, List.all_cons, List.all_nil]; done) | (congr 1; symm; simp_all [qcOk, hashes, List.all_cons, List.all_nil]; omega)) .nil)⟩
     ·
      refine T.draw [⟨5, (.agg [.d (.int .i64 l.f0), .d (.int .i64 l.f1), .d (.int .i64 l.f2), .d (.int .i64 l.f3), .d (.int .i64 l.f4)]), []⟩, ⟨6, (.one (.d (.bool true))), []⟩, ⟨7, (.one (.d (.bool true))), []⟩, ⟨8, (.one (.ptr 3 0)), []⟩, ⟨9, (.one (.d (.int .i64 q.f0))), []⟩, ⟨10, (.one (.d (.bool true))), []⟩, ⟨11, (.one (.d (.bool true))), []⟩, ⟨12, (.one (.d (.bool true))), []⟩, ⟨13, (.one (.ptr 3 1)), []⟩, ⟨14, (.one (.d (.int .i64 q.f1))), []⟩, ⟨15, (.one (.d (.bool true))), []⟩, ⟨16, (.one (.d (.bool true))), []⟩, ⟨17, (.one (.d (.bool true))), []⟩, ⟨18, (.one (.ptr 3 2)), []⟩, ⟨19, (.one (.d (.ints .u8 q.f2))), []⟩, ⟨20, (.one (.d (.bss [q.f2]))), []⟩, ⟨21, (.one (.d (.bool true))), []⟩, ⟨22, (.one (.d (.bool true))), []⟩, ⟨23, (.one (.d (.bool true))), []⟩, ⟨24, (.one (.ptr 3 3)), []⟩, ⟨25, (.one (.d (.ints .u8 q.f3))), []⟩, ⟨26, (.one (.ptr 2 0)), []⟩, ⟨27, (.one (.d (.int .i64 l.f0))), []⟩, ⟨28, (.one (.d (.bool false))), []⟩, ⟨29, (.one (.d (.bool false))), []⟩, ⟨30, (.one (.d (.bool false))), []⟩, ⟨31, (.tup []), []⟩, ⟨32, (.tup []), []⟩, ⟨33, (.tup []), []⟩, ⟨34, (.tup []), []⟩, ⟨35, (.tup []), []⟩, ⟨36, (.tup []), []⟩, ⟨37, (.tup []), []⟩, ⟨38, (.one (.d (.bool false))), []⟩, ⟨39, (.one (.d (.bool false))), []⟩, ⟨40, (.tup []), []⟩, ⟨41, (.tup []), []⟩, ⟨42, (.tup []), []⟩, ⟨43, (.one (.d (.bool false))), []⟩, ⟨4, (.one (.d (.bool false))), []⟩] (by kernel_rfl) (by kernel_rfl) ?_ ?_
      ·
       refine .cons (fun E hA_ => by have g2 := hA_.get 2 (by decide); exact OpStep.plain rfl (Step.load_box_agg (n := 5) (qs := [.d (.int .i64 l.f0), .d (.int .i64 l.f1), .d (.int .i64 l.f2), .d (.int .i64 l.f3), .d (.int .i64 l.f4)]) (t := 5) rfl rfl (by exact lt_ok rfl) (by kernel_rfl) (show Env.ev E (.tmp 2) = _ from g2.trans rfl) (by exact hA_.box rfl) rfl rfl)) ?_
       refine .cons (fun E hA_ => by have g5 := hA_.get 5 (by decide); exact OpStep.plain rfl (Step.to (E1 := E.set 6 (.one (.d (.bool (limOk l))))) (congrArg (fun b_ => E.set 6 (.one (.d (.bool b_)))) hb1) (Step.call (f := 135) (xs := [.tmp 5]) (ps := [(.agg [.d (.int .i64 l.f0), .d (.int .i64 l.f1), .d (.int .i64 l.f2), .d (.int .i64 l.f3), .d (.int .i64 l.f4)])]) false (g := .func 135) (t := 6) rfl rfl (by exact lt_ok rfl) rfl (by kernel_rfl) (evs_cons (show Env.ev E (.tmp 5) = _ from g5.trans rfl) (rfl)) (.cons (.agg (.cons (.d _) (.cons (.d _) (.cons (.d _) (.cons (.d _) (.cons (.d _) .nil)))))) .nil) (ok_impl_LimitsOk l) (.inr rfl) (At.freshRows hA_ rfl) (by simp) rfl))) ?_
       refine .cons (fun E hA_ => by have g6 := hA_.get 6 (by decide); exact OpStep.plain rfl (Step.move (p := (.one (.d (.bool true)))) (t := 7) rfl rfl (by exact lt_ok rfl) (show Env.ev E (.tmp 6) = _ from g6.trans rfl))) ?_
       refine .cons (fun E hA_ => by have g3 := hA_.get 3 (by decide); have g7 := hA_.get 7 (by decide); exact OpStep.yes (t := 7) rfl rfl (lt_ok rfl) (g7.trans rfl) (Step.fieldAddr (q := 0) (off := 0) (n := 1) (one := true) (t := 8) rfl rfl (by exact lt_ok rfl) (by kernel_rfl) (Nat.succ_ne_zero _) (show Env.ev E (.tmp 3) = _ from g3.trans rfl))) ?_
       refine .cons (fun E hA_ => by have g7 := hA_.get 7 (by decide); have g8 := hA_.get 8 (by decide); exact OpStep.yes (t := 7) rfl rfl (lt_ok rfl) (g7.trans rfl) (Step.load_box (c := .d (.int .i64 q.f0)) (t := 9) rfl rfl (by exact lt_ok rfl) (by kernel_rfl) (show Env.ev E (.tmp 8) = _ from g8.trans rfl) (by exact hA_.box rfl) rfl)) ?_
       refine .cons (fun E hA_ => by have g7 := hA_.get 7 (by decide); have g9 := hA_.get 9 (by decide); exact OpStep.yes (t := 7) rfl rfl (lt_ok rfl) (g7.trans rfl) (Step.to (E1 := E.set 10 (.one (.d (.bool (decide (0 ≤ q.f0 ∧ q.f0 ≤ 1152921504606846975)))))) (congrArg (fun b_ => E.set 10 (.one (.d (.bool b_)))) hb2) (Step.call (f := 155) (xs := [.tmp 9]) (ps := [(.one (.d (.int .i64 q.f0)))]) false (g := .func 155) (t := 10) rfl rfl (by exact lt_ok rfl) rfl (by kernel_rfl) (evs_cons (show Env.ev E (.tmp 9) = _ from g9.trans rfl) (rfl)) (.cons (.one (.d _)) .nil) (ok_impl_isNum q.f0) (.inr rfl) (At.freshRows hA_ rfl) (by simp) rfl))) ?_
       refine .cons (fun E hA_ => by have g7 := hA_.get 7 (by decide); have g10 := hA_.get 10 (by decide); exact OpStep.plain rfl (Step.pick (b := true) (p := (.one (.d (.bool true)))) (t := 11) rfl rfl (by exact lt_ok rfl) (show Env.ev E (.tmp 7) = _ from g7.trans rfl) (show Env.ev E (.tmp 10) = _ from g10.trans rfl))) ?_
       refine .cons (fun E hA_ => by have g11 := hA_.get 11 (by decide); exact OpStep.plain rfl (Step.move (p := (.one (.d (.bool true)))) (t := 12) rfl rfl (by exact lt_ok rfl) (show Env.ev E (.tmp 11) = _ from g11.trans rfl))) ?_
       refine .cons (fun E hA_ => by have g3 := hA_.get 3 (by decide); have g12 := hA_.get 12 (by decide); exact OpStep.yes (t := 12) rfl rfl (lt_ok rfl) (g12.trans rfl) (Step.fieldAddr (q := 0) (off := 1) (n := 1) (one := true) (t := 13) rfl rfl (by exact lt_ok rfl) (by kernel_rfl) (Nat.succ_ne_zero _) (show Env.ev E (.tmp 3) = _ from g3.trans rfl))) ?_
       refine .cons (fun E hA_ => by have g12 := hA_.get 12 (by decide); have g13 := hA_.get 13 (by decide); exact OpStep.yes (t := 12) rfl rfl (lt_ok rfl) (g12.trans rfl) (Step.load_box (c := .d (.int .i64 q.f1)) (t := 14) rfl rfl (by exact lt_ok rfl) (by kernel_rfl) (show Env.ev E (.tmp 13) = _ from g13.trans rfl) (by exact hA_.box rfl) rfl)) ?_
       refine .cons (fun E hA_ => by have g12 := hA_.get 12 (by decide); have g14 := hA_.get 14 (by decide); exact OpStep.yes (t := 12) rfl rfl (lt_ok rfl) (g12.trans rfl) (Step.to (E1 := E.set 15 (.one (.d (.bool (decide (0 ≤ q.f1 ∧ q.f1 ≤ 1152921504606846975)))))) (congrArg (fun b_ => E.set 15 (.one (.d (.bool b_)))) hb3) (Step.call (f := 155) (xs := [.tmp 14]) (ps := [(.one (.d (.int .i64 q.f1)))]) false (g := .func 155) (t := 15) rfl rfl (by exact lt_ok rfl) rfl (by kernel_rfl) (evs_cons (show Env.ev E (.tmp 14) = _ from g14.trans rfl) (rfl)) (.cons (.one (.d _)) .nil) (ok_impl_isNum q.f1) (.inr rfl) (At.freshRows hA_ rfl) (by simp) rfl))) ?_
       refine .cons (fun E hA_ => by have g12 := hA_.get 12 (by decide); have g15 := hA_.get 15 (by decide); exact OpStep.plain rfl (Step.pick (b := true) (p := (.one (.d (.bool true)))) (t := 16) rfl rfl (by exact lt_ok rfl) (show Env.ev E (.tmp 12) = _ from g12.trans rfl) (show Env.ev E (.tmp 15) = _ from g15.trans rfl))) ?_
       refine .cons (fun E hA_ => by have g16 := hA_.get 16 (by decide); exact OpStep.plain rfl (Step.move (p := (.one (.d (.bool true)))) (t := 17) rfl rfl (by exact lt_ok rfl) (show Env.ev E (.tmp 16) = _ from g16.trans rfl))) ?_
       refine .cons (fun E hA_ => by have g3 := hA_.get 3 (by decide); have g17 := hA_.get 17 (by decide); exact OpStep.yes (t := 17) rfl rfl (lt_ok rfl) (g17.trans rfl) (Step.fieldAddr (q := 0) (off := 2) (n := 1) (one := true) (t := 18) rfl rfl (by exact lt_ok rfl) (by kernel_rfl) (Nat.succ_ne_zero _) (show Env.ev E (.tmp 3) = _ from g3.trans rfl))) ?_
       refine .cons (fun E hA_ => by have g17 := hA_.get 17 (by decide); have g18 := hA_.get 18 (by decide); exact OpStep.yes (t := 17) rfl rfl (lt_ok rfl) (g17.trans rfl) (Step.load_box (c := .d (.ints .u8 q.f2)) (t := 19) rfl rfl (by exact lt_ok rfl) (by kernel_rfl) (show Env.ev E (.tmp 18) = _ from g18.trans rfl) (by exact hA_.box rfl) rfl)) ?_
       refine .cons (fun E hA_ => by have g17 := hA_.get 17 (by decide); have g19 := hA_.get 19 (by decide); exact OpStep.yes (t := 17) rfl rfl (lt_ok rfl) (g17.trans rfl) (Step.lit_d (e := 24) (z := 1) (by_ := 24) (xs := [.tmp 19]) (pss := [[.d (.ints .u8 q.f2)]]) (ds := [(.ints .u8 q.f2)]) (d := (.bss [q.f2])) (t := 20) rfl rfl (by exact lt_ok rfl) (by kernel_rfl) rfl rfl (.cons (by exact (congrArg PV.flat (show Env.ev E (.tmp 19) = _ from g19.trans rfl)).trans rfl) .nil) (by simp) (le_ok rfl) (le_ok rfl) rfl rfl trivial rfl rfl)) ?_
       refine .cons (fun E hA_ => by have g17 := hA_.get 17 (by decide); have g20 := hA_.get 20 (by decide); exact OpStep.yes (t := 17) rfl rfl (lt_ok rfl) (g17.trans rfl) (Step.to (E1 := E.set 21 (.one (.d (.bool (hashes [q.f2]))))) (congrArg (fun b_ => E.set 21 (.one (.d (.bool b_)))) hb4) (Step.call (f := 156) (xs := [.tmp 20]) (ps := [(.one (.d (.bss [q.f2])))]) false (g := .func 156) (t := 21) rfl rfl (by exact lt_ok rfl) rfl (by kernel_rfl) (evs_cons (show Env.ev E (.tmp 20) = _ from g20.trans rfl) (rfl)) (.cons (.one (.d _)) .nil) (ok_impl_areHashes [q.f2]) (.inr rfl) (At.freshRows hA_ rfl) (by simp) rfl))) ?_
       refine .cons (fun E hA_ => by have g17 := hA_.get 17 (by decide); have g21 := hA_.get 21 (by decide); exact OpStep.plain rfl (Step.pick (b := true) (p := (.one (.d (.bool true)))) (t := 22) rfl rfl (by exact lt_ok rfl) (show Env.ev E (.tmp 17) = _ from g17.trans rfl) (show Env.ev E (.tmp 21) = _ from g21.trans rfl))) ?_
       refine .cons (fun E hA_ => by have g22 := hA_.get 22 (by decide); exact OpStep.plain rfl (Step.move (p := (.one (.d (.bool true)))) (t := 23) rfl rfl (by exact lt_ok rfl) (show Env.ev E (.tmp 22) = _ from g22.trans rfl))) ?_
       refine .cons (fun E hA_ => by have g3 := hA_.get 3 (by decide); have g23 := hA_.get 23 (by decide); exact OpStep.yes (t := 23) rfl rfl (lt_ok rfl) (g23.trans rfl) (Step.fieldAddr (q := 0) (off := 3) (n := 1) (one := true) (t := 24) rfl rfl (by exact lt_ok rfl) (by kernel_rfl) (Nat.succ_ne_zero _) (show Env.ev E (.tmp 3) = _ from g3.trans rfl))) ?_
       refine .cons (fun E hA_ => by have g23 := hA_.get 23 (by decide); have g24 := hA_.get 24 (by decide); exact OpStep.yes (t := 23) rfl rfl (lt_ok rfl) (g23.trans rfl) (Step.load_box (c := .d (.ints .u8 q.f3)) (t := 25) rfl rfl (by exact lt_ok rfl) (by kernel_rfl) (show Env.ev E (.tmp 24) = _ from g24.trans rfl) (by exact hA_.box rfl) rfl)) ?_
       refine .cons (fun E hA_ => by have g2 := hA_.get 2 (by decide); have g23 := hA_.get 23 (by decide); exact OpStep.yes (t := 23) rfl rfl (lt_ok rfl) (g23.trans rfl) (Step.fieldAddr (q := 0) (off := 0) (n := 1) (one := true) (t := 26) rfl rfl (by exact lt_ok rfl) (by kernel_rfl) (Nat.succ_ne_zero _) (show Env.ev E (.tmp 2) = _ from g2.trans rfl))) ?_
       refine .cons (fun E hA_ => by have g23 := hA_.get 23 (by decide); have g26 := hA_.get 26 (by decide); exact OpStep.yes (t := 23) rfl rfl (lt_ok rfl) (g23.trans rfl) (Step.load_box (c := .d (.int .i64 l.f0)) (t := 27) rfl rfl (by exact lt_ok rfl) (by kernel_rfl) (show Env.ev E (.tmp 26) = _ from g26.trans rfl) (by exact hA_.box rfl) rfl)) ?_
       refine .cons (fun E hA_ => by have g23 := hA_.get 23 (by decide); have g25 := hA_.get 25 (by decide); have g27 := hA_.get 27 (by decide); exact OpStep.yes (t := 23) rfl rfl (lt_ok rfl) (g23.trans rfl) (Step.to (E1 := E.set 28 (.one (.d (.bool (bitsOk q.f3 l.f0))))) (congrArg (fun b_ => E.set 28 (.one (.d (.bool b_)))) hb5) (Step.call (f := 174) (xs := [.tmp 25, .tmp 27]) (ps := [(.one (.d (.ints .u8 q.f3))), (.one (.d (.int .i64 l.f0)))]) false (g := .func 174) (t := 28) rfl rfl (by exact lt_ok rfl) rfl (by kernel_rfl) (evs_cons (show Env.ev E (.tmp 25) = _ from g25.trans rfl) (evs_cons (show Env.ev E (.tmp 27) = _ from g27.trans rfl) (rfl))) (.cons (.one (.d _)) (.cons (.one (.d _)) .nil)) (ok_impl_BitsOk q.f3 l.f0 (by assumption) (by first | omega | assumption | (simp only [List.length_append] at *; omega))) (.inr rfl) (At.freshRows hA_ rfl) (by simp) rfl))) ?_
       refine .cons (fun E hA_ => by have g23 := hA_.get 23 (by decide); have g28 := hA_.get 28 (by decide); exact OpStep.plain rfl (Step.pick (b := true) (p := (.one (.d (.bool false)))) (t := 29) rfl rfl (by exact lt_ok rfl) (show Env.ev E (.tmp 23) = _ from g23.trans rfl) (show Env.ev E (.tmp 28) = _ from g28.trans rfl))) ?_
       refine .cons (fun E hA_ => by have g29 := hA_.get 29 (by decide); exact OpStep.plain rfl (Step.move (p := (.one (.d (.bool false)))) (t := 30) rfl rfl (by exact lt_ok rfl) (show Env.ev E (.tmp 29) = _ from g29.trans rfl))) ?_
       refine .cons (fun E hA_ => OpStep.off (t := 30) rfl rfl (lt_ok rfl) ((hA_.get 30 (by decide)).trans rfl) (by decide) rfl (lt_ok rfl)) ?_
       refine .cons (fun E hA_ => OpStep.off (t := 30) rfl rfl (lt_ok rfl) ((hA_.get 30 (by decide)).trans rfl) (by decide) rfl (lt_ok rfl)) ?_
       refine .cons (fun E hA_ => OpStep.off (t := 30) rfl rfl (lt_ok rfl) ((hA_.get 30 (by decide)).trans rfl) (by decide) rfl (lt_ok rfl)) ?_
       refine .cons (fun E hA_ => OpStep.off (t := 30) rfl rfl (lt_ok rfl) ((hA_.get 30 (by decide)).trans rfl) (by decide) rfl (lt_ok rfl)) ?_
       refine .cons (fun E hA_ => OpStep.off (t := 30) rfl rfl (lt_ok rfl) ((hA_.get 30 (by decide)).trans rfl) (by decide) rfl (lt_ok rfl)) ?_
       refine .cons (fun E hA_ => OpStep.off (t := 30) rfl rfl (lt_ok rfl) ((hA_.get 30 (by decide)).trans rfl) (by decide) rfl (lt_ok rfl)) ?_
       refine .cons (fun E hA_ => OpStep.off (t := 30) rfl rfl (lt_ok rfl) ((hA_.get 30 (by decide)).trans rfl) (by decide) rfl (lt_ok rfl)) ?_
       refine .cons (fun E hA_ => by have g30 := hA_.get 30 (by decide); have g37 := hA_.get 37 (by decide); exact OpStep.plain rfl (Step.pick (b := false) (p := (.one (.d (.bool false)))) (t := 38) rfl rfl (by exact lt_ok rfl) (show Env.ev E (.tmp 30) = _ from g30.trans rfl) rfl)) ?_
       refine .cons (fun E hA_ => by have g38 := hA_.get 38 (by decide); exact OpStep.plain rfl (Step.move (p := (.one (.d (.bool false)))) (t := 39) rfl rfl (by exact lt_ok rfl) (show Env.ev E (.tmp 38) = _ from g38.trans rfl))) ?_
       refine .cons (fun E hA_ => OpStep.off (t := 39) rfl rfl (lt_ok rfl) ((hA_.get 39 (by decide)).trans rfl) (by decide) rfl (lt_ok rfl)) ?_
       refine .cons (fun E hA_ => OpStep.off (t := 39) rfl rfl (lt_ok rfl) ((hA_.get 39 (by decide)).trans rfl) (by decide) rfl (lt_ok rfl)) ?_
       refine .cons (fun E hA_ => OpStep.off (t := 39) rfl rfl (lt_ok rfl) ((hA_.get 39 (by decide)).trans rfl) (by decide) rfl (lt_ok rfl)) ?_
       refine .cons (fun E hA_ => by have g39 := hA_.get 39 (by decide); have g42 := hA_.get 42 (by decide); exact OpStep.plain rfl (Step.pick (b := false) (p := (.one (.d (.bool false)))) (t := 43) rfl rfl (by exact lt_ok rfl) (show Env.ev E (.tmp 39) = _ from g39.trans rfl) rfl)) ?_
       refine .cons (fun E hA_ => by have g43 := hA_.get 43 (by decide); exact OpStep.plain rfl (Step.assign (p := (.one (.d (.bool false)))) (t := 4) rfl rfl (by exact lt_ok rfl) (show Env.ev E (.tmp 43) = _ from g43.trans rfl))) ?_
       exact .nil _ _
      refine TL.nil ?_
      refine T.ret ?_
      exact ⟨[(false, [.d (.bool false)])], (.cons rfl .nil), rfl, [], (RetC.rd' (by first | rfl | (congr 1; symm; simp only [qcOk, hashes, List.all_cons, List.all_nil, *, Bool.and_true, Bool.true_and, Bool.and_false, Bool.false_and, decide_true, decide_false, and_true, true_and, and_self, and_false, false_and, Bool.and_self, not_true, not_false, Bool.not_true, Bool.not_false, ge_iff_le, gt_iff_lt, if_true, if_false, Bool.false_eq_true, ite_true, ite_false, reduceIte]; done) | (congr 1; symm; simp_all [qcOk, hashes, List.all_cons, List.all_nil]; done) | (congr 1; symm; simp_all [qcOk, hashes, List.all_cons, List.all_nil]; omega)) .nil)⟩
    ·
     refine T.draw [⟨5, (.agg [.d (.int .i64 l.f0), .d (.int .i64 l.f1), .d (.int .i64 l.f2), .d (.int .i64 l.f3), .d (.int .i64 l.f4)]), []⟩, ⟨6, (.one (.d (.bool true))), []⟩, ⟨7, (.one (.d (.bool true))), []⟩, ⟨8, (.one (.ptr 3 0)), []⟩, ⟨9, (.one (.d (.int .i64 q.f0))), []⟩, ⟨10, (.one (.d (.bool true))), []⟩, ⟨11, (.one (.d (.bool true))), []⟩, ⟨12, (.one (.d (.bool true))), []⟩, ⟨13, (.one (.ptr 3 1)), []⟩, ⟨14, (.one (.d (.int .i64 q.f1))), []⟩, ⟨15, (.one (.d (.bool true))), []⟩, ⟨16, (.one (.d (.bool true))), []⟩, ⟨17, (.one (.d (.bool true))), []⟩, ⟨18, (.one (.ptr 3 2)), []⟩, ⟨19, (.one (.d (.ints .u8 q.f2))), []⟩, ⟨20, (.one (.d (.bss [q.f2]))), []⟩, ⟨21, (.one (.d (.bool false))), []⟩, ⟨22, (.one (.d (.bool false))), []⟩, ⟨23, (.one (.d (.bool false))), []⟩, ⟨24, (.tup []), []⟩, ⟨25, (.tup []), []⟩, ⟨26, (.tup []), []⟩, ⟨27, (.tup []), []⟩, ⟨28, (.tup []), []⟩, ⟨29, (.one (.d (.bool false))), []⟩, ⟨30, (.one (.d (.bool false))), []⟩, ⟨31, (.tup []), []⟩, ⟨32, (.tup []), []⟩, ⟨33, (.tup []), []⟩, ⟨34, (.tup []), []⟩, ⟨35, (.tup []), []⟩, ⟨36, (.tup []), []⟩, ⟨37, (.tup []), []⟩, ⟨38, (.one (.d (.bool false))), []⟩, ⟨39, (.one (.d (.bool false))), []⟩, ⟨40, (.tup []), []⟩, ⟨41, (.tup []), []⟩, ⟨42, (.tup []), []⟩, ⟨43, (.one (.d (.bool false))), []⟩, ⟨4, (.one (.d (.bool false))), []⟩] (by kernel_rfl) (by kernel_rfl) ?_ ?_
     ·
      refine .cons (fun E hA_ => by have g2 := hA_.get 2 (by decide); exact OpStep.plain rfl (Step.load_box_agg (n := 5) (qs := [.d (.int .i64 l.f0), .d (.int .i64 l.f1), .d (.int .i64 l.f2), .d (.int .i64 l.f3), .d (.int .i64 l.f4)]) (t := 5) rfl rfl (by exact lt_ok rfl) (by kernel_rfl) (show Env.ev E (.tmp 2) = _ from g2.trans rfl) (by exact hA_.box rfl) rfl rfl)) ?_
      refine .cons (fun E hA_ => by have g5 := hA_.get 5 (by decide); exact OpStep.plain rfl (Step.to (E1 := E.set 6 (.one (.d (.bool (limOk l))))) (congrArg (fun b_ => E.set 6 (.one (.d (.bool b_)))) hb1) (Step.call (f := 135) (xs := [.tmp 5]) (ps := [(.agg [.d (.int .i64 l.f0), .d (.int .i64 l.f1), .d (.int .i64 l.f2), .d (.int .i64 l.f3), .d (.int .i64 l.f4)])]) false (g := .func 135) (t := 6) rfl rfl (by exact lt_ok rfl) rfl (by kernel_rfl) (evs_cons (show Env.ev E (.tmp 5) = _ from g5.trans rfl) (rfl)) (.cons (.agg (.cons (.d _) (.cons (.d _) (.cons (.d _) (.cons (.d _) (.cons (.d _) .nil)))))) .nil) (ok_impl_LimitsOk l) (.inr rfl) (At.freshRows hA_ rfl) (by simp) rfl))) ?_
      refine .cons (fun E hA_ => by have g6 := hA_.get 6 (by decide); exact OpStep.plain rfl (Step.move (p := (.one (.d (.bool true)))) (t := 7) rfl rfl (by exact lt_ok rfl) (show Env.ev E (.tmp 6) = _ from g6.trans rfl))) ?_
      refine .cons (fun E hA_ => by have g3 := hA_.get 3 (by decide); have g7 := hA_.get 7 (by decide); exact OpStep.yes (t := 7) rfl rfl (lt_ok rfl) (g7.trans rfl) (Step.fieldAddr (q := 0) (off := 0) (n := 1) (one := true) (t := 8) rfl rfl (by exact lt_ok rfl) (by kernel_rfl) (Nat.succ_ne_zero _) (show Env.ev E (.tmp 3) = _ from g3.trans rfl))) ?_
      refine .cons (fun E hA_ => by have g7 := hA_.get 7 (by decide); have g8 := hA_.get 8 (by decide); exact OpStep.yes (t := 7) rfl rfl (lt_ok rfl) (g7.trans rfl) (Step.load_box (c := .d (.int .i64 q.f0)) (t := 9) rfl rfl (by exact lt_ok rfl) (by kernel_rfl) (show Env.ev E (.tmp 8) = _ from g8.trans rfl) (by exact hA_.box rfl) rfl)) ?_
      refine .cons (fun E hA_ => by have g7 := hA_.get 7 (by decide); have g9 := hA_.get 9 (by decide); exact OpStep.yes (t := 7) rfl rfl (lt_ok rfl) (g7.trans rfl) (Step.to (E1 := E.set 10 (.one (.d (.bool (decide (0 ≤ q.f0 ∧ q.f0 ≤ 1152921504606846975)))))) (congrArg (fun b_ => E.set 10 (.one (.d (.bool b_)))) hb2) (Step.call (f := 155) (xs := [.tmp 9]) (ps := [(.one (.d (.int .i64 q.f0)))]) false (g := .func 155) (t := 10) rfl rfl (by exact lt_ok rfl) rfl (by kernel_rfl) (evs_cons (show Env.ev E (.tmp 9) = _ from g9.trans rfl) (rfl)) (.cons (.one (.d _)) .nil) (ok_impl_isNum q.f0) (.inr rfl) (At.freshRows hA_ rfl) (by simp) rfl))) ?_
      refine .cons (fun E hA_ => by have g7 := hA_.get 7 (by decide); have g10 := hA_.get 10 (by decide); exact OpStep.plain rfl (Step.pick (b := true) (p := (.one (.d (.bool true)))) (t := 11) rfl rfl (by exact lt_ok rfl) (show Env.ev E (.tmp 7) = _ from g7.trans rfl) (show Env.ev E (.tmp 10) = _ from g10.trans rfl))) ?_
      refine .cons (fun E hA_ => by have g11 := hA_.get 11 (by decide); exact OpStep.plain rfl (Step.move (p := (.one (.d (.bool true)))) (t := 12) rfl rfl (by exact lt_ok rfl) (show Env.ev E (.tmp 11) = _ from g11.trans rfl))) ?_
      refine .cons (fun E hA_ => by have g3 := hA_.get 3 (by decide); have g12 := hA_.get 12 (by decide); exact OpStep.yes (t := 12) rfl rfl (lt_ok rfl) (g12.trans rfl) (Step.fieldAddr (q := 0) (off := 1) (n := 1) (one := true) (t := 13) rfl rfl (by exact lt_ok rfl) (by kernel_rfl) (Nat.succ_ne_zero _) (show Env.ev E (.tmp 3) = _ from g3.trans rfl))) ?_
      refine .cons (fun E hA_ => by have g12 := hA_.get 12 (by decide); have g13 := hA_.get 13 (by decide); exact OpStep.yes (t := 12) rfl rfl (lt_ok rfl) (g12.trans rfl) (Step.load_box (c := .d (.int .i64 q.f1)) (t := 14) rfl rfl (by exact lt_ok rfl) (by kernel_rfl) (show Env.ev E (.tmp 13) = _ from g13.trans rfl) (by exact hA_.box rfl) rfl)) ?_
      refine .cons (fun E hA_ => by have g12 := hA_.get 12 (by decide); have g14 := hA_.get 14 (by decide); exact OpStep.yes (t := 12) rfl rfl (lt_ok rfl) (g12.trans rfl) (Step.to (E1 := E.set 15 (.one (.d (.bool (decide (0 ≤ q.f1 ∧ q.f1 ≤ 1152921504606846975)))))) (congrArg (fun b_ => E.set 15 (.one (.d (.bool b_)))) hb3) (Step.call (f := 155) (xs := [.tmp 14]) (ps := [(.one (.d (.int .i64 q.f1)))]) false (g := .func 155) (t := 15) rfl rfl (by exact lt_ok rfl) rfl (by kernel_rfl) (evs_cons (show Env.ev E (.tmp 14) = _ from g14.trans rfl) (rfl)) (.cons (.one (.d _)) .nil) (ok_impl_isNum q.f1) (.inr rfl) (At.freshRows hA_ rfl) (by simp) rfl))) ?_
      refine .cons (fun E hA_ => by have g12 := hA_.get 12 (by decide); have g15 := hA_.get 15 (by decide); exact OpStep.plain rfl (Step.pick (b := true) (p := (.one (.d (.bool true)))) (t := 16) rfl rfl (by exact lt_ok rfl) (show Env.ev E (.tmp 12) = _ from g12.trans rfl) (show Env.ev E (.tmp 15) = _ from g15.trans rfl))) ?_
      refine .cons (fun E hA_ => by have g16 := hA_.get 16 (by decide); exact OpStep.plain rfl (Step.move (p := (.one (.d (.bool true)))) (t := 17) rfl rfl (by exact lt_ok rfl) (show Env.ev E (.tmp 16) = _ from g16.trans rfl))) ?_
      refine .cons (fun E hA_ => by have g3 := hA_.get 3 (by decide); have g17 := hA_.get 17 (by decide); exact OpStep.yes (t := 17) rfl rfl (lt_ok rfl) (g17.trans rfl) (Step.fieldAddr (q := 0) (off := 2) (n := 1) (one := true) (t := 18) rfl rfl (by exact lt_ok rfl) (by kernel_rfl) (Nat.succ_ne_zero _) (show Env.ev E (.tmp 3) = _ from g3.trans rfl))) ?_
      refine .cons (fun E hA_ => by have g17 := hA_.get 17 (by decide); have g18 := hA_.get 18 (by decide); exact OpStep.yes (t := 17) rfl rfl (lt_ok rfl) (g17.trans rfl) (Step.load_box (c := .d (.ints .u8 q.f2)) (t := 19) rfl rfl (by exact lt_ok rfl) (by kernel_rfl) (show Env.ev E (.tmp 18) = _ from g18.trans rfl) (by exact hA_.box rfl) rfl)) ?_
      refine .cons (fun E hA_ => by have g17 := hA_.get 17 (by decide); have g19 := hA_.get 19 (by decide); exact OpStep.yes (t := 17) rfl rfl (lt_ok rfl) (g17.trans rfl) (Step.lit_d (e := 24) (z := 1) (by_ := 24) (xs := [.tmp 19]) (pss := [[.d (.ints .u8 q.f2)]]) (ds := [(.ints .u8 q.f2)]) (d := (.bss [q.f2])) (t := 20) rfl rfl (by exact lt_ok rfl) (by kernel_rfl) rfl rfl (.cons (by exact (congrArg PV.flat (show Env.ev E (.tmp 19) = _ from g19.trans rfl)).trans rfl) .nil) (by simp) (le_ok rfl) (le_ok rfl) rfl rfl trivial rfl rfl)) ?_
      refine .cons (fun E hA_ => by have g17 := hA_.get 17 (by decide); have g20 := hA_.get 20 (by decide); exact OpStep.yes (t := 17) rfl rfl (lt_ok rfl) (g17.trans rfl) (Step.to (E1 := E.set 21 (.one (.d (.bool (hashes [q.f2]))))) (congrArg (fun b_ => E.set 21 (.one (.d (.bool b_)))) hb4) (Step.call (f := 156) (xs := [.tmp 20]) (ps := [(.one (.d (.bss [q.f2])))]) false (g := .func 156) (t := 21) rfl rfl (by exact lt_ok rfl) rfl (by kernel_rfl) (evs_cons (show Env.ev E (.tmp 20) = _ from g20.trans rfl) (rfl)) (.cons (.one (.d _)) .nil) (ok_impl_areHashes [q.f2]) (.inr rfl) (At.freshRows hA_ rfl) (by simp) rfl))) ?_
      refine .cons (fun E hA_ => by have g17 := hA_.get 17 (by decide); have g21 := hA_.get 21 (by decide); exact OpStep.plain rfl (Step.pick (b := true) (p := (.one (.d (.bool false)))) (t := 22) rfl rfl (by exact lt_ok rfl) (show Env.ev E (.tmp 17) = _ from g17.trans rfl) (show Env.ev E (.tmp 21) = _ from g21.trans rfl))) ?_
      refine .cons (fun E hA_ => by have g22 := hA_.get 22 (by decide); exact OpStep.plain rfl (Step.move (p := (.one (.d (.bool false)))) (t := 23) rfl rfl (by exact lt_ok rfl) (show Env.ev E (.tmp 22) = _ from g22.trans rfl))) ?_
      refine .cons (fun E hA_ => OpStep.off (t := 23) rfl rfl (lt_ok rfl) ((hA_.get 23 (by decide)).trans rfl) (by decide) rfl (lt_ok rfl)) ?_
      refine .cons (fun E hA_ => OpStep.off (t := 23) rfl rfl (lt_ok rfl) ((hA_.get 23 (by decide)).trans rfl) (by decide) rfl (lt_ok rfl)) ?_
      refine .cons (fun E hA_ => OpStep.off (t := 23) rfl rfl (lt_ok rfl) ((hA_.get 23 (by decide)).trans rfl) (by decide) rfl (lt_ok rfl)) ?_
      refine .cons (fun E hA_ => OpStep.off (t := 23) rfl rfl (lt_ok rfl) ((hA_.get 23 (by decide)).trans rfl) (by decide) rfl (lt_ok rfl)) ?_
      refine .cons (fun E hA_ => OpStep.off (t := 23) rfl rfl (lt_ok rfl) ((hA_.get 23 (by decide)).trans rfl) (by decide) rfl (lt_ok rfl)) ?_
      refine .cons (fun E hA_ => by have g23 := hA_.get 23 (by decide); have g28 := hA_.get 28 (by decide); exact OpStep.plain rfl (Step.pick (b := false) (p := (.one (.d (.bool false)))) (t := 29) rfl rfl (by exact lt_ok rfl) (show Env.ev E (.tmp 23) = _ from g23.trans rfl) rfl)) ?_
      refine .cons (fun E hA_ => by have g29 := hA_.get 29 (by decide); exact OpStep.plain rfl (Step.move (p := (.one (.d (.bool false)))) (t := 30) rfl rfl (by exact lt_ok rfl) (show Env.ev E (.tmp 29) = _ from g29.trans rfl))) ?_
      refine .cons (fun E hA_ => OpStep.off (t := 30) rfl rfl (lt_ok rfl) ((hA_.get 30 (by decide)).trans rfl) (by decide) rfl (lt_ok rfl)) ?_
      refine .cons (fun E hA_ => OpStep.off (t := 30) rfl rfl (lt_ok rfl) ((hA_.get 30 (by decide)).trans rfl) (by decide) rfl (lt_ok rfl)) ?_
      refine .cons (fun E hA_ => OpStep.off (t := 30) rfl rfl (lt_ok rfl) ((hA_.get 30 (by decide)).trans rfl) (by decide) rfl (lt_ok rfl)) ?_
      refine .cons (fun E hA_ => OpStep.off (t := 30) rfl rfl (lt_ok rfl) ((hA_.get 30 (by decide)).trans rfl) (by decide) rfl (lt_ok rfl)) ?_
      refine .cons (fun E hA_ => OpStep.off (t := 30) rfl rfl (lt_ok rfl) ((hA_.get 30 (by decide)).trans rfl) (by decide) rfl (lt_ok rfl)) ?_
      refine .cons (fun E hA_ => OpStep.off (t := 30) rfl rfl (lt_ok rfl) ((hA_.get 30 (by decide)).trans rfl) (by decide) rfl (lt_ok rfl)) ?_
      refine .cons (fun E hA_ => OpStep.off (t := 30) rfl rfl (lt_ok rfl) ((hA_.get 30 (by decide)).trans rfl) (by decide) rfl (lt_ok rfl)) ?_
      refine .cons (fun E hA_ => by have g30 := hA_.get 30 (by decide); have g37 := hA_.get 37 (by decide); exact OpStep.plain rfl (Step.pick (b := false) (p := (.one (.d (.bool false)))) (t := 38) rfl rfl (by exact lt_ok rfl) (show Env.ev E (.tmp 30) = _ from g30.trans rfl) rfl)) ?_
      refine .cons (fun E hA_ => by have g38 := hA_.get 38 (by decide); exact OpStep.plain rfl (Step.move (p := (.one (.d (.bool false)))) (t := 39) rfl rfl (by exact lt_ok rfl) (show Env.ev E (.tmp 38) = _ from g38.trans rfl))) ?_
      refine .cons (fun E hA_ => OpStep.off (t := 39) rfl rfl (lt_ok rfl) ((hA_.get 39 (by decide)).trans rfl) (by decide) rfl (lt_ok rfl)) ?_
      refine .cons (fun E hA_ => OpStep.off (t := 39) rfl rfl (lt_ok rfl) ((hA_.get 39 (by decide)).trans rfl) (by decide) rfl (lt_ok rfl)) ?_
      refine .cons (fun E hA_ => OpStep.off (t := 39) rfl rfl (lt_ok rfl) ((hA_.get 39 (by decide)).trans rfl) (by decide) rfl (lt_ok rfl)) ?_
      refine .cons (fun E hA_ => by have g39 := hA_.get 39 (by decide); have g42 := hA_.get 42 (by decide); exact OpStep.plain rfl (Step.pick (b := false) (p := (.one (.d (.bool false)))) (t := 43) rfl rfl (by exact lt_ok rfl) (show Env.ev E (.tmp 39) = _ from g39.trans rfl) rfl)) ?_
      refine .cons (fun E hA_ => by have g43 := hA_.get 43 (by decide); exact OpStep.plain rfl (Step.assign (p := (.one (.d (.bool false)))) (t := 4) rfl rfl (by exact lt_ok rfl) (show Env.ev E (.tmp 43) = _ from g43.trans rfl))) ?_
      exact .nil _ _
     refine TL.nil ?_
     refine T.ret ?_
     exact ⟨[(false, [.d (.bool false)])], (.cons rfl .nil), rfl, [], (RetC.rd' (by first | rfl | (congr 1; symm; simp only [qcOk, hashes, List.all_cons, List.all_nil, *, Bool.and_true, Bool.true_and, Bool.and_false, Bool.false_and, decide_true, decide_false, and_true, true_and, and_self, and_false, false_and, Bool.and_self, not_true, not_false, Bool.not_true, Bool.not_false, ge_iff_le, gt_iff_lt, if_true, if_false, Bool.false_eq_true, ite_true, ite_false, reduceIte]; done) | (congr 1; symm; simp_all [qcOk, hashes, List.all_cons, List.all_nil]; done) | (congr 1; symm; simp_all [qcOk, hashes, List.all_cons, List.all_nil]; omega)) .nil)⟩
   ·
    refine T.draw [⟨5, (.agg [.d (.int .i64 l.f0), .d (.int .i64 l.f1), .d (.int .i64 l.f2), .d (.int .i64 l.f3), .d (.int .i64 l.f4)]), []⟩, ⟨6, (.one (.d (.bool true))), []⟩, ⟨7, (.one (.d (.bool true))), []⟩, ⟨8, (.one (.ptr 3 0)), []⟩, ⟨9, (.one (.d (.int .i64 q.f0))), []⟩, ⟨10, (.one (.d (.bool true))), []⟩, ⟨11, (.one (.d (.bool true))), []⟩, ⟨12, (.one (.d (.bool true))), []⟩, ⟨13, (.one (.ptr 3 1)), []⟩, ⟨14, (.one (.d (.int .i64 q.f1))), []⟩, ⟨15, (.one (.d (.bool false))), []⟩, ⟨16, (.one (.d (.bool false))), []⟩, ⟨17, (.one (.d (.bool false))), []⟩, ⟨18, (.tup []), []⟩, ⟨19, (.tup []), []⟩, ⟨20, (.tup []), []⟩, ⟨21, (.tup []), []⟩, ⟨22, (.one (.d (.bool false))), []⟩, ⟨23, (.one (.d (.bool false))), []⟩, ⟨24, (.tup []), []⟩, ⟨25, (.tup []), []⟩, ⟨26, (.tup []), []⟩, ⟨27, (.tup []), []⟩, ⟨28, (.tup []), []⟩, ⟨29, (.one (.d (.bool false))), []⟩, ⟨30, (.one (.d (.bool false))), []⟩, ⟨31, (.tup []), []⟩, ⟨32, (.tup []), []⟩, ⟨33, (.tup []), []⟩, ⟨34, (.tup []), []⟩, ⟨35, (.tup []), []⟩, ⟨36, (.tup []), []⟩, ⟨37, (.tup []), []⟩, ⟨38, (.one (.d (.bool false))), []⟩, ⟨39, (.one (.d (.bool false))), []⟩, ⟨40, (.tup []), []⟩, ⟨41, (.tup []), []⟩, ⟨42, (.tup []), []⟩, ⟨43, (.one (.d (.bool false))), []⟩, ⟨4, (.one (.d (.bool false))), []⟩] (by kernel_rfl) (by kernel_rfl) ?_ ?_
    ·
     refine .cons (fun E hA_ => by have g2 := hA_.get 2 (by decide); exact OpStep.plain rfl (Step.load_box_agg (n := 5) (qs := [.d (.int .i64 l.f0), .d (.int .i64 l.f1), .d (.int .i64 l.f2), .d (.int .i64 l.f3), .d (.int .i64 l.f4)]) (t := 5) rfl rfl (by exact lt_ok rfl) (by kernel_rfl) (show Env.ev E (.tmp 2) = _ from g2.trans rfl) (by exact hA_.box rfl) rfl rfl)) ?_
     refine .cons (fun E hA_ => by have g5 := hA_.get 5 (by decide); exact OpStep.plain rfl (Step.to (E1 := E.set 6 (.one (.d (.bool (limOk l))))) (congrArg (fun b_ => E.set 6 (.one (.d (.bool b_)))) hb1) (Step.call (f := 135) (xs := [.tmp 5]) (ps := [(.agg [.d (.int .i64 l.f0), .d (.int .i64 l.f1), .d (.int .i64 l.f2), .d (.int .i64 l.f3), .d (.int .i64 l.f4)])]) false (g := .func 135) (t := 6) rfl rfl (by exact lt_ok rfl) rfl (by kernel_rfl) (evs_cons (show Env.ev E (.tmp 5) = _ from g5.trans rfl) (rfl)) (.cons (.agg (.cons (.d _) (.cons (.d _) (.cons (.d _) (.cons (.d _) (.cons (.d _) .nil)))))) .nil) (ok_impl_LimitsOk l) (.inr rfl) (At.freshRows hA_ rfl) (by simp) rfl))) ?_
     refine .cons (fun E hA_ => by have g6 := hA_.get 6 (by decide); exact OpStep.plain rfl (Step.move (p := (.one (.d (.bool true)))) (t := 7) rfl rfl (by exact lt_ok rfl) (show Env.ev E (.tmp 6) = _ from g6.trans rfl))) ?_
     refine .cons (fun E hA_ => by have g3 := hA_.get 3 (by decide); have g7 := hA_.get 7 (by decide); exact OpStep.yes (t := 7) rfl rfl (lt_ok rfl) (g7.trans rfl) (Step.fieldAddr (q := 0) (off := 0) (n := 1) (one := true) (t := 8) rfl rfl (by exact lt_ok rfl) (by kernel_rfl) (Nat.succ_ne_zero _) (show Env.ev E (.tmp 3) = _ from g3.trans rfl))) ?_
     refine .cons (fun E hA_ => by have g7 := hA_.get 7 (by decide); have g8 := hA_.get 8 (by decide); exact OpStep.yes (t := 7) rfl rfl (lt_ok rfl) (g7.trans rfl) (Step.load_box (c := .d (.int .i64 q.f0)) (t := 9) rfl rfl (by exact lt_ok rfl) (by kernel_rfl) (show Env.ev E (.tmp 8) = _ from g8.trans rfl) (by exact hA_.box rfl) rfl)) ?_
     refine .cons (fun E hA_ => by have g7 := hA_.get 7 (by decide); have g9 := hA_.get 9 (by decide); exact OpStep.yes (t := 7) rfl rfl (lt_ok rfl) (g7.trans rfl) (Step.to (E1 := E.set 10 (.one (.d (.bool (decide (0 ≤ q.f0 ∧ q.f0 ≤ 1152921504606846975)))))) (congrArg (fun b_ => E.set 10 (.one (.d (.bool b_)))) hb2) (Step.call (f := 155) (xs := [.tmp 9]) (ps := [(.one (.d (.int .i64 q.f0)))]) false (g := .func 155) (t := 10) rfl rfl (by exact lt_ok rfl) rfl (by kernel_rfl) (evs_cons (show Env.ev E (.tmp 9) = _ from g9.trans rfl) (rfl)) (.cons (.one (.d _)) .nil) (ok_impl_isNum q.f0) (.inr rfl) (At.freshRows hA_ rfl) (by simp) rfl))) ?_
     refine .cons (fun E hA_ => by have g7 := hA_.get 7 (by decide); have g10 := hA_.get 10 (by decide); exact OpStep.plain rfl (Step.pick (b := true) (p := (.one (.d (.bool true)))) (t := 11) rfl rfl (by exact lt_ok rfl) (show Env.ev E (.tmp 7) = _ from g7.trans rfl) (show Env.ev E (.tmp 10) = _ from g10.trans rfl))) ?_
     refine .cons (fun E hA_ => by have g11 := hA_.get 11 (by decide); exact OpStep.plain rfl (Step.move (p := (.one (.d (.bool true)))) (t := 12) rfl rfl (by exact lt_ok rfl) (show Env.ev E (.tmp 11) = _ from g11.trans rfl))) ?_
     refine .cons (fun E hA_ => by have g3 := hA_.get 3 (by decide); have g12 := hA_.get 12 (by decide); exact OpStep.yes (t := 12) rfl rfl (lt_ok rfl) (g12.trans rfl) (Step.fieldAddr (q := 0) (off := 1) (n := 1) (one := true) (t := 13) rfl rfl (by exact lt_ok rfl) (by kernel_rfl) (Nat.succ_ne_zero _) (show Env.ev E (.tmp 3) = _ from g3.trans rfl))) ?_
     refine .cons (fun E hA_ => by have g12 := hA_.get 12 (by decide); have g13 := hA_.get 13 (by decide); exact OpStep.yes (t := 12) rfl rfl (lt_ok rfl) (g12.trans rfl) (Step.load_box (c := .d (.int .i64 q.f1)) (t := 14) rfl rfl (by exact lt_ok rfl) (by kernel_rfl) (show Env.ev E (.tmp 13) = _ from g13.trans rfl) (by exact hA_.box rfl) rfl)) ?_
     refine .cons (fun E hA_ => by have g12 := hA_.get 12 (by decide); have g14 := hA_.get 14 (by decide); exact OpStep.yes (t := 12) rfl rfl (lt_ok rfl) (g12.trans rfl) (Step.to (E1 := E.set 15 (.one (.d (.bool (decide (0 ≤ q.f1 ∧ q.f1 ≤ 1152921504606846975)))))) (congrArg (fun b_ => E.set 15 (.one (.d (.bool b_)))) hb3) (Step.call (f := 155) (xs := [.tmp 14]) (ps := [(.one (.d (.int .i64 q.f1)))]) false (g := .func 155) (t := 15) rfl rfl (by exact lt_ok rfl) rfl (by kernel_rfl) (evs_cons (show Env.ev E (.tmp 14) = _ from g14.trans rfl) (rfl)) (.cons (.one (.d _)) .nil) (ok_impl_isNum q.f1) (.inr rfl) (At.freshRows hA_ rfl) (by simp) rfl))) ?_
     refine .cons (fun E hA_ => by have g12 := hA_.get 12 (by decide); have g15 := hA_.get 15 (by decide); exact OpStep.plain rfl (Step.pick (b := true) (p := (.one (.d (.bool false)))) (t := 16) rfl rfl (by exact lt_ok rfl) (show Env.ev E (.tmp 12) = _ from g12.trans rfl) (show Env.ev E (.tmp 15) = _ from g15.trans rfl))) ?_
     refine .cons (fun E hA_ => by have g16 := hA_.get 16 (by decide); exact OpStep.plain rfl (Step.move (p := (.one (.d (.bool false)))) (t := 17) rfl rfl (by exact lt_ok rfl) (show Env.ev E (.tmp 16) = _ from g16.trans rfl))) ?_
     refine .cons (fun E hA_ => OpStep.off (t := 17) rfl rfl (lt_ok rfl) ((hA_.get 17 (by decide)).trans rfl) (by decide) rfl (lt_ok rfl)) ?_
     refine .cons (fun E hA_ => OpStep.off (t := 17) rfl rfl (lt_ok rfl) ((hA_.get 17 (by decide)).trans rfl) (by decide) rfl (lt_ok rfl)) ?_
     refine .cons (fun E hA_ => OpStep.off (t := 17) rfl rfl (lt_ok rfl) ((hA_.get 17 (by decide)).trans rfl) (by decide) rfl (lt_ok rfl)) ?_
     refine .cons (fun E hA_ => OpStep.off (t := 17) rfl rfl (lt_ok rfl) ((hA_.get 17 (by decide)).trans rfl) (by decide) rfl (lt_ok rfl)) ?_
     refine .cons (fun E hA_ => by have g17 := hA_.get 17 (by decide); have g21 := hA_.get 21 (by decide); exact OpStep.plain rfl (Step.pick (b := false) (p := (.one (.d (.bool false)))) (t := 22) rfl rfl (by exact lt_ok rfl) (show Env.ev E (.tmp 17) = _ from g17.trans rfl) rfl)) ?_
     refine .cons (fun E hA_ => by have g22 := hA_.get 22 (by decide); exact OpStep.plain rfl (Step.move (p := (.one (.d (.bool false)))) (t := 23) rfl rfl (by exact lt_ok rfl) (show Env.ev E (.tmp 22) = _ from g22.trans rfl))) ?_
     refine .cons (fun E hA_ => OpStep.off (t := 23) rfl rfl (lt_ok rfl) ((hA_.get 23 (by decide)).trans rfl) (by decide) rfl (lt_ok rfl)) ?_
     refine .cons (fun E hA_ => OpStep.off (t := 23) rfl rfl (lt_ok rfl) ((hA_.get 23 (by decide)).trans rfl) (by decide) rfl (lt_ok rfl)) ?_
     refine .cons (fun E hA_ => OpStep.off (t := 23) rfl rfl (lt_ok rfl) ((hA_.get 23 (by decide)).trans rfl) (by decide) rfl (lt_ok rfl)) ?_
     refine .cons (fun E hA_ => OpStep.off (t := 23) rfl rfl (lt_ok rfl) ((hA_.get 23 (by decide)).trans rfl) (by decide) rfl (lt_ok rfl)) ?_
     refine .cons (fun E hA_ => OpStep.off (t := 23) rfl rfl (lt_ok rfl) ((hA_.get 23 (by decide)).trans rfl) (by decide) rfl (lt_ok rfl)) ?_
     refine .cons (fun E hA_ => by have g23 := hA_.get 23 (by decide); have g28 := hA_.get 28 (by decide); exact OpStep.plain rfl (Step.pick (b := false) (p := (.one (.d (.bool false)))) (t := 29) rfl rfl (by exact lt_ok rfl) (show Env.ev E (.tmp 23) = _ from g23.trans rfl) rfl)) ?_
     refine .cons (fun E hA_ => by have g29 := hA_.get 29 (by decide); exact OpStep.plain rfl (Step.move (p := (.one (.d (.bool false)))) (t := 30) rfl rfl (by exact lt_ok rfl) (show Env.ev E (.tmp 29) = _ from g29.trans rfl))) ?_
     refine .cons (fun E hA_ => OpStep.off (t := 30) rfl rfl (lt_ok rfl) ((hA_.get 30 (by decide)).trans rfl) (by decide) rfl (lt_ok rfl)) ?_
     refine .cons (fun E hA_ => OpStep.off (t := 30) rfl rfl (lt_ok rfl) ((hA_.get 30 (by decide)).trans rfl) (by decide) rfl (lt_ok rfl)) ?_
     refine .cons (fun E hA_ => OpStep.off (t := 30) rfl rfl (lt_ok rfl) ((hA_.get 30 (by decide)).trans rfl) (by decide) rfl (lt_ok rfl)) ?_
     refine .cons (fun E hA_ => OpStep.off (t := 30) rfl rfl (lt_ok rfl) ((hA_.get 30 (by decide)).trans rfl) (by decide) rfl (lt_ok rfl)) ?_
     refine .cons (fun E hA_ => OpStep.off (t := 30) rfl rfl (lt_ok rfl) ((hA_.get 30 (by decide)).trans rfl) (by decide) rfl (lt_ok rfl)) ?_
     refine .cons (fun E hA_ => OpStep.off (t := 30) rfl rfl (lt_ok rfl) ((hA_.get 30 (by decide)).trans rfl) (by decide) rfl (lt_ok rfl)) ?_
     refine .cons (fun E hA_ => OpStep.off (t := 30) rfl rfl (lt_ok rfl) ((hA_.get 30 (by decide)).trans rfl) (by decide) rfl (lt_ok rfl)) ?_
     refine .cons (fun E hA_ => by have g30 := hA_.get 30 (by decide); have g37 := hA_.get 37 (by decide); exact OpStep.plain rfl (Step.pick (b := false) (p := (.one (.d (.bool false)))) (t := 38) rfl rfl (by exact lt_ok rfl) (show Env.ev E (.tmp 30) = _ from g30.trans rfl) rfl)) ?_
     refine .cons (fun E hA_ => by have g38 := hA_.get 38 (by decide); exact OpStep.plain rfl (Step.move (p := (.one (.d (.bool false)))) (t := 39) rfl rfl (by exact lt_ok rfl) (show Env.ev E (.tmp 38) = _ from g38.trans rfl))) ?_
     refine .cons (fun E hA_ => OpStep.off (t := 39) rfl rfl (lt_ok rfl) ((hA_.get 39 (by decide)).trans rfl) (by decide) rfl (lt_ok rfl)) ?_
     refine .cons (fun E hA_ => OpStep.off (t := 39) rfl rfl (lt_ok rfl) ((hA_.get 39 (by decide)).trans rfl) (by decide) rfl (lt_ok rfl)) ?_
     refine .cons (fun E hA_ => OpStep.off (t := 39) rfl rfl (lt_ok rfl) ((hA_.get 39 (by decide)).trans rfl) (by decide) rfl (lt_ok rfl)) ?_
     refine .cons (fun E hA_ => by have g39 := hA_.get 39 (by decide); have g42 := hA_.get 42 (by decide); exact OpStep.plain rfl (Step.pick (b := false) (p := (.one (.d (.bool false)))) (t := 43) rfl rfl (by exact lt_ok rfl) (show Env.ev E (.tmp 39) = _ from g39.trans rfl) rfl)) ?_
     refine .cons (fun E hA_ => by have g43 := hA_.get 43 (by decide); exact OpStep.plain rfl (Step.assign (p := (.one (.d (.bool false)))) (t := 4) rfl rfl (by exact lt_ok rfl) (show Env.ev E (.tmp 43) = _ from g43.trans rfl))) ?_
     exact .nil _ _
    refine TL.nil ?_
    refine T.ret ?_
    exact ⟨[(false, [.d (.bool false)])], (.cons rfl .nil), rfl, [], (RetC.rd' (by first | rfl | (congr 1; symm; simp only [qcOk, hashes, List.all_cons, List.all_nil, *, Bool.and_true, Bool.true_and, Bool.and_false, Bool.false_and, decide_true, decide_false, and_true, true_and, and_self, and_false, false_and, Bool.and_self, not_true, not_false, Bool.not_true, Bool.not_false, ge_iff_le, gt_iff_lt, if_true, if_false, Bool.false_eq_true, ite_true, ite_false, reduceIte]; done) | (congr 1; symm; simp_all [qcOk, hashes, List.all_cons, List.all_nil]; done) | (congr 1; symm; simp_all [qcOk, hashes, List.all_cons, List.all_nil]; omega)) .nil)⟩
  ·
   refine T.draw [⟨5, (.agg [.d (.int .i64 l.f0), .d (.int .i64 l.f1), .d (.int .i64 l.f2), .d (.int .i64 l.f3), .d (.int .i64 l.f4)]), []⟩, ⟨6, (.one (.d (.bool true))), []⟩, ⟨7, (.one (.d (.bool true))), []⟩, ⟨8, (.one (.ptr 3 0)), []⟩, ⟨9, (.one (.d (.int .i64 q.f0))), []⟩, ⟨10, (.one (.d (.bool false))), []⟩, ⟨11, (.one (.d (.bool false))), []⟩, ⟨12, (.one (.d (.bool false))), []⟩, ⟨13, (.tup []), []⟩, ⟨14, (.tup []), []⟩, ⟨15, (.tup []), []⟩, ⟨16, (.one (.d (.bool false))), []⟩, ⟨17, (.one (.d (.bool false))), []⟩, ⟨18, (.tup []), []⟩, ⟨19, (.tup []), []⟩, ⟨20, (.tup []), []⟩, ⟨21, (.tup []), []⟩, ⟨22, (.one (.d (.bool false))), []⟩, ⟨23, (.one (.d (.bool false))), []⟩, ⟨24, (.tup []), []⟩, ⟨25, (.tup []), []⟩, ⟨26, (.tup []), []⟩, ⟨27, (.tup []), []⟩, ⟨28, (.tup []), []⟩, ⟨29, (.one (.d (.bool false))), []⟩, ⟨30, (.one (.d (.bool false))), []⟩, ⟨31, (.tup []), []⟩, ⟨32, (.tup []), []⟩, ⟨33, (.tup []), []⟩, ⟨34, (.tup []), []⟩, ⟨35, (.tup []), []⟩, ⟨36, (.tup []), []⟩, ⟨37, (.tup []), []⟩, ⟨38, (.one (.d (.bool false))), []⟩, ⟨39, (.one (.d (.bool false))), []⟩, ⟨40, (.tup []), []⟩, ⟨41, (.tup []), []⟩, ⟨42, (.tup []), []⟩, ⟨43, (.one (.d (.bool false))), []⟩, ⟨4, (.one (.d (.bool false))), []⟩] (by kernel_rfl) (by kernel_rfl) ?_ ?_
   ·
    refine .cons (fun E hA_ => by have g2 := hA_.get 2 (by decide); exact OpStep.plain rfl (Step.load_box_agg (n := 5) (qs := [.d (.int .i64 l.f0), .d (.int .i64 l.f1), .d (.int .i64 l.f2), .d (.int .i64 l.f3), .d (.int .i64 l.f4)]) (t := 5) rfl rfl (by exact lt_ok rfl) (by kernel_rfl) (show Env.ev E (.tmp 2) = _ from g2.trans rfl) (by exact hA_.box rfl) rfl rfl)) ?_
    refine .cons (fun E hA_ => by have g5 := hA_.get 5 (by decide); exact OpStep.plain rfl (Step.to (E1 := E.set 6 (.one (.d (.bool (limOk l))))) (congrArg (fun b_ => E.set 6 (.one (.d (.bool b_)))) hb1) (Step.call (f := 135) (xs := [.tmp 5]) (ps := [(.agg [.d (.int .i64 l.f0), .d (.int .i64 l.f1), .d (.int .i64 l.f2), .d (.int .i64 l.f3), .d (.int .i64 l.f4)])]) false (g := .func 135) (t := 6) rfl rfl (by exact lt_ok rfl) rfl (by kernel_rfl) (evs_cons (show Env.ev E (.tmp 5) = _ from g5.trans rfl) (rfl)) (.cons (.agg (.cons (.d _) (.cons (.d _) (.cons (.d _) (.cons (.d _) (.cons (.d _) .nil)))))) .nil) (ok_impl_LimitsOk l) (.inr rfl) (At.freshRows hA_ rfl) (by simp) rfl))) ?_
    refine .cons (fun E hA_ => by have g6 := hA_.get 6 (by decide); exact OpStep.plain rfl (Step.move (p := (.one (.d (.bool true)))) (t := 7) rfl rfl (by exact lt_ok rfl) (show Env.ev E (.tmp 6) = _ from g6.trans rfl))) ?_
    refine .cons (fun E hA_ => by have g3 := hA_.get 3 (by decide); have g7 := hA_.get 7 (by decide); exact OpStep.yes (t := 7) rfl rfl (lt_ok rfl) (g7.trans rfl) (Step.fieldAddr (q := 0) (off := 0) (n := 1) (one := true) (t := 8) rfl rfl (by exact lt_ok rfl) (by kernel_rfl) (Nat.succ_ne_zero _) (show Env.ev E (.tmp 3) = _ from g3.trans rfl))) ?_
    refine .cons (fun E hA_ => by have g7 := hA_.get 7 (by decide); have g8 := hA_.get 8 (by decide); exact OpStep.yes (t := 7) rfl rfl (lt_ok rfl) (g7.trans rfl) (Step.load_box (c := .d (.int .i64 q.f0)) (t := 9) rfl rfl (by exact lt_ok rfl) (by kernel_rfl) (show Env.ev E (.tmp 8) = _ from g8.trans rfl) (by exact hA_.box rfl) rfl)) ?_
    refine .cons (fun E hA_ => by have g7 := hA_.get 7 (by decide); have g9 := hA_.get 9 (by decide); exact OpStep.yes (t := 7) rfl rfl (lt_ok rfl) (g7.trans rfl) (Step.to (E1 := E.set 10 (.one (.d (.bool (decide (0 ≤ q.f0 ∧ q.f0 ≤ 1152921504606846975)))))) (congrArg (fun b_ => E.set 10 (.one (.d (.bool b_)))) hb2) (Step.call (f := 155) (xs := [.tmp 9]) (ps := [(.one (.d (.int .i64 q.f0)))]) false (g := .func 155) (t := 10) rfl rfl (by exact lt_ok rfl) rfl (by kernel_rfl) (evs_cons (show Env.ev E (.tmp 9) = _ from g9.trans rfl) (rfl)) (.cons (.one (.d _)) .nil) (ok_impl_isNum q.f0) (.inr rfl) (At.freshRows hA_ rfl) (by simp) rfl))) ?_
    refine .cons (fun E hA_ => by have g7 := hA_.get 7 (by decide); have g10 := hA_.get 10 (by decide); exact OpStep.plain rfl (Step.pick (b := true) (p := (.one (.d (.bool false)))) (t := 11) rfl rfl (by exact lt_ok rfl) (show Env.ev E (.tmp 7) = _ from g7.trans rfl) (show Env.ev E (.tmp 10) = _ from g10.trans rfl))) ?_
    refine .cons (fun E hA_ => by have g11 := hA_.get 11 (by decide); exact OpStep.plain rfl (Step.move (p := (.one (.d (.bool false)))) (t := 12) rfl rfl (by exact lt_ok rfl) (show Env.ev E (.tmp 11) = _ from g11.trans rfl))) ?_
    refine .cons (fun E hA_ => OpStep.off (t := 12) rfl rfl (lt_ok rfl) ((hA_.get 12 (by decide)).trans rfl) (by decide) rfl (lt_ok rfl)) ?_
    refine .cons (fun E hA_ => OpStep.off (t := 12) rfl rfl (lt_ok rfl) ((hA_.get 12 (by decide)).trans rfl) (by decide) rfl (lt_ok rfl)) ?_
    refine .cons (fun E hA_ => OpStep.off (t := 12) rfl rfl (lt_ok rfl) ((hA_.get 12 (by decide)).trans rfl) (by decide) rfl (lt_ok rfl)) ?_
    refine .cons (fun E hA_ => by have g12 := hA_.get 12 (by decide); have g15 := hA_.get 15 (by decide); exact OpStep.plain rfl (Step.pick (b := false) (p := (.one (.d (.bool false)))) (t := 16) rfl rfl (by exact lt_ok rfl) (show Env.ev E (.tmp 12) = _ from g12.trans rfl) rfl)) ?_
    refine .cons (fun E hA_ => by have g16 := hA_.get 16 (by decide); exact OpStep.plain rfl (Step.move (p := (.one (.d (.bool false)))) (t := 17) rfl rfl (by exact lt_ok rfl) (show Env.ev E (.tmp 16) = _ from g16.trans rfl))) ?_
    refine .cons (fun E hA_ => OpStep.off (t := 17) rfl rfl (lt_ok rfl) ((hA_.get 17 (by decide)).trans rfl) (by decide) rfl (lt_ok rfl)) ?_
    refine .cons (fun E hA_ => OpStep.off (t := 17) rfl rfl (lt_ok rfl) ((hA_.get 17 (by decide)).trans rfl) (by decide) rfl (lt_ok rfl)) ?_
    refine .cons (fun E hA_ => OpStep.off (t := 17) rfl rfl (lt_ok rfl) ((hA_.get 17 (by decide)).trans rfl) (by decide) rfl (lt_ok rfl)) ?_
    refine .cons (fun E hA_ => OpStep.off (t := 17) rfl rfl (lt_ok rfl) ((hA_.get 17 (by decide)).trans rfl) (by decide) rfl (lt_ok rfl)) ?_
    refine .cons (fun E hA_ => by have g17 := hA_.get 17 (by decide); have g21 := hA_.get 21 (by decide); exact OpStep.plain rfl (Step.pick (b := false) (p := (.one (.d (.bool false)))) (t := 22) rfl rfl (by exact lt_ok rfl) (show Env.ev E (.tmp 17) = _ from g17.trans rfl) rfl)) ?_
    refine .cons (fun E hA_ => by have g22 := hA_.get 22 (by decide); exact OpStep.plain rfl (Step.move (p := (.one (.d (.bool false)))) (t := 23) rfl rfl (by exact lt_ok rfl) (show Env.ev E (.tmp 22) = _ from g22.trans rfl))) ?_
    refine .cons (fun E hA_ => OpStep.off (t := 23) rfl rfl (lt_ok rfl) ((hA_.get 23 (by decide)).trans rfl) (by decide) rfl (lt_ok rfl)) ?_
    refine .cons (fun E hA_ => OpStep.off (t := 23) rfl rfl (lt_ok rfl) ((hA_.get 23 (by decide)).trans rfl) (by decide) rfl (lt_ok rfl)) ?_
    refine .cons (fun E hA_ => OpStep.off (t := 23) rfl rfl (lt_ok rfl) ((hA_.get 23 (by decide)).trans rfl) (by decide) rfl (lt_ok rfl)) ?_
    refine .cons (fun E hA_ => OpStep.off (t := 23) rfl rfl (lt_ok rfl) ((hA_.get 23 (by decide)).trans rfl) (by decide) rfl (lt_ok rfl)) ?_
    refine .cons (fun E hA_ => OpStep.off (t := 23) rfl rfl (lt_ok rfl) ((hA_.get 23 (by decide)).trans rfl) (by decide) rfl (lt_ok rfl)) ?_
    refine .cons (fun E hA_ => by have g23 := hA_.get 23 (by decide); have g28 := hA_.get 28 (by decide); exact OpStep.plain rfl (Step.pick (b := false) (p := (.one (.d (.bool false)))) (t := 29) rfl rfl (by exact lt_ok rfl) (show Env.ev E (.tmp 23) = _ from g23.trans rfl) rfl)) ?_
    refine .cons (fun E hA_ => by have g29 := hA_.get 29 (by decide); exact OpStep.plain rfl (Step.move (p := (.one (.d (.bool false)))) (t := 30) rfl rfl (by exact lt_ok rfl) (show Env.ev E (.tmp 29) = _ from g29.trans rfl))) ?_
    refine .cons (fun E hA_ => OpStep.off (t := 30) rfl rfl (lt_ok rfl) ((hA_.get 30 (by decide)).trans rfl) (by decide) rfl (lt_ok rfl)) ?_
    refine .cons (fun E hA_ => OpStep.off (t := 30) rfl rfl (lt_ok rfl) ((hA_.get 30 (by decide)).trans rfl) (by decide) rfl (lt_ok rfl)) ?_
    refine .cons (fun E hA_ => OpStep.off (t := 30) rfl rfl (lt_ok rfl) ((hA_.get 30 (by decide)).trans rfl) (by decide) rfl (lt_ok rfl)) ?_
    refine .cons (fun E hA_ => OpStep.off (t := 30) rfl rfl (lt_ok rfl) ((hA_.get 30 (by decide)).trans rfl) (by decide) rfl (lt_ok rfl)) ?_
    refine .cons (fun E hA_ => OpStep.off (t := 30) rfl rfl (lt_ok rfl) ((hA_.get 30 (by decide)).trans rfl) (by decide) rfl (lt_ok rfl)) ?_
    refine .cons (fun E hA_ => OpStep.off (t := 30) rfl rfl (lt_ok rfl) ((hA_.get 30 (by decide)).trans rfl) (by decide) rfl (lt_ok rfl)) ?_
    refine .cons (fun E hA_ => OpStep.off (t := 30) rfl rfl (lt_ok rfl) ((hA_.get 30 (by decide)).trans rfl) (by decide) rfl (lt_ok rfl)) ?_
    refine .cons (fun E hA_ => by have g30 := hA_.get 30 (by decide); have g37 := hA_.get 37 (by decide); exact OpStep.plain rfl (Step.pick (b := false) (p := (.one (.d (.bool false)))) (t := 38) rfl rfl (by exact lt_ok rfl) (show Env.ev E (.tmp 30) = _ from g30.trans rfl) rfl)) ?_
    refine .cons (fun E hA_ => by have g38 := hA_.get 38 (by decide); exact OpStep.plain rfl (Step.move (p := (.one (.d (.bool false)))) (t := 39) rfl rfl (by exact lt_ok rfl) (show Env.ev E (.tmp 38) = _ from g38.trans rfl))) ?_
    refine .cons (fun E hA_ => OpStep.off (t := 39) rfl rfl (lt_ok rfl) ((hA_.get 39 (by decide)).trans rfl) (by decide) rfl (lt_ok rfl)) ?_
    refine .cons (fun E hA_ => OpStep.off (t := 39) rfl rfl (lt_ok rfl) ((hA_.get 39 (by decide)).trans rfl) (by decide) rfl (lt_ok rfl)) ?_
    refine .cons (fun E hA_ => OpStep.off (t := 39) rfl rfl (lt_ok rfl) ((hA_.get 39 (by decide)).trans rfl) (by decide) rfl (lt_ok rfl)) ?_
    refine .cons (fun E hA_ => by have g39 := hA_.get 39 (by decide); have g42 := hA_.get 42 (by decide); exact OpStep.plain rfl (Step.pick (b := false) (p := (.one (.d (.bool false)))) (t := 43) rfl rfl (by exact lt_ok rfl) (show Env.ev E (.tmp 39) = _ from g39.trans rfl) rfl)) ?_
    refine .cons (fun E hA_ => by have g43 := hA_.get 43 (by decide); exact OpStep.plain rfl (Step.assign (p := (.one (.d (.bool false)))) (t := 4) rfl rfl (by exact lt_ok rfl) (show Env.ev E (.tmp 43) = _ from g43.trans rfl))) ?_
    exact .nil _ _
   refine TL.nil ?_
   refine T.ret ?_
   exact ⟨[(false, [.d (.bool false)])], (.cons rfl .nil), rfl, [], (RetC.rd' (by first | rfl | (congr 1; symm; simp only [qcOk, hashes, List.all_cons, List.all_nil, *, Bool.and_true, Bool.true_and, Bool.and_false, Bool.false_and, decide_true, decide_false, and_true, true_and, and_self, and_false, false_and, Bool.and_self, not_true, not_false, Bool.not_true, Bool.not_false, ge_iff_le, gt_iff_lt, if_true, if_false, Bool.false_eq_true, ite_true, ite_false, reduceIte]; done) | (congr 1; symm; simp_all [qcOk, hashes, List.all_cons, List.all_nil]; done) | (congr 1; symm; simp_all [qcOk, hashes, List.all_cons, List.all_nil]; omega)) .nil)⟩
 ·
  refine T.draw [⟨5, (.agg [.d (.int .i64 l.f0), .d (.int .i64 l.f1), .d (.int .i64 l.f2), .d (.int .i64 l.f3), .d (.int .i64 l.f4)]), []⟩, ⟨6, (.one (.d (.bool false))), []⟩, ⟨7, (.one (.d (.bool false))), []⟩, ⟨8, (.tup []), []⟩, ⟨9, (.tup []), []⟩, ⟨10, (.tup []), []⟩, ⟨11, (.one (.d (.bool false))), []⟩, ⟨12, (.one (.d (.bool false))), []⟩, ⟨13, (.tup []), []⟩, ⟨14, (.tup []), []⟩, ⟨15, (.tup []), []⟩, ⟨16, (.one (.d (.bool false))), []⟩, ⟨17, (.one (.d (.bool false))), []⟩, ⟨18, (.tup []), []⟩, ⟨19, (.tup []), []⟩, ⟨20, (.tup []), []⟩, ⟨21, (.tup []), []⟩, ⟨22, (.one (.d (.bool false))), []⟩, ⟨23, (.one (.d (.bool false))), []⟩, ⟨24, (.tup []), []⟩, ⟨25, (.tup []), []⟩, ⟨26, (.tup []), []⟩, ⟨27, (.tup []), []⟩, ⟨28, (.tup []), []⟩, ⟨29, (.one (.d (.bool false))), []⟩, ⟨30, (.one (.d (.bool false))), []⟩, ⟨31, (.tup []), []⟩, ⟨32, (.tup []), []⟩, ⟨33, (.tup []), []⟩, ⟨34, (.tup []), []⟩, ⟨35, (.tup []), []⟩, ⟨36, (.tup []), []⟩, ⟨37, (.tup []), []⟩, ⟨38, (.one (.d (.bool false))), []⟩, ⟨39, (.one (.d (.bool false))), []⟩, ⟨40, (.tup []), []⟩, ⟨41, (.tup []), []⟩, ⟨42, (.tup []), []⟩, ⟨43, (.one (.d (.bool false))), []⟩, ⟨4, (.one (.d (.bool false))), []⟩] (by kernel_rfl) (by kernel_rfl) ?_ ?_
  ·
   refine .cons (fun E hA_ => by have g2 := hA_.get 2 (by decide); exact OpStep.plain rfl (Step.load_box_agg (n := 5) (qs := [.d (.int .i64 l.f0), .d (.int .i64 l.f1), .d (.int .i64 l.f2), .d (.int .i64 l.f3), .d (.int .i64 l.f4)]) (t := 5) rfl rfl (by exact lt_ok rfl) (by kernel_rfl) (show Env.ev E (.tmp 2) = _ from g2.trans rfl) (by exact hA_.box rfl) rfl rfl)) ?_
   refine .cons (fun E hA_ => by have g5 := hA_.get 5 (by decide); exact OpStep.plain rfl (Step.to (E1 := E.set 6 (.one (.d (.bool (limOk l))))) (congrArg (fun b_ => E.set 6 (.one (.d (.bool b_)))) hb1) (Step.call (f := 135) (xs := [.tmp 5]) (ps := [(.agg [.d (.int .i64 l.f0), .d (.int .i64 l.f1), .d (.int .i64 l.f2), .d (.int .i64 l.f3), .d (.int .i64 l.f4)])]) false (g := .func 135) (t := 6) rfl rfl (by exact lt_ok rfl) rfl (by kernel_rfl) (evs_cons (show Env.ev E (.tmp 5) = _ from g5.trans rfl) (rfl)) (.cons (.agg (.cons (.d _) (.cons (.d _) (.cons (.d _) (.cons (.d _) (.cons (.d _) .nil)))))) .nil) (ok_impl_LimitsOk l) (.inr rfl) (At.freshRows hA_ rfl) (by simp) rfl))) ?_
   refine .cons (fun E hA_ => by have g6 := hA_.get 6 (by decide); exact OpStep.plain rfl (Step.move (p := (.one (.d (.bool false)))) (t := 7) rfl rfl (by exact lt_ok rfl) (show Env.ev E (.tmp 6) = _ from g6.trans rfl))) ?_
   refine .cons (fun E hA_ => OpStep.off (t := 7) rfl rfl (lt_ok rfl) ((hA_.get 7 (by decide)).trans rfl) (by decide) rfl (lt_ok rfl)) ?_
   refine .cons (fun E hA_ => OpStep.off (t := 7) rfl rfl (lt_ok rfl) ((hA_.get 7 (by decide)).trans rfl) (by decide) rfl (lt_ok rfl)) ?_
   refine .cons (fun E hA_ => OpStep.off (t := 7) rfl rfl (lt_ok rfl) ((hA_.get 7 (by decide)).trans rfl) (by decide) rfl (lt_ok rfl)) ?_
   refine .cons (fun E hA_ => by have g7 := hA_.get 7 (by decide); have g10 := hA_.get 10 (by decide); exact OpStep.plain rfl (Step.pick (b := false) (p := (.one (.d (.bool false)))) (t := 11) rfl rfl (by exact lt_ok rfl) (show Env.ev E (.tmp 7) = _ from g7.trans rfl) rfl)) ?_
   refine .cons (fun E hA_ => by have g11 := hA_.get 11 (by decide); exact OpStep.plain rfl (Step.move (p := (.one (.d (.bool false)))) (t := 12) rfl rfl (by exact lt_ok rfl) (show Env.ev E (.tmp 11) = _ from g11.trans rfl))) ?_
   refine .cons (fun E hA_ => OpStep.off (t := 12) rfl rfl (lt_ok rfl) ((hA_.get 12 (by decide)).trans rfl) (by decide) rfl (lt_ok rfl)) ?_
   refine .cons (fun E hA_ => OpStep.off (t := 12) rfl rfl (lt_ok rfl) ((hA_.get 12 (by decide)).trans rfl) (by decide) rfl (lt_ok rfl)) ?_
   refine .cons (fun E hA_ => OpStep.off (t := 12) rfl rfl (lt_ok rfl) ((hA_.get 12 (by decide)).trans rfl) (by decide) rfl (lt_ok rfl)) ?_
   refine .cons (fun E hA_ => by have g12 := hA_.get 12 (by decide); have g15 := hA_.get 15 (by decide); exact OpStep.plain rfl (Step.pick (b := false) (p := (.one (.d (.bool false)))) (t := 16) rfl rfl (by exact lt_ok rfl) (show Env.ev E (.tmp 12) = _ from g12.trans rfl) rfl)) ?_
   refine .cons (fun E hA_ => by have g16 := hA_.get 16 (by decide); exact OpStep.plain rfl (Step.move (p := (.one (.d (.bool false)))) (t := 17) rfl rfl (by exact lt_ok rfl) (show Env.ev E (.tmp 16) = _ from g16.trans rfl))) ?_
   refine .cons (fun E hA_ => OpStep.off (t := 17) rfl rfl (lt_ok rfl) ((hA_.get 17 (by decide)).trans rfl) (by decide) rfl (lt_ok rfl)) ?_
   refine .cons (fun E hA_ => OpStep.off (t := 17) rfl rfl (lt_ok rfl) ((hA_.get 17 (by decide)).trans rfl) (by decide) rfl (lt_ok rfl)) ?_
   refine .cons (fun E hA_ => OpStep.off (t := 17) rfl rfl (lt_ok rfl) ((hA_.get 17 (by decide)).trans rfl) (by decide) rfl (lt_ok rfl)) ?_
   refine .cons (fun E hA_ => OpStep.off (t := 17) rfl rfl (lt_ok rfl) ((hA_.get 17 (by decide)).trans rfl) (by decide) rfl (lt_ok rfl)) ?_
   refine .cons (fun E hA_ => by have g17 := hA_.get 17 (by decide); have g21 := hA_.get 21 (by decide); exact OpStep.plain rfl (Step.pick (b := false) (p := (.one (.d (.bool false)))) (t := 22) rfl rfl (by exact lt_ok rfl) (show Env.ev E (.tmp 17) = _ from g17.trans rfl) rfl)) ?_
   refine .cons (fun E hA_ => by have g22 := hA_.get 22 (by decide); exact OpStep.plain rfl (Step.move (p := (.one (.d (.bool false)))) (t := 23) rfl rfl (by exact lt_ok rfl) (show Env.ev E (.tmp 22) = _ from g22.trans rfl))) ?_
   refine .cons (fun E hA_ => OpStep.off (t := 23) rfl rfl (lt_ok rfl) ((hA_.get 23 (by decide)).trans rfl) (by decide) rfl (lt_ok rfl)) ?_
   refine .cons (fun E hA_ => OpStep.off (t := 23) rfl rfl (lt_ok rfl) ((hA_.get 23 (by decide)).trans rfl) (by decide) rfl (lt_ok rfl)) ?_
   refine .cons (fun E hA_ => OpStep.off (t := 23) rfl rfl (lt_ok rfl) ((hA_.get 23 (by decide)).trans rfl) (by decide) rfl (lt_ok rfl)) ?_
   refine .cons (fun E hA_ => OpStep.off (t := 23) rfl rfl (lt_ok rfl) ((hA_.get 23 (by decide)).trans rfl) (by decide) rfl (lt_ok rfl)) ?_
   refine .cons (fun E hA_ => OpStep.off (t := 23) rfl rfl (lt_ok rfl) ((hA_.get 23 (by decide)).trans rfl) (by decide) rfl (lt_ok rfl)) ?_
   refine .cons (fun E hA_ => by have g23 := hA_.get 23 (by decide); have g28 := hA_.get 28 (by decide); exact OpStep.plain rfl (Step.pick (b := false) (p := (.one (.d (.bool false)))) (t := 29) rfl rfl (by exact lt_ok rfl) (show Env.ev E (.tmp 23) = _ from g23.trans rfl) rfl)) ?_
   refine .cons (fun E hA_ => by have g29 := hA_.get 29 (by decide); exact OpStep.plain rfl (Step.move (p := (.one (.d (.bool false)))) (t := 30) rfl rfl (by exact lt_ok rfl) (show Env.ev E (.tmp 29) = _ from g29.trans rfl))) ?_
   refine .cons (fun E hA_ => OpStep.off (t := 30) rfl rfl (lt_ok rfl) ((hA_.get 30 (by decide)).trans rfl) (by decide) rfl (lt_ok rfl)) ?_
   refine .cons (fun E hA_ => OpStep.off (t := 30) rfl rfl (lt_ok rfl) ((hA_.get 30 (by decide)).trans rfl) (by decide) rfl (lt_ok rfl)) ?_
   refine .cons (fun E hA_ => OpStep.off (t := 30) rfl rfl (lt_ok rfl) ((hA_.get 30 (by decide)).trans rfl) (by decide) rfl (lt_ok rfl)) ?_
   refine .cons (fun E hA_ => OpStep.off (t := 30) rfl rfl (lt_ok rfl) ((hA_.get 30 (by decide)).trans rfl) (by decide) rfl (lt_ok rfl)) ?_
   refine .cons (fun E hA_ => OpStep.off (t := 30) rfl rfl (lt_ok rfl) ((hA_.get 30 (by decide)).trans rfl) (by decide) rfl (lt_ok rfl)) ?_
   refine .cons (fun E hA_ => OpStep.off (t := 30) rfl rfl (lt_ok rfl) ((hA_.get 30 (by decide)).trans rfl) (by decide) rfl (lt_ok rfl)) ?_
   refine .cons (fun E hA_ => OpStep.off (t := 30) rfl rfl (lt_ok rfl) ((hA_.get 30 (by decide)).trans rfl) (by decide) rfl (lt_ok rfl)) ?_
   refine .cons (fun E hA_ => by have g30 := hA_.get 30 (by decide); have g37 := hA_.get 37 (by decide); exact OpStep.plain rfl (Step.pick (b := false) (p := (.one (.d (.bool false)))) (t := 38) rfl rfl (by exact lt_ok rfl) (show Env.ev E (.tmp 30) = _ from g30.trans rfl) rfl)) ?_
   refine .cons (fun E hA_ => by have g38 := hA_.get 38 (by decide); exact OpStep.plain rfl (Step.move (p := (.one (.d (.bool false)))) (t := 39) rfl rfl (by exact lt_ok rfl) (show Env.ev E (.tmp 38) = _ from g38.trans rfl))) ?_
   refine .cons (fun E hA_ => OpStep.off (t := 39) rfl rfl (lt_ok rfl) ((hA_.get 39 (by decide)).trans rfl) (by decide) rfl (lt_ok rfl)) ?_
   refine .cons (fun E hA_ => OpStep.off (t := 39) rfl rfl (lt_ok rfl) ((hA_.get 39 (by decide)).trans rfl) (by decide) rfl (lt_ok rfl)) ?_
   refine .cons (fun E hA_ => OpStep.off (t := 39) rfl rfl (lt_ok rfl) ((hA_.get 39 (by decide)).trans rfl) (by decide) rfl (lt_ok rfl)) ?_
   refine .cons (fun E hA_ => by have g39 := hA_.get 39 (by decide); have g42 := hA_.get 42 (by decide); exact OpStep.plain rfl (Step.pick (b := false) (p := (.one (.d (.bool false)))) (t := 43) rfl rfl (by exact lt_ok rfl) (show Env.ev E (.tmp 39) = _ from g39.trans rfl) rfl)) ?_
   refine .cons (fun E hA_ => by have g43 := hA_.get 43 (by decide); exact OpStep.plain rfl (Step.assign (p := (.one (.d (.bool false)))) (t := 4) rfl rfl (by exact lt_ok rfl) (show Env.ev E (.tmp 43) = _ from g43.trans rfl))) ?_
   exact .nil _ _
  refine TL.nil ?_
  refine T.ret ?_
  exact ⟨[(false, [.d (.bool false)])], (.cons rfl .nil), rfl, [], (RetC.rd' (by first | rfl | (congr 1; symm; simp only [qcOk, hashes, List.all_cons, List.all_nil, *, Bool.and_true, Bool.true_and, Bool.and_false, Bool.false_and, decide_true, decide_false, and_true, true_and, and_self, and_false, false_and, Bool.and_self, not_true, not_false, Bool.not_true, Bool.not_false, ge_iff_le, gt_iff_lt, if_true, if_false, Bool.false_eq_true, ite_true, ite_false, reduceIte]; done) | (congr 1; symm; simp_all [qcOk, hashes, List.all_cons, List.all_nil]; done) | (congr 1; symm; simp_all [qcOk, hashes, List.all_cons, List.all_nil]; omega)) .nil)⟩
theorem ok_impl_SameBytes (a : List Int) (b : List Int) (h0_ : U8s a) (h1_ : U8s b) : RO Try.prog 107 [.one (.ints .u8 a), .one (.ints .u8 b)] [(false, [.rd (.bool (decide (a = b)))])] := by
 refine RO.intro Try.func107 rfl 10 rfl (le_ok rfl) fun w Z => ?_
 refine T.bnd 0 0 rfl rfl fun hb_0_0 => ?_
 simp only [D.size, List.length_map] at hb_0_0
 refine T.bnd 1 0 rfl rfl fun hb_1_0 => ?_
 simp only [D.size, List.length_map] at hb_1_0
 refine T.seq ?_
 refine T.region ?_
 refine TL.cons rfl (Step.assign (p := (.one (.d (.bool false)))) rfl rfl (lt_ok rfl) rfl) ?_
 refine TL.nil ?_
 refine T.seq ?_
 refine T.region ?_
 refine TL.cons rfl (Step.move (p := (.one (.d (.ints .u8 a)))) rfl rfl (lt_ok rfl) rfl) ?_
 refine TL.cons rfl (Step.toStr (e := 5) (xs := a) rfl rfl (lt_ok rfl) (by kernel_rfl) (by kernel_rfl) (by kernel_rfl) rfl rfl) ?_
 refine TL.cons rfl (Step.move (p := (.one (.d (.ints .u8 b)))) rfl rfl (lt_ok rfl) rfl) ?_
 refine TL.cons rfl (Step.toStr (e := 5) (xs := b) rfl rfl (lt_ok rfl) (by kernel_rfl) (by kernel_rfl) (by kernel_rfl) rfl rfl) ?_
 refine TL.cons rfl (Step.bin rfl rfl (lt_ok rfl) rfl rfl Bin.streq) ?_
 refine TL.cons rfl (Step.assign (p := (.one (.d (.bool ((strOfNums a).toList == (strOfNums b).toList))))) rfl rfl (lt_ok rfl) rfl) ?_
 refine TL.nil ?_
 refine T.ret ?_
 exact ⟨[(false, [.d (.bool ((strOfNums a).toList == (strOfNums b).toList))])], (.cons rfl .nil), rfl, [], (RetC.rd' (by exact congrArg D.bool (str_eq h0_ h1_)) .nil)⟩
theorem ok_impl_Head__matches (h : SHead) (h0_ : h.ok) : RO Try.prog 144 [.agg h.cells] [(false, [.rd (.bool (headFits h))])] := by
 refine RO.intro Try.func144 rfl 26 rfl (le_ok rfl) fun w Z => ?_
 obtain ⟨o0, o1, o2, o3, o4, o5, o6, o7, o8, o9⟩ := h0_
 refine T.seq ?_
 refine T.region ?_
 refine TL.cons rfl (Step.box (p := (.agg [.d (.int .i64 h.f0), .d (.int .i64 h.f1), .d (.int .i64 h.f2), .d (.ints .u8 h.f3), .d (.ints .u8 h.f4), .d (.int .i64 h.f5.f0), .d (.int .i64 h.f5.f1), .d (.ints .u8 h.f5.f2), .d (.ints .u8 h.f5.f3), .d (.bss h.f5.f4)])) (ps := [.d (.int .i64 h.f0), .d (.int .i64 h.f1), .d (.int .i64 h.f2), .d (.ints .u8 h.f3), .d (.ints .u8 h.f4), .d (.int .i64 h.f5.f0), .d (.int .i64 h.f5.f1), .d (.ints .u8 h.f5.f2), .d (.ints .u8 h.f5.f3), .d (.bss h.f5.f4)]) rfl rfl (lt_ok rfl) rfl rfl rfl rfl rfl) ?_
 refine TL.cons rfl (Step.assign (p := (.one (.d (.bool false)))) rfl rfl (lt_ok rfl) rfl) ?_
 refine TL.nil ?_
 refine T.seq ?_
 refine T.region ?_
 refine TL.cons rfl (Step.fieldAddr (q := 0) (off := 5) (n := 5) (one := false) rfl rfl (lt_ok rfl) (by kernel_rfl) (Nat.succ_ne_zero _) rfl) ?_
 refine TL.cons rfl (Step.fieldAddr (q := 5) (off := 0) (n := 1) (one := true) rfl rfl (lt_ok rfl) (by kernel_rfl) (Nat.succ_ne_zero _) rfl) ?_
 refine TL.cons rfl (Step.load_box (c := .d (.int .i64 h.f5.f0)) rfl rfl (lt_ok rfl) (by kernel_rfl) rfl rfl rfl) ?_
 refine TL.cons rfl (Step.fieldAddr (q := 0) (off := 0) (n := 1) (one := true) rfl rfl (lt_ok rfl) (by kernel_rfl) (Nat.succ_ne_zero _) rfl) ?_
 refine TL.cons rfl (Step.load_box (c := .d (.int .i64 h.f0)) rfl rfl (lt_ok rfl) (by kernel_rfl) rfl rfl rfl) ?_
 refine TL.cons rfl (Step.bin rfl rfl (lt_ok rfl) rfl rfl (Bin.lss (k := .i64) (a := h.f5.f0) (b := h.f0))) ?_
 refine TL.cons rfl (Step.move (p := (.one (.d (.bool (decide (h.f5.f0 < h.f0)))))) rfl rfl (lt_ok rfl) rfl) ?_
 rcases Bool.eq_false_or_eq_true (decide (h.f5.f0 < h.f0)) with hb1 | hb1
 ·
  refine TL.known 9 hb1 rfl ?_
  refine TL.gyes 9 rfl rfl (lt_ok rfl) rfl (Step.fieldAddr (q := 0) (off := 5) (n := 5) (one := false) rfl rfl (lt_ok rfl) (by kernel_rfl) (Nat.succ_ne_zero _) rfl) ?_
  refine TL.gyes 9 rfl rfl (lt_ok rfl) rfl (Step.fieldAddr (q := 5) (off := 1) (n := 1) (one := true) rfl rfl (lt_ok rfl) (by kernel_rfl) (Nat.succ_ne_zero _) rfl) ?_
  refine TL.gyes 9 rfl rfl (lt_ok rfl) rfl (Step.load_box (c := .d (.int .i64 h.f5.f1)) rfl rfl (lt_ok rfl) (by kernel_rfl) rfl rfl rfl) ?_
  refine TL.gyes 9 rfl rfl (lt_ok rfl) rfl (Step.fieldAddr (q := 0) (off := 1) (n := 1) (one := true) rfl rfl (lt_ok rfl) (by kernel_rfl) (Nat.succ_ne_zero _) rfl) ?_
  refine TL.gyes 9 rfl rfl (lt_ok rfl) rfl (Step.load_box (c := .d (.int .i64 h.f1)) rfl rfl (lt_ok rfl) (by kernel_rfl) rfl rfl rfl) ?_
  refine TL.gyes 9 rfl rfl (lt_ok rfl) rfl (Step.bin (r := .int .i64 (IntKind.i64.wrap (h.f1 - 1))) rfl rfl (lt_ok rfl) rfl rfl (Bin.sub (a := h.f1) (b := 1) (rfl))) ?_
  refine TL.gyes 9 rfl rfl (lt_ok rfl) rfl (Step.bin rfl rfl (lt_ok rfl) rfl rfl (Bin.eql (k := .i64) (a := h.f5.f1) (b := (IntKind.i64.wrap (h.f1 - 1))))) ?_
  refine TL.cons rfl (Step.pick (b := true) (p := (.one (.d (.bool (decide (h.f5.f1 = (IntKind.i64.wrap (h.f1 - 1)))))))) rfl rfl (lt_ok rfl) rfl rfl) ?_
  refine TL.cons rfl (Step.move (p := (.one (.d (.bool (decide (h.f5.f1 = (IntKind.i64.wrap (h.f1 - 1)))))))) rfl rfl (lt_ok rfl) rfl) ?_
  rcases Bool.eq_false_or_eq_true (decide (h.f5.f1 = (IntKind.i64.wrap (h.f1 - 1)))) with hb2 | hb2
  ·
   refine TL.known 18 hb2 rfl ?_
   refine TL.gyes 18 rfl rfl (lt_ok rfl) rfl (Step.fieldAddr (q := 0) (off := 5) (n := 5) (one := false) rfl rfl (lt_ok rfl) (by kernel_rfl) (Nat.succ_ne_zero _) rfl) ?_
   refine TL.gyes 18 rfl rfl (lt_ok rfl) rfl (Step.fieldAddr (q := 5) (off := 2) (n := 1) (one := true) rfl rfl (lt_ok rfl) (by kernel_rfl) (Nat.succ_ne_zero _) rfl) ?_
   refine TL.gyes 18 rfl rfl (lt_ok rfl) rfl (Step.load_box (c := .d (.ints .u8 h.f5.f2)) rfl rfl (lt_ok rfl) (by kernel_rfl) rfl rfl rfl) ?_
   refine TL.gyes 18 rfl rfl (lt_ok rfl) rfl (Step.fieldAddr (q := 0) (off := 3) (n := 1) (one := true) rfl rfl (lt_ok rfl) (by kernel_rfl) (Nat.succ_ne_zero _) rfl) ?_
   refine TL.gyes 18 rfl rfl (lt_ok rfl) rfl (Step.load_box (c := .d (.ints .u8 h.f3)) rfl rfl (lt_ok rfl) (by kernel_rfl) rfl rfl rfl) ?_
   refine TL.gyes 18 rfl rfl (lt_ok rfl) rfl (Step.call (f := 107) (xs := [.tmp 21, .tmp 23]) (ps := [(.one (.d (.ints .u8 h.f5.f2))), (.one (.d (.ints .u8 h.f3)))]) false (g := .func 107) rfl rfl (lt_ok rfl) rfl (by kernel_rfl) rfl (.cons (.one (.d _)) (.cons (.one (.d _)) .nil)) (ok_impl_SameBytes h.f5.f2 h.f3 (by first | assumption | omega) (by first | assumption | omega)) (.inr rfl) rfl (by simp) rfl) ?_
   refine TL.cons rfl (Step.pick (b := true) (p := (.one (.d (.bool (decide (h.f5.f2 = h.f3)))))) rfl rfl (lt_ok rfl) rfl rfl) ?_
   refine TL.cons rfl (Step.assign (p := (.one (.d (.bool (decide (h.f5.f2 = h.f3)))))) rfl rfl (lt_ok rfl) rfl) ?_
   refine TL.nil ?_
   refine T.ret ?_
   exact ⟨[(false, [.d (.bool (decide (h.f5.f2 = h.f3)))])], (.cons rfl .nil), rfl, [], (RetC.rd' (by first | rfl | (congr 1; symm; simp only [headFits, *, Bool.and_true, Bool.true_and, Bool.and_false, Bool.false_and, decide_true, decide_false, and_true, true_and, and_self, and_false, false_and, Bool.and_self, not_true, not_false, Bool.not_true, Bool.not_false, ge_iff_le, gt_iff_lt, if_true, if_false, Bool.false_eq_true, ite_true, ite_false, reduceIte]; done) | (congr 1; symm; simp_all [headFits]; done) | (congr 1; symm; simp_all [headFits]; omega)) .nil)⟩
  ·
   refine TL.known 18 hb2 rfl ?_
   refine TL.goff 18 rfl rfl (lt_ok rfl) rfl rfl rfl (lt_ok rfl) ?_
   refine TL.goff 18 rfl rfl (lt_ok rfl) rfl rfl rfl (lt_ok rfl) ?_
   refine TL.goff 18 rfl rfl (lt_ok rfl) rfl rfl rfl (lt_ok rfl) ?_
   refine TL.goff 18 rfl rfl (lt_ok rfl) rfl rfl rfl (lt_ok rfl) ?_
   refine TL.goff 18 rfl rfl (lt_ok rfl) rfl rfl rfl (lt_ok rfl) ?_
   refine TL.goff 18 rfl rfl (lt_ok rfl) rfl rfl rfl (lt_ok rfl) ?_
   refine TL.cons rfl (Step.pick (b := false) (p := (.one (.d (.bool false)))) rfl rfl (lt_ok rfl) rfl rfl) ?_
   refine TL.cons rfl (Step.assign (p := (.one (.d (.bool false)))) rfl rfl (lt_ok rfl) rfl) ?_
   refine TL.nil ?_
   refine T.ret ?_
   exact ⟨[(false, [.d (.bool false)])], (.cons rfl .nil), rfl, [], (RetC.rd' (by first | rfl | (congr 1; symm; simp only [headFits, *, Bool.and_true, Bool.true_and, Bool.and_false, Bool.false_and, decide_true, decide_false, and_true, true_and, and_self, and_false, false_and, Bool.and_self, not_true, not_false, Bool.not_true, Bool.not_false, ge_iff_le, gt_iff_lt, if_true, if_false, Bool.false_eq_true, ite_true, ite_false, reduceIte]; done) | (congr 1; symm; simp_all [headFits]; done) | (congr 1; symm; simp_all [headFits]; omega)) .nil)⟩
 ·
  refine TL.known 9 hb1 rfl ?_
  refine TL.goff 9 rfl rfl (lt_ok rfl) rfl rfl rfl (lt_ok rfl) ?_
  refine TL.goff 9 rfl rfl (lt_ok rfl) rfl rfl rfl (lt_ok rfl) ?_
  refine TL.goff 9 rfl rfl (lt_ok rfl) rfl rfl rfl (lt_ok rfl) ?_
  refine TL.goff 9 rfl rfl (lt_ok rfl) rfl rfl rfl (lt_ok rfl) ?_
  refine TL.goff 9 rfl rfl (lt_ok rfl) rfl rfl rfl (lt_ok rfl) ?_
  refine TL.goff 9 rfl rfl (lt_ok rfl) rfl rfl rfl (lt_ok rfl) ?_
  refine TL.goff 9 rfl rfl (lt_ok rfl) rfl rfl rfl (lt_ok rfl) ?_
  refine TL.cons rfl (Step.pick (b := false) (p := (.one (.d (.bool false)))) rfl rfl (lt_ok rfl) rfl rfl) ?_
  refine TL.cons rfl (Step.move (p := (.one (.d (.bool false)))) rfl rfl (lt_ok rfl) rfl) ?_
  refine TL.goff 18 rfl rfl (lt_ok rfl) rfl rfl rfl (lt_ok rfl) ?_
  refine TL.goff 18 rfl rfl (lt_ok rfl) rfl rfl rfl (lt_ok rfl) ?_
  refine TL.goff 18 rfl rfl (lt_ok rfl) rfl rfl rfl (lt_ok rfl) ?_
  refine TL.goff 18 rfl rfl (lt_ok rfl) rfl rfl rfl (lt_ok rfl) ?_
  refine TL.goff 18 rfl rfl (lt_ok rfl) rfl rfl rfl (lt_ok rfl) ?_
  refine TL.goff 18 rfl rfl (lt_ok rfl) rfl rfl rfl (lt_ok rfl) ?_
  refine TL.cons rfl (Step.pick (b := false) (p := (.one (.d (.bool false)))) rfl rfl (lt_ok rfl) rfl rfl) ?_
  refine TL.cons rfl (Step.assign (p := (.one (.d (.bool false)))) rfl rfl (lt_ok rfl) rfl) ?_
  refine TL.nil ?_
  refine T.ret ?_
  exact ⟨[(false, [.d (.bool false)])], (.cons rfl .nil), rfl, [], (RetC.rd' (by first | rfl | (congr 1; symm; simp only [headFits, *, Bool.and_true, Bool.true_and, Bool.and_false, Bool.false_and, decide_true, decide_false, and_true, true_and, and_self, and_false, false_and, Bool.and_self, not_true, not_false, Bool.not_true, Bool.not_false, ge_iff_le, gt_iff_lt, if_true, if_false, Bool.false_eq_true, ite_true, ite_false, reduceIte]; done) | (congr 1; symm; simp_all [headFits]; done) | (congr 1; symm; simp_all [headFits]; omega)) .nil)⟩
theorem ok_impl_HeadOk (l : SLimits) (h : SHead) (h0_ : h.ok) (h1_ : h.sm) : RO Try.prog 106 [.agg l.cells, .agg h.cells] [(false, [.rd (.bool (headOk l h))])] := by
 refine RO.intro Try.func106 rfl 39 rfl (le_ok rfl) fun w Z => ?_
 have hok_ := h0_
 have hsm_ := h1_
 obtain ⟨o0, o1, o2, o3, o4, o5⟩ := h0_
 obtain ⟨s0, s1, s2⟩ := h1_
 refine T.seq ?_
 refine T.region ?_
 refine TL.cons rfl (Step.box (p := (.agg [.d (.int .i64 l.f0), .d (.int .i64 l.f1), .d (.int .i64 l.f2), .d (.int .i64 l.f3), .d (.int .i64 l.f4)])) (ps := [.d (.int .i64 l.f0), .d (.int .i64 l.f1), .d (.int .i64 l.f2), .d (.int .i64 l.f3), .d (.int .i64 l.f4)]) rfl rfl (lt_ok rfl) rfl rfl rfl rfl rfl) ?_
 refine TL.cons rfl (Step.box (p := (.agg [.d (.int .i64 h.f0), .d (.int .i64 h.f1), .d (.int .i64 h.f2), .d (.ints .u8 h.f3), .d (.ints .u8 h.f4), .d (.int .i64 h.f5.f0), .d (.int .i64 h.f5.f1), .d (.ints .u8 h.f5.f2), .d (.ints .u8 h.f5.f3), .d (.bss h.f5.f4)])) (ps := [.d (.int .i64 h.f0), .d (.int .i64 h.f1), .d (.int .i64 h.f2), .d (.ints .u8 h.f3), .d (.ints .u8 h.f4), .d (.int .i64 h.f5.f0), .d (.int .i64 h.f5.f1), .d (.ints .u8 h.f5.f2), .d (.ints .u8 h.f5.f3), .d (.bss h.f5.f4)]) rfl rfl (lt_ok rfl) rfl rfl rfl rfl rfl) ?_
 refine TL.cons rfl (Step.assign (p := (.one (.d (.bool false)))) rfl rfl (lt_ok rfl) rfl) ?_
 refine TL.nil ?_
 refine T.seq ?_
 refine T.region ?_
 refine TL.cons rfl (Step.load_box_agg (n := 5) (qs := [.d (.int .i64 l.f0), .d (.int .i64 l.f1), .d (.int .i64 l.f2), .d (.int .i64 l.f3), .d (.int .i64 l.f4)]) rfl rfl (lt_ok rfl) (by kernel_rfl) rfl rfl rfl rfl) ?_
 refine TL.cons rfl (Step.fieldAddr (q := 0) (off := 5) (n := 5) (one := false) rfl rfl (lt_ok rfl) (by kernel_rfl) (Nat.succ_ne_zero _) rfl) ?_
 refine TL.cons rfl (Step.load_box_agg (n := 5) (qs := [.d (.int .i64 h.f5.f0), .d (.int .i64 h.f5.f1), .d (.ints .u8 h.f5.f2), .d (.ints .u8 h.f5.f3), .d (.bss h.f5.f4)]) rfl rfl (lt_ok rfl) (by kernel_rfl) rfl rfl rfl rfl) ?_
 refine TL.cons rfl (Step.call (f := 127) (xs := [.tmp 5, .tmp 7]) (ps := [(.agg [.d (.int .i64 l.f0), .d (.int .i64 l.f1), .d (.int .i64 l.f2), .d (.int .i64 l.f3), .d (.int .i64 l.f4)]), (.agg [.d (.int .i64 h.f5.f0), .d (.int .i64 h.f5.f1), .d (.ints .u8 h.f5.f2), .d (.ints .u8 h.f5.f3), .d (.bss h.f5.f4)])]) false (g := .func 127) rfl rfl (lt_ok rfl) rfl (by kernel_rfl) rfl (.cons (.agg (.cons (.d _) (.cons (.d _) (.cons (.d _) (.cons (.d _) (.cons (.d _) .nil)))))) (.cons (.agg (.cons (.d _) (.cons (.d _) (.cons (.d _) (.cons (.d _) (.cons (.d _) .nil)))))) .nil)) (ok_impl_QcOk l h.f5 (by assumption) (by assumption)) (.inr rfl) rfl (by simp) rfl) ?_
 refine TL.cons rfl (Step.move (p := (.one (.d (.bool (qcOk l h.f5))))) rfl rfl (lt_ok rfl) rfl) ?_
 rcases Bool.eq_false_or_eq_true (qcOk l h.f5) with hb1 | hb1
 ·
  refine TL.known 9 hb1 rfl ?_
  refine TL.gyes 9 rfl rfl (lt_ok rfl) rfl (Step.fieldAddr (q := 0) (off := 0) (n := 1) (one := true) rfl rfl (lt_ok rfl) (by kernel_rfl) (Nat.succ_ne_zero _) rfl) ?_
  refine TL.gyes 9 rfl rfl (lt_ok rfl) rfl (Step.load_box (c := .d (.int .i64 h.f0)) rfl rfl (lt_ok rfl) (by kernel_rfl) rfl rfl rfl) ?_
  refine TL.gyes 9 rfl rfl (lt_ok rfl) rfl (Step.call (f := 155) (xs := [.tmp 11]) (ps := [(.one (.d (.int .i64 h.f0)))]) false (g := .func 155) rfl rfl (lt_ok rfl) rfl (by kernel_rfl) rfl (.cons (.one (.d _)) .nil) (ok_impl_isNum h.f0) (.inr rfl) rfl (by simp) rfl) ?_
  refine TL.cons rfl (Step.pick (b := true) (p := (.one (.d (.bool (decide (0 ≤ h.f0 ∧ h.f0 ≤ 1152921504606846975)))))) rfl rfl (lt_ok rfl) rfl rfl) ?_
  refine TL.cons rfl (Step.move (p := (.one (.d (.bool (decide (0 ≤ h.f0 ∧ h.f0 ≤ 1152921504606846975)))))) rfl rfl (lt_ok rfl) rfl) ?_
  rcases Bool.eq_false_or_eq_true (decide (0 ≤ h.f0 ∧ h.f0 ≤ 1152921504606846975)) with hb2 | hb2
  ·
   refine TL.known 14 hb2 rfl ?_
   refine TL.gyes 14 rfl rfl (lt_ok rfl) rfl (Step.fieldAddr (q := 0) (off := 1) (n := 1) (one := true) rfl rfl (lt_ok rfl) (by kernel_rfl) (Nat.succ_ne_zero _) rfl) ?_
   refine TL.gyes 14 rfl rfl (lt_ok rfl) rfl (Step.load_box (c := .d (.int .i64 h.f1)) rfl rfl (lt_ok rfl) (by kernel_rfl) rfl rfl rfl) ?_
   refine TL.gyes 14 rfl rfl (lt_ok rfl) rfl (Step.call (f := 117) (xs := [.tmp 16, .const (.int .i64 1), .const (.int .i64 1152921504606846975)]) (ps := [(.one (.d (.int .i64 h.f1))), (.one (.d (.int .i64 1))), (.one (.d (.int .i64 1152921504606846975)))]) false (g := .func 117) rfl rfl (lt_ok rfl) rfl (by kernel_rfl) rfl (.cons (.one (.d _)) (.cons (.one (.d _)) (.cons (.one (.d _)) .nil))) (ok_impl_within h.f1 1 1152921504606846975) (.inr rfl) rfl (by simp) rfl) ?_
   refine TL.cons rfl (Step.pick (b := true) (p := (.one (.d (.bool (decide (1 ≤ h.f1 ∧ h.f1 ≤ 1152921504606846975)))))) rfl rfl (lt_ok rfl) rfl rfl) ?_
   refine TL.cons rfl (Step.move (p := (.one (.d (.bool (decide (1 ≤ h.f1 ∧ h.f1 ≤ 1152921504606846975)))))) rfl rfl (lt_ok rfl) rfl) ?_
   rcases Bool.eq_false_or_eq_true (decide (1 ≤ h.f1 ∧ h.f1 ≤ 1152921504606846975)) with hb3 | hb3
   ·
    refine TL.known 19 hb3 rfl ?_
    refine TL.gyes 19 rfl rfl (lt_ok rfl) rfl (Step.fieldAddr (q := 0) (off := 2) (n := 1) (one := true) rfl rfl (lt_ok rfl) (by kernel_rfl) (Nat.succ_ne_zero _) rfl) ?_
    refine TL.gyes 19 rfl rfl (lt_ok rfl) rfl (Step.load_box (c := .d (.int .i64 h.f2)) rfl rfl (lt_ok rfl) (by kernel_rfl) rfl rfl rfl) ?_
    refine TL.gyes 19 rfl rfl (lt_ok rfl) rfl (Step.fieldAddr (q := 0) (off := 0) (n := 1) (one := true) rfl rfl (lt_ok rfl) (by kernel_rfl) (Nat.succ_ne_zero _) rfl) ?_
    refine TL.gyes 19 rfl rfl (lt_ok rfl) rfl (Step.load_box (c := .d (.int .i64 l.f0)) rfl rfl (lt_ok rfl) (by kernel_rfl) rfl rfl rfl) ?_
    refine TL.gyes 19 rfl rfl (lt_ok rfl) rfl (Step.bin (r := .int .i64 (IntKind.i64.wrap (l.f0 - 1))) rfl rfl (lt_ok rfl) rfl rfl (Bin.sub (a := l.f0) (b := 1) (rfl))) ?_
    refine TL.gyes 19 rfl rfl (lt_ok rfl) rfl (Step.call (f := 117) (xs := [.tmp 21, .const (.int .i64 0), .tmp 24]) (ps := [(.one (.d (.int .i64 h.f2))), (.one (.d (.int .i64 0))), (.one (.d (.int .i64 (IntKind.i64.wrap (l.f0 - 1)))))]) false (g := .func 117) rfl rfl (lt_ok rfl) rfl (by kernel_rfl) rfl (.cons (.one (.d _)) (.cons (.one (.d _)) (.cons (.one (.d _)) .nil))) (ok_impl_within h.f2 0 (IntKind.i64.wrap (l.f0 - 1))) (.inr rfl) rfl (by simp) rfl) ?_
    refine TL.cons rfl (Step.pick (b := true) (p := (.one (.d (.bool (decide (0 ≤ h.f2 ∧ h.f2 ≤ (IntKind.i64.wrap (l.f0 - 1)))))))) rfl rfl (lt_ok rfl) rfl rfl) ?_
    refine TL.cons rfl (Step.move (p := (.one (.d (.bool (decide (0 ≤ h.f2 ∧ h.f2 ≤ (IntKind.i64.wrap (l.f0 - 1)))))))) rfl rfl (lt_ok rfl) rfl) ?_
    rcases Bool.eq_false_or_eq_true (decide (0 ≤ h.f2 ∧ h.f2 ≤ (IntKind.i64.wrap (l.f0 - 1)))) with hb4 | hb4
    ·
     refine TL.known 27 hb4 rfl ?_
     refine TL.gyes 27 rfl rfl (lt_ok rfl) rfl (Step.fieldAddr (q := 0) (off := 3) (n := 1) (one := true) rfl rfl (lt_ok rfl) (by kernel_rfl) (Nat.succ_ne_zero _) rfl) ?_
     refine TL.gyes 27 rfl rfl (lt_ok rfl) rfl (Step.load_box (c := .d (.ints .u8 h.f3)) rfl rfl (lt_ok rfl) (by kernel_rfl) rfl rfl rfl) ?_
     refine TL.gyes 27 rfl rfl (lt_ok rfl) rfl (Step.fieldAddr (q := 0) (off := 4) (n := 1) (one := true) rfl rfl (lt_ok rfl) (by kernel_rfl) (Nat.succ_ne_zero _) rfl) ?_
     refine TL.gyes 27 rfl rfl (lt_ok rfl) rfl (Step.load_box (c := .d (.ints .u8 h.f4)) rfl rfl (lt_ok rfl) (by kernel_rfl) rfl rfl rfl) ?_
     refine TL.gyes 27 rfl rfl (lt_ok rfl) rfl (Step.lit_d (e := 24) (z := 1) (by_ := 24) (xs := [.tmp 29, .tmp 31]) (pss := [[.d (.ints .u8 h.f3)], [.d (.ints .u8 h.f4)]]) (ds := [(.ints .u8 h.f3), (.ints .u8 h.f4)]) (d := (.bss [h.f3, h.f4])) rfl rfl (lt_ok rfl) (by kernel_rfl) rfl rfl (.cons rfl (.cons rfl .nil)) (by simp) (le_ok rfl) (le_ok rfl) rfl rfl trivial rfl rfl) ?_
     refine TL.gyes 27 rfl rfl (lt_ok rfl) rfl (Step.call (f := 156) (xs := [.tmp 32]) (ps := [(.one (.d (.bss [h.f3, h.f4])))]) false (g := .func 156) rfl rfl (lt_ok rfl) rfl (by kernel_rfl) rfl (.cons (.one (.d _)) .nil) (ok_impl_areHashes [h.f3, h.f4]) (.inr rfl) rfl (by simp) rfl) ?_
     refine TL.cons rfl (Step.pick (b := true) (p := (.one (.d (.bool (hashes [h.f3, h.f4]))))) rfl rfl (lt_ok rfl) rfl rfl) ?_
     refine TL.cons rfl (Step.move (p := (.one (.d (.bool (hashes [h.f3, h.f4]))))) rfl rfl (lt_ok rfl) rfl) ?_
     rcases Bool.eq_false_or_eq_true (hashes [h.f3, h.f4]) with hb5 | hb5
     ·
      refine TL.known 35 hb5 rfl ?_
      refine TL.gyes 35 rfl rfl (lt_ok rfl) rfl (Step.load_box_agg (n := 10) (qs := [.d (.int .i64 h.f0), .d (.int .i64 h.f1), .d (.int .i64 h.f2), .d (.ints .u8 h.f3), .d (.ints .u8 h.f4), .d (.int .i64 h.f5.f0), .d (.int .i64 h.f5.f1), .d (.ints .u8 h.f5.f2), .d (.ints .u8 h.f5.f3), .d (.bss h.f5.f4)]) rfl rfl (lt_ok rfl) (by kernel_rfl) rfl rfl rfl rfl) ?_
      refine TL.gyes 35 rfl rfl (lt_ok rfl) rfl (Step.call (f := 144) (xs := [.tmp 36]) (ps := [(.agg [.d (.int .i64 h.f0), .d (.int .i64 h.f1), .d (.int .i64 h.f2), .d (.ints .u8 h.f3), .d (.ints .u8 h.f4), .d (.int .i64 h.f5.f0), .d (.int .i64 h.f5.f1), .d (.ints .u8 h.f5.f2), .d (.ints .u8 h.f5.f3), .d (.bss h.f5.f4)])]) false (g := .func 144) rfl rfl (lt_ok rfl) rfl (by kernel_rfl) rfl (.cons (.agg (.cons (.d _) (.cons (.d _) (.cons (.d _) (.cons (.d _) (.cons (.d _) (.cons (.d _) (.cons (.d _) (.cons (.d _) (.cons (.d _) (.cons (.d _) .nil))))))))))) .nil) (ok_impl_Head__matches h (by assumption)) (.inr rfl) rfl (by simp) rfl) ?_
      refine TL.cons rfl (Step.pick (b := true) (p := (.one (.d (.bool (headFits h))))) rfl rfl (lt_ok rfl) rfl rfl) ?_
      refine TL.cons rfl (Step.assign (p := (.one (.d (.bool (headFits h))))) rfl rfl (lt_ok rfl) rfl) ?_
      refine TL.nil ?_
      refine T.weaken (E' := { tm := [(4, (.one (.d (.bool (headFits h)))))], rows := [], boxes := [] }) (Env.le_mk ⟨by kernel_rfl, trivial⟩ trivial trivial) ?_
      refine T.ret ?_
      exact ⟨[(false, [.d (.bool (headFits h))])], (.cons rfl .nil), rfl, [], (RetC.rd' (by first | rfl | (congr 1; symm; simp only [headOk, hashes, List.all_cons, List.all_nil, *, Bool.and_true, Bool.true_and, Bool.and_false, Bool.false_and, decide_true, decide_false, and_true, true_and, and_self, and_false, false_and, Bool.and_self, not_true, not_false, Bool.not_true, Bool.not_false, ge_iff_le, gt_iff_lt, if_true, if_false, Bool.false_eq_true, ite_true, ite_false, reduceIte]; done) | (congr 1; symm; simp_all [headOk, hashes, List.all_cons, List.all_nil]; done) | (congr 1; symm; simp_all [headOk, hashes, List.all_cons, List.all_nil]; omega)) .nil)⟩
     ·
      refine TL.known 35 hb5 rfl ?_
      refine TL.goff 35 rfl rfl (lt_ok rfl) rfl rfl rfl (lt_ok rfl) ?_
      refine TL.goff 35 rfl rfl (lt_ok rfl) rfl rfl rfl (lt_ok rfl) ?_
      refine TL.cons rfl (Step.pick (b := false) (p := (.one (.d (.bool false)))) rfl rfl (lt_ok rfl) rfl rfl) ?_
      refine TL.cons rfl (Step.assign (p := (.one (.d (.bool false)))) rfl rfl (lt_ok rfl) rfl) ?_
      refine TL.nil ?_
      refine T.ret ?_
      exact ⟨[(false, [.d (.bool false)])], (.cons rfl .nil), rfl, [], (RetC.rd' (by first | rfl | (congr 1; symm; simp only [headOk, hashes, List.all_cons, List.all_nil, *, Bool.and_true, Bool.true_and, Bool.and_false, Bool.false_and, decide_true, decide_false, and_true, true_and, and_self, and_false, false_and, Bool.and_self, not_true, not_false, Bool.not_true, Bool.not_false, ge_iff_le, gt_iff_lt, if_true, if_false, Bool.false_eq_true, ite_true, ite_false, reduceIte]; done) | (congr 1; symm; simp_all [headOk, hashes, List.all_cons, List.all_nil]; done) | (congr 1; symm; simp_all [headOk, hashes, List.all_cons, List.all_nil]; omega)) .nil)⟩
    ·
     refine TL.known 27 hb4 rfl ?_
     refine TL.goff 27 rfl rfl (lt_ok rfl) rfl rfl rfl (lt_ok rfl) ?_
     refine TL.goff 27 rfl rfl (lt_ok rfl) rfl rfl rfl (lt_ok rfl) ?_
     refine TL.goff 27 rfl rfl (lt_ok rfl) rfl rfl rfl (lt_ok rfl) ?_
     refine TL.goff 27 rfl rfl (lt_ok rfl) rfl rfl rfl (lt_ok rfl) ?_
     refine TL.goff 27 rfl rfl (lt_ok rfl) rfl rfl rfl (lt_ok rfl) ?_
     refine TL.goff 27 rfl rfl (lt_ok rfl) rfl rfl rfl (lt_ok rfl) ?_
     refine TL.cons rfl (Step.pick (b := false) (p := (.one (.d (.bool false)))) rfl rfl (lt_ok rfl) rfl rfl) ?_
     refine TL.cons rfl (Step.move (p := (.one (.d (.bool false)))) rfl rfl (lt_ok rfl) rfl) ?_
     refine TL.goff 35 rfl rfl (lt_ok rfl) rfl rfl rfl (lt_ok rfl) ?_
     refine TL.goff 35 rfl rfl (lt_ok rfl) rfl rfl rfl (lt_ok rfl) ?_
     refine TL.cons rfl (Step.pick (b := false) (p := (.one (.d (.bool false)))) rfl rfl (lt_ok rfl) rfl rfl) ?_
     refine TL.cons rfl (Step.assign (p := (.one (.d (.bool false)))) rfl rfl (lt_ok rfl) rfl) ?_
     refine TL.nil ?_
     refine T.ret ?_
     exact ⟨[(false, [.d (.bool false)])], (.cons rfl .nil), rfl, [], (RetC.rd' (by first | rfl | (congr 1; symm; simp only [headOk, hashes, List.all_cons, List.all_nil, *, Bool.and_true, Bool.true_and, Bool.and_false, Bool.false_and, decide_true, decide_false, and_true, true_and, and_self, and_false, false_and, Bool.and_self, not_true, not_false, Bool.not_true, Bool.not_false, ge_iff_le, gt_iff_lt, if_true, if_false, Bool.false_eq_true, ite_true, ite_false, reduceIte]; done) | (congr 1; symm; simp_all [headOk, hashes, List.all_cons, List.all_nil]; done) | (congr 1; symm; simp_all [headOk, hashes, List.all_cons, List.all_nil]; omega)) .nil)⟩
   ·
    refine TL.known 19 hb3 rfl ?_
    refine TL.goff 19 rfl rfl (lt_ok rfl) rfl rfl rfl (lt_ok rfl) ?_
    refine TL.goff 19 rfl rfl (lt_ok rfl) rfl rfl rfl (lt_ok rfl) ?_
    refine TL.goff 19 rfl rfl (lt_ok rfl) rfl rfl rfl (lt_ok rfl) ?_
    refine TL.goff 19 rfl rfl (lt_ok rfl) rfl rfl rfl (lt_ok rfl) ?_
    refine TL.goff 19 rfl rfl (lt_ok rfl) rfl rfl rfl (lt_ok rfl) ?_
    refine TL.goff 19 rfl rfl (lt_ok rfl) rfl rfl rfl (lt_ok rfl) ?_
    refine TL.cons rfl (Step.pick (b := false) (p := (.one (.d (.bool false)))) rfl rfl (lt_ok rfl) rfl rfl) ?_
    refine TL.cons rfl (Step.move (p := (.one (.d (.bool false)))) rfl rfl (lt_ok rfl) rfl) ?_
    refine TL.goff 27 rfl rfl (lt_ok rfl) rfl rfl rfl (lt_ok rfl) ?_
    refine TL.goff 27 rfl rfl (lt_ok rfl) rfl rfl rfl (lt_ok rfl) ?_
    refine TL.goff 27 rfl rfl (lt_ok rfl) rfl rfl rfl (lt_ok rfl) ?_
    refine TL.goff 27 rfl rfl (lt_ok rfl) rfl rfl rfl (lt_ok rfl) ?_
    refine TL.goff 27 rfl rfl (lt_ok rfl) rfl rfl rfl (lt_ok rfl) ?_
    refine TL.goff 27 rfl rfl (lt_ok rfl) rfl rfl rfl (lt_ok rfl) ?_
    refine TL.cons rfl (Step.pick (b := false) (p := (.one (.d (.bool false)))) rfl rfl (lt_ok rfl) rfl rfl) ?_
    refine TL.cons rfl (Step.move (p := (.one (.d (.bool false)))) rfl rfl (lt_ok rfl) rfl) ?_
    refine TL.goff 35 rfl rfl (lt_ok rfl) rfl rfl rfl (lt_ok rfl) ?_
    refine TL.goff 35 rfl rfl (lt_ok rfl) rfl rfl rfl (lt_ok rfl) ?_
    refine TL.cons rfl (Step.pick (b := false) (p := (.one (.d (.bool false)))) rfl rfl (lt_ok rfl) rfl rfl) ?_
    refine TL.cons rfl (Step.assign (p := (.one (.d (.bool false)))) rfl rfl (lt_ok rfl) rfl) ?_
    refine TL.nil ?_
    refine T.ret ?_
    exact ⟨[(false, [.d (.bool false)])], (.cons rfl .nil), rfl, [], (RetC.rd' (by first | rfl | (congr 1; symm; simp only [headOk, hashes, List.all_cons, List.all_nil, *, Bool.and_true, Bool.true_and, Bool.and_false, Bool.false_and, decide_true, decide_false, and_true, true_and, and_self, and_false, false_and, Bool.and_self, not_true, not_false, Bool.not_true, Bool.not_false, ge_iff_le, gt_iff_lt, if_true, if_false, Bool.false_eq_true, ite_true, ite_false, reduceIte]; done) | (congr 1; symm; simp_all [headOk, hashes, List.all_cons, List.all_nil]; done) | (congr 1; symm; simp_all [headOk, hashes, List.all_cons, List.all_nil]; omega)) .nil)⟩
  ·
   refine TL.known 14 hb2 rfl ?_
   refine TL.goff 14 rfl rfl (lt_ok rfl) rfl rfl rfl (lt_ok rfl) ?_
   refine TL.goff 14 rfl rfl (lt_ok rfl) rfl rfl rfl (lt_ok rfl) ?_
   refine TL.goff 14 rfl rfl (lt_ok rfl) rfl rfl rfl (lt_ok rfl) ?_
   refine TL.cons rfl (Step.pick (b := false) (p := (.one (.d (.bool false)))) rfl rfl (lt_ok rfl) rfl rfl) ?_
   refine TL.cons rfl (Step.move (p := (.one (.d (.bool false)))) rfl rfl (lt_ok rfl) rfl) ?_
   refine TL.goff 19 rfl rfl (lt_ok rfl) rfl rfl rfl (lt_ok rfl) ?_
   refine TL.goff 19 rfl rfl (lt_ok rfl) rfl rfl rfl (lt_ok rfl) ?_
   refine TL.goff 19 rfl rfl (lt_ok rfl) rfl rfl rfl (lt_ok rfl) ?_
   refine TL.goff 19 rfl rfl (lt_ok rfl) rfl rfl rfl (lt_ok rfl) ?_
   refine TL.goff 19 rfl rfl (lt_ok rfl) rfl rfl rfl (lt_ok rfl) ?_
   refine TL.goff 19 rfl rfl (lt_ok rfl) rfl rfl rfl (lt_ok rfl) ?_
   refine TL.cons rfl (Step.pick (b := false) (p := (.one (.d (.bool false)))) rfl rfl (lt_ok rfl) rfl rfl) ?_
   refine TL.cons rfl (Step.move (p := (.one (.d (.bool false)))) rfl rfl (lt_ok rfl) rfl) ?_
   refine TL.goff 27 rfl rfl (lt_ok rfl) rfl rfl rfl (lt_ok rfl) ?_
   refine TL.goff 27 rfl rfl (lt_ok rfl) rfl rfl rfl (lt_ok rfl) ?_
   refine TL.goff 27 rfl rfl (lt_ok rfl) rfl rfl rfl (lt_ok rfl) ?_
   refine TL.goff 27 rfl rfl (lt_ok rfl) rfl rfl rfl (lt_ok rfl) ?_
   refine TL.goff 27 rfl rfl (lt_ok rfl) rfl rfl rfl (lt_ok rfl) ?_
   refine TL.goff 27 rfl rfl (lt_ok rfl) rfl rfl rfl (lt_ok rfl) ?_
   refine TL.cons rfl (Step.pick (b := false) (p := (.one (.d (.bool false)))) rfl rfl (lt_ok rfl) rfl rfl) ?_
   refine TL.cons rfl (Step.move (p := (.one (.d (.bool false)))) rfl rfl (lt_ok rfl) rfl) ?_
   refine TL.goff 35 rfl rfl (lt_ok rfl) rfl rfl rfl (lt_ok rfl) ?_
   refine TL.goff 35 rfl rfl (lt_ok rfl) rfl rfl rfl (lt_ok rfl) ?_
   refine TL.cons rfl (Step.pick (b := false) (p := (.one (.d (.bool false)))) rfl rfl (lt_ok rfl) rfl rfl) ?_
   refine TL.cons rfl (Step.assign (p := (.one (.d (.bool false)))) rfl rfl (lt_ok rfl) rfl) ?_
   refine TL.nil ?_
   refine T.ret ?_
   exact ⟨[(false, [.d (.bool false)])], (.cons rfl .nil), rfl, [], (RetC.rd' (by first | rfl | (congr 1; symm; simp only [headOk, hashes, List.all_cons, List.all_nil, *, Bool.and_true, Bool.true_and, Bool.and_false, Bool.false_and, decide_true, decide_false, and_true, true_and, and_self, and_false, false_and, Bool.and_self, not_true, not_false, Bool.not_true, Bool.not_false, ge_iff_le, gt_iff_lt, if_true, if_false, Bool.false_eq_true, ite_true, ite_false, reduceIte]; done) | (congr 1; symm; simp_all [headOk, hashes, List.all_cons, List.all_nil]; done) | (congr 1; symm; simp_all [headOk, hashes, List.all_cons, List.all_nil]; omega)) .nil)⟩
 ·
  refine TL.known 9 hb1 rfl ?_
  refine TL.goff 9 rfl rfl (lt_ok rfl) rfl rfl rfl (lt_ok rfl) ?_
  refine TL.goff 9 rfl rfl (lt_ok rfl) rfl rfl rfl (lt_ok rfl) ?_
  refine TL.goff 9 rfl rfl (lt_ok rfl) rfl rfl rfl (lt_ok rfl) ?_
  refine TL.cons rfl (Step.pick (b := false) (p := (.one (.d (.bool false)))) rfl rfl (lt_ok rfl) rfl rfl) ?_
  refine TL.cons rfl (Step.move (p := (.one (.d (.bool false)))) rfl rfl (lt_ok rfl) rfl) ?_
  refine TL.goff 14 rfl rfl (lt_ok rfl) rfl rfl rfl (lt_ok rfl) ?_
  refine TL.goff 14 rfl rfl (lt_ok rfl) rfl rfl rfl (lt_ok rfl) ?_
  refine TL.goff 14 rfl rfl (lt_ok rfl) rfl rfl rfl (lt_ok rfl) ?_
  refine TL.cons rfl (Step.pick (b := false) (p := (.one (.d (.bool false)))) rfl rfl (lt_ok rfl) rfl rfl) ?_
  refine TL.cons rfl (Step.move (p := (.one (.d (.bool false)))) rfl rfl (lt_ok rfl) rfl) ?_
  refine TL.goff 19 rfl rfl (lt_ok rfl) rfl rfl rfl (lt_ok rfl) ?_
  refine TL.goff 19 rfl rfl (lt_ok rfl) rfl rfl rfl (lt_ok rfl) ?_
  refine TL.goff 19 rfl rfl (lt_ok rfl) rfl rfl rfl (lt_ok rfl) ?_
  refine TL.goff 19 rfl rfl (lt_ok rfl) rfl rfl rfl (lt_ok rfl) ?_
  refine TL.goff 19 rfl rfl (lt_ok rfl) rfl rfl rfl (lt_ok rfl) ?_
  refine TL.goff 19 rfl rfl (lt_ok rfl) rfl rfl rfl (lt_ok rfl) ?_
  refine TL.cons rfl (Step.pick (b := false) (p := (.one (.d (.bool false)))) rfl rfl (lt_ok rfl) rfl rfl) ?_
  refine TL.cons rfl (Step.move (p := (.one (.d (.bool false)))) rfl rfl (lt_ok rfl) rfl) ?_
  refine TL.goff 27 rfl rfl (lt_ok rfl) rfl rfl rfl (lt_ok rfl) ?_
  refine TL.goff 27 rfl rfl (lt_ok rfl) rfl rfl rfl (lt_ok rfl) ?_
  refine TL.goff 27 rfl rfl (lt_ok rfl) rfl rfl rfl (lt_ok rfl) ?_
  refine TL.goff 27 rfl rfl (lt_ok rfl) rfl rfl rfl (lt_ok rfl) ?_
  refine TL.goff 27 rfl rfl (lt_ok rfl) rfl rfl rfl (lt_ok rfl) ?_
  refine TL.goff 27 rfl rfl (lt_ok rfl) rfl rfl rfl (lt_ok rfl) ?_
  refine TL.cons rfl (Step.pick (b := false) (p := (.one (.d (.bool false)))) rfl rfl (lt_ok rfl) rfl rfl) ?_
  refine TL.cons rfl (Step.move (p := (.one (.d (.bool false)))) rfl rfl (lt_ok rfl) rfl) ?_
  refine TL.goff 35 rfl rfl (lt_ok rfl) rfl rfl rfl (lt_ok rfl) ?_
  refine TL.goff 35 rfl rfl (lt_ok rfl) rfl rfl rfl (lt_ok rfl) ?_
  refine TL.cons rfl (Step.pick (b := false) (p := (.one (.d (.bool false)))) rfl rfl (lt_ok rfl) rfl rfl) ?_
  refine TL.cons rfl (Step.assign (p := (.one (.d (.bool false)))) rfl rfl (lt_ok rfl) rfl) ?_
  refine TL.nil ?_
  refine T.ret ?_
  exact ⟨[(false, [.d (.bool false)])], (.cons rfl .nil), rfl, [], (RetC.rd' (by first | rfl | (congr 1; symm; simp only [headOk, hashes, List.all_cons, List.all_nil, *, Bool.and_true, Bool.true_and, Bool.and_false, Bool.false_and, decide_true, decide_false, and_true, true_and, and_self, and_false, false_and, Bool.and_self, not_true, not_false, Bool.not_true, Bool.not_false, ge_iff_le, gt_iff_lt, if_true, if_false, Bool.false_eq_true, ite_true, ite_false, reduceIte]; done) | (congr 1; symm; simp_all [headOk, hashes, List.all_cons, List.all_nil]; done) | (congr 1; symm; simp_all [headOk, hashes, List.all_cons, List.all_nil]; omega)) .nil)⟩
theorem ok_impl_areHeads (l : SLimits) (hs : List SHead) (h0_ : ∀ y ∈ hs, SHead.ok y) (h1_ : ∀ y ∈ hs, SHead.sm y) : RO Try.prog 126 [.agg l.cells, .one (.sl 10 (hs.map SHead.cells))] [(false, [.rd (.bool (headsOk l hs))])] := by
 refine RO.intro Try.func126 rfl 18 rfl (le_ok rfl) fun w Z => ?_
 refine T.bnd 1 0 rfl rfl fun hb_1_0 => ?_
 simp only [D.size, List.length_map] at hb_1_0
 refine T.seq ?_
 refine T.region ?_
 refine TL.cons rfl (Step.box (p := (.agg [.d (.int .i64 l.f0), .d (.int .i64 l.f1), .d (.int .i64 l.f2), .d (.int .i64 l.f3), .d (.int .i64 l.f4)])) (ps := [.d (.int .i64 l.f0), .d (.int .i64 l.f1), .d (.int .i64 l.f2), .d (.int .i64 l.f3), .d (.int .i64 l.f4)]) rfl rfl (lt_ok rfl) rfl rfl rfl rfl rfl) ?_
 refine TL.cons rfl (Step.assign (p := (.one (.d (.bool false)))) rfl rfl (lt_ok rfl) rfl) ?_
 refine TL.nil ?_
 refine T.seq ?_
 refine T.seq ?_
 refine T.region ?_
 refine TL.cons rfl (Step.move (p := (.one (.d (.sl 10 (hs.map SHead.cells))))) rfl rfl (lt_ok rfl) rfl) ?_
 refine TL.cons rfl (Step.len' (e := 54) (z := 10) (d := (.sl 10 (hs.map SHead.cells))) (n := hs.length) rfl rfl (lt_ok rfl) (by kernel_rfl) rfl rfl (by simp [D.size])) ?_
 refine TL.cons rfl (Step.move (p := (.one (.d (.int .i64 0)))) rfl rfl (lt_ok rfl) rfl) ?_
 refine TL.nil ?_
 refine T.block ?_
 refine T.loop (ι := Nat) (fun xx_ => { tm := [(2, (.one (.ptr 2 0))), (7, (.one (.d (.sl 10 (hs.map SHead.cells))))), (8, (.one (.d (.int .i64 (hs.length : Int))))), (9, (.one (.d (.int .i64 (xx_ : Int)))))], rows := [], boxes := [(2, (34, [.d (.int .i64 l.f0), .d (.int .i64 l.f1), .d (.int .i64 l.f2), .d (.int .i64 l.f3), .d (.int .i64 l.f4)]))] }) (fun xx_ => xx_ ≤ hs.length ∧ headsOk l (hs.take xx_) = true) (fun xx_ => hs.length - xx_) 0 ?_ ?_ ?_
 · exact Env.le_mk ⟨rfl, rfl, rfl, by first | rfl | (simp; done) | (congr 3; omega), trivial⟩ trivial ⟨rfl, trivial⟩
 · exact ⟨Nat.zero_le _, by rw [List.take_zero]; rfl⟩
 ·
  intro i hx
  try dsimp only at hx ⊢
  obtain ⟨hx1, hx2⟩ := hx
  refine T.seq ?_
  refine T.region ?_
  refine TL.cons rfl (Step.bin rfl rfl (lt_ok rfl) rfl rfl (Bin.lss (k := .i64) (a := (i : Int)) (b := (hs.length : Int)))) ?_
  refine TL.nil ?_
  refine T.seq ?_
  refine T.cond (b := decide ((i : Int) < (hs.length : Int))) rfl (fun h1 => ?_) (fun h1 => ?_)
  ·
   replace h1 := of_decide_eq_true h1
   refine T.skip ?_
   refine T.seq ?_
   refine T.block ?_
   refine T.seq ?_
   refine T.region ?_
   refine TL.cons rfl (Step.index (e := 54) (z := 10) (i := (i : Int)) rfl rfl (lt_ok rfl) (by kernel_rfl) rfl rfl rfl (lt_ok rfl) rfl (by first | omega | (simp; omega)) (by simp only [D.size]; first | omega | (simp; omega))) ?_
   refine TL.cons rfl (Step.load_agg (n := 10) (cs := [.d (.int .i64 (hs.getD i default).f0), .d (.int .i64 (hs.getD i default).f1), .d (.int .i64 (hs.getD i default).f2), .d (.ints .u8 (hs.getD i default).f3), .d (.ints .u8 (hs.getD i default).f4), .d (.int .i64 (hs.getD i default).f5.f0), .d (.int .i64 (hs.getD i default).f5.f1), .d (.ints .u8 (hs.getD i default).f5.f2), .d (.ints .u8 (hs.getD i default).f5.f3), .d (.bss (hs.getD i default).f5.f4)]) rfl rfl (lt_ok rfl) (by kernel_rfl) rfl rfl (by simp only [List.range, List.range.loop, List.map_cons, List.map_nil]; rw [cell_map default (by first | omega | (simp; omega)), cell_map default (by first | omega | (simp; omega)), cell_map default (by first | omega | (simp; omega)), cell_map default (by first | omega | (simp; omega)), cell_map default (by first | omega | (simp; omega)), cell_map default (by first | omega | (simp; omega)), cell_map default (by first | omega | (simp; omega)), cell_map default (by first | omega | (simp; omega)), cell_map default (by first | omega | (simp; omega)), cell_map default (by first | omega | (simp; omega))]; rfl)) ?_
   refine TL.cons rfl (Step.alloc (cs := [.int .i64 0, .int .i64 0, .int .i64 0, .slice none 0 0, .slice none 0 0, .int .i64 0, .int .i64 0, .slice none 0 0, .slice none 0 0, .slice none 0 0]) (ps := [.d (.int .i64 0), .d (.int .i64 0), .d (.int .i64 0), .nil, .nil, .d (.int .i64 0), .d (.int .i64 0), .nil, .nil, .nil]) rfl rfl (lt_ok rfl) (by kernel_rfl) rfl rfl rfl rfl) ?_
   refine TL.cons rfl (Step.store_box (n := 10) (p := (.agg [.d (.int .i64 (hs.getD i default).f0), .d (.int .i64 (hs.getD i default).f1), .d (.int .i64 (hs.getD i default).f2), .d (.ints .u8 (hs.getD i default).f3), .d (.ints .u8 (hs.getD i default).f4), .d (.int .i64 (hs.getD i default).f5.f0), .d (.int .i64 (hs.getD i default).f5.f1), .d (.ints .u8 (hs.getD i default).f5.f2), .d (.ints .u8 (hs.getD i default).f5.f3), .d (.bss (hs.getD i default).f5.f4)])) (qs := [.d (.int .i64 (hs.getD i default).f0), .d (.int .i64 (hs.getD i default).f1), .d (.int .i64 (hs.getD i default).f2), .d (.ints .u8 (hs.getD i default).f3), .d (.ints .u8 (hs.getD i default).f4), .d (.int .i64 (hs.getD i default).f5.f0), .d (.int .i64 (hs.getD i default).f5.f1), .d (.ints .u8 (hs.getD i default).f5.f2), .d (.ints .u8 (hs.getD i default).f5.f3), .d (.bss (hs.getD i default).f5.f4)]) (ps' := [.d (.int .i64 (hs.getD i default).f0), .d (.int .i64 (hs.getD i default).f1), .d (.int .i64 (hs.getD i default).f2), .d (.ints .u8 (hs.getD i default).f3), .d (.ints .u8 (hs.getD i default).f4), .d (.int .i64 (hs.getD i default).f5.f0), .d (.int .i64 (hs.getD i default).f5.f1), .d (.ints .u8 (hs.getD i default).f5.f2), .d (.ints .u8 (hs.getD i default).f5.f3), .d (.bss (hs.getD i default).f5.f4)]) rfl rfl (by kernel_rfl) rfl rfl rfl rfl rfl rfl (le_ok rfl) rfl) ?_
   refine TL.nil ?_
   refine T.seq ?_
   refine T.region ?_
   refine TL.cons rfl (Step.load_box_agg (n := 5) (qs := [.d (.int .i64 l.f0), .d (.int .i64 l.f1), .d (.int .i64 l.f2), .d (.int .i64 l.f3), .d (.int .i64 l.f4)]) rfl rfl (lt_ok rfl) (by kernel_rfl) rfl rfl rfl rfl) ?_
   refine TL.cons rfl (Step.load_box_agg (n := 10) (qs := [.d (.int .i64 (hs.getD i default).f0), .d (.int .i64 (hs.getD i default).f1), .d (.int .i64 (hs.getD i default).f2), .d (.ints .u8 (hs.getD i default).f3), .d (.ints .u8 (hs.getD i default).f4), .d (.int .i64 (hs.getD i default).f5.f0), .d (.int .i64 (hs.getD i default).f5.f1), .d (.ints .u8 (hs.getD i default).f5.f2), .d (.ints .u8 (hs.getD i default).f5.f3), .d (.bss (hs.getD i default).f5.f4)]) rfl rfl (lt_ok rfl) (by kernel_rfl) rfl rfl rfl rfl) ?_
   refine TL.cons rfl (Step.call (f := 106) (xs := [.tmp 13, .tmp 14]) (ps := [(.agg [.d (.int .i64 l.f0), .d (.int .i64 l.f1), .d (.int .i64 l.f2), .d (.int .i64 l.f3), .d (.int .i64 l.f4)]), (.agg [.d (.int .i64 (hs.getD i default).f0), .d (.int .i64 (hs.getD i default).f1), .d (.int .i64 (hs.getD i default).f2), .d (.ints .u8 (hs.getD i default).f3), .d (.ints .u8 (hs.getD i default).f4), .d (.int .i64 (hs.getD i default).f5.f0), .d (.int .i64 (hs.getD i default).f5.f1), .d (.ints .u8 (hs.getD i default).f5.f2), .d (.ints .u8 (hs.getD i default).f5.f3), .d (.bss (hs.getD i default).f5.f4)])]) false (g := .func 106) rfl rfl (lt_ok rfl) rfl (by kernel_rfl) rfl (.cons (.agg (.cons (.d _) (.cons (.d _) (.cons (.d _) (.cons (.d _) (.cons (.d _) .nil)))))) (.cons (.agg (.cons (.d _) (.cons (.d _) (.cons (.d _) (.cons (.d _) (.cons (.d _) (.cons (.d _) (.cons (.d _) (.cons (.d _) (.cons (.d _) (.cons (.d _) .nil))))))))))) .nil)) (ok_impl_HeadOk l (hs.getD i default) (by first | assumption | exact mem_getD o0 (by omega) | exact mem_getD h0_ (by omega)) (by first | assumption | exact mem_getD s0.2 (by omega) | exact mem_getD h1_ (by omega))) (.inr rfl) rfl (by simp) rfl) ?_
   refine TL.cons rfl (Step.not (b := (headOk l (hs.getD i default))) rfl rfl (lt_ok rfl) rfl) ?_
   refine TL.nil ?_
   refine T.cond (b := !(headOk l (hs.getD i default))) rfl (fun h2 => ?_) (fun h2 => ?_)
   ·
    replace h2 : (headOk l (hs.getD i default)) = false := by simpa only [Bool.not_eq_true', Bool.not_eq_false'] using h2
    refine T.seq ?_
    refine T.region ?_
    refine TL.cons rfl (Step.assign (p := (.one (.d (.bool false)))) rfl rfl (lt_ok rfl) rfl) ?_
    refine TL.nil ?_
    refine T.ret ?_
    exact ⟨[(false, [.d (.bool false)])], (.cons rfl .nil), rfl, [], (RetC.rd' (by (congr 1; symm; first | (exact headsOk_no (i := i) (by omega) (by assumption)) | (rw [List.take_of_length_le (by omega)] at hx2; exact hx2))) .nil)⟩
   ·
    replace h2 : (headOk l (hs.getD i default)) = true := by simpa only [Bool.not_eq_true', Bool.not_eq_false'] using h2
    refine T.skip ?_
    refine T.region ?_
    refine TL.cons rfl (Step.bin (r := .int .i64 ((i : Int) + 1)) rfl rfl (lt_ok rfl) rfl rfl (Bin.add (a := (i : Int)) (b := 1) (by first | exact wrap_ok (by first | omega | (simp; omega)) (by first | omega | (simp; omega)) | rfl))) ?_
    refine TL.cons rfl (Step.move (p := (.one (.d (.int .i64 ((i : Int) + 1))))) rfl rfl (lt_ok rfl) rfl) ?_
    refine TL.nil ?_
    exact ⟨i + 1, by (refine ⟨by omega, headsOk_step (by omega) hx2 (by assumption)⟩), by first | omega | (dsimp only; omega), Env.le_mk ⟨rfl, rfl, rfl, by first | rfl | (simp; done) | (congr 3; omega), trivial⟩ trivial ⟨rfl, trivial⟩⟩
  ·
   replace h1 := of_decide_eq_false h1
   refine T.exit ?_
   refine T.seq ?_
   refine T.region ?_
   refine TL.cons rfl (Step.assign (p := (.one (.d (.bool true)))) rfl rfl (lt_ok rfl) rfl) ?_
   refine TL.nil ?_
   refine T.ret ?_
   exact ⟨[(false, [.d (.bool true)])], (.cons rfl .nil), rfl, [], (RetC.rd' (by (congr 1; symm; first | (exact headsOk_no (i := i) (by omega) (by assumption)) | (rw [List.take_of_length_le (by omega)] at hx2; exact hx2))) .nil)⟩
theorem ok_impl_Proof__closes (p : SProof) (h0_ : 1 ≤ p.f0.length) (h1_ : p.f0.length ≤ 1048576) : RO Try.prog 128 [.agg p.cells] [(false, [.rd (.bool (closes p))])] := by
 refine RO.intro Try.func128 rfl 26 rfl (le_ok rfl) fun w Z => ?_
 refine T.seq ?_
 refine T.region ?_
 refine TL.cons rfl (Step.box (p := (.agg [.d (.sl 10 (p.f0.map SHead.cells)), .d (.int .i64 p.f1.f0), .d (.int .i64 p.f1.f1), .d (.ints .u8 p.f1.f2), .d (.ints .u8 p.f1.f3), .d (.bss p.f1.f4)])) (ps := [.d (.sl 10 (p.f0.map SHead.cells)), .d (.int .i64 p.f1.f0), .d (.int .i64 p.f1.f1), .d (.ints .u8 p.f1.f2), .d (.ints .u8 p.f1.f3), .d (.bss p.f1.f4)]) rfl rfl (lt_ok rfl) rfl rfl rfl rfl rfl) ?_
 refine TL.cons rfl (Step.assign (p := (.one (.d (.bool false)))) rfl rfl (lt_ok rfl) rfl) ?_
 refine TL.nil ?_
 refine T.seq ?_
 refine T.region ?_
 refine TL.cons rfl (Step.fieldAddr (q := 0) (off := 0) (n := 1) (one := true) rfl rfl (lt_ok rfl) (by kernel_rfl) (Nat.succ_ne_zero _) rfl) ?_
 refine TL.cons rfl (Step.load_box (c := .d (.sl 10 (p.f0.map SHead.cells))) rfl rfl (lt_ok rfl) (by kernel_rfl) rfl rfl rfl) ?_
 refine TL.cons rfl (Step.fieldAddr (q := 0) (off := 0) (n := 1) (one := true) rfl rfl (lt_ok rfl) (by kernel_rfl) (Nat.succ_ne_zero _) rfl) ?_
 refine TL.cons rfl (Step.load_box (c := .d (.sl 10 (p.f0.map SHead.cells))) rfl rfl (lt_ok rfl) (by kernel_rfl) rfl rfl rfl) ?_
 refine TL.cons rfl (Step.len' (e := 54) (z := 10) (d := (.sl 10 (p.f0.map SHead.cells))) (n := p.f0.length) rfl rfl (lt_ok rfl) (by kernel_rfl) rfl rfl (by simp [D.size])) ?_
 refine TL.cons rfl (Step.bin (r := .int .i64 ((p.f0.length : Int) - 1)) rfl rfl (lt_ok rfl) rfl rfl (Bin.sub (a := (p.f0.length : Int)) (b := 1) (by first | exact wrap_ok (by first | omega | (simp; omega)) (by first | omega | (simp; omega)) | rfl))) ?_
 refine TL.cons rfl (Step.index (e := 54) (z := 10) (i := ((p.f0.length : Int) - 1)) rfl rfl (lt_ok rfl) (by kernel_rfl) rfl rfl rfl (lt_ok rfl) rfl (by first | omega | (simp; omega)) (by simp only [D.size]; first | omega | (simp; omega))) ?_
 refine TL.cons rfl (Step.load_agg (n := 10) (cs := [.d (.int .i64 (p.f0.getD ((p.f0.length : Int) - 1).toNat default).f0), .d (.int .i64 (p.f0.getD ((p.f0.length : Int) - 1).toNat default).f1), .d (.int .i64 (p.f0.getD ((p.f0.length : Int) - 1).toNat default).f2), .d (.ints .u8 (p.f0.getD ((p.f0.length : Int) - 1).toNat default).f3), .d (.ints .u8 (p.f0.getD ((p.f0.length : Int) - 1).toNat default).f4), .d (.int .i64 (p.f0.getD ((p.f0.length : Int) - 1).toNat default).f5.f0), .d (.int .i64 (p.f0.getD ((p.f0.length : Int) - 1).toNat default).f5.f1), .d (.ints .u8 (p.f0.getD ((p.f0.length : Int) - 1).toNat default).f5.f2), .d (.ints .u8 (p.f0.getD ((p.f0.length : Int) - 1).toNat default).f5.f3), .d (.bss (p.f0.getD ((p.f0.length : Int) - 1).toNat default).f5.f4)]) rfl rfl (lt_ok rfl) (by kernel_rfl) rfl rfl (by simp only [List.range, List.range.loop, List.map_cons, List.map_nil]; rw [cell_map default (by first | omega | (simp; omega)), cell_map default (by first | omega | (simp; omega)), cell_map default (by first | omega | (simp; omega)), cell_map default (by first | omega | (simp; omega)), cell_map default (by first | omega | (simp; omega)), cell_map default (by first | omega | (simp; omega)), cell_map default (by first | omega | (simp; omega)), cell_map default (by first | omega | (simp; omega)), cell_map default (by first | omega | (simp; omega)), cell_map default (by first | omega | (simp; omega))]; rfl)) ?_
 refine TL.cons rfl (Step.alloc (cs := [.int .i64 0, .int .i64 0, .int .i64 0, .slice none 0 0, .slice none 0 0, .int .i64 0, .int .i64 0, .slice none 0 0, .slice none 0 0, .slice none 0 0]) (ps := [.d (.int .i64 0), .d (.int .i64 0), .d (.int .i64 0), .nil, .nil, .d (.int .i64 0), .d (.int .i64 0), .nil, .nil, .nil]) rfl rfl (lt_ok rfl) (by kernel_rfl) rfl rfl rfl rfl) ?_
 refine TL.cons rfl (Step.store_box (n := 10) (p := (.agg [.d (.int .i64 (p.f0.getD ((p.f0.length : Int) - 1).toNat default).f0), .d (.int .i64 (p.f0.getD ((p.f0.length : Int) - 1).toNat default).f1), .d (.int .i64 (p.f0.getD ((p.f0.length : Int) - 1).toNat default).f2), .d (.ints .u8 (p.f0.getD ((p.f0.length : Int) - 1).toNat default).f3), .d (.ints .u8 (p.f0.getD ((p.f0.length : Int) - 1).toNat default).f4), .d (.int .i64 (p.f0.getD ((p.f0.length : Int) - 1).toNat default).f5.f0), .d (.int .i64 (p.f0.getD ((p.f0.length : Int) - 1).toNat default).f5.f1), .d (.ints .u8 (p.f0.getD ((p.f0.length : Int) - 1).toNat default).f5.f2), .d (.ints .u8 (p.f0.getD ((p.f0.length : Int) - 1).toNat default).f5.f3), .d (.bss (p.f0.getD ((p.f0.length : Int) - 1).toNat default).f5.f4)])) (qs := [.d (.int .i64 (p.f0.getD ((p.f0.length : Int) - 1).toNat default).f0), .d (.int .i64 (p.f0.getD ((p.f0.length : Int) - 1).toNat default).f1), .d (.int .i64 (p.f0.getD ((p.f0.length : Int) - 1).toNat default).f2), .d (.ints .u8 (p.f0.getD ((p.f0.length : Int) - 1).toNat default).f3), .d (.ints .u8 (p.f0.getD ((p.f0.length : Int) - 1).toNat default).f4), .d (.int .i64 (p.f0.getD ((p.f0.length : Int) - 1).toNat default).f5.f0), .d (.int .i64 (p.f0.getD ((p.f0.length : Int) - 1).toNat default).f5.f1), .d (.ints .u8 (p.f0.getD ((p.f0.length : Int) - 1).toNat default).f5.f2), .d (.ints .u8 (p.f0.getD ((p.f0.length : Int) - 1).toNat default).f5.f3), .d (.bss (p.f0.getD ((p.f0.length : Int) - 1).toNat default).f5.f4)]) (ps' := [.d (.int .i64 (p.f0.getD ((p.f0.length : Int) - 1).toNat default).f0), .d (.int .i64 (p.f0.getD ((p.f0.length : Int) - 1).toNat default).f1), .d (.int .i64 (p.f0.getD ((p.f0.length : Int) - 1).toNat default).f2), .d (.ints .u8 (p.f0.getD ((p.f0.length : Int) - 1).toNat default).f3), .d (.ints .u8 (p.f0.getD ((p.f0.length : Int) - 1).toNat default).f4), .d (.int .i64 (p.f0.getD ((p.f0.length : Int) - 1).toNat default).f5.f0), .d (.int .i64 (p.f0.getD ((p.f0.length : Int) - 1).toNat default).f5.f1), .d (.ints .u8 (p.f0.getD ((p.f0.length : Int) - 1).toNat default).f5.f2), .d (.ints .u8 (p.f0.getD ((p.f0.length : Int) - 1).toNat default).f5.f3), .d (.bss (p.f0.getD ((p.f0.length : Int) - 1).toNat default).f5.f4)]) rfl rfl (by kernel_rfl) rfl rfl rfl rfl rfl rfl (le_ok rfl) rfl) ?_
 refine TL.nil ?_
 refine T.seq ?_
 refine T.region ?_
 refine TL.cons rfl (Step.fieldAddr (q := 0) (off := 1) (n := 5) (one := false) rfl rfl (lt_ok rfl) (by kernel_rfl) (Nat.succ_ne_zero _) rfl) ?_
 refine TL.cons rfl (Step.fieldAddr (q := 1) (off := 0) (n := 1) (one := true) rfl rfl (lt_ok rfl) (by kernel_rfl) (Nat.succ_ne_zero _) rfl) ?_
 refine TL.cons rfl (Step.load_box (c := .d (.int .i64 p.f1.f0)) rfl rfl (lt_ok rfl) (by kernel_rfl) rfl rfl rfl) ?_
 refine TL.cons rfl (Step.fieldAddr (q := 0) (off := 0) (n := 1) (one := true) rfl rfl (lt_ok rfl) (by kernel_rfl) (Nat.succ_ne_zero _) rfl) ?_
 refine TL.cons rfl (Step.load_box (c := .d (.int .i64 (p.f0.getD ((p.f0.length : Int) - 1).toNat default).f0)) rfl rfl (lt_ok rfl) (by kernel_rfl) rfl rfl rfl) ?_
 refine TL.cons rfl (Step.bin rfl rfl (lt_ok rfl) rfl rfl (Bin.eql (k := .i64) (a := p.f1.f0) (b := (p.f0.getD ((p.f0.length : Int) - 1).toNat default).f0))) ?_
 refine TL.cons rfl (Step.move (p := (.one (.d (.bool (decide (p.f1.f0 = (p.f0.getD ((p.f0.length : Int) - 1).toNat default).f0)))))) rfl rfl (lt_ok rfl) rfl) ?_
 rcases Bool.eq_false_or_eq_true (decide (p.f1.f0 = (p.f0.getD ((p.f0.length : Int) - 1).toNat default).f0)) with hb1 | hb1
 ·
  refine TL.known 18 hb1 rfl ?_
  refine TL.gyes 18 rfl rfl (lt_ok rfl) rfl (Step.fieldAddr (q := 0) (off := 1) (n := 5) (one := false) rfl rfl (lt_ok rfl) (by kernel_rfl) (Nat.succ_ne_zero _) rfl) ?_
  refine TL.gyes 18 rfl rfl (lt_ok rfl) rfl (Step.fieldAddr (q := 1) (off := 1) (n := 1) (one := true) rfl rfl (lt_ok rfl) (by kernel_rfl) (Nat.succ_ne_zero _) rfl) ?_
  refine TL.gyes 18 rfl rfl (lt_ok rfl) rfl (Step.load_box (c := .d (.int .i64 p.f1.f1)) rfl rfl (lt_ok rfl) (by kernel_rfl) rfl rfl rfl) ?_
  refine TL.gyes 18 rfl rfl (lt_ok rfl) rfl (Step.fieldAddr (q := 0) (off := 1) (n := 1) (one := true) rfl rfl (lt_ok rfl) (by kernel_rfl) (Nat.succ_ne_zero _) rfl) ?_
  refine TL.gyes 18 rfl rfl (lt_ok rfl) rfl (Step.load_box (c := .d (.int .i64 (p.f0.getD ((p.f0.length : Int) - 1).toNat default).f1)) rfl rfl (lt_ok rfl) (by kernel_rfl) rfl rfl rfl) ?_
  refine TL.gyes 18 rfl rfl (lt_ok rfl) rfl (Step.bin rfl rfl (lt_ok rfl) rfl rfl (Bin.eql (k := .i64) (a := p.f1.f1) (b := (p.f0.getD ((p.f0.length : Int) - 1).toNat default).f1))) ?_
  refine TL.cons rfl (Step.pick (b := true) (p := (.one (.d (.bool (decide (p.f1.f1 = (p.f0.getD ((p.f0.length : Int) - 1).toNat default).f1)))))) rfl rfl (lt_ok rfl) rfl rfl) ?_
  refine TL.cons rfl (Step.assign (p := (.one (.d (.bool (decide (p.f1.f1 = (p.f0.getD ((p.f0.length : Int) - 1).toNat default).f1)))))) rfl rfl (lt_ok rfl) rfl) ?_
  refine TL.nil ?_
  refine T.ret ?_
  exact ⟨[(false, [.d (.bool (decide (p.f1.f1 = (p.f0.getD ((p.f0.length : Int) - 1).toNat default).f1)))])], (.cons rfl .nil), rfl, [], (RetC.rd' (by first | rfl | (congr 1; symm; simp only [closes, *, Bool.and_true, Bool.true_and, Bool.and_false, Bool.false_and, decide_true, decide_false, and_true, true_and, and_self, and_false, false_and, Bool.and_self, not_true, not_false, Bool.not_true, Bool.not_false, ge_iff_le, gt_iff_lt, if_true, if_false, Bool.false_eq_true, ite_true, ite_false, reduceIte]; done) | (congr 1; symm; simp_all [closes]; done) | (congr 1; symm; simp_all [closes]; omega)) .nil)⟩
 ·
  refine TL.known 18 hb1 rfl ?_
  refine TL.goff 18 rfl rfl (lt_ok rfl) rfl rfl rfl (lt_ok rfl) ?_
  refine TL.goff 18 rfl rfl (lt_ok rfl) rfl rfl rfl (lt_ok rfl) ?_
  refine TL.goff 18 rfl rfl (lt_ok rfl) rfl rfl rfl (lt_ok rfl) ?_
  refine TL.goff 18 rfl rfl (lt_ok rfl) rfl rfl rfl (lt_ok rfl) ?_
  refine TL.goff 18 rfl rfl (lt_ok rfl) rfl rfl rfl (lt_ok rfl) ?_
  refine TL.goff 18 rfl rfl (lt_ok rfl) rfl rfl rfl (lt_ok rfl) ?_
  refine TL.cons rfl (Step.pick (b := false) (p := (.one (.d (.bool false)))) rfl rfl (lt_ok rfl) rfl rfl) ?_
  refine TL.cons rfl (Step.assign (p := (.one (.d (.bool false)))) rfl rfl (lt_ok rfl) rfl) ?_
  refine TL.nil ?_
  refine T.ret ?_
  exact ⟨[(false, [.d (.bool false)])], (.cons rfl .nil), rfl, [], (RetC.rd' (by first | rfl | (congr 1; symm; simp only [closes, *, Bool.and_true, Bool.true_and, Bool.and_false, Bool.false_and, decide_true, decide_false, and_true, true_and, and_self, and_false, false_and, Bool.and_self, not_true, not_false, Bool.not_true, Bool.not_false, ge_iff_le, gt_iff_lt, if_true, if_false, Bool.false_eq_true, ite_true, ite_false, reduceIte]; done) | (congr 1; symm; simp_all [closes]; done) | (congr 1; symm; simp_all [closes]; omega)) .nil)⟩
theorem ok_impl_ProofOk (l : SLimits) (p : SProof) (h0_ : p.ok) (h1_ : p.sm) : RO Try.prog 75 [.agg l.cells, .agg p.cells] [(false, [.rd (.bool (proofOk l p))])] := by
 refine RO.intro Try.func75 rfl 27 rfl (le_ok rfl) fun w Z => ?_
 obtain ⟨o0, o1⟩ := h0_
 obtain ⟨s0, s1⟩ := h1_
 refine T.seq ?_
 refine T.region ?_
 refine TL.cons rfl (Step.box (p := (.agg [.d (.int .i64 l.f0), .d (.int .i64 l.f1), .d (.int .i64 l.f2), .d (.int .i64 l.f3), .d (.int .i64 l.f4)])) (ps := [.d (.int .i64 l.f0), .d (.int .i64 l.f1), .d (.int .i64 l.f2), .d (.int .i64 l.f3), .d (.int .i64 l.f4)]) rfl rfl (lt_ok rfl) rfl rfl rfl rfl rfl) ?_
 refine TL.cons rfl (Step.box (p := (.agg [.d (.sl 10 (p.f0.map SHead.cells)), .d (.int .i64 p.f1.f0), .d (.int .i64 p.f1.f1), .d (.ints .u8 p.f1.f2), .d (.ints .u8 p.f1.f3), .d (.bss p.f1.f4)])) (ps := [.d (.sl 10 (p.f0.map SHead.cells)), .d (.int .i64 p.f1.f0), .d (.int .i64 p.f1.f1), .d (.ints .u8 p.f1.f2), .d (.ints .u8 p.f1.f3), .d (.bss p.f1.f4)]) rfl rfl (lt_ok rfl) rfl rfl rfl rfl rfl) ?_
 refine TL.cons rfl (Step.assign (p := (.one (.d (.bool false)))) rfl rfl (lt_ok rfl) rfl) ?_
 refine TL.nil ?_
 refine T.seq ?_
 refine T.region ?_
 refine TL.cons rfl (Step.fieldAddr (q := 0) (off := 0) (n := 1) (one := true) rfl rfl (lt_ok rfl) (by kernel_rfl) (Nat.succ_ne_zero _) rfl) ?_
 refine TL.cons rfl (Step.load_box (c := .d (.sl 10 (p.f0.map SHead.cells))) rfl rfl (lt_ok rfl) (by kernel_rfl) rfl rfl rfl) ?_
 refine TL.cons rfl (Step.len' (e := 54) (z := 10) (d := (.sl 10 (p.f0.map SHead.cells))) (n := p.f0.length) rfl rfl (lt_ok rfl) (by kernel_rfl) rfl rfl (by simp [D.size])) ?_
 refine TL.cons rfl (Step.fieldAddr (q := 0) (off := 4) (n := 1) (one := true) rfl rfl (lt_ok rfl) (by kernel_rfl) (Nat.succ_ne_zero _) rfl) ?_
 refine TL.cons rfl (Step.load_box (c := .d (.int .i64 l.f4)) rfl rfl (lt_ok rfl) (by kernel_rfl) rfl rfl rfl) ?_
 refine TL.cons rfl (Step.call (f := 117) (xs := [.tmp 7, .const (.int .i64 3), .tmp 9]) (ps := [(.one (.d (.int .i64 (p.f0.length : Int)))), (.one (.d (.int .i64 3))), (.one (.d (.int .i64 l.f4)))]) false (g := .func 117) rfl rfl (lt_ok rfl) rfl (by kernel_rfl) rfl (.cons (.one (.d _)) (.cons (.one (.d _)) (.cons (.one (.d _)) .nil))) (ok_impl_within (p.f0.length : Int) 3 l.f4) (.inr rfl) rfl (by simp) rfl) ?_
 refine TL.cons rfl (Step.move (p := (.one (.d (.bool (decide (3 ≤ (p.f0.length : Int) ∧ (p.f0.length : Int) ≤ l.f4)))))) rfl rfl (lt_ok rfl) rfl) ?_
 rcases Bool.eq_false_or_eq_true (decide (3 ≤ (p.f0.length : Int) ∧ (p.f0.length : Int) ≤ l.f4)) with hb1 | hb1
 ·
  refine TL.known 11 hb1 rfl ?_
  have hb1' := hb1
  replace hb1' := of_decide_eq_true hb1'
  refine TL.gyes 11 rfl rfl (lt_ok rfl) rfl (Step.load_box_agg (n := 5) (qs := [.d (.int .i64 l.f0), .d (.int .i64 l.f1), .d (.int .i64 l.f2), .d (.int .i64 l.f3), .d (.int .i64 l.f4)]) rfl rfl (lt_ok rfl) (by kernel_rfl) rfl rfl rfl rfl) ?_
  refine TL.gyes 11 rfl rfl (lt_ok rfl) rfl (Step.fieldAddr (q := 0) (off := 0) (n := 1) (one := true) rfl rfl (lt_ok rfl) (by kernel_rfl) (Nat.succ_ne_zero _) rfl) ?_
  refine TL.gyes 11 rfl rfl (lt_ok rfl) rfl (Step.load_box (c := .d (.sl 10 (p.f0.map SHead.cells))) rfl rfl (lt_ok rfl) (by kernel_rfl) rfl rfl rfl) ?_
  refine TL.gyes 11 rfl rfl (lt_ok rfl) rfl (Step.call (f := 126) (xs := [.tmp 12, .tmp 14]) (ps := [(.agg [.d (.int .i64 l.f0), .d (.int .i64 l.f1), .d (.int .i64 l.f2), .d (.int .i64 l.f3), .d (.int .i64 l.f4)]), (.one (.d (.sl 10 (p.f0.map SHead.cells))))]) false (g := .func 126) rfl rfl (lt_ok rfl) rfl (by kernel_rfl) rfl (.cons (.agg (.cons (.d _) (.cons (.d _) (.cons (.d _) (.cons (.d _) (.cons (.d _) .nil)))))) (.cons (.one (.d _)) .nil)) (ok_impl_areHeads l p.f0 (by assumption) (by first | assumption | exact s0.2)) (.inr rfl) rfl (by simp) rfl) ?_
  refine TL.cons rfl (Step.pick (b := true) (p := (.one (.d (.bool (headsOk l p.f0))))) rfl rfl (lt_ok rfl) rfl rfl) ?_
  refine TL.cons rfl (Step.move (p := (.one (.d (.bool (headsOk l p.f0))))) rfl rfl (lt_ok rfl) rfl) ?_
  rcases Bool.eq_false_or_eq_true (headsOk l p.f0) with hb2 | hb2
  ·
   refine TL.known 17 hb2 rfl ?_
   refine TL.gyes 17 rfl rfl (lt_ok rfl) rfl (Step.load_box_agg (n := 5) (qs := [.d (.int .i64 l.f0), .d (.int .i64 l.f1), .d (.int .i64 l.f2), .d (.int .i64 l.f3), .d (.int .i64 l.f4)]) rfl rfl (lt_ok rfl) (by kernel_rfl) rfl rfl rfl rfl) ?_
   refine TL.gyes 17 rfl rfl (lt_ok rfl) rfl (Step.fieldAddr (q := 0) (off := 1) (n := 5) (one := false) rfl rfl (lt_ok rfl) (by kernel_rfl) (Nat.succ_ne_zero _) rfl) ?_
   refine TL.gyes 17 rfl rfl (lt_ok rfl) rfl (Step.load_box_agg (n := 5) (qs := [.d (.int .i64 p.f1.f0), .d (.int .i64 p.f1.f1), .d (.ints .u8 p.f1.f2), .d (.ints .u8 p.f1.f3), .d (.bss p.f1.f4)]) rfl rfl (lt_ok rfl) (by kernel_rfl) rfl rfl rfl rfl) ?_
   refine TL.gyes 17 rfl rfl (lt_ok rfl) rfl (Step.call (f := 127) (xs := [.tmp 18, .tmp 20]) (ps := [(.agg [.d (.int .i64 l.f0), .d (.int .i64 l.f1), .d (.int .i64 l.f2), .d (.int .i64 l.f3), .d (.int .i64 l.f4)]), (.agg [.d (.int .i64 p.f1.f0), .d (.int .i64 p.f1.f1), .d (.ints .u8 p.f1.f2), .d (.ints .u8 p.f1.f3), .d (.bss p.f1.f4)])]) false (g := .func 127) rfl rfl (lt_ok rfl) rfl (by kernel_rfl) rfl (.cons (.agg (.cons (.d _) (.cons (.d _) (.cons (.d _) (.cons (.d _) (.cons (.d _) .nil)))))) (.cons (.agg (.cons (.d _) (.cons (.d _) (.cons (.d _) (.cons (.d _) (.cons (.d _) .nil)))))) .nil)) (ok_impl_QcOk l p.f1 (by assumption) (by assumption)) (.inr rfl) rfl (by simp) rfl) ?_
   refine TL.cons rfl (Step.pick (b := true) (p := (.one (.d (.bool (qcOk l p.f1))))) rfl rfl (lt_ok rfl) rfl rfl) ?_
   refine TL.cons rfl (Step.move (p := (.one (.d (.bool (qcOk l p.f1))))) rfl rfl (lt_ok rfl) rfl) ?_
   rcases Bool.eq_false_or_eq_true (qcOk l p.f1) with hb3 | hb3
   ·
    refine TL.known 23 hb3 rfl ?_
    refine TL.gyes 23 rfl rfl (lt_ok rfl) rfl (Step.load_box_agg (n := 6) (qs := [.d (.sl 10 (p.f0.map SHead.cells)), .d (.int .i64 p.f1.f0), .d (.int .i64 p.f1.f1), .d (.ints .u8 p.f1.f2), .d (.ints .u8 p.f1.f3), .d (.bss p.f1.f4)]) rfl rfl (lt_ok rfl) (by kernel_rfl) rfl rfl rfl rfl) ?_
    refine TL.gyes 23 rfl rfl (lt_ok rfl) rfl (Step.call (f := 128) (xs := [.tmp 24]) (ps := [(.agg [.d (.sl 10 (p.f0.map SHead.cells)), .d (.int .i64 p.f1.f0), .d (.int .i64 p.f1.f1), .d (.ints .u8 p.f1.f2), .d (.ints .u8 p.f1.f3), .d (.bss p.f1.f4)])]) false (g := .func 128) rfl rfl (lt_ok rfl) rfl (by kernel_rfl) rfl (.cons (.agg (.cons (.d _) (.cons (.d _) (.cons (.d _) (.cons (.d _) (.cons (.d _) (.cons (.d _) .nil))))))) .nil) (ok_impl_Proof__closes p (by first | omega | assumption) (by first | exact s0.1 | omega)) (.inr rfl) rfl (by simp) rfl) ?_
    refine TL.cons rfl (Step.pick (b := true) (p := (.one (.d (.bool (closes p))))) rfl rfl (lt_ok rfl) rfl rfl) ?_
    refine TL.cons rfl (Step.assign (p := (.one (.d (.bool (closes p))))) rfl rfl (lt_ok rfl) rfl) ?_
    refine TL.nil ?_
    refine T.ret ?_
    exact ⟨[(false, [.d (.bool (closes p))])], (.cons rfl .nil), rfl, [], (RetC.rd' (by first | rfl | (congr 1; symm; simp only [proofOk, *, Bool.and_true, Bool.true_and, Bool.and_false, Bool.false_and, decide_true, decide_false, and_true, true_and, and_self, and_false, false_and, Bool.and_self, not_true, not_false, Bool.not_true, Bool.not_false, ge_iff_le, gt_iff_lt, if_true, if_false, Bool.false_eq_true, ite_true, ite_false, reduceIte]; done) | (congr 1; symm; simp_all [proofOk]; done) | (congr 1; symm; simp_all [proofOk]; omega)) .nil)⟩
   ·
    refine TL.known 23 hb3 rfl ?_
    refine TL.goff 23 rfl rfl (lt_ok rfl) rfl rfl rfl (lt_ok rfl) ?_
    refine TL.goff 23 rfl rfl (lt_ok rfl) rfl rfl rfl (lt_ok rfl) ?_
    refine TL.cons rfl (Step.pick (b := false) (p := (.one (.d (.bool false)))) rfl rfl (lt_ok rfl) rfl rfl) ?_
    refine TL.cons rfl (Step.assign (p := (.one (.d (.bool false)))) rfl rfl (lt_ok rfl) rfl) ?_
    refine TL.nil ?_
    refine T.ret ?_
    exact ⟨[(false, [.d (.bool false)])], (.cons rfl .nil), rfl, [], (RetC.rd' (by first | rfl | (congr 1; symm; simp only [proofOk, *, Bool.and_true, Bool.true_and, Bool.and_false, Bool.false_and, decide_true, decide_false, and_true, true_and, and_self, and_false, false_and, Bool.and_self, not_true, not_false, Bool.not_true, Bool.not_false, ge_iff_le, gt_iff_lt, if_true, if_false, Bool.false_eq_true, ite_true, ite_false, reduceIte]; done) | (congr 1; symm; simp_all [proofOk]; done) | (congr 1; symm; simp_all [proofOk]; omega)) .nil)⟩
  ·
   refine TL.known 17 hb2 rfl ?_
   refine TL.goff 17 rfl rfl (lt_ok rfl) rfl rfl rfl (lt_ok rfl) ?_
   refine TL.goff 17 rfl rfl (lt_ok rfl) rfl rfl rfl (lt_ok rfl) ?_
   refine TL.goff 17 rfl rfl (lt_ok rfl) rfl rfl rfl (lt_ok rfl) ?_
   refine TL.goff 17 rfl rfl (lt_ok rfl) rfl rfl rfl (lt_ok rfl) ?_
   refine TL.cons rfl (Step.pick (b := false) (p := (.one (.d (.bool false)))) rfl rfl (lt_ok rfl) rfl rfl) ?_
   refine TL.cons rfl (Step.move (p := (.one (.d (.bool false)))) rfl rfl (lt_ok rfl) rfl) ?_
   refine TL.goff 23 rfl rfl (lt_ok rfl) rfl rfl rfl (lt_ok rfl) ?_
   refine TL.goff 23 rfl rfl (lt_ok rfl) rfl rfl rfl (lt_ok rfl) ?_
   refine TL.cons rfl (Step.pick (b := false) (p := (.one (.d (.bool false)))) rfl rfl (lt_ok rfl) rfl rfl) ?_
   refine TL.cons rfl (Step.assign (p := (.one (.d (.bool false)))) rfl rfl (lt_ok rfl) rfl) ?_
   refine TL.nil ?_
   refine T.ret ?_
   exact ⟨[(false, [.d (.bool false)])], (.cons rfl .nil), rfl, [], (RetC.rd' (by first | rfl | (congr 1; symm; simp only [proofOk, *, Bool.and_true, Bool.true_and, Bool.and_false, Bool.false_and, decide_true, decide_false, and_true, true_and, and_self, and_false, false_and, Bool.and_self, not_true, not_false, Bool.not_true, Bool.not_false, ge_iff_le, gt_iff_lt, if_true, if_false, Bool.false_eq_true, ite_true, ite_false, reduceIte]; done) | (congr 1; symm; simp_all [proofOk]; done) | (congr 1; symm; simp_all [proofOk]; omega)) .nil)⟩
 ·
  refine TL.known 11 hb1 rfl ?_
  have hb1' := hb1
  replace hb1' := of_decide_eq_false hb1'
  refine TL.goff 11 rfl rfl (lt_ok rfl) rfl rfl rfl (lt_ok rfl) ?_
  refine TL.goff 11 rfl rfl (lt_ok rfl) rfl rfl rfl (lt_ok rfl) ?_
  refine TL.goff 11 rfl rfl (lt_ok rfl) rfl rfl rfl (lt_ok rfl) ?_
  refine TL.goff 11 rfl rfl (lt_ok rfl) rfl rfl rfl (lt_ok rfl) ?_
  refine TL.cons rfl (Step.pick (b := false) (p := (.one (.d (.bool false)))) rfl rfl (lt_ok rfl) rfl rfl) ?_
  refine TL.cons rfl (Step.move (p := (.one (.d (.bool false)))) rfl rfl (lt_ok rfl) rfl) ?_
  refine TL.goff 17 rfl rfl (lt_ok rfl) rfl rfl rfl (lt_ok rfl) ?_
  refine TL.goff 17 rfl rfl (lt_ok rfl) rfl rfl rfl (lt_ok rfl) ?_
  refine TL.goff 17 rfl rfl (lt_ok rfl) rfl rfl rfl (lt_ok rfl) ?_
  refine TL.goff 17 rfl rfl (lt_ok rfl) rfl rfl rfl (lt_ok rfl) ?_
  refine TL.cons rfl (Step.pick (b := false) (p := (.one (.d (.bool false)))) rfl rfl (lt_ok rfl) rfl rfl) ?_
  refine TL.cons rfl (Step.move (p := (.one (.d (.bool false)))) rfl rfl (lt_ok rfl) rfl) ?_
  refine TL.goff 23 rfl rfl (lt_ok rfl) rfl rfl rfl (lt_ok rfl) ?_
  refine TL.goff 23 rfl rfl (lt_ok rfl) rfl rfl rfl (lt_ok rfl) ?_
  refine TL.cons rfl (Step.pick (b := false) (p := (.one (.d (.bool false)))) rfl rfl (lt_ok rfl) rfl rfl) ?_
  refine TL.cons rfl (Step.assign (p := (.one (.d (.bool false)))) rfl rfl (lt_ok rfl) rfl) ?_
  refine TL.nil ?_
  refine T.ret ?_
  exact ⟨[(false, [.d (.bool false)])], (.cons rfl .nil), rfl, [], (RetC.rd' (by first | rfl | (congr 1; symm; simp only [proofOk, *, Bool.and_true, Bool.true_and, Bool.and_false, Bool.false_and, decide_true, decide_false, and_true, true_and, and_self, and_false, false_and, Bool.and_self, not_true, not_false, Bool.not_true, Bool.not_false, ge_iff_le, gt_iff_lt, if_true, if_false, Bool.false_eq_true, ite_true, ite_false, reduceIte]; done) | (congr 1; symm; simp_all [proofOk]; done) | (congr 1; symm; simp_all [proofOk]; omega)) .nil)⟩
theorem ok_impl_copyBytes (a : List Int) (h0_ : a.length ≤ 17592186044416) : RO Try.prog 76 [.one (.ints .u8 a)] [(false, [.own 5 (.ints .u8 a)])] := by
 refine RO.intro Try.func76 rfl 6 rfl (le_ok rfl) fun w Z => ?_
 refine T.bnd 0 0 rfl rfl fun hb_0_0 => ?_
 simp only [D.size, List.length_map] at hb_0_0
 refine T.seq ?_
 refine T.region ?_
 refine TL.cons rfl (Step.assign (p := (.one (.nil))) rfl rfl (lt_ok rfl) rfl) ?_
 refine TL.nil ?_
 refine T.seq ?_
 refine T.region ?_
 refine TL.cons rfl (Step.lit (e := 5) (z := 1) (by_ := 1) (xs := []) (pss := []) (es := []) (ss := []) (d := (.ints .u8 [])) rfl rfl (lt_ok rfl) (by kernel_rfl) rfl rfl .nil (by simp) (le_ok rfl) (le_ok rfl) rfl .nil rfl (by simp) (by simp) rfl trivial rfl rfl) ?_
 refine TL.cons rfl (Step.move (p := (.one (.d (.ints .u8 a)))) rfl rfl (lt_ok rfl) rfl) ?_
 refine TL.cons rfl (Step.append (e := 5) (z := 1) (by_ := 1) (d := (.ints .u8 [])) (dy := (.ints .u8 a)) (d' := (.ints .u8 ([] ++ a))) (ss := []) rfl rfl (lt_ok rfl) (by kernel_rfl) rfl rfl rfl (lt_ok rfl) rfl (.froz rfl (by simp [D.flat, D.val])) (by simp) rfl (by simp only [D.size, List.length_map]; first | omega | (simp; omega) | (simp only [List.length_append] at *; omega)) (by simp only [D.size, List.length_map]; first | omega | (simp; omega) | (simp only [List.length_append] at *; omega)) (by simp)) ?_
 refine TL.cons rfl (Step.assign (p := (.one (.row 3 []))) rfl rfl (lt_ok rfl) rfl) ?_
 refine TL.nil ?_
 refine T.ret ?_
 exact ⟨[(false, [.row 3 []])], (.cons rfl .nil), rfl, [3], (RetC.own' rfl (by rfl) rfl .nil)⟩
theorem ok_impl_PutVar (b : List Int) (n : Int) (h0_ : b.length ≤ 17592186044416) : RO Try.prog 129 [.one (.ints .u8 b), .one (.int .i64 n)] [(false, [.own 5 (.ints .u8 (putVar b n))]), (false, [.rd (.bool (decide (0 ≤ n ∧ n ≤ 1152921504606846975)))])] := by
 refine RO.intro Try.func129 rfl 28 rfl (le_ok rfl) fun w Z => ?_
 refine T.bnd 0 0 rfl rfl fun hb_0_0 => ?_
 simp only [D.size, List.length_map] at hb_0_0
 refine T.seq ?_
 refine T.region ?_
 refine TL.cons rfl (Step.assign (p := (.one (.nil))) rfl rfl (lt_ok rfl) rfl) ?_
 refine TL.cons rfl (Step.assign (p := (.one (.d (.bool false)))) rfl rfl (lt_ok rfl) rfl) ?_
 refine TL.nil ?_
 refine T.seq ?_
 refine T.seq ?_
 refine T.region ?_
 refine TL.cons rfl (Step.move (p := (.one (.d (.int .i64 n)))) rfl rfl (lt_ok rfl) rfl) ?_
 refine TL.cons rfl (Step.call (f := 155) (xs := [.tmp 7]) (ps := [(.one (.d (.int .i64 n)))]) false (g := .func 155) rfl rfl (lt_ok rfl) rfl (by kernel_rfl) rfl (.cons (.one (.d _)) .nil) (ok_impl_isNum n) (.inr rfl) rfl (by simp) rfl) ?_
 refine TL.cons rfl (Step.not (b := (decide (0 ≤ n ∧ n ≤ 1152921504606846975))) rfl rfl (lt_ok rfl) rfl) ?_
 refine TL.nil ?_
 refine T.cond (b := !(decide (0 ≤ n ∧ n ≤ 1152921504606846975))) rfl (fun h1 => ?_) (fun h1 => ?_)
 ·
  replace h1 : (decide (0 ≤ n ∧ n ≤ 1152921504606846975)) = false := by simpa only [Bool.not_eq_true', Bool.not_eq_false'] using h1
  replace h1 := of_decide_eq_false h1
  refine T.seq ?_
  refine T.region ?_
  refine TL.cons rfl (Step.assign (p := (.one (.nil))) rfl rfl (lt_ok rfl) rfl) ?_
  refine TL.cons rfl (Step.assign (p := (.one (.d (.bool false)))) rfl rfl (lt_ok rfl) rfl) ?_
  refine TL.nil ?_
  refine T.ret ?_
  exact ⟨[(false, [.nil]), (false, [.d (.bool false)])], (.cons rfl (.cons rfl .nil)), rfl, [], (RetC.nilown' rfl (by first | rfl | (congr 1; unfold putVar; rw [if_pos (decide_eq_true (by assumption))]; rw [← hx3, varW_last (n := m) (by omega)]; done) | (show (putVar b n).length = 0; rw [putVar, if_neg (by rw [decide_eq_true_eq]; assumption)]; rfl) | (congr 1; symm; first | exact decide_eq_true ‹_› | exact decide_eq_false ‹_›)) (by first | exact trivial | exact D.wf_nil _) (RetC.rd' (by first | rfl | (congr 1; unfold putVar; rw [if_pos (decide_eq_true (by assumption))]; rw [← hx3, varW_last (n := m) (by omega)]; done) | (show (putVar b n).length = 0; rw [putVar, if_neg (by rw [decide_eq_true_eq]; assumption)]; rfl) | (congr 1; symm; first | exact decide_eq_true ‹_› | exact decide_eq_false ‹_›)) .nil))⟩
 ·
  replace h1 : (decide (0 ≤ n ∧ n ≤ 1152921504606846975)) = true := by simpa only [Bool.not_eq_true', Bool.not_eq_false'] using h1
  replace h1 := of_decide_eq_true h1
  refine T.skip ?_
  refine T.seq ?_
  refine T.region ?_
  refine TL.cons rfl (Step.move (p := (.one (.d (.ints .u8 b)))) rfl rfl (lt_ok rfl) rfl) ?_
  refine TL.cons rfl (Step.call (f := 76) (xs := [.tmp 10]) (ps := [(.one (.d (.ints .u8 b)))]) false (g := .func 76) rfl rfl (lt_ok rfl) rfl (by kernel_rfl) rfl (.cons (.one (.d _)) .nil) (ok_impl_copyBytes b (by first | omega | assumption)) (.inr rfl) rfl (by simp) rfl) ?_
  refine TL.cons rfl (Step.assign (p := (.one (.row 1011 []))) rfl rfl (lt_ok rfl) rfl) ?_
  refine TL.nil ?_
  refine T.seq ?_
  refine T.block ?_
  refine T.loop (ι := (List Int) × Int) (fun xx_ => { tm := [(4, (.one (.nil))), (5, (.one (.d (.bool false)))), (1, (.one (.d (.int .i64 (xx_.2))))), (6, (.one (.row 1011 [])))], rows := [(1011, (5, (.ints .u8 (xx_.1))))], boxes := [] }) (fun xx_ => 0 ≤ (xx_.2) ∧ (xx_.2) ≤ 1152921504606846975 ∧ (xx_.1) ++ varW (xx_.2) = b ++ varW n ∧ (xx_.1).length ≤ b.length + 9) (fun xx_ => (xx_.2).toNat) (b, n) ?_ ?_ ?_
  · exact Env.le_mk ⟨rfl, rfl, by first | rfl | (refine congrArg (fun x => some (_, D.ints .u8 x)) ?_; rfl), rfl, trivial⟩ ⟨by first | rfl | (refine congrArg (fun x => some (_, D.ints .u8 x)) ?_; rfl), trivial⟩ trivial
  · (dsimp only; refine ⟨by omega, by omega, rfl, by omega⟩)
  ·
   intro xx_ hx
   obtain ⟨o, m⟩ := xx_
   try dsimp only at hx ⊢
   obtain ⟨hx1, hx2, hx3, hx4⟩ := hx
   refine T.seq ?_
   refine T.seq ?_
   refine T.region ?_
   refine TL.cons rfl (Step.move (p := (.one (.d (.int .i64 m)))) rfl rfl (lt_ok rfl) rfl) ?_
   refine TL.cons rfl (Step.bin rfl rfl (lt_ok rfl) rfl rfl (Bin.geq (k := .i64) (a := m) (b := 128))) ?_
   refine TL.nil ?_
   refine T.cond (b := decide (128 ≤ m)) rfl (fun h2 => ?_) (fun h2 => ?_)
   ·
    replace h2 := of_decide_eq_true h2
    refine T.skip ?_
    refine T.block ?_
    refine T.seq ?_
    refine T.region ?_
    refine TL.cons rfl (Step.move (p := (.one (.row 1011 []))) rfl rfl (lt_ok rfl) rfl) ?_
    refine TL.cons rfl (Step.move (p := (.one (.d (.int .i64 m)))) rfl rfl (lt_ok rfl) rfl) ?_
    refine TL.cons rfl (Step.bin (r := .int .i64 (m % 128)) rfl rfl (lt_ok rfl) rfl rfl (Bin.rem (k := .i64) (a := m) (b := 128) (by decide) (Int.tmod_eq_emod_of_nonneg (by first | omega | (simp; omega))))) ?_
    refine TL.cons rfl (Step.bin (r := .int .i64 ((m % 128) + 128)) rfl rfl (lt_ok rfl) rfl rfl (Bin.add (a := (m % 128)) (b := 128) (by first | exact wrap_ok (by first | omega | (simp; omega)) (by first | omega | (simp; omega)) | rfl))) ?_
    refine TL.cons rfl (Step.conv (c := ((m % 128) + 128)) rfl rfl (lt_ok rfl) (by kernel_rfl) (by kernel_rfl) rfl (wrap_u8 (by first | omega | (simp; omega)) (by first | omega | (simp; omega)))) ?_
    refine TL.cons rfl (Step.lit (e := 5) (z := 1) (by_ := 1) (xs := [.tmp 18]) (pss := [[.d (.int .u8 ((m % 128) + 128))]]) (es := [(.int .u8 ((m % 128) + 128))]) (ss := []) (d := (.ints .u8 [(m % 128) + 128])) rfl rfl (lt_ok rfl) (by kernel_rfl) rfl rfl (.cons rfl .nil) (by simp) (le_ok rfl) (le_ok rfl) rfl (.val rfl .nil) rfl (by simp) (by simp) rfl trivial rfl rfl) ?_
    refine TL.cons rfl (Step.append (e := 5) (z := 1) (by_ := 1) (d := (.ints .u8 o)) (dy := (.ints .u8 [(m % 128) + 128])) (d' := (.ints .u8 (o ++ [(m % 128) + 128]))) (ss := []) rfl rfl (lt_ok rfl) (by kernel_rfl) rfl rfl rfl (lt_ok rfl) rfl (.copy rfl rfl rfl (by simp [D.flat, D.val])) (by simp) rfl (by simp only [D.size, List.length_map]; first | omega | (simp; omega) | (simp only [List.length_append] at *; omega)) (by simp only [D.size, List.length_map]; first | omega | (simp; omega) | (simp only [List.length_append] at *; omega)) (by simp)) ?_
    refine TL.cons rfl (Step.assign (p := (.one (.row 1011 []))) rfl rfl (lt_ok rfl) rfl) ?_
    refine TL.nil ?_
    refine T.region ?_
    refine TL.cons rfl (Step.move (p := (.one (.d (.int .i64 m)))) rfl rfl (lt_ok rfl) rfl) ?_
    refine TL.cons rfl (Step.bin (r := .int .i64 (m / 128)) rfl rfl (lt_ok rfl) rfl rfl (Bin.quo (k := .i64) (a := m) (b := 128) (by decide) (by rw [Int.tdiv_eq_ediv_of_nonneg (by first | omega | (simp; omega))]; exact wrap_ok (by first | omega | (simp; omega)) (by first | omega | (simp; omega))))) ?_
    refine TL.cons rfl (Step.assign (p := (.one (.d (.int .i64 (m / 128))))) rfl rfl (lt_ok rfl) rfl) ?_
    refine TL.nil ?_
    exact ⟨(o ++ [(m % 128) + 128], m / 128), by (refine ⟨by omega, by omega, by rw [← hx3, varW_next (n := m) (by omega)]; simp [Int.add_comm], ?_⟩; have e_ := congrArg List.length hx3; rw [varW_next (n := m) (by omega)] at e_; have := varW_len9 (n := n) (by omega); simp only [List.length_append, List.length_cons, List.length_nil] at e_ ⊢; omega), by (dsimp only; omega), Env.le_mk ⟨rfl, rfl, by first | rfl | (refine congrArg (fun x => some (_, D.ints .u8 x)) ?_; rfl), rfl, trivial⟩ ⟨by first | rfl | (refine congrArg (fun x => some (_, D.ints .u8 x)) ?_; rfl), trivial⟩ trivial⟩
   ·
    replace h2 := of_decide_eq_false h2
    refine T.exit ?_
    refine T.seq ?_
    refine T.region ?_
    refine TL.cons rfl (Step.move (p := (.one (.row 1011 []))) rfl rfl (lt_ok rfl) rfl) ?_
    refine TL.cons rfl (Step.move (p := (.one (.d (.int .i64 m)))) rfl rfl (lt_ok rfl) rfl) ?_
    refine TL.cons rfl (Step.conv (c := m) rfl rfl (lt_ok rfl) (by kernel_rfl) (by kernel_rfl) rfl (wrap_u8 (by first | omega | (simp; omega)) (by first | omega | (simp; omega)))) ?_
    refine TL.cons rfl (Step.lit (e := 5) (z := 1) (by_ := 1) (xs := [.tmp 25]) (pss := [[.d (.int .u8 m)]]) (es := [(.int .u8 m)]) (ss := []) (d := (.ints .u8 [m])) rfl rfl (lt_ok rfl) (by kernel_rfl) rfl rfl (.cons rfl .nil) (by simp) (le_ok rfl) (le_ok rfl) rfl (.val rfl .nil) rfl (by simp) (by simp) rfl trivial rfl rfl) ?_
    refine TL.cons rfl (Step.append (e := 5) (z := 1) (by_ := 1) (d := (.ints .u8 o)) (dy := (.ints .u8 [m])) (d' := (.ints .u8 (o ++ [m]))) (ss := []) rfl rfl (lt_ok rfl) (by kernel_rfl) rfl rfl rfl (lt_ok rfl) rfl (.copy rfl rfl rfl (by simp [D.flat, D.val])) (by simp) rfl (by simp only [D.size, List.length_map]; first | omega | (simp; omega) | (simp only [List.length_append] at *; omega)) (by simp only [D.size, List.length_map]; first | omega | (simp; omega) | (simp only [List.length_append] at *; omega)) (by simp)) ?_
    refine TL.cons rfl (Step.assign (p := (.one (.row 1011 []))) rfl rfl (lt_ok rfl) rfl) ?_
    refine TL.cons rfl (Step.assign (p := (.one (.d (.bool true)))) rfl rfl (lt_ok rfl) rfl) ?_
    refine TL.nil ?_
    refine T.ret ?_
    exact ⟨[(false, [.row 1011 []]), (false, [.d (.bool true)])], (.cons rfl (.cons rfl .nil)), rfl, [1011], (RetC.own' rfl (by first | rfl | (congr 1; unfold putVar; rw [if_pos (decide_eq_true (by assumption))]; rw [← hx3, varW_last (n := m) (by omega)]; done) | (show (putVar b n).length = 0; rw [putVar, if_neg (by rw [decide_eq_true_eq]; assumption)]; rfl) | (congr 1; symm; first | exact decide_eq_true ‹_› | exact decide_eq_false ‹_›)) rfl (RetC.rd' (by first | rfl | (congr 1; unfold putVar; rw [if_pos (decide_eq_true (by assumption))]; rw [← hx3, varW_last (n := m) (by omega)]; done) | (show (putVar b n).length = 0; rw [putVar, if_neg (by rw [decide_eq_true_eq]; assumption)]; rfl) | (congr 1; symm; first | exact decide_eq_true ‹_› | exact decide_eq_false ‹_›)) .nil))⟩
theorem ok_impl_writer__num (b : List Int) (n : Int) (h0_ : b.length ≤ 17592186044416) : BX Try.prog 77 [.bx, .rd (.one (.int .i64 n))] 98 [.own 5 (.ints .u8 b)] [.own 5 (.ints .u8 (putVar b n))] [] := by
 refine BX.intro Try.func77 rfl 16 rfl (le_ok rfl) (le_ok rfl) fun w Z IX pin hp => ?_
 refine T.bndRow 900 rfl fun hb_900 => ?_
 simp only [D.size, List.length_map] at hb_900
 refine T.region ?_
 refine TL.cons rfl (Step.move (p := (.one (.ptr 800 0))) rfl rfl (lt_ok rfl) rfl) ?_
 refine TL.cons rfl (Step.move (p := (.one (.ptr 800 0))) rfl rfl (lt_ok rfl) rfl) ?_
 refine TL.cons rfl (Step.nilCheck rfl rfl (lt_ok rfl) rfl) ?_
 refine TL.cons rfl (Step.fieldAddr (q := 0) (off := 0) (n := 1) (one := true) rfl rfl (lt_ok rfl) (by kernel_rfl) (Nat.succ_ne_zero _) rfl) ?_
 refine TL.cons rfl (Step.load_box (c := .row 900 []) rfl rfl (lt_ok rfl) (by kernel_rfl) rfl rfl rfl) ?_
 refine TL.cons rfl (Step.move (p := (.one (.d (.int .i64 n)))) rfl rfl (lt_ok rfl) rfl) ?_
 have nn1 := putVar_len b n
 refine TL.cons rfl (Step.call (f := 129) (xs := [.tmp 9, .tmp 10]) (ps := [(.one (.row 900 [])), (.one (.d (.int .i64 n)))]) false (g := .func 129) rfl rfl (lt_ok rfl) rfl (by kernel_rfl) rfl (.cons (.one (.row rfl rfl rfl rfl)) (.cons (.one (.d _)) .nil)) (ok_impl_PutVar b n (by first | omega | assumption | (simp only [List.length_append] at *; omega))) (.inr rfl) rfl (fun x hx => by have := hp x hx; omega) rfl) ?_
 refine TL.cons rfl (Step.move (p := (.tup [(false, [.row 1011 []]), (false, [.d (.bool (decide (0 ≤ n ∧ n ≤ 1152921504606846975)))])])) rfl rfl (lt_ok rfl) rfl) ?_
 refine TL.cons rfl (Step.extract (p := (.one (.row 1011 []))) rfl rfl (lt_ok rfl) rfl rfl) ?_
 refine TL.cons rfl (Step.extract (p := (.one (.d (.bool (decide (0 ≤ n ∧ n ≤ 1152921504606846975)))))) rfl rfl (lt_ok rfl) rfl rfl) ?_
 refine TL.cons rfl (Step.nilCheck rfl rfl (lt_ok rfl) rfl) ?_
 refine TL.cons rfl (Step.fieldAddr (q := 0) (off := 0) (n := 1) (one := true) rfl rfl (lt_ok rfl) (by kernel_rfl) (Nat.succ_ne_zero _) rfl) ?_
 refine TL.cons rfl (Step.store_box (n := 1) (p := (.one (.row 1011 []))) (qs := [.row 1011 []]) (ps' := [.row 1011 []]) rfl rfl (by kernel_rfl) rfl rfl rfl rfl rfl rfl (le_ok rfl) rfl) ?_
 refine TL.nil ?_
 exact ⟨[.row 1011 []], [], rfl, rfl, .nil, rfl, [1011], (RetC.own' rfl (by rfl) rfl .nil)⟩
theorem ok_impl_writer__raw (b : List Int) (x : List Int) (h0_ : b.length ≤ 17592186044416) (h1_ : x.length ≤ 17592186044416) : BX Try.prog 130 [.bx, .rd (.one (.ints .u8 x))] 98 [.own 5 (.ints .u8 b)] [.own 5 (.ints .u8 (b ++ x))] [] := by
 refine BX.intro Try.func130 rfl 13 rfl (le_ok rfl) (le_ok rfl) fun w Z IX pin hp => ?_
 refine T.bndRow 900 rfl fun hb_900 => ?_
 simp only [D.size, List.length_map] at hb_900
 refine T.bnd 1 0 rfl rfl fun hb_1_0 => ?_
 simp only [D.size, List.length_map] at hb_1_0
 refine T.region ?_
 refine TL.cons rfl (Step.move (p := (.one (.ptr 800 0))) rfl rfl (lt_ok rfl) rfl) ?_
 refine TL.cons rfl (Step.move (p := (.one (.ptr 800 0))) rfl rfl (lt_ok rfl) rfl) ?_
 refine TL.cons rfl (Step.nilCheck rfl rfl (lt_ok rfl) rfl) ?_
 refine TL.cons rfl (Step.fieldAddr (q := 0) (off := 0) (n := 1) (one := true) rfl rfl (lt_ok rfl) (by kernel_rfl) (Nat.succ_ne_zero _) rfl) ?_
 refine TL.cons rfl (Step.load_box (c := .row 900 []) rfl rfl (lt_ok rfl) (by kernel_rfl) rfl rfl rfl) ?_
 refine TL.cons rfl (Step.move (p := (.one (.d (.ints .u8 x)))) rfl rfl (lt_ok rfl) rfl) ?_
 refine TL.cons rfl (Step.append (e := 5) (z := 1) (by_ := 1) (d := (.ints .u8 b)) (dy := (.ints .u8 x)) (d' := (.ints .u8 (b ++ x))) (ss := []) rfl rfl (lt_ok rfl) (by kernel_rfl) rfl rfl rfl (lt_ok rfl) rfl (.froz rfl (by simp [D.flat, D.val])) (by simp) rfl (by simp only [D.size, List.length_map]; first | omega | (simp; omega) | (simp only [List.length_append] at *; omega)) (by simp only [D.size, List.length_map]; first | omega | (simp; omega) | (simp only [List.length_append] at *; omega)) (fun x hx => by have := hp x hx; omega)) ?_
 refine TL.cons rfl (Step.nilCheck rfl rfl (lt_ok rfl) rfl) ?_
 refine TL.cons rfl (Step.fieldAddr (q := 0) (off := 0) (n := 1) (one := true) rfl rfl (lt_ok rfl) (by kernel_rfl) (Nat.succ_ne_zero _) rfl) ?_
 refine TL.cons rfl (Step.store_box (n := 1) (p := (.one (.row 900 []))) (qs := [.row 900 []]) (ps' := [.row 900 []]) rfl rfl (by kernel_rfl) rfl rfl rfl rfl rfl rfl (le_ok rfl) rfl) ?_
 refine TL.nil ?_
 exact ⟨[.row 900 []], [], rfl, rfl, .nil, rfl, [900], (RetC.own' rfl (by rfl) rfl .nil)⟩
theorem ok_impl_writer__qc (b : List Int) (q : SQc) (h0_ : b.length ≤ 8796093022208) (h1_ : q.sm) : BX Try.prog 79 [.bx, .rd (.agg [(.int .i64 q.f0), (.int .i64 q.f1), (.ints .u8 q.f2), (.ints .u8 q.f3), (.bss q.f4)])] 98 [.own 5 (.ints .u8 b)] [.own 5 (.ints .u8 (putQcB b q))] [] := by
 refine BX.intro Try.func79 rfl 33 rfl (le_ok rfl) (le_ok rfl) fun w Z IX pin hp => ?_
 refine T.bndRow 900 rfl fun hb_900 => ?_
 simp only [D.size, List.length_map] at hb_900
 obtain ⟨s0, s1, s2⟩ := h1_
 refine T.seq ?_
 refine T.region ?_
 refine TL.cons rfl (Step.box (p := (.agg [.d (.int .i64 q.f0), .d (.int .i64 q.f1), .d (.ints .u8 q.f2), .d (.ints .u8 q.f3), .d (.bss q.f4)])) (ps := [.d (.int .i64 q.f0), .d (.int .i64 q.f1), .d (.ints .u8 q.f2), .d (.ints .u8 q.f3), .d (.bss q.f4)]) rfl rfl (lt_ok rfl) rfl rfl rfl rfl rfl) ?_
 refine TL.nil ?_
 refine T.seq ?_
 refine T.region ?_
 refine TL.cons rfl (Step.move (p := (.one (.ptr 800 0))) rfl rfl (lt_ok rfl) rfl) ?_
 refine TL.cons rfl (Step.fieldAddr (q := 0) (off := 0) (n := 1) (one := true) rfl rfl (lt_ok rfl) (by kernel_rfl) (Nat.succ_ne_zero _) rfl) ?_
 refine TL.cons rfl (Step.load_box (c := .d (.int .i64 q.f0)) rfl rfl (lt_ok rfl) (by kernel_rfl) rfl rfl rfl) ?_
 have nn1 := putVar_len b q.f0
 refine TL.cons rfl (Step.callX (f := 77) (b := 800) (T := 98) (xs := [.tmp 6, .tmp 8]) (ps := [(.one (.ptr 800 0)), (.one (.d (.int .i64 q.f0)))]) (args := [.bx, .rd (.one (.int .i64 q.f0))]) (bps := [.row 900 []]) (cs := [.own 5 (.ints .u8 b)]) (cs' := [.own 5 (.ints .u8 (putVar b q.f0))]) (res := []) (ss := [900]) (g := .func 77) rfl rfl (lt_ok rfl) rfl (by kernel_rfl) rfl (.cons (.bx) (.cons (.rd (.one (.d _))) .nil)) rfl (.own rfl (by simp) .nil) (ok_impl_writer__num b q.f0 (by first | omega | assumption | (simp only [List.length_append] at *; omega))) rfl rfl (fun x hx => by have := hp x hx; omega) rfl) ?_
 refine TL.ren 1009 180000 rfl (fun x hx => by have := hp x hx; omega) ?_
 refine TL.nil ?_
 refine T.seq ?_
 refine T.region ?_
 refine TL.cons rfl (Step.move (p := (.one (.ptr 800 0))) rfl rfl (lt_ok rfl) rfl) ?_
 refine TL.cons rfl (Step.fieldAddr (q := 0) (off := 1) (n := 1) (one := true) rfl rfl (lt_ok rfl) (by kernel_rfl) (Nat.succ_ne_zero _) rfl) ?_
 refine TL.cons rfl (Step.load_box (c := .d (.int .i64 q.f1)) rfl rfl (lt_ok rfl) (by kernel_rfl) rfl rfl rfl) ?_
 have nn2 := putVar_len (putVar b q.f0) q.f1
 refine TL.cons rfl (Step.callX (f := 77) (b := 800) (T := 98) (xs := [.tmp 10, .tmp 12]) (ps := [(.one (.ptr 800 0)), (.one (.d (.int .i64 q.f1)))]) (args := [.bx, .rd (.one (.int .i64 q.f1))]) (bps := [.row 180000 []]) (cs := [.own 5 (.ints .u8 (putVar b q.f0))]) (cs' := [.own 5 (.ints .u8 (putVar (putVar b q.f0) q.f1))]) (res := []) (ss := [180000]) (g := .func 77) rfl rfl (lt_ok rfl) rfl (by kernel_rfl) rfl (.cons (.bx) (.cons (.rd (.one (.d _))) .nil)) rfl (.own rfl (by simp) .nil) (ok_impl_writer__num (putVar b q.f0) q.f1 (by first | omega | assumption | (simp only [List.length_append] at *; omega))) rfl rfl (fun x hx => by have := hp x hx; omega) rfl) ?_
 refine TL.ren 1013 180000 rfl (fun x hx => by have := hp x hx; omega) ?_
 refine TL.nil ?_
 refine T.seq ?_
 refine T.region ?_
 refine TL.cons rfl (Step.move (p := (.one (.ptr 800 0))) rfl rfl (lt_ok rfl) rfl) ?_
 refine TL.cons rfl (Step.fieldAddr (q := 0) (off := 2) (n := 1) (one := true) rfl rfl (lt_ok rfl) (by kernel_rfl) (Nat.succ_ne_zero _) rfl) ?_
 refine TL.cons rfl (Step.load_box (c := .d (.ints .u8 q.f2)) rfl rfl (lt_ok rfl) (by kernel_rfl) rfl rfl rfl) ?_
 refine TL.cons rfl (Step.callX (f := 130) (b := 800) (T := 98) (xs := [.tmp 14, .tmp 16]) (ps := [(.one (.ptr 800 0)), (.one (.d (.ints .u8 q.f2)))]) (args := [.bx, .rd (.one (.ints .u8 q.f2))]) (bps := [.row 180000 []]) (cs := [.own 5 (.ints .u8 (putVar (putVar b q.f0) q.f1))]) (cs' := [.own 5 (.ints .u8 ((putVar (putVar b q.f0) q.f1) ++ q.f2))]) (res := []) (ss := [180000]) (g := .func 130) rfl rfl (lt_ok rfl) rfl (by kernel_rfl) rfl (.cons (.bx) (.cons (.rd (.one (.d _))) .nil)) rfl (.own rfl (by simp) .nil) (ok_impl_writer__raw (putVar (putVar b q.f0) q.f1) q.f2 (by first | omega | assumption | (simp only [List.length_append] at *; omega)) (by first | omega | assumption | (simp only [List.length_append] at *; omega))) rfl rfl (fun x hx => by have := hp x hx; omega) rfl) ?_
 refine TL.ren 1017 180000 rfl (fun x hx => by have := hp x hx; omega) ?_
 refine TL.nil ?_
 refine T.seq ?_
 refine T.region ?_
 refine TL.cons rfl (Step.move (p := (.one (.ptr 800 0))) rfl rfl (lt_ok rfl) rfl) ?_
 refine TL.cons rfl (Step.fieldAddr (q := 0) (off := 3) (n := 1) (one := true) rfl rfl (lt_ok rfl) (by kernel_rfl) (Nat.succ_ne_zero _) rfl) ?_
 refine TL.cons rfl (Step.load_box (c := .d (.ints .u8 q.f3)) rfl rfl (lt_ok rfl) (by kernel_rfl) rfl rfl rfl) ?_
 refine TL.cons rfl (Step.callX (f := 130) (b := 800) (T := 98) (xs := [.tmp 18, .tmp 20]) (ps := [(.one (.ptr 800 0)), (.one (.d (.ints .u8 q.f3)))]) (args := [.bx, .rd (.one (.ints .u8 q.f3))]) (bps := [.row 180000 []]) (cs := [.own 5 (.ints .u8 ((putVar (putVar b q.f0) q.f1) ++ q.f2))]) (cs' := [.own 5 (.ints .u8 (((putVar (putVar b q.f0) q.f1) ++ q.f2) ++ q.f3))]) (res := []) (ss := [180000]) (g := .func 130) rfl rfl (lt_ok rfl) rfl (by kernel_rfl) rfl (.cons (.bx) (.cons (.rd (.one (.d _))) .nil)) rfl (.own rfl (by simp) .nil) (ok_impl_writer__raw ((putVar (putVar b q.f0) q.f1) ++ q.f2) q.f3 (by first | omega | assumption | (simp only [List.length_append] at *; omega)) (by first | omega | assumption | (simp only [List.length_append] at *; omega))) rfl rfl (fun x hx => by have := hp x hx; omega) rfl) ?_
 refine TL.ren 1021 180000 rfl (fun x hx => by have := hp x hx; omega) ?_
 refine TL.nil ?_
 refine T.seq ?_
 refine T.region ?_
 refine TL.cons rfl (Step.fieldAddr (q := 0) (off := 4) (n := 1) (one := true) rfl rfl (lt_ok rfl) (by kernel_rfl) (Nat.succ_ne_zero _) rfl) ?_
 refine TL.cons rfl (Step.load_box (c := .d (.bss q.f4)) rfl rfl (lt_ok rfl) (by kernel_rfl) rfl rfl rfl) ?_
 refine TL.cons rfl (Step.len (e := 24) (z := 1) (d := (.bss q.f4)) rfl rfl (lt_ok rfl) (by kernel_rfl) rfl rfl) ?_
 refine TL.cons rfl (Step.move (p := (.one (.d (.int .i64 0)))) rfl rfl (lt_ok rfl) rfl) ?_
 refine TL.nil ?_
 refine T.block ?_
 refine T.loop (ι := Nat) (fun xx_ => { tm := [(0, (.one (.ptr 800 0))), (23, (.one (.d (.bss q.f4)))), (24, (.one (.d (.int .i64 (q.f4.length : Int))))), (25, (.one (.d (.int .i64 (xx_ : Int)))))], rows := [(180000, (5, (.ints .u8 ((q.f4.take xx_).foldl (fun b x => b ++ x) (putVar (putVar b q.f0) q.f1 ++ q.f2 ++ q.f3)))))], boxes := [(800, (98, [.row 180000 []])), (3, (38, [.d (.int .i64 q.f0), .d (.int .i64 q.f1), .d (.ints .u8 q.f2), .d (.ints .u8 q.f3), .d (.bss q.f4)]))] }) (fun xx_ => xx_ ≤ q.f4.length) (fun xx_ => q.f4.length - xx_) 0 ?_ ?_ ?_
 · exact Env.le_mk ⟨rfl, rfl, rfl, by first | (refine congrArg (fun x => some (_, D.ints .u8 x)) ?_; first | (rw [foldl_take_succ _ _ _ i [] (by omega)]; done) | rfl) | rfl | (refine congrArg (fun n => PV.one (.d (.int .i64 n))) ?_; first | omega | (simp; done)), trivial⟩ ⟨by first | (refine congrArg (fun x => some (_, D.ints .u8 x)) ?_; first | (rw [foldl_take_succ _ _ _ i [] (by omega)]; done) | rfl) | rfl | (refine congrArg (fun n => PV.one (.d (.int .i64 n))) ?_; first | omega | (simp; done)), trivial⟩ ⟨rfl, rfl, trivial⟩
 · exact Nat.zero_le _
 ·
  intro i hx
  try dsimp only at hx ⊢
  have hw_ := raws_len (b := putVar (putVar b q.f0) q.f1 ++ q.f2 ++ q.f3) s2.1 s2.2 i
  have hy_ := mem_len s2.2 i
  simp only [List.length_append] at hw_
  refine T.seq ?_
  refine T.region ?_
  refine TL.cons rfl (Step.bin rfl rfl (lt_ok rfl) rfl rfl (Bin.lss (k := .i64) (a := (i : Int)) (b := (q.f4.length : Int)))) ?_
  refine TL.nil ?_
  refine T.seq ?_
  refine T.cond (b := decide ((i : Int) < (q.f4.length : Int))) rfl (fun h3 => ?_) (fun h3 => ?_)
  ·
   replace h3 := of_decide_eq_true h3
   refine T.skip ?_
   refine T.seq ?_
   refine T.block ?_
   refine T.seq ?_
   refine T.region ?_
   refine TL.cons rfl (Step.index (e := 24) (z := 1) (i := (i : Int)) rfl rfl (lt_ok rfl) (by kernel_rfl) rfl rfl rfl (lt_ok rfl) rfl (by first | omega | (simp only [List.length_append] at *; omega) | (simp; omega)) (by simp only [D.size]; first | omega | (simp only [List.length_append] at *; omega) | (simp; omega))) ?_
   refine TL.cons rfl (Step.load (e := (.ints .u8 (q.f4.getD i []))) rfl rfl (lt_ok rfl) (by kernel_rfl) rfl rfl) ?_
   refine TL.cons rfl (Step.assign (p := (.one (.d (.ints .u8 (q.f4.getD i []))))) rfl rfl (lt_ok rfl) rfl) ?_
   refine TL.nil ?_
   refine T.region ?_
   refine TL.cons rfl (Step.move (p := (.one (.ptr 800 0))) rfl rfl (lt_ok rfl) rfl) ?_
   refine TL.cons rfl (Step.move (p := (.one (.d (.ints .u8 (q.f4.getD i []))))) rfl rfl (lt_ok rfl) rfl) ?_
   refine TL.cons rfl (Step.callX (f := 130) (b := 800) (T := 98) (xs := [.tmp 29, .tmp 30]) (ps := [(.one (.ptr 800 0)), (.one (.d (.ints .u8 (q.f4.getD i []))))]) (args := [.bx, .rd (.one (.ints .u8 (q.f4.getD i [])))]) (bps := [.row 180000 []]) (cs := [.own 5 (.ints .u8 ((q.f4.take i).foldl (fun b x => b ++ x) (putVar (putVar b q.f0) q.f1 ++ q.f2 ++ q.f3)))]) (cs' := [.own 5 (.ints .u8 (((q.f4.take i).foldl (fun b x => b ++ x) (putVar (putVar b q.f0) q.f1 ++ q.f2 ++ q.f3)) ++ (q.f4.getD i [])))]) (res := []) (ss := [180000]) (g := .func 130) rfl rfl (lt_ok rfl) rfl (by kernel_rfl) rfl (.cons (.bx) (.cons (.rd (.one (.d _))) .nil)) rfl (.own rfl (by simp) .nil) (ok_impl_writer__raw ((q.f4.take i).foldl (fun b x => b ++ x) (putVar (putVar b q.f0) q.f1 ++ q.f2 ++ q.f3)) (q.f4.getD i []) (by first | omega | assumption | (simp only [List.length_append] at *; omega)) (by first | omega | assumption | (simp only [List.length_append] at *; omega))) rfl rfl (fun x hx => by have := hp x hx; omega) rfl) ?_
   refine TL.ren 1031 180000 rfl (fun x hx => by have := hp x hx; omega) ?_
   refine TL.nil ?_
   refine T.region ?_
   refine TL.cons rfl (Step.bin (r := .int .i64 ((i : Int) + 1)) rfl rfl (lt_ok rfl) rfl rfl (Bin.add (a := (i : Int)) (b := 1) (by first | exact wrap_ok (by first | omega | (simp only [List.length_append] at *; omega) | (simp; omega)) (by first | omega | (simp only [List.length_append] at *; omega) | (simp; omega)) | rfl))) ?_
   refine TL.cons rfl (Step.move (p := (.one (.d (.int .i64 ((i : Int) + 1))))) rfl rfl (lt_ok rfl) rfl) ?_
   refine TL.nil ?_
   exact ⟨i + 1, by omega, by first | omega | (dsimp only; omega), Env.le_mk ⟨rfl, rfl, rfl, by first | (refine congrArg (fun x => some (_, D.ints .u8 x)) ?_; first | (rw [foldl_take_succ _ _ _ i [] (by omega)]; done) | rfl) | rfl | (refine congrArg (fun n => PV.one (.d (.int .i64 n))) ?_; first | omega | (simp; done)), trivial⟩ ⟨by first | (refine congrArg (fun x => some (_, D.ints .u8 x)) ?_; first | (rw [foldl_take_succ _ _ _ i [] (by omega)]; done) | rfl) | rfl | (refine congrArg (fun n => PV.one (.d (.int .i64 n))) ?_; first | omega | (simp; done)), trivial⟩ ⟨rfl, rfl, trivial⟩⟩
  ·
   replace h3 := of_decide_eq_false h3
   refine T.exit ?_
   exact ⟨[.row 180000 []], [], rfl, rfl, .nil, rfl, [180000], (RetC.own' rfl (by first | rfl | (congr 1; unfold putQcB rawsB; rw [foldl_all _ _ _ i (by omega)])) rfl .nil)⟩
theorem ok_impl_writer__head (b : List Int) (h : SHead) (h0_ : b.length ≤ 8796000000000) (h1_ : h.sm) : BX Try.prog 78 [.bx, .rd (.agg [(.int .i64 h.f0), (.int .i64 h.f1), (.int .i64 h.f2), (.ints .u8 h.f3), (.ints .u8 h.f4), (.int .i64 h.f5.f0), (.int .i64 h.f5.f1), (.ints .u8 h.f5.f2), (.ints .u8 h.f5.f3), (.bss h.f5.f4)])] 98 [.own 5 (.ints .u8 b)] [.own 5 (.ints .u8 (putHeadB b h))] [] := by
 refine BX.intro Try.func78 rfl 28 rfl (le_ok rfl) (le_ok rfl) fun w Z IX pin hp => ?_
 refine T.bndRow 900 rfl fun hb_900 => ?_
 simp only [D.size, List.length_map] at hb_900
 obtain ⟨s0, s1, s2⟩ := h1_
 refine T.seq ?_
 refine T.region ?_
 refine TL.cons rfl (Step.box (p := (.agg [.d (.int .i64 h.f0), .d (.int .i64 h.f1), .d (.int .i64 h.f2), .d (.ints .u8 h.f3), .d (.ints .u8 h.f4), .d (.int .i64 h.f5.f0), .d (.int .i64 h.f5.f1), .d (.ints .u8 h.f5.f2), .d (.ints .u8 h.f5.f3), .d (.bss h.f5.f4)])) (ps := [.d (.int .i64 h.f0), .d (.int .i64 h.f1), .d (.int .i64 h.f2), .d (.ints .u8 h.f3), .d (.ints .u8 h.f4), .d (.int .i64 h.f5.f0), .d (.int .i64 h.f5.f1), .d (.ints .u8 h.f5.f2), .d (.ints .u8 h.f5.f3), .d (.bss h.f5.f4)]) rfl rfl (lt_ok rfl) rfl rfl rfl rfl rfl) ?_
 refine TL.nil ?_
 refine T.seq ?_
 refine T.region ?_
 refine TL.cons rfl (Step.move (p := (.one (.ptr 800 0))) rfl rfl (lt_ok rfl) rfl) ?_
 refine TL.cons rfl (Step.fieldAddr (q := 0) (off := 0) (n := 1) (one := true) rfl rfl (lt_ok rfl) (by kernel_rfl) (Nat.succ_ne_zero _) rfl) ?_
 refine TL.cons rfl (Step.load_box (c := .d (.int .i64 h.f0)) rfl rfl (lt_ok rfl) (by kernel_rfl) rfl rfl rfl) ?_
 have nn1 := putVar_len b h.f0
 refine TL.cons rfl (Step.callX (f := 77) (b := 800) (T := 98) (xs := [.tmp 4, .tmp 6]) (ps := [(.one (.ptr 800 0)), (.one (.d (.int .i64 h.f0)))]) (args := [.bx, .rd (.one (.int .i64 h.f0))]) (bps := [.row 900 []]) (cs := [.own 5 (.ints .u8 b)]) (cs' := [.own 5 (.ints .u8 (putVar b h.f0))]) (res := []) (ss := [900]) (g := .func 77) rfl rfl (lt_ok rfl) rfl (by kernel_rfl) rfl (.cons (.bx) (.cons (.rd (.one (.d _))) .nil)) rfl (.own rfl (by simp) .nil) (ok_impl_writer__num b h.f0 (by first | omega | assumption | (simp only [List.length_append] at *; omega))) rfl rfl (fun x hx => by have := hp x hx; omega) rfl) ?_
 refine TL.ren 1007 180000 rfl (fun x hx => by have := hp x hx; omega) ?_
 refine TL.nil ?_
 refine T.seq ?_
 refine T.region ?_
 refine TL.cons rfl (Step.move (p := (.one (.ptr 800 0))) rfl rfl (lt_ok rfl) rfl) ?_
 refine TL.cons rfl (Step.fieldAddr (q := 0) (off := 1) (n := 1) (one := true) rfl rfl (lt_ok rfl) (by kernel_rfl) (Nat.succ_ne_zero _) rfl) ?_
 refine TL.cons rfl (Step.load_box (c := .d (.int .i64 h.f1)) rfl rfl (lt_ok rfl) (by kernel_rfl) rfl rfl rfl) ?_
 have nn2 := putVar_len (putVar b h.f0) h.f1
 refine TL.cons rfl (Step.callX (f := 77) (b := 800) (T := 98) (xs := [.tmp 8, .tmp 10]) (ps := [(.one (.ptr 800 0)), (.one (.d (.int .i64 h.f1)))]) (args := [.bx, .rd (.one (.int .i64 h.f1))]) (bps := [.row 180000 []]) (cs := [.own 5 (.ints .u8 (putVar b h.f0))]) (cs' := [.own 5 (.ints .u8 (putVar (putVar b h.f0) h.f1))]) (res := []) (ss := [180000]) (g := .func 77) rfl rfl (lt_ok rfl) rfl (by kernel_rfl) rfl (.cons (.bx) (.cons (.rd (.one (.d _))) .nil)) rfl (.own rfl (by simp) .nil) (ok_impl_writer__num (putVar b h.f0) h.f1 (by first | omega | assumption | (simp only [List.length_append] at *; omega))) rfl rfl (fun x hx => by have := hp x hx; omega) rfl) ?_
 refine TL.ren 1011 180000 rfl (fun x hx => by have := hp x hx; omega) ?_
 refine TL.nil ?_
 refine T.seq ?_
 refine T.region ?_
 refine TL.cons rfl (Step.move (p := (.one (.ptr 800 0))) rfl rfl (lt_ok rfl) rfl) ?_
 refine TL.cons rfl (Step.fieldAddr (q := 0) (off := 2) (n := 1) (one := true) rfl rfl (lt_ok rfl) (by kernel_rfl) (Nat.succ_ne_zero _) rfl) ?_
 refine TL.cons rfl (Step.load_box (c := .d (.int .i64 h.f2)) rfl rfl (lt_ok rfl) (by kernel_rfl) rfl rfl rfl) ?_
 have nn3 := putVar_len (putVar (putVar b h.f0) h.f1) h.f2
 refine TL.cons rfl (Step.callX (f := 77) (b := 800) (T := 98) (xs := [.tmp 12, .tmp 14]) (ps := [(.one (.ptr 800 0)), (.one (.d (.int .i64 h.f2)))]) (args := [.bx, .rd (.one (.int .i64 h.f2))]) (bps := [.row 180000 []]) (cs := [.own 5 (.ints .u8 (putVar (putVar b h.f0) h.f1))]) (cs' := [.own 5 (.ints .u8 (putVar (putVar (putVar b h.f0) h.f1) h.f2))]) (res := []) (ss := [180000]) (g := .func 77) rfl rfl (lt_ok rfl) rfl (by kernel_rfl) rfl (.cons (.bx) (.cons (.rd (.one (.d _))) .nil)) rfl (.own rfl (by simp) .nil) (ok_impl_writer__num (putVar (putVar b h.f0) h.f1) h.f2 (by first | omega | assumption | (simp only [List.length_append] at *; omega))) rfl rfl (fun x hx => by have := hp x hx; omega) rfl) ?_
 refine TL.ren 1015 180000 rfl (fun x hx => by have := hp x hx; omega) ?_
 refine TL.nil ?_
 refine T.seq ?_
 refine T.region ?_
 refine TL.cons rfl (Step.move (p := (.one (.ptr 800 0))) rfl rfl (lt_ok rfl) rfl) ?_
 refine TL.cons rfl (Step.fieldAddr (q := 0) (off := 3) (n := 1) (one := true) rfl rfl (lt_ok rfl) (by kernel_rfl) (Nat.succ_ne_zero _) rfl) ?_
 refine TL.cons rfl (Step.load_box (c := .d (.ints .u8 h.f3)) rfl rfl (lt_ok rfl) (by kernel_rfl) rfl rfl rfl) ?_
 refine TL.cons rfl (Step.callX (f := 130) (b := 800) (T := 98) (xs := [.tmp 16, .tmp 18]) (ps := [(.one (.ptr 800 0)), (.one (.d (.ints .u8 h.f3)))]) (args := [.bx, .rd (.one (.ints .u8 h.f3))]) (bps := [.row 180000 []]) (cs := [.own 5 (.ints .u8 (putVar (putVar (putVar b h.f0) h.f1) h.f2))]) (cs' := [.own 5 (.ints .u8 ((putVar (putVar (putVar b h.f0) h.f1) h.f2) ++ h.f3))]) (res := []) (ss := [180000]) (g := .func 130) rfl rfl (lt_ok rfl) rfl (by kernel_rfl) rfl (.cons (.bx) (.cons (.rd (.one (.d _))) .nil)) rfl (.own rfl (by simp) .nil) (ok_impl_writer__raw (putVar (putVar (putVar b h.f0) h.f1) h.f2) h.f3 (by first | omega | assumption | (simp only [List.length_append] at *; omega)) (by first | omega | assumption | (simp only [List.length_append] at *; omega))) rfl rfl (fun x hx => by have := hp x hx; omega) rfl) ?_
 refine TL.ren 1019 180000 rfl (fun x hx => by have := hp x hx; omega) ?_
 refine TL.nil ?_
 refine T.seq ?_
 refine T.region ?_
 refine TL.cons rfl (Step.move (p := (.one (.ptr 800 0))) rfl rfl (lt_ok rfl) rfl) ?_
 refine TL.cons rfl (Step.fieldAddr (q := 0) (off := 4) (n := 1) (one := true) rfl rfl (lt_ok rfl) (by kernel_rfl) (Nat.succ_ne_zero _) rfl) ?_
 refine TL.cons rfl (Step.load_box (c := .d (.ints .u8 h.f4)) rfl rfl (lt_ok rfl) (by kernel_rfl) rfl rfl rfl) ?_
 refine TL.cons rfl (Step.callX (f := 130) (b := 800) (T := 98) (xs := [.tmp 20, .tmp 22]) (ps := [(.one (.ptr 800 0)), (.one (.d (.ints .u8 h.f4)))]) (args := [.bx, .rd (.one (.ints .u8 h.f4))]) (bps := [.row 180000 []]) (cs := [.own 5 (.ints .u8 ((putVar (putVar (putVar b h.f0) h.f1) h.f2) ++ h.f3))]) (cs' := [.own 5 (.ints .u8 (((putVar (putVar (putVar b h.f0) h.f1) h.f2) ++ h.f3) ++ h.f4))]) (res := []) (ss := [180000]) (g := .func 130) rfl rfl (lt_ok rfl) rfl (by kernel_rfl) rfl (.cons (.bx) (.cons (.rd (.one (.d _))) .nil)) rfl (.own rfl (by simp) .nil) (ok_impl_writer__raw ((putVar (putVar (putVar b h.f0) h.f1) h.f2) ++ h.f3) h.f4 (by first | omega | assumption | (simp only [List.length_append] at *; omega)) (by first | omega | assumption | (simp only [List.length_append] at *; omega))) rfl rfl (fun x hx => by have := hp x hx; omega) rfl) ?_
 refine TL.ren 1023 180000 rfl (fun x hx => by have := hp x hx; omega) ?_
 refine TL.nil ?_
 refine T.region ?_
 refine TL.cons rfl (Step.move (p := (.one (.ptr 800 0))) rfl rfl (lt_ok rfl) rfl) ?_
 refine TL.cons rfl (Step.fieldAddr (q := 0) (off := 5) (n := 5) (one := false) rfl rfl (lt_ok rfl) (by kernel_rfl) (Nat.succ_ne_zero _) rfl) ?_
 refine TL.cons rfl (Step.load_box_agg (n := 5) (qs := [.d (.int .i64 h.f5.f0), .d (.int .i64 h.f5.f1), .d (.ints .u8 h.f5.f2), .d (.ints .u8 h.f5.f3), .d (.bss h.f5.f4)]) rfl rfl (lt_ok rfl) (by kernel_rfl) rfl rfl rfl rfl) ?_
 have nn4 := @putQcB_len (((putVar (putVar (putVar b h.f0) h.f1) h.f2) ++ h.f3) ++ h.f4) h.f5 (by assumption)
 refine TL.cons rfl (Step.callX (f := 79) (b := 800) (T := 98) (xs := [.tmp 24, .tmp 26]) (ps := [(.one (.ptr 800 0)), (.agg [.d (.int .i64 h.f5.f0), .d (.int .i64 h.f5.f1), .d (.ints .u8 h.f5.f2), .d (.ints .u8 h.f5.f3), .d (.bss h.f5.f4)])]) (args := [.bx, .rd (.agg [(.int .i64 h.f5.f0), (.int .i64 h.f5.f1), (.ints .u8 h.f5.f2), (.ints .u8 h.f5.f3), (.bss h.f5.f4)])]) (bps := [.row 180000 []]) (cs := [.own 5 (.ints .u8 (((putVar (putVar (putVar b h.f0) h.f1) h.f2) ++ h.f3) ++ h.f4))]) (cs' := [.own 5 (.ints .u8 (putQcB (((putVar (putVar (putVar b h.f0) h.f1) h.f2) ++ h.f3) ++ h.f4) h.f5))]) (res := []) (ss := [180000]) (g := .func 79) rfl rfl (lt_ok rfl) rfl (by kernel_rfl) rfl (.cons (.bx) (.cons (.rd (.agg (.cons (.d _) (.cons (.d _) (.cons (.d _) (.cons (.d _) (.cons (.d _) .nil))))))) .nil)) rfl (.own rfl (by simp) .nil) (ok_impl_writer__qc (((putVar (putVar (putVar b h.f0) h.f1) h.f2) ++ h.f3) ++ h.f4) h.f5 (by first | omega | assumption | (simp only [List.length_append] at *; omega)) (by assumption)) rfl rfl (fun x hx => by have := hp x hx; omega) rfl) ?_
 refine TL.ren 1027 180000 rfl (fun x hx => by have := hp x hx; omega) ?_
 refine TL.nil ?_
 exact ⟨[.row 180000 []], [], rfl, rfl, .nil, rfl, [180000], (RetC.own' rfl (by rfl) rfl .nil)⟩
theorem ok_impl_PutProof (l : SLimits) (b : List Int) (p : SProof) (h0_ : b.length ≤ 549755813888) (h1_ : p.ok) (h2_ : p.sm) : RO Try.prog 20 [.agg l.cells, .one (.ints .u8 b), .agg p.cells] [(false, [.own 5 (.ints .u8 (putProof l b p))]), (false, [.rd (.bool (proofOk l p))])] := by
 refine RO.intro Try.func20 rfl 43 rfl (le_ok rfl) fun w Z => ?_
 refine T.bnd 1 0 rfl rfl fun hb_1_0 => ?_
 simp only [D.size, List.length_map] at hb_1_0
 refine T.bnd 2 0 rfl rfl fun hb_2_0 => ?_
 simp only [D.size, List.length_map] at hb_2_0
 refine T.bnd 2 3 rfl rfl fun hb_2_3 => ?_
 simp only [D.size, List.length_map] at hb_2_3
 refine T.bnd 2 4 rfl rfl fun hb_2_4 => ?_
 simp only [D.size, List.length_map] at hb_2_4
 refine T.bnd 2 5 rfl rfl fun hb_2_5 => ?_
 simp only [D.size, List.length_map] at hb_2_5
 obtain ⟨o0, o1⟩ := h1_
 obtain ⟨s0, s1⟩ := h2_
 have hok_ : p.ok := ⟨o0, o1⟩
 have hsm_ : p.sm := ⟨s0, s1⟩
 refine T.seq ?_
 refine T.region ?_
 refine TL.cons rfl (Step.box (p := (.agg [.d (.int .i64 l.f0), .d (.int .i64 l.f1), .d (.int .i64 l.f2), .d (.int .i64 l.f3), .d (.int .i64 l.f4)])) (ps := [.d (.int .i64 l.f0), .d (.int .i64 l.f1), .d (.int .i64 l.f2), .d (.int .i64 l.f3), .d (.int .i64 l.f4)]) rfl rfl (lt_ok rfl) rfl rfl rfl rfl rfl) ?_
 refine TL.cons rfl (Step.box (p := (.agg [.d (.sl 10 (p.f0.map SHead.cells)), .d (.int .i64 p.f1.f0), .d (.int .i64 p.f1.f1), .d (.ints .u8 p.f1.f2), .d (.ints .u8 p.f1.f3), .d (.bss p.f1.f4)])) (ps := [.d (.sl 10 (p.f0.map SHead.cells)), .d (.int .i64 p.f1.f0), .d (.int .i64 p.f1.f1), .d (.ints .u8 p.f1.f2), .d (.ints .u8 p.f1.f3), .d (.bss p.f1.f4)]) rfl rfl (lt_ok rfl) rfl rfl rfl rfl rfl) ?_
 refine TL.cons rfl (Step.assign (p := (.one (.nil))) rfl rfl (lt_ok rfl) rfl) ?_
 refine TL.cons rfl (Step.assign (p := (.one (.d (.bool false)))) rfl rfl (lt_ok rfl) rfl) ?_
 refine TL.nil ?_
 refine T.seq ?_
 refine T.seq ?_
 refine T.region ?_
 refine TL.cons rfl (Step.load_box_agg (n := 5) (qs := [.d (.int .i64 l.f0), .d (.int .i64 l.f1), .d (.int .i64 l.f2), .d (.int .i64 l.f3), .d (.int .i64 l.f4)]) rfl rfl (lt_ok rfl) (by kernel_rfl) rfl rfl rfl rfl) ?_
 refine TL.cons rfl (Step.load_box_agg (n := 6) (qs := [.d (.sl 10 (p.f0.map SHead.cells)), .d (.int .i64 p.f1.f0), .d (.int .i64 p.f1.f1), .d (.ints .u8 p.f1.f2), .d (.ints .u8 p.f1.f3), .d (.bss p.f1.f4)]) rfl rfl (lt_ok rfl) (by kernel_rfl) rfl rfl rfl rfl) ?_
 refine TL.cons rfl (Step.call (f := 75) (xs := [.tmp 11, .tmp 12]) (ps := [(.agg [.d (.int .i64 l.f0), .d (.int .i64 l.f1), .d (.int .i64 l.f2), .d (.int .i64 l.f3), .d (.int .i64 l.f4)]), (.agg [.d (.sl 10 (p.f0.map SHead.cells)), .d (.int .i64 p.f1.f0), .d (.int .i64 p.f1.f1), .d (.ints .u8 p.f1.f2), .d (.ints .u8 p.f1.f3), .d (.bss p.f1.f4)])]) false (g := .func 75) rfl rfl (lt_ok rfl) rfl (by kernel_rfl) rfl (.cons (.agg (.cons (.d _) (.cons (.d _) (.cons (.d _) (.cons (.d _) (.cons (.d _) .nil)))))) (.cons (.agg (.cons (.d _) (.cons (.d _) (.cons (.d _) (.cons (.d _) (.cons (.d _) (.cons (.d _) .nil))))))) .nil)) (ok_impl_ProofOk l p (by assumption) (by assumption)) (.inr rfl) rfl (by simp) rfl) ?_
 refine TL.cons rfl (Step.not (b := (proofOk l p)) rfl rfl (lt_ok rfl) rfl) ?_
 refine TL.nil ?_
 refine T.cond (b := !(proofOk l p)) rfl (fun h1 => ?_) (fun h1 => ?_)
 ·
  replace h1 : (proofOk l p) = false := by simpa only [Bool.not_eq_true', Bool.not_eq_false'] using h1
  refine T.seq ?_
  refine T.region ?_
  refine TL.cons rfl (Step.assign (p := (.one (.nil))) rfl rfl (lt_ok rfl) rfl) ?_
  refine TL.cons rfl (Step.assign (p := (.one (.d (.bool false)))) rfl rfl (lt_ok rfl) rfl) ?_
  refine TL.nil ?_
  refine T.ret ?_
  exact ⟨[(false, [.nil]), (false, [.d (.bool false)])], (.cons rfl (.cons rfl .nil)), rfl, [], (RetC.nilown' rfl (by first | rfl | (congr 1; unfold putProof putProofB; rw [if_pos (by assumption), ← foldl_all putHeadB _ p.f0 i (by omega)]; done) | (congr 1; unfold putProof putProofB; rw [if_pos (by assumption), ← foldl_all putHeadB _ p.f0 i (by omega)]; unfold putQc; rw [if_pos hp4_]) | (show (putProof l b p).length = 0; unfold putProof; rw [if_neg (by simp [*])]; rfl) | (congr 1; symm; assumption) | (congr 1; rw [hp4_]; symm; assumption)) (by first | exact trivial | exact D.wf_nil _) (RetC.rd' (by first | rfl | (congr 1; unfold putProof putProofB; rw [if_pos (by assumption), ← foldl_all putHeadB _ p.f0 i (by omega)]; done) | (congr 1; unfold putProof putProofB; rw [if_pos (by assumption), ← foldl_all putHeadB _ p.f0 i (by omega)]; unfold putQc; rw [if_pos hp4_]) | (show (putProof l b p).length = 0; unfold putProof; rw [if_neg (by simp [*])]; rfl) | (congr 1; symm; assumption) | (congr 1; rw [hp4_]; symm; assumption)) .nil))⟩
 ·
  replace h1 : (proofOk l p) = true := by simpa only [Bool.not_eq_true', Bool.not_eq_false'] using h1
  obtain ⟨hp1_, hp2_, hp3_, hp4_⟩ := proofOk_parts (by first | assumption | simpa using ‹(!(proofOk l p)) = false›)
  refine T.skip ?_
  refine T.seq ?_
  refine T.region ?_
  refine TL.cons rfl (Step.move (p := (.one (.d (.ints .u8 b)))) rfl rfl (lt_ok rfl) rfl) ?_
  refine TL.cons rfl (Step.call (f := 76) (xs := [.tmp 15]) (ps := [(.one (.d (.ints .u8 b)))]) false (g := .func 76) rfl rfl (lt_ok rfl) rfl (by kernel_rfl) rfl (.cons (.one (.d _)) .nil) (ok_impl_copyBytes b (by first | omega | assumption)) (.inr rfl) rfl (by simp) rfl) ?_
  refine TL.cons rfl (Step.build (zs := [.slice none 0 0]) (places := [(0, 1)]) (pss := [(0, [.row 1016 []])]) (ps' := [.row 1016 []]) rfl rfl (lt_ok rfl) (by kernel_rfl) (.cons ⟨rfl, rfl⟩ .nil) rfl rfl rfl) ?_
  refine TL.cons rfl (Step.box (p := (.agg [.row 1016 []])) (ps := [.row 1016 []]) rfl rfl (lt_ok rfl) rfl rfl rfl rfl rfl) ?_
  refine TL.cons rfl (Step.assign (p := (.one (.ptr 18 0))) rfl rfl (lt_ok rfl) rfl) ?_
  refine TL.nil ?_
  refine T.seq ?_
  refine T.region ?_
  refine TL.cons rfl (Step.move (p := (.one (.ptr 18 0))) rfl rfl (lt_ok rfl) rfl) ?_
  refine TL.cons rfl (Step.fieldAddr (q := 0) (off := 0) (n := 1) (one := true) rfl rfl (lt_ok rfl) (by kernel_rfl) (Nat.succ_ne_zero _) rfl) ?_
  refine TL.cons rfl (Step.load_box (c := .d (.sl 10 (p.f0.map SHead.cells))) rfl rfl (lt_ok rfl) (by kernel_rfl) rfl rfl rfl) ?_
  refine TL.cons rfl (Step.len' (e := 54) (z := 10) (d := (.sl 10 (p.f0.map SHead.cells))) (n := p.f0.length) rfl rfl (lt_ok rfl) (by kernel_rfl) rfl rfl (by simp [D.size])) ?_
  have nn2 := putVar_len b (p.f0.length : Int)
  refine TL.cons rfl (Step.callX (f := 77) (b := 18) (T := 98) (xs := [.tmp 19, .tmp 22]) (ps := [(.one (.ptr 18 0)), (.one (.d (.int .i64 (p.f0.length : Int))))]) (args := [.bx, .rd (.one (.int .i64 (p.f0.length : Int)))]) (bps := [.row 1016 []]) (cs := [.own 5 (.ints .u8 b)]) (cs' := [.own 5 (.ints .u8 (putVar b (p.f0.length : Int)))]) (res := []) (ss := [1016]) (g := .func 77) rfl rfl (lt_ok rfl) rfl (by kernel_rfl) rfl (.cons (.bx) (.cons (.rd (.one (.d _))) .nil)) rfl (.own rfl (by simp) .nil) (ok_impl_writer__num b (p.f0.length : Int) (by first | omega | assumption | (simp only [List.length_append] at *; omega))) rfl rfl (by simp) rfl) ?_
  refine TL.ren 1023 101800 rfl (by simp) ?_
  refine TL.nil ?_
  refine T.seq ?_
  refine T.seq ?_
  refine T.region ?_
  refine TL.cons rfl (Step.fieldAddr (q := 0) (off := 0) (n := 1) (one := true) rfl rfl (lt_ok rfl) (by kernel_rfl) (Nat.succ_ne_zero _) rfl) ?_
  refine TL.cons rfl (Step.load_box (c := .d (.sl 10 (p.f0.map SHead.cells))) rfl rfl (lt_ok rfl) (by kernel_rfl) rfl rfl rfl) ?_
  refine TL.cons rfl (Step.len' (e := 54) (z := 10) (d := (.sl 10 (p.f0.map SHead.cells))) (n := p.f0.length) rfl rfl (lt_ok rfl) (by kernel_rfl) rfl rfl (by simp [D.size])) ?_
  refine TL.cons rfl (Step.move (p := (.one (.d (.int .i64 0)))) rfl rfl (lt_ok rfl) rfl) ?_
  refine TL.nil ?_
  refine T.block ?_
  refine T.loop (ι := Nat) (fun xx_ => { tm := [(5, (.one (.ptr 5 0))), (6, (.one (.nil))), (7, (.one (.d (.bool false)))), (8, (.one (.ptr 18 0))), (25, (.one (.d (.sl 10 (p.f0.map SHead.cells))))), (26, (.one (.d (.int .i64 (p.f0.length : Int))))), (27, (.one (.d (.int .i64 (xx_ : Int)))))], rows := [(101800, (5, (.ints .u8 ((p.f0.take xx_).foldl putHeadB (putVar b (p.f0.length : Int))))))], boxes := [(3, (34, [.d (.int .i64 l.f0), .d (.int .i64 l.f1), .d (.int .i64 l.f2), .d (.int .i64 l.f3), .d (.int .i64 l.f4)])), (5, (40, [.d (.sl 10 (p.f0.map SHead.cells)), .d (.int .i64 p.f1.f0), .d (.int .i64 p.f1.f1), .d (.ints .u8 p.f1.f2), .d (.ints .u8 p.f1.f3), .d (.bss p.f1.f4)])), (18, (98, [.row 101800 []]))] }) (fun xx_ => xx_ ≤ p.f0.length) (fun xx_ => p.f0.length - xx_) 0 ?_ ?_ ?_
  · exact Env.le_mk ⟨rfl, rfl, rfl, rfl, rfl, rfl, by first | (refine congrArg (fun x => some (_, D.ints .u8 x)) ?_; first | (rw [foldl_take_succ putHeadB _ _ i default (by omega)]; done) | (rw [foldl_take_succ putHeadB _ _ i default (by omega)]; unfold putHead; rw [if_pos (headsOk_at (by omega) hp3_)]) | rfl) | rfl | (refine congrArg (fun n => PV.one (.d (.int .i64 n))) ?_; first | omega | (simp; done)), trivial⟩ ⟨by first | (refine congrArg (fun x => some (_, D.ints .u8 x)) ?_; first | (rw [foldl_take_succ putHeadB _ _ i default (by omega)]; done) | (rw [foldl_take_succ putHeadB _ _ i default (by omega)]; unfold putHead; rw [if_pos (headsOk_at (by omega) hp3_)]) | rfl) | rfl | (refine congrArg (fun n => PV.one (.d (.int .i64 n))) ?_; first | omega | (simp; done)), trivial⟩ ⟨rfl, rfl, rfl, trivial⟩
  · exact Nat.zero_le _
  ·
   intro i hx
   try dsimp only at hx ⊢
   have hw_ := heads_len (b := putVar b (p.f0.length : Int)) hp2_ s0.2 i
   refine T.seq ?_
   refine T.region ?_
   refine TL.cons rfl (Step.bin rfl rfl (lt_ok rfl) rfl rfl (Bin.lss (k := .i64) (a := (i : Int)) (b := (p.f0.length : Int)))) ?_
   refine TL.nil ?_
   refine T.seq ?_
   refine T.cond (b := decide ((i : Int) < (p.f0.length : Int))) rfl (fun h3 => ?_) (fun h3 => ?_)
   ·
    replace h3 := of_decide_eq_true h3
    refine T.skip ?_
    refine T.seq ?_
    refine T.block ?_
    refine T.seq ?_
    refine T.region ?_
    refine TL.cons rfl (Step.index (e := 54) (z := 10) (i := (i : Int)) rfl rfl (lt_ok rfl) (by kernel_rfl) rfl rfl rfl (lt_ok rfl) rfl (by first | omega | (simp only [List.length_append] at *; omega) | (simp; omega)) (by simp only [D.size]; first | omega | (simp only [List.length_append] at *; omega) | (simp; omega))) ?_
    refine TL.cons rfl (Step.load_agg (n := 10) (cs := [.d (.int .i64 (p.f0.getD i default).f0), .d (.int .i64 (p.f0.getD i default).f1), .d (.int .i64 (p.f0.getD i default).f2), .d (.ints .u8 (p.f0.getD i default).f3), .d (.ints .u8 (p.f0.getD i default).f4), .d (.int .i64 (p.f0.getD i default).f5.f0), .d (.int .i64 (p.f0.getD i default).f5.f1), .d (.ints .u8 (p.f0.getD i default).f5.f2), .d (.ints .u8 (p.f0.getD i default).f5.f3), .d (.bss (p.f0.getD i default).f5.f4)]) rfl rfl (lt_ok rfl) (by kernel_rfl) rfl rfl (by simp only [List.range, List.range.loop, List.map_cons, List.map_nil]; rw [cell_map default (by first | omega | (simp only [List.length_append] at *; omega) | (simp; omega)), cell_map default (by first | omega | (simp only [List.length_append] at *; omega) | (simp; omega)), cell_map default (by first | omega | (simp only [List.length_append] at *; omega) | (simp; omega)), cell_map default (by first | omega | (simp only [List.length_append] at *; omega) | (simp; omega)), cell_map default (by first | omega | (simp only [List.length_append] at *; omega) | (simp; omega)), cell_map default (by first | omega | (simp only [List.length_append] at *; omega) | (simp; omega)), cell_map default (by first | omega | (simp only [List.length_append] at *; omega) | (simp; omega)), cell_map default (by first | omega | (simp only [List.length_append] at *; omega) | (simp; omega)), cell_map default (by first | omega | (simp only [List.length_append] at *; omega) | (simp; omega)), cell_map default (by first | omega | (simp only [List.length_append] at *; omega) | (simp; omega))]; rfl)) ?_
    refine TL.cons rfl (Step.alloc (cs := [.int .i64 0, .int .i64 0, .int .i64 0, .slice none 0 0, .slice none 0 0, .int .i64 0, .int .i64 0, .slice none 0 0, .slice none 0 0, .slice none 0 0]) (ps := [.d (.int .i64 0), .d (.int .i64 0), .d (.int .i64 0), .nil, .nil, .d (.int .i64 0), .d (.int .i64 0), .nil, .nil, .nil]) rfl rfl (lt_ok rfl) (by kernel_rfl) rfl rfl rfl rfl) ?_
    refine TL.cons rfl (Step.store_box (n := 10) (p := (.agg [.d (.int .i64 (p.f0.getD i default).f0), .d (.int .i64 (p.f0.getD i default).f1), .d (.int .i64 (p.f0.getD i default).f2), .d (.ints .u8 (p.f0.getD i default).f3), .d (.ints .u8 (p.f0.getD i default).f4), .d (.int .i64 (p.f0.getD i default).f5.f0), .d (.int .i64 (p.f0.getD i default).f5.f1), .d (.ints .u8 (p.f0.getD i default).f5.f2), .d (.ints .u8 (p.f0.getD i default).f5.f3), .d (.bss (p.f0.getD i default).f5.f4)])) (qs := [.d (.int .i64 (p.f0.getD i default).f0), .d (.int .i64 (p.f0.getD i default).f1), .d (.int .i64 (p.f0.getD i default).f2), .d (.ints .u8 (p.f0.getD i default).f3), .d (.ints .u8 (p.f0.getD i default).f4), .d (.int .i64 (p.f0.getD i default).f5.f0), .d (.int .i64 (p.f0.getD i default).f5.f1), .d (.ints .u8 (p.f0.getD i default).f5.f2), .d (.ints .u8 (p.f0.getD i default).f5.f3), .d (.bss (p.f0.getD i default).f5.f4)]) (ps' := [.d (.int .i64 (p.f0.getD i default).f0), .d (.int .i64 (p.f0.getD i default).f1), .d (.int .i64 (p.f0.getD i default).f2), .d (.ints .u8 (p.f0.getD i default).f3), .d (.ints .u8 (p.f0.getD i default).f4), .d (.int .i64 (p.f0.getD i default).f5.f0), .d (.int .i64 (p.f0.getD i default).f5.f1), .d (.ints .u8 (p.f0.getD i default).f5.f2), .d (.ints .u8 (p.f0.getD i default).f5.f3), .d (.bss (p.f0.getD i default).f5.f4)]) rfl rfl (by kernel_rfl) rfl rfl rfl rfl rfl rfl (le_ok rfl) rfl) ?_
    refine TL.nil ?_
    refine T.region ?_
    refine TL.cons rfl (Step.move (p := (.one (.ptr 18 0))) rfl rfl (lt_ok rfl) rfl) ?_
    refine TL.cons rfl (Step.load_box_agg (n := 10) (qs := [.d (.int .i64 (p.f0.getD i default).f0), .d (.int .i64 (p.f0.getD i default).f1), .d (.int .i64 (p.f0.getD i default).f2), .d (.ints .u8 (p.f0.getD i default).f3), .d (.ints .u8 (p.f0.getD i default).f4), .d (.int .i64 (p.f0.getD i default).f5.f0), .d (.int .i64 (p.f0.getD i default).f5.f1), .d (.ints .u8 (p.f0.getD i default).f5.f2), .d (.ints .u8 (p.f0.getD i default).f5.f3), .d (.bss (p.f0.getD i default).f5.f4)]) rfl rfl (lt_ok rfl) (by kernel_rfl) rfl rfl rfl rfl) ?_
    have nn4 := @putHeadB_len ((p.f0.take i).foldl putHeadB (putVar b (p.f0.length : Int))) (p.f0.getD i default) (by first | assumption | exact mem_getD s0.2 (by omega))
    refine TL.cons rfl (Step.callX (f := 78) (b := 18) (T := 98) (xs := [.tmp 31, .tmp 32]) (ps := [(.one (.ptr 18 0)), (.agg [.d (.int .i64 (p.f0.getD i default).f0), .d (.int .i64 (p.f0.getD i default).f1), .d (.int .i64 (p.f0.getD i default).f2), .d (.ints .u8 (p.f0.getD i default).f3), .d (.ints .u8 (p.f0.getD i default).f4), .d (.int .i64 (p.f0.getD i default).f5.f0), .d (.int .i64 (p.f0.getD i default).f5.f1), .d (.ints .u8 (p.f0.getD i default).f5.f2), .d (.ints .u8 (p.f0.getD i default).f5.f3), .d (.bss (p.f0.getD i default).f5.f4)])]) (args := [.bx, .rd (.agg [(.int .i64 (p.f0.getD i default).f0), (.int .i64 (p.f0.getD i default).f1), (.int .i64 (p.f0.getD i default).f2), (.ints .u8 (p.f0.getD i default).f3), (.ints .u8 (p.f0.getD i default).f4), (.int .i64 (p.f0.getD i default).f5.f0), (.int .i64 (p.f0.getD i default).f5.f1), (.ints .u8 (p.f0.getD i default).f5.f2), (.ints .u8 (p.f0.getD i default).f5.f3), (.bss (p.f0.getD i default).f5.f4)])]) (bps := [.row 101800 []]) (cs := [.own 5 (.ints .u8 ((p.f0.take i).foldl putHeadB (putVar b (p.f0.length : Int))))]) (cs' := [.own 5 (.ints .u8 (putHeadB ((p.f0.take i).foldl putHeadB (putVar b (p.f0.length : Int))) (p.f0.getD i default)))]) (res := []) (ss := [101800]) (g := .func 78) rfl rfl (lt_ok rfl) rfl (by kernel_rfl) rfl (.cons (.bx) (.cons (.rd (.agg (.cons (.d _) (.cons (.d _) (.cons (.d _) (.cons (.d _) (.cons (.d _) (.cons (.d _) (.cons (.d _) (.cons (.d _) (.cons (.d _) (.cons (.d _) .nil)))))))))))) .nil)) rfl (.own rfl (by simp) .nil) (ok_impl_writer__head ((p.f0.take i).foldl putHeadB (putVar b (p.f0.length : Int))) (p.f0.getD i default) (by first | omega | assumption | (simp only [List.length_append] at *; omega)) (by first | assumption | exact mem_getD s0.2 (by omega))) rfl rfl (by simp) rfl) ?_
    refine TL.ren 1033 101800 rfl (by simp) ?_
    refine TL.nil ?_
    refine T.region ?_
    refine TL.cons rfl (Step.bin (r := .int .i64 ((i : Int) + 1)) rfl rfl (lt_ok rfl) rfl rfl (Bin.add (a := (i : Int)) (b := 1) (by first | exact wrap_ok (by first | omega | (simp only [List.length_append] at *; omega) | (simp; omega)) (by first | omega | (simp only [List.length_append] at *; omega) | (simp; omega)) | rfl))) ?_
    refine TL.cons rfl (Step.move (p := (.one (.d (.int .i64 ((i : Int) + 1))))) rfl rfl (lt_ok rfl) rfl) ?_
    refine TL.nil ?_
    exact ⟨i + 1, by omega, by first | omega | (dsimp only; omega), Env.le_mk ⟨rfl, rfl, rfl, rfl, rfl, rfl, by first | (refine congrArg (fun x => some (_, D.ints .u8 x)) ?_; first | (rw [foldl_take_succ putHeadB _ _ i default (by omega)]; done) | (rw [foldl_take_succ putHeadB _ _ i default (by omega)]; unfold putHead; rw [if_pos (headsOk_at (by omega) hp3_)]) | rfl) | rfl | (refine congrArg (fun n => PV.one (.d (.int .i64 n))) ?_; first | omega | (simp; done)), trivial⟩ ⟨by first | (refine congrArg (fun x => some (_, D.ints .u8 x)) ?_; first | (rw [foldl_take_succ putHeadB _ _ i default (by omega)]; done) | (rw [foldl_take_succ putHeadB _ _ i default (by omega)]; unfold putHead; rw [if_pos (headsOk_at (by omega) hp3_)]) | rfl) | rfl | (refine congrArg (fun n => PV.one (.d (.int .i64 n))) ?_; first | omega | (simp; done)), trivial⟩ ⟨rfl, rfl, rfl, trivial⟩⟩
   ·
    replace h3 := of_decide_eq_false h3
    refine T.exit ?_
    refine T.seq ?_
    refine T.region ?_
    refine TL.cons rfl (Step.move (p := (.one (.ptr 18 0))) rfl rfl (lt_ok rfl) rfl) ?_
    refine TL.cons rfl (Step.fieldAddr (q := 0) (off := 1) (n := 5) (one := false) rfl rfl (lt_ok rfl) (by kernel_rfl) (Nat.succ_ne_zero _) rfl) ?_
    refine TL.cons rfl (Step.load_box_agg (n := 5) (qs := [.d (.int .i64 p.f1.f0), .d (.int .i64 p.f1.f1), .d (.ints .u8 p.f1.f2), .d (.ints .u8 p.f1.f3), .d (.bss p.f1.f4)]) rfl rfl (lt_ok rfl) (by kernel_rfl) rfl rfl rfl rfl) ?_
    have nn5 := @putQcB_len ((p.f0.take i).foldl putHeadB (putVar b (p.f0.length : Int))) p.f1 (by assumption)
    refine TL.cons rfl (Step.callX (f := 79) (b := 18) (T := 98) (xs := [.tmp 35, .tmp 37]) (ps := [(.one (.ptr 18 0)), (.agg [.d (.int .i64 p.f1.f0), .d (.int .i64 p.f1.f1), .d (.ints .u8 p.f1.f2), .d (.ints .u8 p.f1.f3), .d (.bss p.f1.f4)])]) (args := [.bx, .rd (.agg [(.int .i64 p.f1.f0), (.int .i64 p.f1.f1), (.ints .u8 p.f1.f2), (.ints .u8 p.f1.f3), (.bss p.f1.f4)])]) (bps := [.row 101800 []]) (cs := [.own 5 (.ints .u8 ((p.f0.take i).foldl putHeadB (putVar b (p.f0.length : Int))))]) (cs' := [.own 5 (.ints .u8 (putQcB ((p.f0.take i).foldl putHeadB (putVar b (p.f0.length : Int))) p.f1))]) (res := []) (ss := [101800]) (g := .func 79) rfl rfl (lt_ok rfl) rfl (by kernel_rfl) rfl (.cons (.bx) (.cons (.rd (.agg (.cons (.d _) (.cons (.d _) (.cons (.d _) (.cons (.d _) (.cons (.d _) .nil))))))) .nil)) rfl (.own rfl (by simp) .nil) (ok_impl_writer__qc ((p.f0.take i).foldl putHeadB (putVar b (p.f0.length : Int))) p.f1 (by first | omega | assumption | (simp only [List.length_append] at *; omega)) (by assumption)) rfl rfl (by simp) rfl) ?_
    refine TL.ren 1038 101800 rfl (by simp) ?_
    refine TL.nil ?_
    refine T.seq ?_
    refine T.region ?_
    refine TL.cons rfl (Step.move (p := (.one (.ptr 18 0))) rfl rfl (lt_ok rfl) rfl) ?_
    refine TL.cons rfl (Step.nilCheck rfl rfl (lt_ok rfl) rfl) ?_
    refine TL.cons rfl (Step.fieldAddr (q := 0) (off := 0) (n := 1) (one := true) rfl rfl (lt_ok rfl) (by kernel_rfl) (Nat.succ_ne_zero _) rfl) ?_
    refine TL.cons rfl (Step.load_box (c := .row 101800 []) rfl rfl (lt_ok rfl) (by kernel_rfl) rfl rfl rfl) ?_
    refine TL.cons rfl (Step.assign (p := (.one (.row 101800 []))) rfl rfl (lt_ok rfl) rfl) ?_
    refine TL.cons rfl (Step.assign (p := (.one (.d (.bool true)))) rfl rfl (lt_ok rfl) rfl) ?_
    refine TL.nil ?_
    refine T.ret ?_
    exact ⟨[(false, [.row 101800 []]), (false, [.d (.bool true)])], (.cons rfl (.cons rfl .nil)), rfl, [101800], (RetC.own' rfl (by first | rfl | (congr 1; unfold putProof putProofB; rw [if_pos (by assumption), ← foldl_all putHeadB _ p.f0 i (by omega)]; done) | (congr 1; unfold putProof putProofB; rw [if_pos (by assumption), ← foldl_all putHeadB _ p.f0 i (by omega)]; unfold putQc; rw [if_pos hp4_]) | (show (putProof l b p).length = 0; unfold putProof; rw [if_neg (by simp [*])]; rfl) | (congr 1; symm; assumption) | (congr 1; rw [hp4_]; symm; assumption)) rfl (RetC.rd' (by first | rfl | (congr 1; unfold putProof putProofB; rw [if_pos (by assumption), ← foldl_all putHeadB _ p.f0 i (by omega)]; done) | (congr 1; unfold putProof putProofB; rw [if_pos (by assumption), ← foldl_all putHeadB _ p.f0 i (by omega)]; unfold putQc; rw [if_pos hp4_]) | (show (putProof l b p).length = 0; unfold putProof; rw [if_neg (by simp [*])]; rfl) | (congr 1; symm; assumption) | (congr 1; rw [hp4_]; symm; assumption)) .nil))⟩
theorem ok_laws_eqByteS (a : List Int) (b : List Int) : RO Try.prog 21 [.one (.ints .u8 a), .one (.ints .u8 b)] [(false, [.rd (.bool (decide (a = b)))])] := by
 refine RO.intro Try.func21 rfl 26 rfl (le_ok rfl) fun w Z => ?_
 refine T.bnd 0 0 rfl rfl fun hb_0_0 => ?_
 simp only [D.size, List.length_map] at hb_0_0
 refine T.bnd 1 0 rfl rfl fun hb_1_0 => ?_
 simp only [D.size, List.length_map] at hb_1_0
 refine T.seq ?_
 refine T.region ?_
 refine TL.cons rfl (Step.assign (p := (.one (.d (.bool false)))) rfl rfl (lt_ok rfl) rfl) ?_
 refine TL.nil ?_
 refine T.seq ?_
 refine T.seq ?_
 refine T.region ?_
 refine TL.cons rfl (Step.move (p := (.one (.d (.ints .u8 a)))) rfl rfl (lt_ok rfl) rfl) ?_
 refine TL.cons rfl (Step.len (e := 5) (z := 1) (d := (.ints .u8 a)) rfl rfl (lt_ok rfl) (by kernel_rfl) rfl rfl) ?_
 refine TL.cons rfl (Step.move (p := (.one (.d (.ints .u8 b)))) rfl rfl (lt_ok rfl) rfl) ?_
 refine TL.cons rfl (Step.len (e := 5) (z := 1) (d := (.ints .u8 b)) rfl rfl (lt_ok rfl) (by kernel_rfl) rfl rfl) ?_
 refine TL.cons rfl (Step.bin rfl rfl (lt_ok rfl) rfl rfl (Bin.neq (k := .i64) (a := (a.length : Int)) (b := (b.length : Int)))) ?_
 refine TL.nil ?_
 refine T.cond (b := decide ((a.length : Int) ≠ (b.length : Int))) rfl (fun h1 => ?_) (fun h1 => ?_)
 ·
  replace h1 := of_decide_eq_true h1
  refine T.seq ?_
  refine T.region ?_
  refine TL.cons rfl (Step.assign (p := (.one (.d (.bool false)))) rfl rfl (lt_ok rfl) rfl) ?_
  refine TL.nil ?_
  refine T.ret ?_
  exact ⟨[(false, [.d (.bool false)])], (.cons rfl .nil), rfl, [], (RetC.rd' (by (congr 1; symm; first | (apply decide_eq_false; rintro rfl; first | exact absurd rfl ‹¬ _ = _› | exact absurd rfl (of_decide_eq_false (by assumption)) | contradiction | simp_all) | (apply decide_eq_true; exact take_all hx2 (by omega) hx3))) .nil)⟩
 ·
  replace h1 := of_decide_eq_false h1
  refine T.skip ?_
  refine T.seq ?_
  refine T.seq ?_
  refine T.region ?_
  refine TL.cons rfl (Step.assign (p := (.one (.d (.int .i64 0)))) rfl rfl (lt_ok rfl) rfl) ?_
  refine TL.nil ?_
  refine T.block ?_
  refine T.loop (ι := Nat) (fun xx_ => { tm := [(0, (.one (.d (.ints .u8 a)))), (1, (.one (.d (.ints .u8 b)))), (5, (.one (.d (.int .i64 (xx_ : Int)))))], rows := [], boxes := [] }) (fun xx_ => xx_ ≤ a.length ∧ a.length = b.length ∧ a.take xx_ = b.take xx_) (fun xx_ => a.length - xx_) 0 ?_ ?_ ?_
  · exact Env.le_mk ⟨rfl, rfl, by first | rfl | (simp; done) | (congr 3; omega), trivial⟩ trivial trivial
  · (refine ⟨Nat.zero_le _, by omega, by simp⟩)
  ·
   intro i hx
   try dsimp only at hx ⊢
   obtain ⟨hx1, hx2, hx3⟩ := hx
   refine T.seq ?_
   refine T.seq ?_
   refine T.region ?_
   refine TL.cons rfl (Step.move (p := (.one (.d (.int .i64 (i : Int))))) rfl rfl (lt_ok rfl) rfl) ?_
   refine TL.cons rfl (Step.move (p := (.one (.d (.ints .u8 a)))) rfl rfl (lt_ok rfl) rfl) ?_
   refine TL.cons rfl (Step.len (e := 5) (z := 1) (d := (.ints .u8 a)) rfl rfl (lt_ok rfl) (by kernel_rfl) rfl rfl) ?_
   refine TL.cons rfl (Step.bin rfl rfl (lt_ok rfl) rfl rfl (Bin.lss (k := .i64) (a := (i : Int)) (b := (a.length : Int)))) ?_
   refine TL.nil ?_
   refine T.cond (b := decide ((i : Int) < (a.length : Int))) rfl (fun h2 => ?_) (fun h2 => ?_)
   ·
    replace h2 := of_decide_eq_true h2
    refine T.skip ?_
    refine T.seq ?_
    refine T.block ?_
    refine T.seq ?_
    refine T.draw [⟨17, (.one (.d (.ints .u8 a))), []⟩, ⟨18, (.one (.d (.int .i64 (i : Int)))), []⟩, ⟨19, (.one (.eptr (.ints .u8 a) i 0)), []⟩, ⟨20, (.one (.d (.int .u8 (a.getD i 0)))), []⟩, ⟨21, (.one (.d (.ints .u8 b))), []⟩, ⟨22, (.one (.d (.int .i64 (i : Int)))), []⟩, ⟨23, (.one (.eptr (.ints .u8 b) i 0)), []⟩, ⟨24, (.one (.d (.int .u8 (b.getD i 0)))), []⟩, ⟨25, (.one (.d (.bool (decide ((a.getD i 0) ≠ (b.getD i 0)))))), []⟩] (by kernel_rfl) (by kernel_rfl) ?_ ?_
    ·
     refine .cons (fun E hA_ => by have g0 := hA_.get 0 (by decide); exact OpStep.plain rfl (Step.move (p := (.one (.d (.ints .u8 a)))) (t := 17) rfl rfl (by exact lt_ok rfl) (show Env.ev E (.tmp 0) = _ from g0.trans rfl))) ?_
     refine .cons (fun E hA_ => by have g5 := hA_.get 5 (by decide); exact OpStep.plain rfl (Step.move (p := (.one (.d (.int .i64 (i : Int))))) (t := 18) rfl rfl (by exact lt_ok rfl) (show Env.ev E (.tmp 5) = _ from g5.trans rfl))) ?_
     refine .cons (fun E hA_ => by have g17 := hA_.get 17 (by decide); have g18 := hA_.get 18 (by decide); exact OpStep.plain rfl (Step.index (e := 5) (z := 1) (i := (i : Int)) (t := 19) rfl rfl (by exact lt_ok rfl) (by kernel_rfl) (show Env.ev E (.tmp 17) = _ from g17.trans rfl) rfl rfl (lt_ok rfl) (show Env.ev E (.tmp 18) = _ from g18.trans rfl) (by first | omega | (simp; omega)) (by simp only [D.size]; first | omega | (simp; omega)))) ?_
     refine .cons (fun E hA_ => by have g19 := hA_.get 19 (by decide); exact OpStep.plain rfl (Step.load (e := (.int .u8 (a.getD i 0))) (t := 20) rfl rfl (by exact lt_ok rfl) (by kernel_rfl) (show Env.ev E (.tmp 19) = _ from g19.trans rfl) rfl)) ?_
     refine .cons (fun E hA_ => by have g1 := hA_.get 1 (by decide); exact OpStep.plain rfl (Step.move (p := (.one (.d (.ints .u8 b)))) (t := 21) rfl rfl (by exact lt_ok rfl) (show Env.ev E (.tmp 1) = _ from g1.trans rfl))) ?_
     refine .cons (fun E hA_ => by have g5 := hA_.get 5 (by decide); exact OpStep.plain rfl (Step.move (p := (.one (.d (.int .i64 (i : Int))))) (t := 22) rfl rfl (by exact lt_ok rfl) (show Env.ev E (.tmp 5) = _ from g5.trans rfl))) ?_
     refine .cons (fun E hA_ => by have g21 := hA_.get 21 (by decide); have g22 := hA_.get 22 (by decide); exact OpStep.plain rfl (Step.index (e := 5) (z := 1) (i := (i : Int)) (t := 23) rfl rfl (by exact lt_ok rfl) (by kernel_rfl) (show Env.ev E (.tmp 21) = _ from g21.trans rfl) rfl rfl (lt_ok rfl) (show Env.ev E (.tmp 22) = _ from g22.trans rfl) (by first | omega | (simp; omega)) (by simp only [D.size]; first | omega | (simp; omega)))) ?_
     refine .cons (fun E hA_ => by have g23 := hA_.get 23 (by decide); exact OpStep.plain rfl (Step.load (e := (.int .u8 (b.getD i 0))) (t := 24) rfl rfl (by exact lt_ok rfl) (by kernel_rfl) (show Env.ev E (.tmp 23) = _ from g23.trans rfl) rfl)) ?_
     refine .cons (fun E hA_ => by have g20 := hA_.get 20 (by decide); have g24 := hA_.get 24 (by decide); exact OpStep.plain rfl (Step.bin (t := 25) rfl rfl (by exact lt_ok rfl) (show Env.ev E (.tmp 20) = _ from g20.trans rfl) (show Env.ev E (.tmp 24) = _ from g24.trans rfl) (Bin.neq (k := .u8) (a := (a.getD i 0)) (b := (b.getD i 0))))) ?_
     exact .nil _ _
    refine TL.nil ?_
    refine T.cond (b := decide ((a.getD i 0) ≠ (b.getD i 0))) rfl (fun h3 => ?_) (fun h3 => ?_)
    ·
     replace h3 := of_decide_eq_true h3
     refine T.seq ?_
     refine T.region ?_
     refine TL.cons rfl (Step.assign (p := (.one (.d (.bool false)))) rfl rfl (lt_ok rfl) rfl) ?_
     refine TL.nil ?_
     refine T.ret ?_
     exact ⟨[(false, [.d (.bool false)])], (.cons rfl .nil), rfl, [], (RetC.rd' (by (congr 1; symm; first | (apply decide_eq_false; rintro rfl; first | exact absurd rfl ‹¬ _ = _› | exact absurd rfl (of_decide_eq_false (by assumption)) | contradiction | simp_all) | (apply decide_eq_true; exact take_all hx2 (by omega) hx3))) .nil)⟩
    ·
     replace h3 := of_decide_eq_false h3
     refine T.skip ?_
     refine T.region ?_
     refine TL.cons rfl (Step.move (p := (.one (.d (.int .i64 (i : Int))))) rfl rfl (lt_ok rfl) rfl) ?_
     refine TL.cons rfl (Step.bin (r := .int .i64 ((i : Int) + 1)) rfl rfl (lt_ok rfl) rfl rfl (Bin.add (a := (i : Int)) (b := 1) (by first | exact wrap_ok (by first | omega | (simp; omega)) (by first | omega | (simp; omega)) | rfl))) ?_
     refine TL.cons rfl (Step.assign (p := (.one (.d (.int .i64 ((i : Int) + 1))))) rfl rfl (lt_ok rfl) rfl) ?_
     refine TL.nil ?_
     exact ⟨i + 1, by (refine ⟨by omega, hx2, take_step (d := 0) hx2 (by omega) hx3 (by first | assumption | exact Decidable.not_not.1 (by assumption) | omega)⟩), by omega, Env.le_mk ⟨rfl, rfl, by first | rfl | (simp; done) | (congr 3; omega), trivial⟩ trivial trivial⟩
   ·
    replace h2 := of_decide_eq_false h2
    refine T.exit ?_
    refine T.seq ?_
    refine T.region ?_
    refine TL.cons rfl (Step.assign (p := (.one (.d (.bool true)))) rfl rfl (lt_ok rfl) rfl) ?_
    refine TL.nil ?_
    refine T.ret ?_
    exact ⟨[(false, [.d (.bool true)])], (.cons rfl .nil), rfl, [], (RetC.rd' (by (congr 1; symm; first | (apply decide_eq_false; rintro rfl; first | exact absurd rfl ‹¬ _ = _› | exact absurd rfl (of_decide_eq_false (by assumption)) | contradiction | simp_all) | (apply decide_eq_true; exact take_all hx2 (by omega) hx3))) .nil)⟩
theorem ok_laws_eqByteSS (a : List (List Int)) (b : List (List Int)) : RO Try.prog 58 [.one (.bss a), .one (.bss b)] [(false, [.rd (.bool (decide (a = b)))])] := by
 refine RO.intro Try.func58 rfl 27 rfl (le_ok rfl) fun w Z => ?_
 refine T.bnd 0 0 rfl rfl fun hb_0_0 => ?_
 simp only [D.size, List.length_map] at hb_0_0
 refine T.bnd 1 0 rfl rfl fun hb_1_0 => ?_
 simp only [D.size, List.length_map] at hb_1_0
 refine T.seq ?_
 refine T.region ?_
 refine TL.cons rfl (Step.assign (p := (.one (.d (.bool false)))) rfl rfl (lt_ok rfl) rfl) ?_
 refine TL.nil ?_
 refine T.seq ?_
 refine T.seq ?_
 refine T.region ?_
 refine TL.cons rfl (Step.move (p := (.one (.d (.bss a)))) rfl rfl (lt_ok rfl) rfl) ?_
 refine TL.cons rfl (Step.len (e := 24) (z := 1) (d := (.bss a)) rfl rfl (lt_ok rfl) (by kernel_rfl) rfl rfl) ?_
 refine TL.cons rfl (Step.move (p := (.one (.d (.bss b)))) rfl rfl (lt_ok rfl) rfl) ?_
 refine TL.cons rfl (Step.len (e := 24) (z := 1) (d := (.bss b)) rfl rfl (lt_ok rfl) (by kernel_rfl) rfl rfl) ?_
 refine TL.cons rfl (Step.bin rfl rfl (lt_ok rfl) rfl rfl (Bin.neq (k := .i64) (a := (a.length : Int)) (b := (b.length : Int)))) ?_
 refine TL.nil ?_
 refine T.cond (b := decide ((a.length : Int) ≠ (b.length : Int))) rfl (fun h1 => ?_) (fun h1 => ?_)
 ·
  replace h1 := of_decide_eq_true h1
  refine T.seq ?_
  refine T.region ?_
  refine TL.cons rfl (Step.assign (p := (.one (.d (.bool false)))) rfl rfl (lt_ok rfl) rfl) ?_
  refine TL.nil ?_
  refine T.ret ?_
  exact ⟨[(false, [.d (.bool false)])], (.cons rfl .nil), rfl, [], (RetC.rd' (by (congr 1; symm; first | (apply decide_eq_false; rintro rfl; first | exact absurd rfl ‹¬ _ = _› | exact absurd rfl (of_decide_eq_false (by assumption)) | contradiction | simp_all) | (apply decide_eq_true; exact take_all hx2 (by omega) hx3))) .nil)⟩
 ·
  replace h1 := of_decide_eq_false h1
  refine T.skip ?_
  refine T.seq ?_
  refine T.seq ?_
  refine T.region ?_
  refine TL.cons rfl (Step.assign (p := (.one (.d (.int .i64 0)))) rfl rfl (lt_ok rfl) rfl) ?_
  refine TL.nil ?_
  refine T.block ?_
  refine T.loop (ι := Nat) (fun xx_ => { tm := [(0, (.one (.d (.bss a)))), (1, (.one (.d (.bss b)))), (5, (.one (.d (.int .i64 (xx_ : Int)))))], rows := [], boxes := [] }) (fun xx_ => xx_ ≤ a.length ∧ a.length = b.length ∧ a.take xx_ = b.take xx_) (fun xx_ => a.length - xx_) 0 ?_ ?_ ?_
  · exact Env.le_mk ⟨rfl, rfl, by first | rfl | (simp; done) | (congr 3; omega), trivial⟩ trivial trivial
  · (refine ⟨Nat.zero_le _, by omega, by simp⟩)
  ·
   intro i hx
   try dsimp only at hx ⊢
   obtain ⟨hx1, hx2, hx3⟩ := hx
   refine T.seq ?_
   refine T.seq ?_
   refine T.region ?_
   refine TL.cons rfl (Step.move (p := (.one (.d (.int .i64 (i : Int))))) rfl rfl (lt_ok rfl) rfl) ?_
   refine TL.cons rfl (Step.move (p := (.one (.d (.bss a)))) rfl rfl (lt_ok rfl) rfl) ?_
   refine TL.cons rfl (Step.len (e := 24) (z := 1) (d := (.bss a)) rfl rfl (lt_ok rfl) (by kernel_rfl) rfl rfl) ?_
   refine TL.cons rfl (Step.bin rfl rfl (lt_ok rfl) rfl rfl (Bin.lss (k := .i64) (a := (i : Int)) (b := (a.length : Int)))) ?_
   refine TL.nil ?_
   refine T.cond (b := decide ((i : Int) < (a.length : Int))) rfl (fun h2 => ?_) (fun h2 => ?_)
   ·
    replace h2 := of_decide_eq_true h2
    refine T.skip ?_
    refine T.seq ?_
    refine T.block ?_
    refine T.seq ?_
    refine T.draw [⟨17, (.one (.d (.bss a))), []⟩, ⟨18, (.one (.d (.int .i64 (i : Int)))), []⟩, ⟨19, (.one (.eptr (.bss a) i 0)), []⟩, ⟨20, (.one (.d (.ints .u8 (a.getD i [])))), []⟩, ⟨21, (.one (.d (.bss b))), []⟩, ⟨22, (.one (.d (.int .i64 (i : Int)))), []⟩, ⟨23, (.one (.eptr (.bss b) i 0)), []⟩, ⟨24, (.one (.d (.ints .u8 (b.getD i [])))), []⟩, ⟨25, (.one (.d (.bool (decide ((a.getD i []) = (b.getD i [])))))), []⟩, ⟨26, (.one (.d (.bool (!(decide ((a.getD i []) = (b.getD i []))))))), []⟩] (by kernel_rfl) (by kernel_rfl) ?_ ?_
    ·
     refine .cons (fun E hA_ => by have g0 := hA_.get 0 (by decide); exact OpStep.plain rfl (Step.move (p := (.one (.d (.bss a)))) (t := 17) rfl rfl (by exact lt_ok rfl) (show Env.ev E (.tmp 0) = _ from g0.trans rfl))) ?_
     refine .cons (fun E hA_ => by have g5 := hA_.get 5 (by decide); exact OpStep.plain rfl (Step.move (p := (.one (.d (.int .i64 (i : Int))))) (t := 18) rfl rfl (by exact lt_ok rfl) (show Env.ev E (.tmp 5) = _ from g5.trans rfl))) ?_
     refine .cons (fun E hA_ => by have g17 := hA_.get 17 (by decide); have g18 := hA_.get 18 (by decide); exact OpStep.plain rfl (Step.index (e := 24) (z := 1) (i := (i : Int)) (t := 19) rfl rfl (by exact lt_ok rfl) (by kernel_rfl) (show Env.ev E (.tmp 17) = _ from g17.trans rfl) rfl rfl (lt_ok rfl) (show Env.ev E (.tmp 18) = _ from g18.trans rfl) (by first | omega | (simp; omega)) (by simp only [D.size]; first | omega | (simp; omega)))) ?_
     refine .cons (fun E hA_ => by have g19 := hA_.get 19 (by decide); exact OpStep.plain rfl (Step.load (e := (.ints .u8 (a.getD i []))) (t := 20) rfl rfl (by exact lt_ok rfl) (by kernel_rfl) (show Env.ev E (.tmp 19) = _ from g19.trans rfl) rfl)) ?_
     refine .cons (fun E hA_ => by have g1 := hA_.get 1 (by decide); exact OpStep.plain rfl (Step.move (p := (.one (.d (.bss b)))) (t := 21) rfl rfl (by exact lt_ok rfl) (show Env.ev E (.tmp 1) = _ from g1.trans rfl))) ?_
     refine .cons (fun E hA_ => by have g5 := hA_.get 5 (by decide); exact OpStep.plain rfl (Step.move (p := (.one (.d (.int .i64 (i : Int))))) (t := 22) rfl rfl (by exact lt_ok rfl) (show Env.ev E (.tmp 5) = _ from g5.trans rfl))) ?_
     refine .cons (fun E hA_ => by have g21 := hA_.get 21 (by decide); have g22 := hA_.get 22 (by decide); exact OpStep.plain rfl (Step.index (e := 24) (z := 1) (i := (i : Int)) (t := 23) rfl rfl (by exact lt_ok rfl) (by kernel_rfl) (show Env.ev E (.tmp 21) = _ from g21.trans rfl) rfl rfl (lt_ok rfl) (show Env.ev E (.tmp 22) = _ from g22.trans rfl) (by first | omega | (simp; omega)) (by simp only [D.size]; first | omega | (simp; omega)))) ?_
     refine .cons (fun E hA_ => by have g23 := hA_.get 23 (by decide); exact OpStep.plain rfl (Step.load (e := (.ints .u8 (b.getD i []))) (t := 24) rfl rfl (by exact lt_ok rfl) (by kernel_rfl) (show Env.ev E (.tmp 23) = _ from g23.trans rfl) rfl)) ?_
     refine .cons (fun E hA_ => by have g20 := hA_.get 20 (by decide); have g24 := hA_.get 24 (by decide); exact OpStep.plain rfl (Step.call (f := 21) (xs := [.tmp 20, .tmp 24]) (ps := [(.one (.d (.ints .u8 (a.getD i [])))), (.one (.d (.ints .u8 (b.getD i []))))]) false (g := .func 21) (t := 25) rfl rfl (by exact lt_ok rfl) rfl (by kernel_rfl) (evs_cons (show Env.ev E (.tmp 20) = _ from g20.trans rfl) (evs_cons (show Env.ev E (.tmp 24) = _ from g24.trans rfl) (rfl))) (.cons (.one (.d _)) (.cons (.one (.d _)) .nil)) (ok_laws_eqByteS (a.getD i []) (b.getD i [])) (.inr rfl) (At.freshRows hA_ rfl) (by simp) rfl)) ?_
     refine .cons (fun E hA_ => by have g25 := hA_.get 25 (by decide); exact OpStep.plain rfl (Step.not (b := (decide ((a.getD i []) = (b.getD i [])))) (t := 26) rfl rfl (by exact lt_ok rfl) (show Env.ev E (.tmp 25) = _ from g25.trans rfl))) ?_
     exact .nil _ _
    refine TL.nil ?_
    refine T.cond (b := !(decide ((a.getD i []) = (b.getD i [])))) rfl (fun h3 => ?_) (fun h3 => ?_)
    ·
     replace h3 : (decide ((a.getD i []) = (b.getD i []))) = false := by simpa only [Bool.not_eq_true', Bool.not_eq_false'] using h3
     replace h3 := of_decide_eq_false h3
     refine T.seq ?_
     refine T.region ?_
     refine TL.cons rfl (Step.assign (p := (.one (.d (.bool false)))) rfl rfl (lt_ok rfl) rfl) ?_
     refine TL.nil ?_
     refine T.ret ?_
     exact ⟨[(false, [.d (.bool false)])], (.cons rfl .nil), rfl, [], (RetC.rd' (by (congr 1; symm; first | (apply decide_eq_false; rintro rfl; first | exact absurd rfl ‹¬ _ = _› | exact absurd rfl (of_decide_eq_false (by assumption)) | contradiction | simp_all) | (apply decide_eq_true; exact take_all hx2 (by omega) hx3))) .nil)⟩
    ·
     replace h3 : (decide ((a.getD i []) = (b.getD i []))) = true := by simpa only [Bool.not_eq_true', Bool.not_eq_false'] using h3
     replace h3 := of_decide_eq_true h3
     refine T.skip ?_
     refine T.region ?_
     refine TL.cons rfl (Step.move (p := (.one (.d (.int .i64 (i : Int))))) rfl rfl (lt_ok rfl) rfl) ?_
     refine TL.cons rfl (Step.bin (r := .int .i64 ((i : Int) + 1)) rfl rfl (lt_ok rfl) rfl rfl (Bin.add (a := (i : Int)) (b := 1) (by first | exact wrap_ok (by first | omega | (simp; omega)) (by first | omega | (simp; omega)) | rfl))) ?_
     refine TL.cons rfl (Step.assign (p := (.one (.d (.int .i64 ((i : Int) + 1))))) rfl rfl (lt_ok rfl) rfl) ?_
     refine TL.nil ?_
     exact ⟨i + 1, by (refine ⟨by omega, hx2, take_step (d := []) hx2 (by omega) hx3 (by first | assumption | exact Decidable.not_not.1 (by assumption) | omega)⟩), by omega, Env.le_mk ⟨rfl, rfl, by first | rfl | (simp; done) | (congr 3; omega), trivial⟩ trivial trivial⟩
   ·
    replace h2 := of_decide_eq_false h2
    refine T.exit ?_
    refine T.seq ?_
    refine T.region ?_
    refine TL.cons rfl (Step.assign (p := (.one (.d (.bool true)))) rfl rfl (lt_ok rfl) rfl) ?_
    refine TL.nil ?_
    refine T.ret ?_
    exact ⟨[(false, [.d (.bool true)])], (.cons rfl .nil), rfl, [], (RetC.rd' (by (congr 1; symm; first | (apply decide_eq_false; rintro rfl; first | exact absurd rfl ‹¬ _ = _› | exact absurd rfl (of_decide_eq_false (by assumption)) | contradiction | simp_all) | (apply decide_eq_true; exact take_all hx2 (by omega) hx3))) .nil)⟩
theorem ok_laws_eqQc (a : SQc) (b : SQc) : RO Try.prog 34 [.agg a.cells, .agg b.cells] [(false, [.rd (.bool (decide (a = b)))])] := by
 refine RO.intro Try.func34 rfl 33 rfl (le_ok rfl) fun w Z => ?_
 refine T.seq ?_
 refine T.region ?_
 refine TL.cons rfl (Step.box (p := (.agg [.d (.int .i64 a.f0), .d (.int .i64 a.f1), .d (.ints .u8 a.f2), .d (.ints .u8 a.f3), .d (.bss a.f4)])) (ps := [.d (.int .i64 a.f0), .d (.int .i64 a.f1), .d (.ints .u8 a.f2), .d (.ints .u8 a.f3), .d (.bss a.f4)]) rfl rfl (lt_ok rfl) rfl rfl rfl rfl rfl) ?_
 refine TL.cons rfl (Step.box (p := (.agg [.d (.int .i64 b.f0), .d (.int .i64 b.f1), .d (.ints .u8 b.f2), .d (.ints .u8 b.f3), .d (.bss b.f4)])) (ps := [.d (.int .i64 b.f0), .d (.int .i64 b.f1), .d (.ints .u8 b.f2), .d (.ints .u8 b.f3), .d (.bss b.f4)]) rfl rfl (lt_ok rfl) rfl rfl rfl rfl rfl) ?_
 refine TL.cons rfl (Step.assign (p := (.one (.d (.bool false)))) rfl rfl (lt_ok rfl) rfl) ?_
 refine TL.nil ?_
 refine T.seq ?_
 refine T.seq ?_
 refine T.region ?_
 refine TL.cons rfl (Step.fieldAddr (q := 0) (off := 0) (n := 1) (one := true) rfl rfl (lt_ok rfl) (by kernel_rfl) (Nat.succ_ne_zero _) rfl) ?_
 refine TL.cons rfl (Step.load_box (c := .d (.int .i64 a.f0)) rfl rfl (lt_ok rfl) (by kernel_rfl) rfl rfl rfl) ?_
 refine TL.cons rfl (Step.fieldAddr (q := 0) (off := 0) (n := 1) (one := true) rfl rfl (lt_ok rfl) (by kernel_rfl) (Nat.succ_ne_zero _) rfl) ?_
 refine TL.cons rfl (Step.load_box (c := .d (.int .i64 b.f0)) rfl rfl (lt_ok rfl) (by kernel_rfl) rfl rfl rfl) ?_
 refine TL.cons rfl (Step.bin rfl rfl (lt_ok rfl) rfl rfl (Bin.neq (k := .i64) (a := a.f0) (b := b.f0))) ?_
 refine TL.nil ?_
 refine T.cond (b := decide (a.f0 ≠ b.f0)) rfl (fun h1 => ?_) (fun h1 => ?_)
 ·
  replace h1 := of_decide_eq_true h1
  refine T.seq ?_
  refine T.region ?_
  refine TL.cons rfl (Step.assign (p := (.one (.d (.bool false)))) rfl rfl (lt_ok rfl) rfl) ?_
  refine TL.nil ?_
  refine T.ret ?_
  exact ⟨[(false, [.d (.bool false)])], (.cons rfl .nil), rfl, [], (RetC.rd' (by (congr 1; symm; first | (apply decide_eq_false; rintro rfl; first | exact absurd rfl ‹¬ _ = _› | contradiction) | (apply decide_eq_true; apply SQc.ext <;> first | assumption | exact Decidable.not_not.1 (by assumption)))) .nil)⟩
 ·
  replace h1 := of_decide_eq_false h1
  refine T.skip ?_
  refine T.seq ?_
  refine T.seq ?_
  refine T.region ?_
  refine TL.cons rfl (Step.fieldAddr (q := 0) (off := 1) (n := 1) (one := true) rfl rfl (lt_ok rfl) (by kernel_rfl) (Nat.succ_ne_zero _) rfl) ?_
  refine TL.cons rfl (Step.load_box (c := .d (.int .i64 a.f1)) rfl rfl (lt_ok rfl) (by kernel_rfl) rfl rfl rfl) ?_
  refine TL.cons rfl (Step.fieldAddr (q := 0) (off := 1) (n := 1) (one := true) rfl rfl (lt_ok rfl) (by kernel_rfl) (Nat.succ_ne_zero _) rfl) ?_
  refine TL.cons rfl (Step.load_box (c := .d (.int .i64 b.f1)) rfl rfl (lt_ok rfl) (by kernel_rfl) rfl rfl rfl) ?_
  refine TL.cons rfl (Step.bin rfl rfl (lt_ok rfl) rfl rfl (Bin.neq (k := .i64) (a := a.f1) (b := b.f1))) ?_
  refine TL.nil ?_
  refine T.cond (b := decide (a.f1 ≠ b.f1)) rfl (fun h2 => ?_) (fun h2 => ?_)
  ·
   replace h2 := of_decide_eq_true h2
   refine T.seq ?_
   refine T.region ?_
   refine TL.cons rfl (Step.assign (p := (.one (.d (.bool false)))) rfl rfl (lt_ok rfl) rfl) ?_
   refine TL.nil ?_
   refine T.ret ?_
   exact ⟨[(false, [.d (.bool false)])], (.cons rfl .nil), rfl, [], (RetC.rd' (by (congr 1; symm; first | (apply decide_eq_false; rintro rfl; first | exact absurd rfl ‹¬ _ = _› | contradiction) | (apply decide_eq_true; apply SQc.ext <;> first | assumption | exact Decidable.not_not.1 (by assumption)))) .nil)⟩
  ·
   replace h2 := of_decide_eq_false h2
   refine T.skip ?_
   refine T.seq ?_
   refine T.seq ?_
   refine T.region ?_
   refine TL.cons rfl (Step.fieldAddr (q := 0) (off := 2) (n := 1) (one := true) rfl rfl (lt_ok rfl) (by kernel_rfl) (Nat.succ_ne_zero _) rfl) ?_
   refine TL.cons rfl (Step.load_box (c := .d (.ints .u8 a.f2)) rfl rfl (lt_ok rfl) (by kernel_rfl) rfl rfl rfl) ?_
   refine TL.cons rfl (Step.fieldAddr (q := 0) (off := 2) (n := 1) (one := true) rfl rfl (lt_ok rfl) (by kernel_rfl) (Nat.succ_ne_zero _) rfl) ?_
   refine TL.cons rfl (Step.load_box (c := .d (.ints .u8 b.f2)) rfl rfl (lt_ok rfl) (by kernel_rfl) rfl rfl rfl) ?_
   refine TL.cons rfl (Step.call (f := 21) (xs := [.tmp 16, .tmp 18]) (ps := [(.one (.d (.ints .u8 a.f2))), (.one (.d (.ints .u8 b.f2)))]) false (g := .func 21) rfl rfl (lt_ok rfl) rfl (by kernel_rfl) rfl (.cons (.one (.d _)) (.cons (.one (.d _)) .nil)) (ok_laws_eqByteS a.f2 b.f2) (.inr rfl) rfl (by simp) rfl) ?_
   refine TL.cons rfl (Step.not (b := (decide (a.f2 = b.f2))) rfl rfl (lt_ok rfl) rfl) ?_
   refine TL.nil ?_
   refine T.cond (b := !(decide (a.f2 = b.f2))) rfl (fun h3 => ?_) (fun h3 => ?_)
   ·
    replace h3 : (decide (a.f2 = b.f2)) = false := by simpa only [Bool.not_eq_true', Bool.not_eq_false'] using h3
    replace h3 := of_decide_eq_false h3
    refine T.seq ?_
    refine T.region ?_
    refine TL.cons rfl (Step.assign (p := (.one (.d (.bool false)))) rfl rfl (lt_ok rfl) rfl) ?_
    refine TL.nil ?_
    refine T.ret ?_
    exact ⟨[(false, [.d (.bool false)])], (.cons rfl .nil), rfl, [], (RetC.rd' (by (congr 1; symm; first | (apply decide_eq_false; rintro rfl; first | exact absurd rfl ‹¬ _ = _› | contradiction) | (apply decide_eq_true; apply SQc.ext <;> first | assumption | exact Decidable.not_not.1 (by assumption)))) .nil)⟩
   ·
    replace h3 : (decide (a.f2 = b.f2)) = true := by simpa only [Bool.not_eq_true', Bool.not_eq_false'] using h3
    replace h3 := of_decide_eq_true h3
    refine T.skip ?_
    refine T.seq ?_
    refine T.seq ?_
    refine T.region ?_
    refine TL.cons rfl (Step.fieldAddr (q := 0) (off := 3) (n := 1) (one := true) rfl rfl (lt_ok rfl) (by kernel_rfl) (Nat.succ_ne_zero _) rfl) ?_
    refine TL.cons rfl (Step.load_box (c := .d (.ints .u8 a.f3)) rfl rfl (lt_ok rfl) (by kernel_rfl) rfl rfl rfl) ?_
    refine TL.cons rfl (Step.fieldAddr (q := 0) (off := 3) (n := 1) (one := true) rfl rfl (lt_ok rfl) (by kernel_rfl) (Nat.succ_ne_zero _) rfl) ?_
    refine TL.cons rfl (Step.load_box (c := .d (.ints .u8 b.f3)) rfl rfl (lt_ok rfl) (by kernel_rfl) rfl rfl rfl) ?_
    refine TL.cons rfl (Step.call (f := 21) (xs := [.tmp 22, .tmp 24]) (ps := [(.one (.d (.ints .u8 a.f3))), (.one (.d (.ints .u8 b.f3)))]) false (g := .func 21) rfl rfl (lt_ok rfl) rfl (by kernel_rfl) rfl (.cons (.one (.d _)) (.cons (.one (.d _)) .nil)) (ok_laws_eqByteS a.f3 b.f3) (.inr rfl) rfl (by simp) rfl) ?_
    refine TL.cons rfl (Step.not (b := (decide (a.f3 = b.f3))) rfl rfl (lt_ok rfl) rfl) ?_
    refine TL.nil ?_
    refine T.cond (b := !(decide (a.f3 = b.f3))) rfl (fun h4 => ?_) (fun h4 => ?_)
    ·
     replace h4 : (decide (a.f3 = b.f3)) = false := by simpa only [Bool.not_eq_true', Bool.not_eq_false'] using h4
     replace h4 := of_decide_eq_false h4
     refine T.seq ?_
     refine T.region ?_
     refine TL.cons rfl (Step.assign (p := (.one (.d (.bool false)))) rfl rfl (lt_ok rfl) rfl) ?_
     refine TL.nil ?_
     refine T.ret ?_
     exact ⟨[(false, [.d (.bool false)])], (.cons rfl .nil), rfl, [], (RetC.rd' (by (congr 1; symm; first | (apply decide_eq_false; rintro rfl; first | exact absurd rfl ‹¬ _ = _› | contradiction) | (apply decide_eq_true; apply SQc.ext <;> first | assumption | exact Decidable.not_not.1 (by assumption)))) .nil)⟩
    ·
     replace h4 : (decide (a.f3 = b.f3)) = true := by simpa only [Bool.not_eq_true', Bool.not_eq_false'] using h4
     replace h4 := of_decide_eq_true h4
     refine T.skip ?_
     refine T.seq ?_
     refine T.seq ?_
     refine T.region ?_
     refine TL.cons rfl (Step.fieldAddr (q := 0) (off := 4) (n := 1) (one := true) rfl rfl (lt_ok rfl) (by kernel_rfl) (Nat.succ_ne_zero _) rfl) ?_
     refine TL.cons rfl (Step.load_box (c := .d (.bss a.f4)) rfl rfl (lt_ok rfl) (by kernel_rfl) rfl rfl rfl) ?_
     refine TL.cons rfl (Step.fieldAddr (q := 0) (off := 4) (n := 1) (one := true) rfl rfl (lt_ok rfl) (by kernel_rfl) (Nat.succ_ne_zero _) rfl) ?_
     refine TL.cons rfl (Step.load_box (c := .d (.bss b.f4)) rfl rfl (lt_ok rfl) (by kernel_rfl) rfl rfl rfl) ?_
     refine TL.cons rfl (Step.call (f := 58) (xs := [.tmp 28, .tmp 30]) (ps := [(.one (.d (.bss a.f4))), (.one (.d (.bss b.f4)))]) false (g := .func 58) rfl rfl (lt_ok rfl) rfl (by kernel_rfl) rfl (.cons (.one (.d _)) (.cons (.one (.d _)) .nil)) (ok_laws_eqByteSS a.f4 b.f4) (.inr rfl) rfl (by simp) rfl) ?_
     refine TL.cons rfl (Step.not (b := (decide (a.f4 = b.f4))) rfl rfl (lt_ok rfl) rfl) ?_
     refine TL.nil ?_
     refine T.cond (b := !(decide (a.f4 = b.f4))) rfl (fun h5 => ?_) (fun h5 => ?_)
     ·
      replace h5 : (decide (a.f4 = b.f4)) = false := by simpa only [Bool.not_eq_true', Bool.not_eq_false'] using h5
      replace h5 := of_decide_eq_false h5
      refine T.seq ?_
      refine T.region ?_
      refine TL.cons rfl (Step.assign (p := (.one (.d (.bool false)))) rfl rfl (lt_ok rfl) rfl) ?_
      refine TL.nil ?_
      refine T.ret ?_
      exact ⟨[(false, [.d (.bool false)])], (.cons rfl .nil), rfl, [], (RetC.rd' (by (congr 1; symm; first | (apply decide_eq_false; rintro rfl; first | exact absurd rfl ‹¬ _ = _› | contradiction) | (apply decide_eq_true; apply SQc.ext <;> first | assumption | exact Decidable.not_not.1 (by assumption)))) .nil)⟩
     ·
      replace h5 : (decide (a.f4 = b.f4)) = true := by simpa only [Bool.not_eq_true', Bool.not_eq_false'] using h5
      replace h5 := of_decide_eq_true h5
      refine T.skip ?_
      refine T.seq ?_
      refine T.region ?_
      refine TL.cons rfl (Step.assign (p := (.one (.d (.bool true)))) rfl rfl (lt_ok rfl) rfl) ?_
      refine TL.nil ?_
      refine T.ret ?_
      exact ⟨[(false, [.d (.bool true)])], (.cons rfl .nil), rfl, [], (RetC.rd' (by (congr 1; symm; first | (apply decide_eq_false; rintro rfl; first | exact absurd rfl ‹¬ _ = _› | contradiction) | (apply decide_eq_true; apply SQc.ext <;> first | assumption | exact Decidable.not_not.1 (by assumption)))) .nil)⟩
theorem ok_laws_eqHead (a : SHead) (b : SHead) : RO Try.prog 39 [.agg a.cells, .agg b.cells] [(false, [.rd (.bool (decide (a = b)))])] := by
 refine RO.intro Try.func39 rfl 38 rfl (le_ok rfl) fun w Z => ?_
 refine T.seq ?_
 refine T.region ?_
 refine TL.cons rfl (Step.box (p := (.agg [.d (.int .i64 a.f0), .d (.int .i64 a.f1), .d (.int .i64 a.f2), .d (.ints .u8 a.f3), .d (.ints .u8 a.f4), .d (.int .i64 a.f5.f0), .d (.int .i64 a.f5.f1), .d (.ints .u8 a.f5.f2), .d (.ints .u8 a.f5.f3), .d (.bss a.f5.f4)])) (ps := [.d (.int .i64 a.f0), .d (.int .i64 a.f1), .d (.int .i64 a.f2), .d (.ints .u8 a.f3), .d (.ints .u8 a.f4), .d (.int .i64 a.f5.f0), .d (.int .i64 a.f5.f1), .d (.ints .u8 a.f5.f2), .d (.ints .u8 a.f5.f3), .d (.bss a.f5.f4)]) rfl rfl (lt_ok rfl) rfl rfl rfl rfl rfl) ?_
 refine TL.cons rfl (Step.box (p := (.agg [.d (.int .i64 b.f0), .d (.int .i64 b.f1), .d (.int .i64 b.f2), .d (.ints .u8 b.f3), .d (.ints .u8 b.f4), .d (.int .i64 b.f5.f0), .d (.int .i64 b.f5.f1), .d (.ints .u8 b.f5.f2), .d (.ints .u8 b.f5.f3), .d (.bss b.f5.f4)])) (ps := [.d (.int .i64 b.f0), .d (.int .i64 b.f1), .d (.int .i64 b.f2), .d (.ints .u8 b.f3), .d (.ints .u8 b.f4), .d (.int .i64 b.f5.f0), .d (.int .i64 b.f5.f1), .d (.ints .u8 b.f5.f2), .d (.ints .u8 b.f5.f3), .d (.bss b.f5.f4)]) rfl rfl (lt_ok rfl) rfl rfl rfl rfl rfl) ?_
 refine TL.cons rfl (Step.assign (p := (.one (.d (.bool false)))) rfl rfl (lt_ok rfl) rfl) ?_
 refine TL.nil ?_
 refine T.seq ?_
 refine T.seq ?_
 refine T.region ?_
 refine TL.cons rfl (Step.fieldAddr (q := 0) (off := 0) (n := 1) (one := true) rfl rfl (lt_ok rfl) (by kernel_rfl) (Nat.succ_ne_zero _) rfl) ?_
 refine TL.cons rfl (Step.load_box (c := .d (.int .i64 a.f0)) rfl rfl (lt_ok rfl) (by kernel_rfl) rfl rfl rfl) ?_
 refine TL.cons rfl (Step.fieldAddr (q := 0) (off := 0) (n := 1) (one := true) rfl rfl (lt_ok rfl) (by kernel_rfl) (Nat.succ_ne_zero _) rfl) ?_
 refine TL.cons rfl (Step.load_box (c := .d (.int .i64 b.f0)) rfl rfl (lt_ok rfl) (by kernel_rfl) rfl rfl rfl) ?_
 refine TL.cons rfl (Step.bin rfl rfl (lt_ok rfl) rfl rfl (Bin.neq (k := .i64) (a := a.f0) (b := b.f0))) ?_
 refine TL.nil ?_
 refine T.cond (b := decide (a.f0 ≠ b.f0)) rfl (fun h1 => ?_) (fun h1 => ?_)
 ·
  replace h1 := of_decide_eq_true h1
  refine T.seq ?_
  refine T.region ?_
  refine TL.cons rfl (Step.assign (p := (.one (.d (.bool false)))) rfl rfl (lt_ok rfl) rfl) ?_
  refine TL.nil ?_
  refine T.ret ?_
  exact ⟨[(false, [.d (.bool false)])], (.cons rfl .nil), rfl, [], (RetC.rd' (by (congr 1; symm; first | (apply decide_eq_false; rintro rfl; first | exact absurd rfl ‹¬ _ = _› | contradiction) | (apply decide_eq_true; apply SHead.ext <;> first | assumption | exact Decidable.not_not.1 (by assumption)))) .nil)⟩
 ·
  replace h1 := of_decide_eq_false h1
  refine T.skip ?_
  refine T.seq ?_
  refine T.seq ?_
  refine T.region ?_
  refine TL.cons rfl (Step.fieldAddr (q := 0) (off := 1) (n := 1) (one := true) rfl rfl (lt_ok rfl) (by kernel_rfl) (Nat.succ_ne_zero _) rfl) ?_
  refine TL.cons rfl (Step.load_box (c := .d (.int .i64 a.f1)) rfl rfl (lt_ok rfl) (by kernel_rfl) rfl rfl rfl) ?_
  refine TL.cons rfl (Step.fieldAddr (q := 0) (off := 1) (n := 1) (one := true) rfl rfl (lt_ok rfl) (by kernel_rfl) (Nat.succ_ne_zero _) rfl) ?_
  refine TL.cons rfl (Step.load_box (c := .d (.int .i64 b.f1)) rfl rfl (lt_ok rfl) (by kernel_rfl) rfl rfl rfl) ?_
  refine TL.cons rfl (Step.bin rfl rfl (lt_ok rfl) rfl rfl (Bin.neq (k := .i64) (a := a.f1) (b := b.f1))) ?_
  refine TL.nil ?_
  refine T.cond (b := decide (a.f1 ≠ b.f1)) rfl (fun h2 => ?_) (fun h2 => ?_)
  ·
   replace h2 := of_decide_eq_true h2
   refine T.seq ?_
   refine T.region ?_
   refine TL.cons rfl (Step.assign (p := (.one (.d (.bool false)))) rfl rfl (lt_ok rfl) rfl) ?_
   refine TL.nil ?_
   refine T.ret ?_
   exact ⟨[(false, [.d (.bool false)])], (.cons rfl .nil), rfl, [], (RetC.rd' (by (congr 1; symm; first | (apply decide_eq_false; rintro rfl; first | exact absurd rfl ‹¬ _ = _› | contradiction) | (apply decide_eq_true; apply SHead.ext <;> first | assumption | exact Decidable.not_not.1 (by assumption)))) .nil)⟩
  ·
   replace h2 := of_decide_eq_false h2
   refine T.skip ?_
   refine T.seq ?_
   refine T.seq ?_
   refine T.region ?_
   refine TL.cons rfl (Step.fieldAddr (q := 0) (off := 2) (n := 1) (one := true) rfl rfl (lt_ok rfl) (by kernel_rfl) (Nat.succ_ne_zero _) rfl) ?_
   refine TL.cons rfl (Step.load_box (c := .d (.int .i64 a.f2)) rfl rfl (lt_ok rfl) (by kernel_rfl) rfl rfl rfl) ?_
   refine TL.cons rfl (Step.fieldAddr (q := 0) (off := 2) (n := 1) (one := true) rfl rfl (lt_ok rfl) (by kernel_rfl) (Nat.succ_ne_zero _) rfl) ?_
   refine TL.cons rfl (Step.load_box (c := .d (.int .i64 b.f2)) rfl rfl (lt_ok rfl) (by kernel_rfl) rfl rfl rfl) ?_
   refine TL.cons rfl (Step.bin rfl rfl (lt_ok rfl) rfl rfl (Bin.neq (k := .i64) (a := a.f2) (b := b.f2))) ?_
   refine TL.nil ?_
   refine T.cond (b := decide (a.f2 ≠ b.f2)) rfl (fun h3 => ?_) (fun h3 => ?_)
   ·
    replace h3 := of_decide_eq_true h3
    refine T.seq ?_
    refine T.region ?_
    refine TL.cons rfl (Step.assign (p := (.one (.d (.bool false)))) rfl rfl (lt_ok rfl) rfl) ?_
    refine TL.nil ?_
    refine T.ret ?_
    exact ⟨[(false, [.d (.bool false)])], (.cons rfl .nil), rfl, [], (RetC.rd' (by (congr 1; symm; first | (apply decide_eq_false; rintro rfl; first | exact absurd rfl ‹¬ _ = _› | contradiction) | (apply decide_eq_true; apply SHead.ext <;> first | assumption | exact Decidable.not_not.1 (by assumption)))) .nil)⟩
   ·
    replace h3 := of_decide_eq_false h3
    refine T.skip ?_
    refine T.seq ?_
    refine T.seq ?_
    refine T.region ?_
    refine TL.cons rfl (Step.fieldAddr (q := 0) (off := 3) (n := 1) (one := true) rfl rfl (lt_ok rfl) (by kernel_rfl) (Nat.succ_ne_zero _) rfl) ?_
    refine TL.cons rfl (Step.load_box (c := .d (.ints .u8 a.f3)) rfl rfl (lt_ok rfl) (by kernel_rfl) rfl rfl rfl) ?_
    refine TL.cons rfl (Step.fieldAddr (q := 0) (off := 3) (n := 1) (one := true) rfl rfl (lt_ok rfl) (by kernel_rfl) (Nat.succ_ne_zero _) rfl) ?_
    refine TL.cons rfl (Step.load_box (c := .d (.ints .u8 b.f3)) rfl rfl (lt_ok rfl) (by kernel_rfl) rfl rfl rfl) ?_
    refine TL.cons rfl (Step.call (f := 21) (xs := [.tmp 21, .tmp 23]) (ps := [(.one (.d (.ints .u8 a.f3))), (.one (.d (.ints .u8 b.f3)))]) false (g := .func 21) rfl rfl (lt_ok rfl) rfl (by kernel_rfl) rfl (.cons (.one (.d _)) (.cons (.one (.d _)) .nil)) (ok_laws_eqByteS a.f3 b.f3) (.inr rfl) rfl (by simp) rfl) ?_
    refine TL.cons rfl (Step.not (b := (decide (a.f3 = b.f3))) rfl rfl (lt_ok rfl) rfl) ?_
    refine TL.nil ?_
    refine T.cond (b := !(decide (a.f3 = b.f3))) rfl (fun h4 => ?_) (fun h4 => ?_)
    ·
     replace h4 : (decide (a.f3 = b.f3)) = false := by simpa only [Bool.not_eq_true', Bool.not_eq_false'] using h4
     replace h4 := of_decide_eq_false h4
     refine T.seq ?_
     refine T.region ?_
     refine TL.cons rfl (Step.assign (p := (.one (.d (.bool false)))) rfl rfl (lt_ok rfl) rfl) ?_
     refine TL.nil ?_
     refine T.ret ?_
     exact ⟨[(false, [.d (.bool false)])], (.cons rfl .nil), rfl, [], (RetC.rd' (by (congr 1; symm; first | (apply decide_eq_false; rintro rfl; first | exact absurd rfl ‹¬ _ = _› | contradiction) | (apply decide_eq_true; apply SHead.ext <;> first | assumption | exact Decidable.not_not.1 (by assumption)))) .nil)⟩
    ·
     replace h4 : (decide (a.f3 = b.f3)) = true := by simpa only [Bool.not_eq_true', Bool.not_eq_false'] using h4
     replace h4 := of_decide_eq_true h4
     refine T.skip ?_
     refine T.seq ?_
     refine T.seq ?_
     refine T.region ?_
     refine TL.cons rfl (Step.fieldAddr (q := 0) (off := 4) (n := 1) (one := true) rfl rfl (lt_ok rfl) (by kernel_rfl) (Nat.succ_ne_zero _) rfl) ?_
     refine TL.cons rfl (Step.load_box (c := .d (.ints .u8 a.f4)) rfl rfl (lt_ok rfl) (by kernel_rfl) rfl rfl rfl) ?_
     refine TL.cons rfl (Step.fieldAddr (q := 0) (off := 4) (n := 1) (one := true) rfl rfl (lt_ok rfl) (by kernel_rfl) (Nat.succ_ne_zero _) rfl) ?_
     refine TL.cons rfl (Step.load_box (c := .d (.ints .u8 b.f4)) rfl rfl (lt_ok rfl) (by kernel_rfl) rfl rfl rfl) ?_
     refine TL.cons rfl (Step.call (f := 21) (xs := [.tmp 27, .tmp 29]) (ps := [(.one (.d (.ints .u8 a.f4))), (.one (.d (.ints .u8 b.f4)))]) false (g := .func 21) rfl rfl (lt_ok rfl) rfl (by kernel_rfl) rfl (.cons (.one (.d _)) (.cons (.one (.d _)) .nil)) (ok_laws_eqByteS a.f4 b.f4) (.inr rfl) rfl (by simp) rfl) ?_
     refine TL.cons rfl (Step.not (b := (decide (a.f4 = b.f4))) rfl rfl (lt_ok rfl) rfl) ?_
     refine TL.nil ?_
     refine T.cond (b := !(decide (a.f4 = b.f4))) rfl (fun h5 => ?_) (fun h5 => ?_)
     ·
      replace h5 : (decide (a.f4 = b.f4)) = false := by simpa only [Bool.not_eq_true', Bool.not_eq_false'] using h5
      replace h5 := of_decide_eq_false h5
      refine T.seq ?_
      refine T.region ?_
      refine TL.cons rfl (Step.assign (p := (.one (.d (.bool false)))) rfl rfl (lt_ok rfl) rfl) ?_
      refine TL.nil ?_
      refine T.ret ?_
      exact ⟨[(false, [.d (.bool false)])], (.cons rfl .nil), rfl, [], (RetC.rd' (by (congr 1; symm; first | (apply decide_eq_false; rintro rfl; first | exact absurd rfl ‹¬ _ = _› | contradiction) | (apply decide_eq_true; apply SHead.ext <;> first | assumption | exact Decidable.not_not.1 (by assumption)))) .nil)⟩
     ·
      replace h5 : (decide (a.f4 = b.f4)) = true := by simpa only [Bool.not_eq_true', Bool.not_eq_false'] using h5
      replace h5 := of_decide_eq_true h5
      refine T.skip ?_
      refine T.seq ?_
      refine T.seq ?_
      refine T.region ?_
      refine TL.cons rfl (Step.fieldAddr (q := 0) (off := 5) (n := 5) (one := false) rfl rfl (lt_ok rfl) (by kernel_rfl) (Nat.succ_ne_zero _) rfl) ?_
      refine TL.cons rfl (Step.load_box_agg (n := 5) (qs := [.d (.int .i64 a.f5.f0), .d (.int .i64 a.f5.f1), .d (.ints .u8 a.f5.f2), .d (.ints .u8 a.f5.f3), .d (.bss a.f5.f4)]) rfl rfl (lt_ok rfl) (by kernel_rfl) rfl rfl rfl rfl) ?_
      refine TL.cons rfl (Step.fieldAddr (q := 0) (off := 5) (n := 5) (one := false) rfl rfl (lt_ok rfl) (by kernel_rfl) (Nat.succ_ne_zero _) rfl) ?_
      refine TL.cons rfl (Step.load_box_agg (n := 5) (qs := [.d (.int .i64 b.f5.f0), .d (.int .i64 b.f5.f1), .d (.ints .u8 b.f5.f2), .d (.ints .u8 b.f5.f3), .d (.bss b.f5.f4)]) rfl rfl (lt_ok rfl) (by kernel_rfl) rfl rfl rfl rfl) ?_
      refine TL.cons rfl (Step.call (f := 34) (xs := [.tmp 33, .tmp 35]) (ps := [(.agg [.d (.int .i64 a.f5.f0), .d (.int .i64 a.f5.f1), .d (.ints .u8 a.f5.f2), .d (.ints .u8 a.f5.f3), .d (.bss a.f5.f4)]), (.agg [.d (.int .i64 b.f5.f0), .d (.int .i64 b.f5.f1), .d (.ints .u8 b.f5.f2), .d (.ints .u8 b.f5.f3), .d (.bss b.f5.f4)])]) false (g := .func 34) rfl rfl (lt_ok rfl) rfl (by kernel_rfl) rfl (.cons (.agg (.cons (.d _) (.cons (.d _) (.cons (.d _) (.cons (.d _) (.cons (.d _) .nil)))))) (.cons (.agg (.cons (.d _) (.cons (.d _) (.cons (.d _) (.cons (.d _) (.cons (.d _) .nil)))))) .nil)) (ok_laws_eqQc a.f5 b.f5) (.inr rfl) rfl (by simp) rfl) ?_
      refine TL.cons rfl (Step.not (b := (decide (a.f5 = b.f5))) rfl rfl (lt_ok rfl) rfl) ?_
      refine TL.nil ?_
      refine T.weaken (E' := { tm := [(4, (.one (.d (.bool false)))), (37, (.one (.d (.bool (!(decide (a.f5 = b.f5)))))))], rows := [], boxes := [] }) (Env.le_mk ⟨by kernel_rfl, by kernel_rfl, trivial⟩ trivial trivial) ?_
      refine T.cond (b := !(decide (a.f5 = b.f5))) rfl (fun h6 => ?_) (fun h6 => ?_)
      ·
       replace h6 : (decide (a.f5 = b.f5)) = false := by simpa only [Bool.not_eq_true', Bool.not_eq_false'] using h6
       replace h6 := of_decide_eq_false h6
       refine T.seq ?_
       refine T.region ?_
       refine TL.cons rfl (Step.assign (p := (.one (.d (.bool false)))) rfl rfl (lt_ok rfl) rfl) ?_
       refine TL.nil ?_
       refine T.ret ?_
       exact ⟨[(false, [.d (.bool false)])], (.cons rfl .nil), rfl, [], (RetC.rd' (by (congr 1; symm; first | (apply decide_eq_false; rintro rfl; first | exact absurd rfl ‹¬ _ = _› | contradiction) | (apply decide_eq_true; apply SHead.ext <;> first | assumption | exact Decidable.not_not.1 (by assumption)))) .nil)⟩
      ·
       replace h6 : (decide (a.f5 = b.f5)) = true := by simpa only [Bool.not_eq_true', Bool.not_eq_false'] using h6
       replace h6 := of_decide_eq_true h6
       refine T.skip ?_
       refine T.seq ?_
       refine T.region ?_
       refine TL.cons rfl (Step.assign (p := (.one (.d (.bool true)))) rfl rfl (lt_ok rfl) rfl) ?_
       refine TL.nil ?_
       refine T.ret ?_
       exact ⟨[(false, [.d (.bool true)])], (.cons rfl .nil), rfl, [], (RetC.rd' (by (congr 1; symm; first | (apply decide_eq_false; rintro rfl; first | exact absurd rfl ‹¬ _ = _› | contradiction) | (apply decide_eq_true; apply SHead.ext <;> first | assumption | exact Decidable.not_not.1 (by assumption)))) .nil)⟩
theorem ok_laws_eqHeadS (a : List SHead) (b : List SHead) : RO Try.prog 80 [.one (.sl 10 (a.map SHead.cells)), .one (.sl 10 (b.map SHead.cells))] [(false, [.rd (.bool (decide (a = b)))])] := by
 refine RO.intro Try.func80 rfl 27 rfl (le_ok rfl) fun w Z => ?_
 refine T.bnd 0 0 rfl rfl fun hb_0_0 => ?_
 simp only [D.size, List.length_map] at hb_0_0
 refine T.bnd 1 0 rfl rfl fun hb_1_0 => ?_
 simp only [D.size, List.length_map] at hb_1_0
 refine T.seq ?_
 refine T.region ?_
 refine TL.cons rfl (Step.assign (p := (.one (.d (.bool false)))) rfl rfl (lt_ok rfl) rfl) ?_
 refine TL.nil ?_
 refine T.seq ?_
 refine T.seq ?_
 refine T.region ?_
 refine TL.cons rfl (Step.move (p := (.one (.d (.sl 10 (a.map SHead.cells))))) rfl rfl (lt_ok rfl) rfl) ?_
 refine TL.cons rfl (Step.len' (e := 54) (z := 10) (d := (.sl 10 (a.map SHead.cells))) (n := a.length) rfl rfl (lt_ok rfl) (by kernel_rfl) rfl rfl (by simp [D.size])) ?_
 refine TL.cons rfl (Step.move (p := (.one (.d (.sl 10 (b.map SHead.cells))))) rfl rfl (lt_ok rfl) rfl) ?_
 refine TL.cons rfl (Step.len' (e := 54) (z := 10) (d := (.sl 10 (b.map SHead.cells))) (n := b.length) rfl rfl (lt_ok rfl) (by kernel_rfl) rfl rfl (by simp [D.size])) ?_
 refine TL.cons rfl (Step.bin rfl rfl (lt_ok rfl) rfl rfl (Bin.neq (k := .i64) (a := (a.length : Int)) (b := (b.length : Int)))) ?_
 refine TL.nil ?_
 refine T.cond (b := decide ((a.length : Int) ≠ (b.length : Int))) rfl (fun h1 => ?_) (fun h1 => ?_)
 ·
  replace h1 := of_decide_eq_true h1
  refine T.seq ?_
  refine T.region ?_
  refine TL.cons rfl (Step.assign (p := (.one (.d (.bool false)))) rfl rfl (lt_ok rfl) rfl) ?_
  refine TL.nil ?_
  refine T.ret ?_
  exact ⟨[(false, [.d (.bool false)])], (.cons rfl .nil), rfl, [], (RetC.rd' (by (congr 1; symm; first | (apply decide_eq_false; rintro rfl; first | exact absurd rfl ‹¬ _ = _› | exact absurd rfl (of_decide_eq_false (by assumption)) | contradiction | simp_all) | (apply decide_eq_true; exact take_all hx2 (by omega) hx3))) .nil)⟩
 ·
  replace h1 := of_decide_eq_false h1
  refine T.skip ?_
  refine T.seq ?_
  refine T.seq ?_
  refine T.region ?_
  refine TL.cons rfl (Step.assign (p := (.one (.d (.int .i64 0)))) rfl rfl (lt_ok rfl) rfl) ?_
  refine TL.nil ?_
  refine T.block ?_
  refine T.loop (ι := Nat) (fun xx_ => { tm := [(0, (.one (.d (.sl 10 (a.map SHead.cells))))), (1, (.one (.d (.sl 10 (b.map SHead.cells))))), (5, (.one (.d (.int .i64 (xx_ : Int)))))], rows := [], boxes := [] }) (fun xx_ => xx_ ≤ a.length ∧ a.length = b.length ∧ a.take xx_ = b.take xx_) (fun xx_ => a.length - xx_) 0 ?_ ?_ ?_
  · exact Env.le_mk ⟨rfl, rfl, by first | rfl | (simp; done) | (congr 3; omega), trivial⟩ trivial trivial
  · (refine ⟨Nat.zero_le _, by omega, by simp⟩)
  ·
   intro i hx
   try dsimp only at hx ⊢
   obtain ⟨hx1, hx2, hx3⟩ := hx
   refine T.seq ?_
   refine T.seq ?_
   refine T.region ?_
   refine TL.cons rfl (Step.move (p := (.one (.d (.int .i64 (i : Int))))) rfl rfl (lt_ok rfl) rfl) ?_
   refine TL.cons rfl (Step.move (p := (.one (.d (.sl 10 (a.map SHead.cells))))) rfl rfl (lt_ok rfl) rfl) ?_
   refine TL.cons rfl (Step.len' (e := 54) (z := 10) (d := (.sl 10 (a.map SHead.cells))) (n := a.length) rfl rfl (lt_ok rfl) (by kernel_rfl) rfl rfl (by simp [D.size])) ?_
   refine TL.cons rfl (Step.bin rfl rfl (lt_ok rfl) rfl rfl (Bin.lss (k := .i64) (a := (i : Int)) (b := (a.length : Int)))) ?_
   refine TL.nil ?_
   refine T.cond (b := decide ((i : Int) < (a.length : Int))) rfl (fun h2 => ?_) (fun h2 => ?_)
   ·
    replace h2 := of_decide_eq_true h2
    refine T.skip ?_
    refine T.seq ?_
    refine T.block ?_
    refine T.seq ?_
    refine T.draw [⟨17, (.one (.d (.sl 10 (a.map SHead.cells)))), []⟩, ⟨18, (.one (.d (.int .i64 (i : Int)))), []⟩, ⟨19, (.one (.eptr (.sl 10 (a.map SHead.cells)) i 0)), []⟩, ⟨20, (.agg [.d (.int .i64 (a.getD i default).f0), .d (.int .i64 (a.getD i default).f1), .d (.int .i64 (a.getD i default).f2), .d (.ints .u8 (a.getD i default).f3), .d (.ints .u8 (a.getD i default).f4), .d (.int .i64 (a.getD i default).f5.f0), .d (.int .i64 (a.getD i default).f5.f1), .d (.ints .u8 (a.getD i default).f5.f2), .d (.ints .u8 (a.getD i default).f5.f3), .d (.bss (a.getD i default).f5.f4)]), []⟩, ⟨21, (.one (.d (.sl 10 (b.map SHead.cells)))), []⟩, ⟨22, (.one (.d (.int .i64 (i : Int)))), []⟩, ⟨23, (.one (.eptr (.sl 10 (b.map SHead.cells)) i 0)), []⟩, ⟨24, (.agg [.d (.int .i64 (b.getD i default).f0), .d (.int .i64 (b.getD i default).f1), .d (.int .i64 (b.getD i default).f2), .d (.ints .u8 (b.getD i default).f3), .d (.ints .u8 (b.getD i default).f4), .d (.int .i64 (b.getD i default).f5.f0), .d (.int .i64 (b.getD i default).f5.f1), .d (.ints .u8 (b.getD i default).f5.f2), .d (.ints .u8 (b.getD i default).f5.f3), .d (.bss (b.getD i default).f5.f4)]), []⟩, ⟨25, (.one (.d (.bool (decide ((a.getD i default) = (b.getD i default)))))), []⟩, ⟨26, (.one (.d (.bool (!(decide ((a.getD i default) = (b.getD i default))))))), []⟩] (by kernel_rfl) (by kernel_rfl) ?_ ?_
    ·
     refine .cons (fun E hA_ => by have g0 := hA_.get 0 (by decide); exact OpStep.plain rfl (Step.move (p := (.one (.d (.sl 10 (a.map SHead.cells))))) (t := 17) rfl rfl (by exact lt_ok rfl) (show Env.ev E (.tmp 0) = _ from g0.trans rfl))) ?_
     refine .cons (fun E hA_ => by have g5 := hA_.get 5 (by decide); exact OpStep.plain rfl (Step.move (p := (.one (.d (.int .i64 (i : Int))))) (t := 18) rfl rfl (by exact lt_ok rfl) (show Env.ev E (.tmp 5) = _ from g5.trans rfl))) ?_
     refine .cons (fun E hA_ => by have g17 := hA_.get 17 (by decide); have g18 := hA_.get 18 (by decide); exact OpStep.plain rfl (Step.index (e := 54) (z := 10) (i := (i : Int)) (t := 19) rfl rfl (by exact lt_ok rfl) (by kernel_rfl) (show Env.ev E (.tmp 17) = _ from g17.trans rfl) rfl rfl (lt_ok rfl) (show Env.ev E (.tmp 18) = _ from g18.trans rfl) (by first | omega | (simp; omega)) (by simp only [D.size]; first | omega | (simp; omega)))) ?_
     refine .cons (fun E hA_ => by have g19 := hA_.get 19 (by decide); exact OpStep.plain rfl (Step.load_agg (n := 10) (cs := [.d (.int .i64 (a.getD i default).f0), .d (.int .i64 (a.getD i default).f1), .d (.int .i64 (a.getD i default).f2), .d (.ints .u8 (a.getD i default).f3), .d (.ints .u8 (a.getD i default).f4), .d (.int .i64 (a.getD i default).f5.f0), .d (.int .i64 (a.getD i default).f5.f1), .d (.ints .u8 (a.getD i default).f5.f2), .d (.ints .u8 (a.getD i default).f5.f3), .d (.bss (a.getD i default).f5.f4)]) (t := 20) rfl rfl (by exact lt_ok rfl) (by kernel_rfl) (show Env.ev E (.tmp 19) = _ from g19.trans rfl) rfl (by simp only [List.range, List.range.loop, List.map_cons, List.map_nil]; rw [cell_map default (by first | omega | (simp; omega)), cell_map default (by first | omega | (simp; omega)), cell_map default (by first | omega | (simp; omega)), cell_map default (by first | omega | (simp; omega)), cell_map default (by first | omega | (simp; omega)), cell_map default (by first | omega | (simp; omega)), cell_map default (by first | omega | (simp; omega)), cell_map default (by first | omega | (simp; omega)), cell_map default (by first | omega | (simp; omega)), cell_map default (by first | omega | (simp; omega))]; rfl))) ?_
     refine .cons (fun E hA_ => by have g1 := hA_.get 1 (by decide); exact OpStep.plain rfl (Step.move (p := (.one (.d (.sl 10 (b.map SHead.cells))))) (t := 21) rfl rfl (by exact lt_ok rfl) (show Env.ev E (.tmp 1) = _ from g1.trans rfl))) ?_
     refine .cons (fun E hA_ => by have g5 := hA_.get 5 (by decide); exact OpStep.plain rfl (Step.move (p := (.one (.d (.int .i64 (i : Int))))) (t := 22) rfl rfl (by exact lt_ok rfl) (show Env.ev E (.tmp 5) = _ from g5.trans rfl))) ?_
     refine .cons (fun E hA_ => by have g21 := hA_.get 21 (by decide); have g22 := hA_.get 22 (by decide); exact OpStep.plain rfl (Step.index (e := 54) (z := 10) (i := (i : Int)) (t := 23) rfl rfl (by exact lt_ok rfl) (by kernel_rfl) (show Env.ev E (.tmp 21) = _ from g21.trans rfl) rfl rfl (lt_ok rfl) (show Env.ev E (.tmp 22) = _ from g22.trans rfl) (by first | omega | (simp; omega)) (by simp only [D.size]; first | omega | (simp; omega)))) ?_
     refine .cons (fun E hA_ => by have g23 := hA_.get 23 (by decide); exact OpStep.plain rfl (Step.load_agg (n := 10) (cs := [.d (.int .i64 (b.getD i default).f0), .d (.int .i64 (b.getD i default).f1), .d (.int .i64 (b.getD i default).f2), .d (.ints .u8 (b.getD i default).f3), .d (.ints .u8 (b.getD i default).f4), .d (.int .i64 (b.getD i default).f5.f0), .d (.int .i64 (b.getD i default).f5.f1), .d (.ints .u8 (b.getD i default).f5.f2), .d (.ints .u8 (b.getD i default).f5.f3), .d (.bss (b.getD i default).f5.f4)]) (t := 24) rfl rfl (by exact lt_ok rfl) (by kernel_rfl) (show Env.ev E (.tmp 23) = _ from g23.trans rfl) rfl (by simp only [List.range, List.range.loop, List.map_cons, List.map_nil]; rw [cell_map default (by first | omega | (simp; omega)), cell_map default (by first | omega | (simp; omega)), cell_map default (by first | omega | (simp; omega)), cell_map default (by first | omega | (simp; omega)), cell_map default (by first | omega | (simp; omega)), cell_map default (by first | omega | (simp; omega)), cell_map default (by first | omega | (simp; omega)), cell_map default (by first | omega | (simp; omega)), cell_map default (by first | omega | (simp; omega)), cell_map default (by first | omega | (simp; omega))]; rfl))) ?_
     refine .cons (fun E hA_ => by have g20 := hA_.get 20 (by decide); have g24 := hA_.get 24 (by decide); exact OpStep.plain rfl (Step.call (f := 39) (xs := [.tmp 20, .tmp 24]) (ps := [(.agg [.d (.int .i64 (a.getD i default).f0), .d (.int .i64 (a.getD i default).f1), .d (.int .i64 (a.getD i default).f2), .d (.ints .u8 (a.getD i default).f3), .d (.ints .u8 (a.getD i default).f4), .d (.int .i64 (a.getD i default).f5.f0), .d (.int .i64 (a.getD i default).f5.f1), .d (.ints .u8 (a.getD i default).f5.f2), .d (.ints .u8 (a.getD i default).f5.f3), .d (.bss (a.getD i default).f5.f4)]), (.agg [.d (.int .i64 (b.getD i default).f0), .d (.int .i64 (b.getD i default).f1), .d (.int .i64 (b.getD i default).f2), .d (.ints .u8 (b.getD i default).f3), .d (.ints .u8 (b.getD i default).f4), .d (.int .i64 (b.getD i default).f5.f0), .d (.int .i64 (b.getD i default).f5.f1), .d (.ints .u8 (b.getD i default).f5.f2), .d (.ints .u8 (b.getD i default).f5.f3), .d (.bss (b.getD i default).f5.f4)])]) false (g := .func 39) (t := 25) rfl rfl (by exact lt_ok rfl) rfl (by kernel_rfl) (evs_cons (show Env.ev E (.tmp 20) = _ from g20.trans rfl) (evs_cons (show Env.ev E (.tmp 24) = _ from g24.trans rfl) (rfl))) (.cons (.agg (.cons (.d _) (.cons (.d _) (.cons (.d _) (.cons (.d _) (.cons (.d _) (.cons (.d _) (.cons (.d _) (.cons (.d _) (.cons (.d _) (.cons (.d _) .nil))))))))))) (.cons (.agg (.cons (.d _) (.cons (.d _) (.cons (.d _) (.cons (.d _) (.cons (.d _) (.cons (.d _) (.cons (.d _) (.cons (.d _) (.cons (.d _) (.cons (.d _) .nil))))))))))) .nil)) (ok_laws_eqHead (a.getD i default) (b.getD i default)) (.inr rfl) (At.freshRows hA_ rfl) (by simp) rfl)) ?_
     refine .cons (fun E hA_ => by have g25 := hA_.get 25 (by decide); exact OpStep.plain rfl (Step.not (b := (decide ((a.getD i default) = (b.getD i default)))) (t := 26) rfl rfl (by exact lt_ok rfl) (show Env.ev E (.tmp 25) = _ from g25.trans rfl))) ?_
     exact .nil _ _
    refine TL.nil ?_
    refine T.cond (b := !(decide ((a.getD i default) = (b.getD i default)))) rfl (fun h3 => ?_) (fun h3 => ?_)
    ·
     replace h3 : (decide ((a.getD i default) = (b.getD i default))) = false := by simpa only [Bool.not_eq_true', Bool.not_eq_false'] using h3
     replace h3 := of_decide_eq_false h3
     refine T.seq ?_
     refine T.region ?_
     refine TL.cons rfl (Step.assign (p := (.one (.d (.bool false)))) rfl rfl (lt_ok rfl) rfl) ?_
     refine TL.nil ?_
     refine T.ret ?_
     exact ⟨[(false, [.d (.bool false)])], (.cons rfl .nil), rfl, [], (RetC.rd' (by (congr 1; symm; first | (apply decide_eq_false; rintro rfl; first | exact absurd rfl ‹¬ _ = _› | exact absurd rfl (of_decide_eq_false (by assumption)) | contradiction | simp_all) | (apply decide_eq_true; exact take_all hx2 (by omega) hx3))) .nil)⟩
    ·
     replace h3 : (decide ((a.getD i default) = (b.getD i default))) = true := by simpa only [Bool.not_eq_true', Bool.not_eq_false'] using h3
     replace h3 := of_decide_eq_true h3
     refine T.skip ?_
     refine T.region ?_
     refine TL.cons rfl (Step.move (p := (.one (.d (.int .i64 (i : Int))))) rfl rfl (lt_ok rfl) rfl) ?_
     refine TL.cons rfl (Step.bin (r := .int .i64 ((i : Int) + 1)) rfl rfl (lt_ok rfl) rfl rfl (Bin.add (a := (i : Int)) (b := 1) (by first | exact wrap_ok (by first | omega | (simp; omega)) (by first | omega | (simp; omega)) | rfl))) ?_
     refine TL.cons rfl (Step.assign (p := (.one (.d (.int .i64 ((i : Int) + 1))))) rfl rfl (lt_ok rfl) rfl) ?_
     refine TL.nil ?_
     exact ⟨i + 1, by (refine ⟨by omega, hx2, take_step (d := default) hx2 (by omega) hx3 (by first | assumption | exact Decidable.not_not.1 (by assumption) | omega)⟩), by omega, Env.le_mk ⟨rfl, rfl, by first | rfl | (simp; done) | (congr 3; omega), trivial⟩ trivial trivial⟩
   ·
    replace h2 := of_decide_eq_false h2
    refine T.exit ?_
    refine T.seq ?_
    refine T.region ?_
    refine TL.cons rfl (Step.assign (p := (.one (.d (.bool true)))) rfl rfl (lt_ok rfl) rfl) ?_
    refine TL.nil ?_
    refine T.ret ?_
    exact ⟨[(false, [.d (.bool true)])], (.cons rfl .nil), rfl, [], (RetC.rd' (by (congr 1; symm; first | (apply decide_eq_false; rintro rfl; first | exact absurd rfl ‹¬ _ = _› | exact absurd rfl (of_decide_eq_false (by assumption)) | contradiction | simp_all) | (apply decide_eq_true; exact take_all hx2 (by omega) hx3))) .nil)⟩
end Go.Proofs.Ytlcmflenbddliaa.Rf
