/- The functions that FnExactBlockPath calls, each held to what it answers. Printed by a program of this session; Lean checks it. -/
import Derived.Test.YtmdojlglemnijaaProg
import Derived.Test.YtmdojlglemnijaaRFnExactBlockPathx2
namespace Go.Proofs.Ytmdojlglemnijaa.Rf
open Go.RowKit
set_option linter.unusedVariables false
set_option linter.unnecessarySimpa false
set_option linter.unusedSimpArgs false
set_option maxRecDepth 100000
set_option maxHeartbeats 4000000
theorem ok_impl_QcOk (l : SLimits) (q : SQc) (h0_ : q.ok) (h1_ : q.sm) : RO Try.prog 98 [.agg l.cells, .agg q.cells] [(false, [.rd (.bool (qcOk l q))])] := by
 refine RO.intro Try.func98 rfl 44 rfl (le_ok rfl) fun w Z => ?_
 obtain ⟨o0, o1, o2, o3, o4⟩ := h0_
 obtain ⟨s0, s1, s2⟩ := h1_
 refine T.seq ?_
 refine T.region ?_
 refine TL.c (Step.box (p := (.agg [cI l.f0, cI l.f1, cI l.f2, cI l.f3, cI l.f4])) (ps := [cI l.f0, cI l.f1, cI l.f2, cI l.f3, cI l.f4]) rfl rfl (lt_ok rfl) rfl rfl rfl rfl rfl) ?_
 refine TL.c (Step.box (p := (.agg [cI q.f0, cI q.f1, cS q.f2, cS q.f3, .d (.bss q.f4)])) (ps := [cI q.f0, cI q.f1, cS q.f2, cS q.f3, .d (.bss q.f4)]) rfl rfl (lt_ok rfl) rfl rfl rfl rfl rfl) ?_
 refine TL.as (pB false) ?_
 refine TL.nil ?_
 refine T.seq ?_
 rcases Bool.eq_false_or_eq_true (limOk l) with hb1 | hb1
 ·
  rcases Bool.eq_false_or_eq_true (decide (0 ≤ q.f0 ∧ q.f0 ≤ 1152921504606846975)) with hb2 | hb2
  ·
   rcases Bool.eq_false_or_eq_true (decide (0 ≤ q.f1 ∧ q.f1 ≤ 1152921504606846975)) with hb3 | hb3
   ·
    rcases Bool.eq_false_or_eq_true (hashes [q.f2]) with hb4 | hb4
    ·
     rcases Bool.eq_false_or_eq_true (bitsOk q.f3 l.f0) with hb5 | hb5
     ·
      have nn6 := bitList_len q.f3
      rcases Bool.eq_false_or_eq_true (decide ((q.f4.length : Int) = ((bitList q.f3).length : Int))) with hb7 | hb7
      ·
       have nn8 := bitList_len q.f3
       refine T.draw [⟨5, (.agg [cI l.f0, cI l.f1, cI l.f2, cI l.f3, cI l.f4]), []⟩, ⟨6, (pB true), []⟩, ⟨7, (pB true), []⟩, ⟨8, (.one (.ptr 3 0)), []⟩, ⟨9, (pI q.f0), []⟩, ⟨10, (pB true), []⟩, ⟨11, (pB true), []⟩, ⟨12, (pB true), []⟩, ⟨13, (.one (.ptr 3 1)), []⟩, ⟨14, (pI q.f1), []⟩, ⟨15, (pB true), []⟩, ⟨16, (pB true), []⟩, ⟨17, (pB true), []⟩, ⟨18, (.one (.ptr 3 2)), []⟩, ⟨19, (pS q.f2), []⟩, ⟨20, (.one (.d (.bss [q.f2]))), []⟩, ⟨21, (pB true), []⟩, ⟨22, (pB true), []⟩, ⟨23, (pB true), []⟩, ⟨24, (.one (.ptr 3 3)), []⟩, ⟨25, (pS q.f3), []⟩, ⟨26, (.one (.ptr 2 0)), []⟩, ⟨27, (pI l.f0), []⟩, ⟨28, (pB true), []⟩, ⟨29, (pB true), []⟩, ⟨30, (pB true), []⟩, ⟨31, (.one (.ptr 3 4)), []⟩, ⟨32, (.one (.d (.bss q.f4))), []⟩, ⟨33, (pI (q.f4.length : Int)), []⟩, ⟨34, (.one (.ptr 3 3)), []⟩, ⟨35, (pS q.f3), []⟩, ⟨36, (pI ((bitList q.f3).length : Int)), []⟩, ⟨37, (pB true), []⟩, ⟨38, (pB true), []⟩, ⟨39, (pB true), []⟩, ⟨40, (.one (.ptr 3 4)), []⟩, ⟨41, (.one (.d (.bss q.f4))), []⟩, ⟨42, (pB (hashes q.f4)), []⟩, ⟨43, (pB (hashes q.f4)), []⟩, ⟨4, (pB (hashes q.f4)), []⟩] (by kernel_rfl) (by kernel_rfl) ?_ ?_
       ·
        refine .cons (fun E A => OpStep.plain rfl (Step.load_box_agg (n := 5) (qs := [cI l.f0, cI l.f1, cI l.f2, cI l.f3, cI l.f4]) (t := 5) rfl rfl (by exact lt_ok rfl) (by kernel_rfl) (A.g 2 rfl) (by exact A.box rfl) rfl rfl)) ?_
        refine .cons (fun E A => OpStep.plain rfl (Step.tb 6 (limOk l) hb1 (Step.cd (xs := [.tmp 5]) (ps := [(.agg [cI l.f0, cI l.f1, cI l.f2, cI l.f3, cI l.f4])]) (g := .func 114) false 6 (evs_cons (A.g 5 rfl) (rfl)) (.cons (.agg (.cons (.d _) (.cons (.d _) (.cons (.d _) (.cons (.d _) (.cons (.d _) .nil)))))) .nil) (ok_impl_LimitsOk l) (At.freshRows A rfl)))) ?_
        refine .cons (fun E A => A.mv 6 7) ?_
        refine .cons (fun E A => A.y 7 (Step.fa (off := 0) (n := 1) (one := true) 0 8 (A.g 3 rfl))) ?_
        refine .cons (fun E A => A.y 7 (Step.load_box (c := cI q.f0) (t := 9) rfl rfl (by exact lt_ok rfl) (by kernel_rfl) (A.g 8 rfl) (by exact A.box rfl) rfl)) ?_
        refine .cons (fun E A => A.y 7 (Step.tb 10 (decide (0 ≤ q.f0 ∧ q.f0 ≤ 1152921504606846975)) hb2 (Step.cd (xs := [.tmp 9]) (ps := [(pI q.f0)]) (g := .func 99) false 10 (evs_cons (A.g 9 rfl) (rfl)) (.cons (.one (.d _)) .nil) (ok_impl_isNum q.f0) (At.freshRows A rfl)))) ?_
        refine .cons (fun E A => OpStep.plain rfl (Step.pick (b := true) (p := (pB true)) (t := 11) rfl rfl (by exact lt_ok rfl) (A.g 7 rfl) (A.g 10 rfl))) ?_
        refine .cons (fun E A => A.mv 11 12) ?_
        refine .cons (fun E A => A.y 12 (Step.fa (off := 1) (n := 1) (one := true) 0 13 (A.g 3 rfl))) ?_
        refine .cons (fun E A => A.y 12 (Step.load_box (c := cI q.f1) (t := 14) rfl rfl (by exact lt_ok rfl) (by kernel_rfl) (A.g 13 rfl) (by exact A.box rfl) rfl)) ?_
        refine .cons (fun E A => A.y 12 (Step.tb 15 (decide (0 ≤ q.f1 ∧ q.f1 ≤ 1152921504606846975)) hb3 (Step.cd (xs := [.tmp 14]) (ps := [(pI q.f1)]) (g := .func 99) false 15 (evs_cons (A.g 14 rfl) (rfl)) (.cons (.one (.d _)) .nil) (ok_impl_isNum q.f1) (At.freshRows A rfl)))) ?_
        refine .cons (fun E A => OpStep.plain rfl (Step.pick (b := true) (p := (pB true)) (t := 16) rfl rfl (by exact lt_ok rfl) (A.g 12 rfl) (A.g 15 rfl))) ?_
        refine .cons (fun E A => A.mv 16 17) ?_
        refine .cons (fun E A => A.y 17 (Step.fa (off := 2) (n := 1) (one := true) 0 18 (A.g 3 rfl))) ?_
        refine .cons (fun E A => A.y 17 (Step.load_box (c := cS q.f2) (t := 19) rfl rfl (by exact lt_ok rfl) (by kernel_rfl) (A.g 18 rfl) (by exact A.box rfl) rfl)) ?_
        refine .cons (fun E A => A.y 17 (Step.lit_d (e := 22) (z := 1) (by_ := 24) (xs := [.tmp 19]) (pss := [[cS q.f2]]) (ds := [(.ints .u8 q.f2)]) (d := (.bss [q.f2])) (t := 20) rfl rfl (by exact lt_ok rfl) (by kernel_rfl) rfl rfl (.cons (by exact (congrArg PV.flat (A.g 19 rfl)).trans rfl) .nil) (by simp) (le_ok rfl) (le_ok rfl) rfl rfl trivial rfl rfl)) ?_
        refine .cons (fun E A => A.y 17 (Step.tb 21 (hashes [q.f2]) hb4 (Step.cd (xs := [.tmp 20]) (ps := [(.one (.d (.bss [q.f2])))]) (g := .func 55) false 21 (evs_cons (A.g 20 rfl) (rfl)) (.cons (.one (.d _)) .nil) (ok_impl_areHashes [q.f2]) (At.freshRows A rfl)))) ?_
        refine .cons (fun E A => OpStep.plain rfl (Step.pick (b := true) (p := (pB true)) (t := 22) rfl rfl (by exact lt_ok rfl) (A.g 17 rfl) (A.g 21 rfl))) ?_
        refine .cons (fun E A => A.mv 22 23) ?_
        refine .cons (fun E A => A.y 23 (Step.fa (off := 3) (n := 1) (one := true) 0 24 (A.g 3 rfl))) ?_
        refine .cons (fun E A => A.y 23 (Step.load_box (c := cS q.f3) (t := 25) rfl rfl (by exact lt_ok rfl) (by kernel_rfl) (A.g 24 rfl) (by exact A.box rfl) rfl)) ?_
        refine .cons (fun E A => A.y 23 (Step.fa (off := 0) (n := 1) (one := true) 0 26 (A.g 2 rfl))) ?_
        refine .cons (fun E A => A.y 23 (Step.load_box (c := cI l.f0) (t := 27) rfl rfl (by exact lt_ok rfl) (by kernel_rfl) (A.g 26 rfl) (by exact A.box rfl) rfl)) ?_
        refine .cons (fun E A => A.y 23 (Step.tb 28 (bitsOk q.f3 l.f0) hb5 (Step.cd (xs := [.tmp 25, .tmp 27]) (ps := [(pS q.f3), (pI l.f0)]) (g := .func 115) false 28 (evs_cons (A.g 25 rfl) (evs_cons (A.g 27 rfl) (rfl))) (.cons (.one (.d _)) (.cons (.one (.d _)) .nil)) (ok_impl_BitsOk q.f3 l.f0 (by assumption) (by first | omega | assumption | (simp only [List.length_append] at *; omega))) (At.freshRows A rfl)))) ?_
        refine .cons (fun E A => OpStep.plain rfl (Step.pick (b := true) (p := (pB true)) (t := 29) rfl rfl (by exact lt_ok rfl) (A.g 23 rfl) (A.g 28 rfl))) ?_
        refine .cons (fun E A => A.mv 29 30) ?_
        refine .cons (fun E A => A.y 30 (Step.fa (off := 4) (n := 1) (one := true) 0 31 (A.g 3 rfl))) ?_
        refine .cons (fun E A => A.y 30 (Step.load_box (c := .d (.bss q.f4)) (t := 32) rfl rfl (by exact lt_ok rfl) (by kernel_rfl) (A.g 31 rfl) (by exact A.box rfl) rfl)) ?_
        refine .cons (fun E A => A.y 30 (Step.len (e := 22) (z := 1) (d := (.bss q.f4)) (t := 33) rfl rfl (by exact lt_ok rfl) (by kernel_rfl) (A.g 32 rfl) rfl)) ?_
        refine .cons (fun E A => A.y 30 (Step.fa (off := 3) (n := 1) (one := true) 0 34 (A.g 3 rfl))) ?_
        refine .cons (fun E A => A.y 30 (Step.load_box (c := cS q.f3) (t := 35) rfl rfl (by exact lt_ok rfl) (by kernel_rfl) (A.g 34 rfl) (by exact A.box rfl) rfl)) ?_
        refine .cons (fun E A => A.y 30 (Step.cd (xs := [.tmp 35]) (ps := [(pS q.f3)]) (g := .func 116) false 36 (evs_cons (A.g 35 rfl) (rfl)) (.cons (.one (.d _)) .nil) (ok_impl_BitsCount q.f3 (by first | assumption | exact fun x hx => by cases hx) (by first | omega | assumption | (simp only [List.length_append] at *; omega) | (simp; done))) (At.freshRows A rfl))) ?_
        refine .cons (fun E A => A.y 30 (Step.tb 37 (decide ((q.f4.length : Int) = ((bitList q.f3).length : Int))) hb7 (Step.bd 37 (A.g 33 rfl) (A.g 36 rfl) (Bin.eql (k := .i64) (a := (q.f4.length : Int)) (b := ((bitList q.f3).length : Int)))))) ?_
        refine .cons (fun E A => OpStep.plain rfl (Step.pick (b := true) (p := (pB true)) (t := 38) rfl rfl (by exact lt_ok rfl) (A.g 30 rfl) (A.g 37 rfl))) ?_
        refine .cons (fun E A => A.mv 38 39) ?_
        refine .cons (fun E A => A.y 39 (Step.fa (off := 4) (n := 1) (one := true) 0 40 (A.g 3 rfl))) ?_
        refine .cons (fun E A => A.y 39 (Step.load_box (c := .d (.bss q.f4)) (t := 41) rfl rfl (by exact lt_ok rfl) (by kernel_rfl) (A.g 40 rfl) (by exact A.box rfl) rfl)) ?_
        refine .cons (fun E A => A.y 39 (Step.cd (xs := [.tmp 41]) (ps := [(.one (.d (.bss q.f4)))]) (g := .func 55) false 42 (evs_cons (A.g 41 rfl) (rfl)) (.cons (.one (.d _)) .nil) (ok_impl_areHashes q.f4) (At.freshRows A rfl))) ?_
        refine .cons (fun E A => OpStep.plain rfl (Step.pick (b := true) (p := (pB (hashes q.f4))) (t := 43) rfl rfl (by exact lt_ok rfl) (A.g 39 rfl) (A.g 42 rfl))) ?_
        refine .cons (fun E A => A.as 43 4) ?_
        exact .nil _ _
       refine TL.nil ?_
       refine T.ret ?_
       refine ⟨[(false, [.d (.bool (hashes q.f4))])], (.cons rfl .nil), rfl, [], (RetC.rd' ?_ .nil)⟩ <;> (first | rfl | (congr 1; symm; simp only [qcOk, hashes, List.all_cons, List.all_nil, *, Bool.and_true, Bool.true_and, Bool.and_false, Bool.false_and, decide_true, decide_false, and_true, true_and, and_self, and_false, false_and, Bool.and_self, not_true, not_false, Bool.not_true, Bool.not_false, ge_iff_le, gt_iff_lt, if_true, if_false, Bool.false_eq_true, ite_true, ite_false, reduceIte]; done) | (congr 1; symm; simp_all [qcOk, hashes, List.all_cons, List.all_nil]; done) | (congr 1; symm; simp_all [qcOk, hashes, List.all_cons, List.all_nil]; omega))
      ·
       have nn9 := bitList_len q.f3
       refine T.draw [⟨5, (.agg [cI l.f0, cI l.f1, cI l.f2, cI l.f3, cI l.f4]), []⟩, ⟨6, (pB true), []⟩, ⟨7, (pB true), []⟩, ⟨8, (.one (.ptr 3 0)), []⟩, ⟨9, (pI q.f0), []⟩, ⟨10, (pB true), []⟩, ⟨11, (pB true), []⟩, ⟨12, (pB true), []⟩, ⟨13, (.one (.ptr 3 1)), []⟩, ⟨14, (pI q.f1), []⟩, ⟨15, (pB true), []⟩, ⟨16, (pB true), []⟩, ⟨17, (pB true), []⟩, ⟨18, (.one (.ptr 3 2)), []⟩, ⟨19, (pS q.f2), []⟩, ⟨20, (.one (.d (.bss [q.f2]))), []⟩, ⟨21, (pB true), []⟩, ⟨22, (pB true), []⟩, ⟨23, (pB true), []⟩, ⟨24, (.one (.ptr 3 3)), []⟩, ⟨25, (pS q.f3), []⟩, ⟨26, (.one (.ptr 2 0)), []⟩, ⟨27, (pI l.f0), []⟩, ⟨28, (pB true), []⟩, ⟨29, (pB true), []⟩, ⟨30, (pB true), []⟩, ⟨31, (.one (.ptr 3 4)), []⟩, ⟨32, (.one (.d (.bss q.f4))), []⟩, ⟨33, (pI (q.f4.length : Int)), []⟩, ⟨34, (.one (.ptr 3 3)), []⟩, ⟨35, (pS q.f3), []⟩, ⟨36, (pI ((bitList q.f3).length : Int)), []⟩, ⟨37, (pB false), []⟩, ⟨38, (pB false), []⟩, ⟨39, (pB false), []⟩, ⟨40, (.tup []), []⟩, ⟨41, (.tup []), []⟩, ⟨42, (.tup []), []⟩, ⟨43, (pB false), []⟩, ⟨4, (pB false), []⟩] (by kernel_rfl) (by kernel_rfl) ?_ ?_
       ·
        refine .cons (fun E A => OpStep.plain rfl (Step.load_box_agg (n := 5) (qs := [cI l.f0, cI l.f1, cI l.f2, cI l.f3, cI l.f4]) (t := 5) rfl rfl (by exact lt_ok rfl) (by kernel_rfl) (A.g 2 rfl) (by exact A.box rfl) rfl rfl)) ?_
        refine .cons (fun E A => OpStep.plain rfl (Step.tb 6 (limOk l) hb1 (Step.cd (xs := [.tmp 5]) (ps := [(.agg [cI l.f0, cI l.f1, cI l.f2, cI l.f3, cI l.f4])]) (g := .func 114) false 6 (evs_cons (A.g 5 rfl) (rfl)) (.cons (.agg (.cons (.d _) (.cons (.d _) (.cons (.d _) (.cons (.d _) (.cons (.d _) .nil)))))) .nil) (ok_impl_LimitsOk l) (At.freshRows A rfl)))) ?_
        refine .cons (fun E A => A.mv 6 7) ?_
        refine .cons (fun E A => A.y 7 (Step.fa (off := 0) (n := 1) (one := true) 0 8 (A.g 3 rfl))) ?_
        refine .cons (fun E A => A.y 7 (Step.load_box (c := cI q.f0) (t := 9) rfl rfl (by exact lt_ok rfl) (by kernel_rfl) (A.g 8 rfl) (by exact A.box rfl) rfl)) ?_
        refine .cons (fun E A => A.y 7 (Step.tb 10 (decide (0 ≤ q.f0 ∧ q.f0 ≤ 1152921504606846975)) hb2 (Step.cd (xs := [.tmp 9]) (ps := [(pI q.f0)]) (g := .func 99) false 10 (evs_cons (A.g 9 rfl) (rfl)) (.cons (.one (.d _)) .nil) (ok_impl_isNum q.f0) (At.freshRows A rfl)))) ?_
        refine .cons (fun E A => OpStep.plain rfl (Step.pick (b := true) (p := (pB true)) (t := 11) rfl rfl (by exact lt_ok rfl) (A.g 7 rfl) (A.g 10 rfl))) ?_
        refine .cons (fun E A => A.mv 11 12) ?_
        refine .cons (fun E A => A.y 12 (Step.fa (off := 1) (n := 1) (one := true) 0 13 (A.g 3 rfl))) ?_
        refine .cons (fun E A => A.y 12 (Step.load_box (c := cI q.f1) (t := 14) rfl rfl (by exact lt_ok rfl) (by kernel_rfl) (A.g 13 rfl) (by exact A.box rfl) rfl)) ?_
        refine .cons (fun E A => A.y 12 (Step.tb 15 (decide (0 ≤ q.f1 ∧ q.f1 ≤ 1152921504606846975)) hb3 (Step.cd (xs := [.tmp 14]) (ps := [(pI q.f1)]) (g := .func 99) false 15 (evs_cons (A.g 14 rfl) (rfl)) (.cons (.one (.d _)) .nil) (ok_impl_isNum q.f1) (At.freshRows A rfl)))) ?_
        refine .cons (fun E A => OpStep.plain rfl (Step.pick (b := true) (p := (pB true)) (t := 16) rfl rfl (by exact lt_ok rfl) (A.g 12 rfl) (A.g 15 rfl))) ?_
        refine .cons (fun E A => A.mv 16 17) ?_
        refine .cons (fun E A => A.y 17 (Step.fa (off := 2) (n := 1) (one := true) 0 18 (A.g 3 rfl))) ?_
        refine .cons (fun E A => A.y 17 (Step.load_box (c := cS q.f2) (t := 19) rfl rfl (by exact lt_ok rfl) (by kernel_rfl) (A.g 18 rfl) (by exact A.box rfl) rfl)) ?_
        refine .cons (fun E A => A.y 17 (Step.lit_d (e := 22) (z := 1) (by_ := 24) (xs := [.tmp 19]) (pss := [[cS q.f2]]) (ds := [(.ints .u8 q.f2)]) (d := (.bss [q.f2])) (t := 20) rfl rfl (by exact lt_ok rfl) (by kernel_rfl) rfl rfl (.cons (by exact (congrArg PV.flat (A.g 19 rfl)).trans rfl) .nil) (by simp) (le_ok rfl) (le_ok rfl) rfl rfl trivial rfl rfl)) ?_
        refine .cons (fun E A => A.y 17 (Step.tb 21 (hashes [q.f2]) hb4 (Step.cd (xs := [.tmp 20]) (ps := [(.one (.d (.bss [q.f2])))]) (g := .func 55) false 21 (evs_cons (A.g 20 rfl) (rfl)) (.cons (.one (.d _)) .nil) (ok_impl_areHashes [q.f2]) (At.freshRows A rfl)))) ?_
        refine .cons (fun E A => OpStep.plain rfl (Step.pick (b := true) (p := (pB true)) (t := 22) rfl rfl (by exact lt_ok rfl) (A.g 17 rfl) (A.g 21 rfl))) ?_
        refine .cons (fun E A => A.mv 22 23) ?_
        refine .cons (fun E A => A.y 23 (Step.fa (off := 3) (n := 1) (one := true) 0 24 (A.g 3 rfl))) ?_
        refine .cons (fun E A => A.y 23 (Step.load_box (c := cS q.f3) (t := 25) rfl rfl (by exact lt_ok rfl) (by kernel_rfl) (A.g 24 rfl) (by exact A.box rfl) rfl)) ?_
        refine .cons (fun E A => A.y 23 (Step.fa (off := 0) (n := 1) (one := true) 0 26 (A.g 2 rfl))) ?_
        refine .cons (fun E A => A.y 23 (Step.load_box (c := cI l.f0) (t := 27) rfl rfl (by exact lt_ok rfl) (by kernel_rfl) (A.g 26 rfl) (by exact A.box rfl) rfl)) ?_
        refine .cons (fun E A => A.y 23 (Step.tb 28 (bitsOk q.f3 l.f0) hb5 (Step.cd (xs := [.tmp 25, .tmp 27]) (ps := [(pS q.f3), (pI l.f0)]) (g := .func 115) false 28 (evs_cons (A.g 25 rfl) (evs_cons (A.g 27 rfl) (rfl))) (.cons (.one (.d _)) (.cons (.one (.d _)) .nil)) (ok_impl_BitsOk q.f3 l.f0 (by assumption) (by first | omega | assumption | (simp only [List.length_append] at *; omega))) (At.freshRows A rfl)))) ?_
        refine .cons (fun E A => OpStep.plain rfl (Step.pick (b := true) (p := (pB true)) (t := 29) rfl rfl (by exact lt_ok rfl) (A.g 23 rfl) (A.g 28 rfl))) ?_
        refine .cons (fun E A => A.mv 29 30) ?_
        refine .cons (fun E A => A.y 30 (Step.fa (off := 4) (n := 1) (one := true) 0 31 (A.g 3 rfl))) ?_
        refine .cons (fun E A => A.y 30 (Step.load_box (c := .d (.bss q.f4)) (t := 32) rfl rfl (by exact lt_ok rfl) (by kernel_rfl) (A.g 31 rfl) (by exact A.box rfl) rfl)) ?_
        refine .cons (fun E A => A.y 30 (Step.len (e := 22) (z := 1) (d := (.bss q.f4)) (t := 33) rfl rfl (by exact lt_ok rfl) (by kernel_rfl) (A.g 32 rfl) rfl)) ?_
        refine .cons (fun E A => A.y 30 (Step.fa (off := 3) (n := 1) (one := true) 0 34 (A.g 3 rfl))) ?_
        refine .cons (fun E A => A.y 30 (Step.load_box (c := cS q.f3) (t := 35) rfl rfl (by exact lt_ok rfl) (by kernel_rfl) (A.g 34 rfl) (by exact A.box rfl) rfl)) ?_
        refine .cons (fun E A => A.y 30 (Step.cd (xs := [.tmp 35]) (ps := [(pS q.f3)]) (g := .func 116) false 36 (evs_cons (A.g 35 rfl) (rfl)) (.cons (.one (.d _)) .nil) (ok_impl_BitsCount q.f3 (by first | assumption | exact fun x hx => by cases hx) (by first | omega | assumption | (simp only [List.length_append] at *; omega) | (simp; done))) (At.freshRows A rfl))) ?_
        refine .cons (fun E A => A.y 30 (Step.tb 37 (decide ((q.f4.length : Int) = ((bitList q.f3).length : Int))) hb7 (Step.bd 37 (A.g 33 rfl) (A.g 36 rfl) (Bin.eql (k := .i64) (a := (q.f4.length : Int)) (b := ((bitList q.f3).length : Int)))))) ?_
        refine .cons (fun E A => OpStep.plain rfl (Step.pick (b := true) (p := (pB false)) (t := 38) rfl rfl (by exact lt_ok rfl) (A.g 30 rfl) (A.g 37 rfl))) ?_
        refine .cons (fun E A => A.mv 38 39) ?_
        refine .cons (fun E A => A.of 39) ?_
        refine .cons (fun E A => A.of 39) ?_
        refine .cons (fun E A => A.of 39) ?_
        refine .cons (fun E A => OpStep.plain rfl (Step.pick (b := false) (p := (pB false)) (t := 43) rfl rfl (by exact lt_ok rfl) (A.g 39 rfl) rfl)) ?_
        refine .cons (fun E A => A.as 43 4) ?_
        exact .nil _ _
       refine TL.nil ?_
       refine T.ret ?_
       refine ⟨[(false, [.d (.bool false)])], (.cons rfl .nil), rfl, [], (RetC.rd' ?_ .nil)⟩ <;> (first | rfl | (congr 1; symm; simp only [qcOk, hashes, List.all_cons, List.all_nil, *, Bool.and_true, Bool.true_and, Bool.and_false, Bool.false_and, decide_true, decide_false, and_true, true_and, and_self, and_false, false_and, Bool.and_self, not_true, not_false, Bool.not_true, Bool.not_false, ge_iff_le, gt_iff_lt, if_true, if_false, Bool.false_eq_true, ite_true, ite_false, reduceIte]; done) | (congr 1; symm; simp_all [qcOk, hashes, List.all_cons, List.all_nil]; done) | (congr 1; symm; simp_all [qcOk, hashes, List.all_cons, List.all_nil]; omega))
     ·
      refine T.draw [⟨5, (.agg [cI l.f0, cI l.f1, cI l.f2, cI l.f3, cI l.f4]), []⟩, ⟨6, (pB true), []⟩, ⟨7, (pB true), []⟩, ⟨8, (.one (.ptr 3 0)), []⟩, ⟨9, (pI q.f0), []⟩, ⟨10, (pB true), []⟩, ⟨11, (pB true), []⟩, ⟨12, (pB true), []⟩, ⟨13, (.one (.ptr 3 1)), []⟩, ⟨14, (pI q.f1), []⟩, ⟨15, (pB true), []⟩, ⟨16, (pB true), []⟩, ⟨17, (pB true), []⟩, ⟨18, (.one (.ptr 3 2)), []⟩, ⟨19, (pS q.f2), []⟩, ⟨20, (.one (.d (.bss [q.f2]))), []⟩, ⟨21, (pB true), []⟩, ⟨22, (pB true), []⟩, ⟨23, (pB true), []⟩, ⟨24, (.one (.ptr 3 3)), []⟩, ⟨25, (pS q.f3), []⟩, ⟨26, (.one (.ptr 2 0)), []⟩, ⟨27, (pI l.f0), []⟩, ⟨28, (pB false), []⟩, ⟨29, (pB false), []⟩, ⟨30, (pB false), []⟩, ⟨31, (.tup []), []⟩, ⟨32, (.tup []), []⟩, ⟨33, (.tup []), []⟩, ⟨34, (.tup []), []⟩, ⟨35, (.tup []), []⟩, ⟨36, (.tup []), []⟩, ⟨37, (.tup []), []⟩, ⟨38, (pB false), []⟩, ⟨39, (pB false), []⟩, ⟨40, (.tup []), []⟩, ⟨41, (.tup []), []⟩, ⟨42, (.tup []), []⟩, ⟨43, (pB false), []⟩, ⟨4, (pB false), []⟩] (by kernel_rfl) (by kernel_rfl) ?_ ?_
      ·
       refine .cons (fun E A => OpStep.plain rfl (Step.load_box_agg (n := 5) (qs := [cI l.f0, cI l.f1, cI l.f2, cI l.f3, cI l.f4]) (t := 5) rfl rfl (by exact lt_ok rfl) (by kernel_rfl) (A.g 2 rfl) (by exact A.box rfl) rfl rfl)) ?_
       refine .cons (fun E A => OpStep.plain rfl (Step.tb 6 (limOk l) hb1 (Step.cd (xs := [.tmp 5]) (ps := [(.agg [cI l.f0, cI l.f1, cI l.f2, cI l.f3, cI l.f4])]) (g := .func 114) false 6 (evs_cons (A.g 5 rfl) (rfl)) (.cons (.agg (.cons (.d _) (.cons (.d _) (.cons (.d _) (.cons (.d _) (.cons (.d _) .nil)))))) .nil) (ok_impl_LimitsOk l) (At.freshRows A rfl)))) ?_
       refine .cons (fun E A => A.mv 6 7) ?_
       refine .cons (fun E A => A.y 7 (Step.fa (off := 0) (n := 1) (one := true) 0 8 (A.g 3 rfl))) ?_
       refine .cons (fun E A => A.y 7 (Step.load_box (c := cI q.f0) (t := 9) rfl rfl (by exact lt_ok rfl) (by kernel_rfl) (A.g 8 rfl) (by exact A.box rfl) rfl)) ?_
       refine .cons (fun E A => A.y 7 (Step.tb 10 (decide (0 ≤ q.f0 ∧ q.f0 ≤ 1152921504606846975)) hb2 (Step.cd (xs := [.tmp 9]) (ps := [(pI q.f0)]) (g := .func 99) false 10 (evs_cons (A.g 9 rfl) (rfl)) (.cons (.one (.d _)) .nil) (ok_impl_isNum q.f0) (At.freshRows A rfl)))) ?_
       refine .cons (fun E A => OpStep.plain rfl (Step.pick (b := true) (p := (pB true)) (t := 11) rfl rfl (by exact lt_ok rfl) (A.g 7 rfl) (A.g 10 rfl))) ?_
       refine .cons (fun E A => A.mv 11 12) ?_
       refine .cons (fun E A => A.y 12 (Step.fa (off := 1) (n := 1) (one := true) 0 13 (A.g 3 rfl))) ?_
       refine .cons (fun E A => A.y 12 (Step.load_box (c := cI q.f1) (t := 14) rfl rfl (by exact lt_ok rfl) (by kernel_rfl) (A.g 13 rfl) (by exact A.box rfl) rfl)) ?_
       refine .cons (fun E A => A.y 12 (Step.tb 15 (decide (0 ≤ q.f1 ∧ q.f1 ≤ 1152921504606846975)) hb3 (Step.cd (xs := [.tmp 14]) (ps := [(pI q.f1)]) (g := .func 99) false 15 (evs_cons (A.g 14 rfl) (rfl)) (.cons (.one (.d _)) .nil) (ok_impl_isNum q.f1) (At.freshRows A rfl)))) ?_
       refine .cons (fun E A => OpStep.plain rfl (Step.pick (b := true) (p := (pB true)) (t := 16) rfl rfl (by exact lt_ok rfl) (A.g 12 rfl) (A.g 15 rfl))) ?_
       refine .cons (fun E A => A.mv 16 17) ?_
       refine .cons (fun E A => A.y 17 (Step.fa (off := 2) (n := 1) (one := true) 0 18 (A.g 3 rfl))) ?_
       refine .cons (fun E A => A.y 17 (Step.load_box (c := cS q.f2) (t := 19) rfl rfl (by exact lt_ok rfl) (by kernel_rfl) (A.g 18 rfl) (by exact A.box rfl) rfl)) ?_
       refine .cons (fun E A => A.y 17 (Step.lit_d (e := 22) (z := 1) (by_ := 24) (xs := [.tmp 19]) (pss := [[cS q.f2]]) (ds := [(.ints .u8 q.f2)]) (d := (.bss [q.f2])) (t := 20) rfl rfl (by exact lt_ok rfl) (by kernel_rfl) rfl rfl (.cons (by exact (congrArg PV.flat (A.g 19 rfl)).trans rfl) .nil) (by simp) (le_ok rfl) (le_ok rfl) rfl rfl trivial rfl rfl)) ?_
       refine .cons (fun E A => A.y 17 (Step.tb 21 (hashes [q.f2]) hb4 (Step.cd (xs := [.tmp 20]) (ps := [(.one (.d (.bss [q.f2])))]) (g := .func 55) false 21 (evs_cons (A.g 20 rfl) (rfl)) (.cons (.one (.d _)) .nil) (ok_impl_areHashes [q.f2]) (At.freshRows A rfl)))) ?_
       refine .cons (fun E A => OpStep.plain rfl (Step.pick (b := true) (p := (pB true)) (t := 22) rfl rfl (by exact lt_ok rfl) (A.g 17 rfl) (A.g 21 rfl))) ?_
       refine .cons (fun E A => A.mv 22 23) ?_
       refine .cons (fun E A => A.y 23 (Step.fa (off := 3) (n := 1) (one := true) 0 24 (A.g 3 rfl))) ?_
       refine .cons (fun E A => A.y 23 (Step.load_box (c := cS q.f3) (t := 25) rfl rfl (by exact lt_ok rfl) (by kernel_rfl) (A.g 24 rfl) (by exact A.box rfl) rfl)) ?_
       refine .cons (fun E A => A.y 23 (Step.fa (off := 0) (n := 1) (one := true) 0 26 (A.g 2 rfl))) ?_
       refine .cons (fun E A => A.y 23 (Step.load_box (c := cI l.f0) (t := 27) rfl rfl (by exact lt_ok rfl) (by kernel_rfl) (A.g 26 rfl) (by exact A.box rfl) rfl)) ?_
       refine .cons (fun E A => A.y 23 (Step.tb 28 (bitsOk q.f3 l.f0) hb5 (Step.cd (xs := [.tmp 25, .tmp 27]) (ps := [(pS q.f3), (pI l.f0)]) (g := .func 115) false 28 (evs_cons (A.g 25 rfl) (evs_cons (A.g 27 rfl) (rfl))) (.cons (.one (.d _)) (.cons (.one (.d _)) .nil)) (ok_impl_BitsOk q.f3 l.f0 (by assumption) (by first | omega | assumption | (simp only [List.length_append] at *; omega))) (At.freshRows A rfl)))) ?_
       refine .cons (fun E A => OpStep.plain rfl (Step.pick (b := true) (p := (pB false)) (t := 29) rfl rfl (by exact lt_ok rfl) (A.g 23 rfl) (A.g 28 rfl))) ?_
       refine .cons (fun E A => A.mv 29 30) ?_
       refine .cons (fun E A => A.of 30) ?_
       refine .cons (fun E A => A.of 30) ?_
       refine .cons (fun E A => A.of 30) ?_
       refine .cons (fun E A => A.of 30) ?_
       refine .cons (fun E A => A.of 30) ?_
       refine .cons (fun E A => A.of 30) ?_
       refine .cons (fun E A => A.of 30) ?_
       refine .cons (fun E A => OpStep.plain rfl (Step.pick (b := false) (p := (pB false)) (t := 38) rfl rfl (by exact lt_ok rfl) (A.g 30 rfl) rfl)) ?_
       refine .cons (fun E A => A.mv 38 39) ?_
       refine .cons (fun E A => A.of 39) ?_
       refine .cons (fun E A => A.of 39) ?_
       refine .cons (fun E A => A.of 39) ?_
       refine .cons (fun E A => OpStep.plain rfl (Step.pick (b := false) (p := (pB false)) (t := 43) rfl rfl (by exact lt_ok rfl) (A.g 39 rfl) rfl)) ?_
       refine .cons (fun E A => A.as 43 4) ?_
       exact .nil _ _
      refine TL.nil ?_
      refine T.ret ?_
      refine ⟨[(false, [.d (.bool false)])], (.cons rfl .nil), rfl, [], (RetC.rd' ?_ .nil)⟩ <;> (first | rfl | (congr 1; symm; simp only [qcOk, hashes, List.all_cons, List.all_nil, *, Bool.and_true, Bool.true_and, Bool.and_false, Bool.false_and, decide_true, decide_false, and_true, true_and, and_self, and_false, false_and, Bool.and_self, not_true, not_false, Bool.not_true, Bool.not_false, ge_iff_le, gt_iff_lt, if_true, if_false, Bool.false_eq_true, ite_true, ite_false, reduceIte]; done) | (congr 1; symm; simp_all [qcOk, hashes, List.all_cons, List.all_nil]; done) | (congr 1; symm; simp_all [qcOk, hashes, List.all_cons, List.all_nil]; omega))
    ·
     refine T.draw [⟨5, (.agg [cI l.f0, cI l.f1, cI l.f2, cI l.f3, cI l.f4]), []⟩, ⟨6, (pB true), []⟩, ⟨7, (pB true), []⟩, ⟨8, (.one (.ptr 3 0)), []⟩, ⟨9, (pI q.f0), []⟩, ⟨10, (pB true), []⟩, ⟨11, (pB true), []⟩, ⟨12, (pB true), []⟩, ⟨13, (.one (.ptr 3 1)), []⟩, ⟨14, (pI q.f1), []⟩, ⟨15, (pB true), []⟩, ⟨16, (pB true), []⟩, ⟨17, (pB true), []⟩, ⟨18, (.one (.ptr 3 2)), []⟩, ⟨19, (pS q.f2), []⟩, ⟨20, (.one (.d (.bss [q.f2]))), []⟩, ⟨21, (pB false), []⟩, ⟨22, (pB false), []⟩, ⟨23, (pB false), []⟩, ⟨24, (.tup []), []⟩, ⟨25, (.tup []), []⟩, ⟨26, (.tup []), []⟩, ⟨27, (.tup []), []⟩, ⟨28, (.tup []), []⟩, ⟨29, (pB false), []⟩, ⟨30, (pB false), []⟩, ⟨31, (.tup []), []⟩, ⟨32, (.tup []), []⟩, ⟨33, (.tup []), []⟩, ⟨34, (.tup []), []⟩, ⟨35, (.tup []), []⟩, ⟨36, (.tup []), []⟩, ⟨37, (.tup []), []⟩, ⟨38, (pB false), []⟩, ⟨39, (pB false), []⟩, ⟨40, (.tup []), []⟩, ⟨41, (.tup []), []⟩, ⟨42, (.tup []), []⟩, ⟨43, (pB false), []⟩, ⟨4, (pB false), []⟩] (by kernel_rfl) (by kernel_rfl) ?_ ?_
     ·
      refine .cons (fun E A => OpStep.plain rfl (Step.load_box_agg (n := 5) (qs := [cI l.f0, cI l.f1, cI l.f2, cI l.f3, cI l.f4]) (t := 5) rfl rfl (by exact lt_ok rfl) (by kernel_rfl) (A.g 2 rfl) (by exact A.box rfl) rfl rfl)) ?_
      refine .cons (fun E A => OpStep.plain rfl (Step.tb 6 (limOk l) hb1 (Step.cd (xs := [.tmp 5]) (ps := [(.agg [cI l.f0, cI l.f1, cI l.f2, cI l.f3, cI l.f4])]) (g := .func 114) false 6 (evs_cons (A.g 5 rfl) (rfl)) (.cons (.agg (.cons (.d _) (.cons (.d _) (.cons (.d _) (.cons (.d _) (.cons (.d _) .nil)))))) .nil) (ok_impl_LimitsOk l) (At.freshRows A rfl)))) ?_
      refine .cons (fun E A => A.mv 6 7) ?_
      refine .cons (fun E A => A.y 7 (Step.fa (off := 0) (n := 1) (one := true) 0 8 (A.g 3 rfl))) ?_
      refine .cons (fun E A => A.y 7 (Step.load_box (c := cI q.f0) (t := 9) rfl rfl (by exact lt_ok rfl) (by kernel_rfl) (A.g 8 rfl) (by exact A.box rfl) rfl)) ?_
      refine .cons (fun E A => A.y 7 (Step.tb 10 (decide (0 ≤ q.f0 ∧ q.f0 ≤ 1152921504606846975)) hb2 (Step.cd (xs := [.tmp 9]) (ps := [(pI q.f0)]) (g := .func 99) false 10 (evs_cons (A.g 9 rfl) (rfl)) (.cons (.one (.d _)) .nil) (ok_impl_isNum q.f0) (At.freshRows A rfl)))) ?_
      refine .cons (fun E A => OpStep.plain rfl (Step.pick (b := true) (p := (pB true)) (t := 11) rfl rfl (by exact lt_ok rfl) (A.g 7 rfl) (A.g 10 rfl))) ?_
      refine .cons (fun E A => A.mv 11 12) ?_
      refine .cons (fun E A => A.y 12 (Step.fa (off := 1) (n := 1) (one := true) 0 13 (A.g 3 rfl))) ?_
      refine .cons (fun E A => A.y 12 (Step.load_box (c := cI q.f1) (t := 14) rfl rfl (by exact lt_ok rfl) (by kernel_rfl) (A.g 13 rfl) (by exact A.box rfl) rfl)) ?_
      refine .cons (fun E A => A.y 12 (Step.tb 15 (decide (0 ≤ q.f1 ∧ q.f1 ≤ 1152921504606846975)) hb3 (Step.cd (xs := [.tmp 14]) (ps := [(pI q.f1)]) (g := .func 99) false 15 (evs_cons (A.g 14 rfl) (rfl)) (.cons (.one (.d _)) .nil) (ok_impl_isNum q.f1) (At.freshRows A rfl)))) ?_
      refine .cons (fun E A => OpStep.plain rfl (Step.pick (b := true) (p := (pB true)) (t := 16) rfl rfl (by exact lt_ok rfl) (A.g 12 rfl) (A.g 15 rfl))) ?_
      refine .cons (fun E A => A.mv 16 17) ?_
      refine .cons (fun E A => A.y 17 (Step.fa (off := 2) (n := 1) (one := true) 0 18 (A.g 3 rfl))) ?_
      refine .cons (fun E A => A.y 17 (Step.load_box (c := cS q.f2) (t := 19) rfl rfl (by exact lt_ok rfl) (by kernel_rfl) (A.g 18 rfl) (by exact A.box rfl) rfl)) ?_
      refine .cons (fun E A => A.y 17 (Step.lit_d (e := 22) (z := 1) (by_ := 24) (xs := [.tmp 19]) (pss := [[cS q.f2]]) (ds := [(.ints .u8 q.f2)]) (d := (.bss [q.f2])) (t := 20) rfl rfl (by exact lt_ok rfl) (by kernel_rfl) rfl rfl (.cons (by exact (congrArg PV.flat (A.g 19 rfl)).trans rfl) .nil) (by simp) (le_ok rfl) (le_ok rfl) rfl rfl trivial rfl rfl)) ?_
      refine .cons (fun E A => A.y 17 (Step.tb 21 (hashes [q.f2]) hb4 (Step.cd (xs := [.tmp 20]) (ps := [(.one (.d (.bss [q.f2])))]) (g := .func 55) false 21 (evs_cons (A.g 20 rfl) (rfl)) (.cons (.one (.d _)) .nil) (ok_impl_areHashes [q.f2]) (At.freshRows A rfl)))) ?_
      refine .cons (fun E A => OpStep.plain rfl (Step.pick (b := true) (p := (pB false)) (t := 22) rfl rfl (by exact lt_ok rfl) (A.g 17 rfl) (A.g 21 rfl))) ?_
      refine .cons (fun E A => A.mv 22 23) ?_
      refine .cons (fun E A => A.of 23) ?_
      refine .cons (fun E A => A.of 23) ?_
      refine .cons (fun E A => A.of 23) ?_
      refine .cons (fun E A => A.of 23) ?_
      refine .cons (fun E A => A.of 23) ?_
      refine .cons (fun E A => OpStep.plain rfl (Step.pick (b := false) (p := (pB false)) (t := 29) rfl rfl (by exact lt_ok rfl) (A.g 23 rfl) rfl)) ?_
      refine .cons (fun E A => A.mv 29 30) ?_
      refine .cons (fun E A => A.of 30) ?_
      refine .cons (fun E A => A.of 30) ?_
      refine .cons (fun E A => A.of 30) ?_
      refine .cons (fun E A => A.of 30) ?_
      refine .cons (fun E A => A.of 30) ?_
      refine .cons (fun E A => A.of 30) ?_
      refine .cons (fun E A => A.of 30) ?_
      refine .cons (fun E A => OpStep.plain rfl (Step.pick (b := false) (p := (pB false)) (t := 38) rfl rfl (by exact lt_ok rfl) (A.g 30 rfl) rfl)) ?_
      refine .cons (fun E A => A.mv 38 39) ?_
      refine .cons (fun E A => A.of 39) ?_
      refine .cons (fun E A => A.of 39) ?_
      refine .cons (fun E A => A.of 39) ?_
      refine .cons (fun E A => OpStep.plain rfl (Step.pick (b := false) (p := (pB false)) (t := 43) rfl rfl (by exact lt_ok rfl) (A.g 39 rfl) rfl)) ?_
      refine .cons (fun E A => A.as 43 4) ?_
      exact .nil _ _
     refine TL.nil ?_
     refine T.ret ?_
     refine ⟨[(false, [.d (.bool false)])], (.cons rfl .nil), rfl, [], (RetC.rd' ?_ .nil)⟩ <;> (first | rfl | (congr 1; symm; simp only [qcOk, hashes, List.all_cons, List.all_nil, *, Bool.and_true, Bool.true_and, Bool.and_false, Bool.false_and, decide_true, decide_false, and_true, true_and, and_self, and_false, false_and, Bool.and_self, not_true, not_false, Bool.not_true, Bool.not_false, ge_iff_le, gt_iff_lt, if_true, if_false, Bool.false_eq_true, ite_true, ite_false, reduceIte]; done) | (congr 1; symm; simp_all [qcOk, hashes, List.all_cons, List.all_nil]; done) | (congr 1; symm; simp_all [qcOk, hashes, List.all_cons, List.all_nil]; omega))
   ·
    refine T.draw [⟨5, (.agg [cI l.f0, cI l.f1, cI l.f2, cI l.f3, cI l.f4]), []⟩, ⟨6, (pB true), []⟩, ⟨7, (pB true), []⟩, ⟨8, (.one (.ptr 3 0)), []⟩, ⟨9, (pI q.f0), []⟩, ⟨10, (pB true), []⟩, ⟨11, (pB true), []⟩, ⟨12, (pB true), []⟩, ⟨13, (.one (.ptr 3 1)), []⟩, ⟨14, (pI q.f1), []⟩, ⟨15, (pB false), []⟩, ⟨16, (pB false), []⟩, ⟨17, (pB false), []⟩, ⟨18, (.tup []), []⟩, ⟨19, (.tup []), []⟩, ⟨20, (.tup []), []⟩, ⟨21, (.tup []), []⟩, ⟨22, (pB false), []⟩, ⟨23, (pB false), []⟩, ⟨24, (.tup []), []⟩, ⟨25, (.tup []), []⟩, ⟨26, (.tup []), []⟩, ⟨27, (.tup []), []⟩, ⟨28, (.tup []), []⟩, ⟨29, (pB false), []⟩, ⟨30, (pB false), []⟩, ⟨31, (.tup []), []⟩, ⟨32, (.tup []), []⟩, ⟨33, (.tup []), []⟩, ⟨34, (.tup []), []⟩, ⟨35, (.tup []), []⟩, ⟨36, (.tup []), []⟩, ⟨37, (.tup []), []⟩, ⟨38, (pB false), []⟩, ⟨39, (pB false), []⟩, ⟨40, (.tup []), []⟩, ⟨41, (.tup []), []⟩, ⟨42, (.tup []), []⟩, ⟨43, (pB false), []⟩, ⟨4, (pB false), []⟩] (by kernel_rfl) (by kernel_rfl) ?_ ?_
    ·
     refine .cons (fun E A => OpStep.plain rfl (Step.load_box_agg (n := 5) (qs := [cI l.f0, cI l.f1, cI l.f2, cI l.f3, cI l.f4]) (t := 5) rfl rfl (by exact lt_ok rfl) (by kernel_rfl) (A.g 2 rfl) (by exact A.box rfl) rfl rfl)) ?_
     refine .cons (fun E A => OpStep.plain rfl (Step.tb 6 (limOk l) hb1 (Step.cd (xs := [.tmp 5]) (ps := [(.agg [cI l.f0, cI l.f1, cI l.f2, cI l.f3, cI l.f4])]) (g := .func 114) false 6 (evs_cons (A.g 5 rfl) (rfl)) (.cons (.agg (.cons (.d _) (.cons (.d _) (.cons (.d _) (.cons (.d _) (.cons (.d _) .nil)))))) .nil) (ok_impl_LimitsOk l) (At.freshRows A rfl)))) ?_
     refine .cons (fun E A => A.mv 6 7) ?_
     refine .cons (fun E A => A.y 7 (Step.fa (off := 0) (n := 1) (one := true) 0 8 (A.g 3 rfl))) ?_
     refine .cons (fun E A => A.y 7 (Step.load_box (c := cI q.f0) (t := 9) rfl rfl (by exact lt_ok rfl) (by kernel_rfl) (A.g 8 rfl) (by exact A.box rfl) rfl)) ?_
     refine .cons (fun E A => A.y 7 (Step.tb 10 (decide (0 ≤ q.f0 ∧ q.f0 ≤ 1152921504606846975)) hb2 (Step.cd (xs := [.tmp 9]) (ps := [(pI q.f0)]) (g := .func 99) false 10 (evs_cons (A.g 9 rfl) (rfl)) (.cons (.one (.d _)) .nil) (ok_impl_isNum q.f0) (At.freshRows A rfl)))) ?_
     refine .cons (fun E A => OpStep.plain rfl (Step.pick (b := true) (p := (pB true)) (t := 11) rfl rfl (by exact lt_ok rfl) (A.g 7 rfl) (A.g 10 rfl))) ?_
     refine .cons (fun E A => A.mv 11 12) ?_
     refine .cons (fun E A => A.y 12 (Step.fa (off := 1) (n := 1) (one := true) 0 13 (A.g 3 rfl))) ?_
     refine .cons (fun E A => A.y 12 (Step.load_box (c := cI q.f1) (t := 14) rfl rfl (by exact lt_ok rfl) (by kernel_rfl) (A.g 13 rfl) (by exact A.box rfl) rfl)) ?_
     refine .cons (fun E A => A.y 12 (Step.tb 15 (decide (0 ≤ q.f1 ∧ q.f1 ≤ 1152921504606846975)) hb3 (Step.cd (xs := [.tmp 14]) (ps := [(pI q.f1)]) (g := .func 99) false 15 (evs_cons (A.g 14 rfl) (rfl)) (.cons (.one (.d _)) .nil) (ok_impl_isNum q.f1) (At.freshRows A rfl)))) ?_
     refine .cons (fun E A => OpStep.plain rfl (Step.pick (b := true) (p := (pB false)) (t := 16) rfl rfl (by exact lt_ok rfl) (A.g 12 rfl) (A.g 15 rfl))) ?_
     refine .cons (fun E A => A.mv 16 17) ?_
     refine .cons (fun E A => A.of 17) ?_
     refine .cons (fun E A => A.of 17) ?_
     refine .cons (fun E A => A.of 17) ?_
     refine .cons (fun E A => A.of 17) ?_
     refine .cons (fun E A => OpStep.plain rfl (Step.pick (b := false) (p := (pB false)) (t := 22) rfl rfl (by exact lt_ok rfl) (A.g 17 rfl) rfl)) ?_
     refine .cons (fun E A => A.mv 22 23) ?_
     refine .cons (fun E A => A.of 23) ?_
     refine .cons (fun E A => A.of 23) ?_
     refine .cons (fun E A => A.of 23) ?_
     refine .cons (fun E A => A.of 23) ?_
     refine .cons (fun E A => A.of 23) ?_
     refine .cons (fun E A => OpStep.plain rfl (Step.pick (b := false) (p := (pB false)) (t := 29) rfl rfl (by exact lt_ok rfl) (A.g 23 rfl) rfl)) ?_
     refine .cons (fun E A => A.mv 29 30) ?_
     refine .cons (fun E A => A.of 30) ?_
     refine .cons (fun E A => A.of 30) ?_
     refine .cons (fun E A => A.of 30) ?_
     refine .cons (fun E A => A.of 30) ?_
     refine .cons (fun E A => A.of 30) ?_
     refine .cons (fun E A => A.of 30) ?_
     refine .cons (fun E A => A.of 30) ?_
     refine .cons (fun E A => OpStep.plain rfl (Step.pick (b := false) (p := (pB false)) (t := 38) rfl rfl (by exact lt_ok rfl) (A.g 30 rfl) rfl)) ?_
     refine .cons (fun E A => A.mv 38 39) ?_
     refine .cons (fun E A => A.of 39) ?_
     refine .cons (fun E A => A.of 39) ?_
     refine .cons (fun E A => A.of 39) ?_
     refine .cons (fun E A => OpStep.plain rfl (Step.pick (b := false) (p := (pB false)) (t := 43) rfl rfl (by exact lt_ok rfl) (A.g 39 rfl) rfl)) ?_
     refine .cons (fun E A => A.as 43 4) ?_
     exact .nil _ _
    refine TL.nil ?_
    refine T.ret ?_
    refine ⟨[(false, [.d (.bool false)])], (.cons rfl .nil), rfl, [], (RetC.rd' ?_ .nil)⟩ <;> (first | rfl | (congr 1; symm; simp only [qcOk, hashes, List.all_cons, List.all_nil, *, Bool.and_true, Bool.true_and, Bool.and_false, Bool.false_and, decide_true, decide_false, and_true, true_and, and_self, and_false, false_and, Bool.and_self, not_true, not_false, Bool.not_true, Bool.not_false, ge_iff_le, gt_iff_lt, if_true, if_false, Bool.false_eq_true, ite_true, ite_false, reduceIte]; done) | (congr 1; symm; simp_all [qcOk, hashes, List.all_cons, List.all_nil]; done) | (congr 1; symm; simp_all [qcOk, hashes, List.all_cons, List.all_nil]; omega))
  ·
   refine T.draw [⟨5, (.agg [cI l.f0, cI l.f1, cI l.f2, cI l.f3, cI l.f4]), []⟩, ⟨6, (pB true), []⟩, ⟨7, (pB true), []⟩, ⟨8, (.one (.ptr 3 0)), []⟩, ⟨9, (pI q.f0), []⟩, ⟨10, (pB false), []⟩, ⟨11, (pB false), []⟩, ⟨12, (pB false), []⟩, ⟨13, (.tup []), []⟩, ⟨14, (.tup []), []⟩, ⟨15, (.tup []), []⟩, ⟨16, (pB false), []⟩, ⟨17, (pB false), []⟩, ⟨18, (.tup []), []⟩, ⟨19, (.tup []), []⟩, ⟨20, (.tup []), []⟩, ⟨21, (.tup []), []⟩, ⟨22, (pB false), []⟩, ⟨23, (pB false), []⟩, ⟨24, (.tup []), []⟩, ⟨25, (.tup []), []⟩, ⟨26, (.tup []), []⟩, ⟨27, (.tup []), []⟩, ⟨28, (.tup []), []⟩, ⟨29, (pB false), []⟩, ⟨30, (pB false), []⟩, ⟨31, (.tup []), []⟩, ⟨32, (.tup []), []⟩, ⟨33, (.tup []), []⟩, ⟨34, (.tup []), []⟩, ⟨35, (.tup []), []⟩, ⟨36, (.tup []), []⟩, ⟨37, (.tup []), []⟩, ⟨38, (pB false), []⟩, ⟨39, (pB false), []⟩, ⟨40, (.tup []), []⟩, ⟨41, (.tup []), []⟩, ⟨42, (.tup []), []⟩, ⟨43, (pB false), []⟩, ⟨4, (pB false), []⟩] (by kernel_rfl) (by kernel_rfl) ?_ ?_
   ·
    refine .cons (fun E A => OpStep.plain rfl (Step.load_box_agg (n := 5) (qs := [cI l.f0, cI l.f1, cI l.f2, cI l.f3, cI l.f4]) (t := 5) rfl rfl (by exact lt_ok rfl) (by kernel_rfl) (A.g 2 rfl) (by exact A.box rfl) rfl rfl)) ?_
    refine .cons (fun E A => OpStep.plain rfl (Step.tb 6 (limOk l) hb1 (Step.cd (xs := [.tmp 5]) (ps := [(.agg [cI l.f0, cI l.f1, cI l.f2, cI l.f3, cI l.f4])]) (g := .func 114) false 6 (evs_cons (A.g 5 rfl) (rfl)) (.cons (.agg (.cons (.d _) (.cons (.d _) (.cons (.d _) (.cons (.d _) (.cons (.d _) .nil)))))) .nil) (ok_impl_LimitsOk l) (At.freshRows A rfl)))) ?_
    refine .cons (fun E A => A.mv 6 7) ?_
    refine .cons (fun E A => A.y 7 (Step.fa (off := 0) (n := 1) (one := true) 0 8 (A.g 3 rfl))) ?_
    refine .cons (fun E A => A.y 7 (Step.load_box (c := cI q.f0) (t := 9) rfl rfl (by exact lt_ok rfl) (by kernel_rfl) (A.g 8 rfl) (by exact A.box rfl) rfl)) ?_
    refine .cons (fun E A => A.y 7 (Step.tb 10 (decide (0 ≤ q.f0 ∧ q.f0 ≤ 1152921504606846975)) hb2 (Step.cd (xs := [.tmp 9]) (ps := [(pI q.f0)]) (g := .func 99) false 10 (evs_cons (A.g 9 rfl) (rfl)) (.cons (.one (.d _)) .nil) (ok_impl_isNum q.f0) (At.freshRows A rfl)))) ?_
    refine .cons (fun E A => OpStep.plain rfl (Step.pick (b := true) (p := (pB false)) (t := 11) rfl rfl (by exact lt_ok rfl) (A.g 7 rfl) (A.g 10 rfl))) ?_
    refine .cons (fun E A => A.mv 11 12) ?_
    refine .cons (fun E A => A.of 12) ?_
    refine .cons (fun E A => A.of 12) ?_
    refine .cons (fun E A => A.of 12) ?_
    refine .cons (fun E A => OpStep.plain rfl (Step.pick (b := false) (p := (pB false)) (t := 16) rfl rfl (by exact lt_ok rfl) (A.g 12 rfl) rfl)) ?_
    refine .cons (fun E A => A.mv 16 17) ?_
    refine .cons (fun E A => A.of 17) ?_
    refine .cons (fun E A => A.of 17) ?_
    refine .cons (fun E A => A.of 17) ?_
    refine .cons (fun E A => A.of 17) ?_
    refine .cons (fun E A => OpStep.plain rfl (Step.pick (b := false) (p := (pB false)) (t := 22) rfl rfl (by exact lt_ok rfl) (A.g 17 rfl) rfl)) ?_
    refine .cons (fun E A => A.mv 22 23) ?_
    refine .cons (fun E A => A.of 23) ?_
    refine .cons (fun E A => A.of 23) ?_
    refine .cons (fun E A => A.of 23) ?_
    refine .cons (fun E A => A.of 23) ?_
    refine .cons (fun E A => A.of 23) ?_
    refine .cons (fun E A => OpStep.plain rfl (Step.pick (b := false) (p := (pB false)) (t := 29) rfl rfl (by exact lt_ok rfl) (A.g 23 rfl) rfl)) ?_
    refine .cons (fun E A => A.mv 29 30) ?_
    refine .cons (fun E A => A.of 30) ?_
    refine .cons (fun E A => A.of 30) ?_
    refine .cons (fun E A => A.of 30) ?_
    refine .cons (fun E A => A.of 30) ?_
    refine .cons (fun E A => A.of 30) ?_
    refine .cons (fun E A => A.of 30) ?_
    refine .cons (fun E A => A.of 30) ?_
    refine .cons (fun E A => OpStep.plain rfl (Step.pick (b := false) (p := (pB false)) (t := 38) rfl rfl (by exact lt_ok rfl) (A.g 30 rfl) rfl)) ?_
    refine .cons (fun E A => A.mv 38 39) ?_
    refine .cons (fun E A => A.of 39) ?_
    refine .cons (fun E A => A.of 39) ?_
    refine .cons (fun E A => A.of 39) ?_
    refine .cons (fun E A => OpStep.plain rfl (Step.pick (b := false) (p := (pB false)) (t := 43) rfl rfl (by exact lt_ok rfl) (A.g 39 rfl) rfl)) ?_
    refine .cons (fun E A => A.as 43 4) ?_
    exact .nil _ _
   refine TL.nil ?_
   refine T.ret ?_
   refine ⟨[(false, [.d (.bool false)])], (.cons rfl .nil), rfl, [], (RetC.rd' ?_ .nil)⟩ <;> (first | rfl | (congr 1; symm; simp only [qcOk, hashes, List.all_cons, List.all_nil, *, Bool.and_true, Bool.true_and, Bool.and_false, Bool.false_and, decide_true, decide_false, and_true, true_and, and_self, and_false, false_and, Bool.and_self, not_true, not_false, Bool.not_true, Bool.not_false, ge_iff_le, gt_iff_lt, if_true, if_false, Bool.false_eq_true, ite_true, ite_false, reduceIte]; done) | (congr 1; symm; simp_all [qcOk, hashes, List.all_cons, List.all_nil]; done) | (congr 1; symm; simp_all [qcOk, hashes, List.all_cons, List.all_nil]; omega))
 ·
  refine T.draw [⟨5, (.agg [cI l.f0, cI l.f1, cI l.f2, cI l.f3, cI l.f4]), []⟩, ⟨6, (pB false), []⟩, ⟨7, (pB false), []⟩, ⟨8, (.tup []), []⟩, ⟨9, (.tup []), []⟩, ⟨10, (.tup []), []⟩, ⟨11, (pB false), []⟩, ⟨12, (pB false), []⟩, ⟨13, (.tup []), []⟩, ⟨14, (.tup []), []⟩, ⟨15, (.tup []), []⟩, ⟨16, (pB false), []⟩, ⟨17, (pB false), []⟩, ⟨18, (.tup []), []⟩, ⟨19, (.tup []), []⟩, ⟨20, (.tup []), []⟩, ⟨21, (.tup []), []⟩, ⟨22, (pB false), []⟩, ⟨23, (pB false), []⟩, ⟨24, (.tup []), []⟩, ⟨25, (.tup []), []⟩, ⟨26, (.tup []), []⟩, ⟨27, (.tup []), []⟩, ⟨28, (.tup []), []⟩, ⟨29, (pB false), []⟩, ⟨30, (pB false), []⟩, ⟨31, (.tup []), []⟩, ⟨32, (.tup []), []⟩, ⟨33, (.tup []), []⟩, ⟨34, (.tup []), []⟩, ⟨35, (.tup []), []⟩, ⟨36, (.tup []), []⟩, ⟨37, (.tup []), []⟩, ⟨38, (pB false), []⟩, ⟨39, (pB false), []⟩, ⟨40, (.tup []), []⟩, ⟨41, (.tup []), []⟩, ⟨42, (.tup []), []⟩, ⟨43, (pB false), []⟩, ⟨4, (pB false), []⟩] (by kernel_rfl) (by kernel_rfl) ?_ ?_
  ·
   refine .cons (fun E A => OpStep.plain rfl (Step.load_box_agg (n := 5) (qs := [cI l.f0, cI l.f1, cI l.f2, cI l.f3, cI l.f4]) (t := 5) rfl rfl (by exact lt_ok rfl) (by kernel_rfl) (A.g 2 rfl) (by exact A.box rfl) rfl rfl)) ?_
   refine .cons (fun E A => OpStep.plain rfl (Step.tb 6 (limOk l) hb1 (Step.cd (xs := [.tmp 5]) (ps := [(.agg [cI l.f0, cI l.f1, cI l.f2, cI l.f3, cI l.f4])]) (g := .func 114) false 6 (evs_cons (A.g 5 rfl) (rfl)) (.cons (.agg (.cons (.d _) (.cons (.d _) (.cons (.d _) (.cons (.d _) (.cons (.d _) .nil)))))) .nil) (ok_impl_LimitsOk l) (At.freshRows A rfl)))) ?_
   refine .cons (fun E A => A.mv 6 7) ?_
   refine .cons (fun E A => A.of 7) ?_
   refine .cons (fun E A => A.of 7) ?_
   refine .cons (fun E A => A.of 7) ?_
   refine .cons (fun E A => OpStep.plain rfl (Step.pick (b := false) (p := (pB false)) (t := 11) rfl rfl (by exact lt_ok rfl) (A.g 7 rfl) rfl)) ?_
   refine .cons (fun E A => A.mv 11 12) ?_
   refine .cons (fun E A => A.of 12) ?_
   refine .cons (fun E A => A.of 12) ?_
   refine .cons (fun E A => A.of 12) ?_
   refine .cons (fun E A => OpStep.plain rfl (Step.pick (b := false) (p := (pB false)) (t := 16) rfl rfl (by exact lt_ok rfl) (A.g 12 rfl) rfl)) ?_
   refine .cons (fun E A => A.mv 16 17) ?_
   refine .cons (fun E A => A.of 17) ?_
   refine .cons (fun E A => A.of 17) ?_
   refine .cons (fun E A => A.of 17) ?_
   refine .cons (fun E A => A.of 17) ?_
   refine .cons (fun E A => OpStep.plain rfl (Step.pick (b := false) (p := (pB false)) (t := 22) rfl rfl (by exact lt_ok rfl) (A.g 17 rfl) rfl)) ?_
   refine .cons (fun E A => A.mv 22 23) ?_
   refine .cons (fun E A => A.of 23) ?_
   refine .cons (fun E A => A.of 23) ?_
   refine .cons (fun E A => A.of 23) ?_
   refine .cons (fun E A => A.of 23) ?_
   refine .cons (fun E A => A.of 23) ?_
   refine .cons (fun E A => OpStep.plain rfl (Step.pick (b := false) (p := (pB false)) (t := 29) rfl rfl (by exact lt_ok rfl) (A.g 23 rfl) rfl)) ?_
   refine .cons (fun E A => A.mv 29 30) ?_
   refine .cons (fun E A => A.of 30) ?_
   refine .cons (fun E A => A.of 30) ?_
   refine .cons (fun E A => A.of 30) ?_
   refine .cons (fun E A => A.of 30) ?_
   refine .cons (fun E A => A.of 30) ?_
   refine .cons (fun E A => A.of 30) ?_
   refine .cons (fun E A => A.of 30) ?_
   refine .cons (fun E A => OpStep.plain rfl (Step.pick (b := false) (p := (pB false)) (t := 38) rfl rfl (by exact lt_ok rfl) (A.g 30 rfl) rfl)) ?_
   refine .cons (fun E A => A.mv 38 39) ?_
   refine .cons (fun E A => A.of 39) ?_
   refine .cons (fun E A => A.of 39) ?_
   refine .cons (fun E A => A.of 39) ?_
   refine .cons (fun E A => OpStep.plain rfl (Step.pick (b := false) (p := (pB false)) (t := 43) rfl rfl (by exact lt_ok rfl) (A.g 39 rfl) rfl)) ?_
   refine .cons (fun E A => A.as 43 4) ?_
   exact .nil _ _
  refine TL.nil ?_
  refine T.ret ?_
  refine ⟨[(false, [.d (.bool false)])], (.cons rfl .nil), rfl, [], (RetC.rd' ?_ .nil)⟩ <;> (first | rfl | (congr 1; symm; simp only [qcOk, hashes, List.all_cons, List.all_nil, *, Bool.and_true, Bool.true_and, Bool.and_false, Bool.false_and, decide_true, decide_false, and_true, true_and, and_self, and_false, false_and, Bool.and_self, not_true, not_false, Bool.not_true, Bool.not_false, ge_iff_le, gt_iff_lt, if_true, if_false, Bool.false_eq_true, ite_true, ite_false, reduceIte]; done) | (congr 1; symm; simp_all [qcOk, hashes, List.all_cons, List.all_nil]; done) | (congr 1; symm; simp_all [qcOk, hashes, List.all_cons, List.all_nil]; omega))
theorem ok_impl_Head__matches (h : SHead) (h0_ : h.ok) : RO Try.prog 100 [.agg h.cells] [(false, [.rd (.bool (headFits h))])] := by
 refine RO.intro Try.func100 rfl 26 rfl (le_ok rfl) fun w Z => ?_
 obtain ⟨o0, o1, o2, o3, o4, o5, o6, o7, o8, o9⟩ := h0_
 refine T.seq ?_
 refine T.region ?_
 refine TL.c (Step.box (p := (.agg [cI h.f0, cI h.f1, cI h.f2, cS h.f3, cS h.f4, cI h.f5.f0, cI h.f5.f1, cS h.f5.f2, cS h.f5.f3, .d (.bss h.f5.f4)])) (ps := [cI h.f0, cI h.f1, cI h.f2, cS h.f3, cS h.f4, cI h.f5.f0, cI h.f5.f1, cS h.f5.f2, cS h.f5.f3, .d (.bss h.f5.f4)]) rfl rfl (lt_ok rfl) rfl rfl rfl rfl rfl) ?_
 refine TL.as (pB false) ?_
 refine TL.nil ?_
 refine T.seq ?_
 refine T.region ?_
 refine TL.c (Step.fieldAddr (q := 0) (off := 5) (n := 5) (one := false) rfl rfl (lt_ok rfl) (by kernel_rfl) (Nat.succ_ne_zero _) rfl) ?_
 refine TL.c (Step.fieldAddr (q := 5) (off := 0) (n := 1) (one := true) rfl rfl (lt_ok rfl) (by kernel_rfl) (Nat.succ_ne_zero _) rfl) ?_
 refine TL.c (Step.load_box (c := cI h.f5.f0) rfl rfl (lt_ok rfl) (by kernel_rfl) rfl rfl rfl) ?_
 refine TL.c (Step.fieldAddr (q := 0) (off := 0) (n := 1) (one := true) rfl rfl (lt_ok rfl) (by kernel_rfl) (Nat.succ_ne_zero _) rfl) ?_
 refine TL.c (Step.load_box (c := cI h.f0) rfl rfl (lt_ok rfl) (by kernel_rfl) rfl rfl rfl) ?_
 refine TL.c (Step.bin rfl rfl (lt_ok rfl) rfl rfl (Bin.lss (k := .i64) (a := h.f5.f0) (b := h.f0))) ?_
 refine TL.mv (pB (decide (h.f5.f0 < h.f0))) ?_
 rcases Bool.eq_false_or_eq_true (decide (h.f5.f0 < h.f0)) with hb1 | hb1
 ·
  refine TL.known 9 hb1 rfl ?_
  refine TL.gy 9 (Step.fieldAddr (q := 0) (off := 5) (n := 5) (one := false) rfl rfl (lt_ok rfl) (by kernel_rfl) (Nat.succ_ne_zero _) rfl) ?_
  refine TL.gy 9 (Step.fieldAddr (q := 5) (off := 1) (n := 1) (one := true) rfl rfl (lt_ok rfl) (by kernel_rfl) (Nat.succ_ne_zero _) rfl) ?_
  refine TL.gy 9 (Step.load_box (c := cI h.f5.f1) rfl rfl (lt_ok rfl) (by kernel_rfl) rfl rfl rfl) ?_
  refine TL.gy 9 (Step.fieldAddr (q := 0) (off := 1) (n := 1) (one := true) rfl rfl (lt_ok rfl) (by kernel_rfl) (Nat.succ_ne_zero _) rfl) ?_
  refine TL.gy 9 (Step.load_box (c := cI h.f1) rfl rfl (lt_ok rfl) (by kernel_rfl) rfl rfl rfl) ?_
  refine TL.gy 9 (Step.bin (r := .int .i64 (IntKind.i64.wrap (h.f1 - 1))) rfl rfl (lt_ok rfl) rfl rfl (Bin.sub (a := h.f1) (b := 1) (rfl))) ?_
  refine TL.gy 9 (Step.bin rfl rfl (lt_ok rfl) rfl rfl (Bin.eql (k := .i64) (a := h.f5.f1) (b := (IntKind.i64.wrap (h.f1 - 1))))) ?_
  refine TL.pk true (pB (decide (h.f5.f1 = (IntKind.i64.wrap (h.f1 - 1))))) ?_
  refine TL.mv (pB (decide (h.f5.f1 = (IntKind.i64.wrap (h.f1 - 1))))) ?_
  rcases Bool.eq_false_or_eq_true (decide (h.f5.f1 = (IntKind.i64.wrap (h.f1 - 1)))) with hb2 | hb2
  ·
   refine TL.known 18 hb2 rfl ?_
   refine TL.gy 18 (Step.fieldAddr (q := 0) (off := 5) (n := 5) (one := false) rfl rfl (lt_ok rfl) (by kernel_rfl) (Nat.succ_ne_zero _) rfl) ?_
   refine TL.gy 18 (Step.fieldAddr (q := 5) (off := 2) (n := 1) (one := true) rfl rfl (lt_ok rfl) (by kernel_rfl) (Nat.succ_ne_zero _) rfl) ?_
   refine TL.gy 18 (Step.load_box (c := cS h.f5.f2) rfl rfl (lt_ok rfl) (by kernel_rfl) rfl rfl rfl) ?_
   refine TL.gy 18 (Step.fieldAddr (q := 0) (off := 3) (n := 1) (one := true) rfl rfl (lt_ok rfl) (by kernel_rfl) (Nat.succ_ne_zero _) rfl) ?_
   refine TL.gy 18 (Step.load_box (c := cS h.f3) rfl rfl (lt_ok rfl) (by kernel_rfl) rfl rfl rfl) ?_
   refine TL.gy 18 (Step.cl (xs := [.tmp 21, .tmp 23]) (ps := [(pS h.f5.f2), (pS h.f3)]) (g := .func 17) false (.cons (.one (.d _)) (.cons (.one (.d _)) .nil)) (ok_impl_SameBytes h.f5.f2 h.f3 (by first | assumption | omega) (by first | assumption | omega))) ?_
   refine TL.pk true (pB (decide (h.f5.f2 = h.f3))) ?_
   refine TL.as (pB (decide (h.f5.f2 = h.f3))) ?_
   refine TL.nil ?_
   refine T.ret ?_
   refine ⟨[(false, [.d (.bool (decide (h.f5.f2 = h.f3)))])], (.cons rfl .nil), rfl, [], (RetC.rd' ?_ .nil)⟩ <;> (first | rfl | (congr 1; symm; simp only [headFits, *, Bool.and_true, Bool.true_and, Bool.and_false, Bool.false_and, decide_true, decide_false, and_true, true_and, and_self, and_false, false_and, Bool.and_self, not_true, not_false, Bool.not_true, Bool.not_false, ge_iff_le, gt_iff_lt, if_true, if_false, Bool.false_eq_true, ite_true, ite_false, reduceIte]; done) | (congr 1; symm; simp_all [headFits]; done) | (congr 1; symm; simp_all [headFits]; omega))
  ·
   refine TL.known 18 hb2 rfl ?_
   refine TL.gf 18 ?_
   refine TL.gf 18 ?_
   refine TL.gf 18 ?_
   refine TL.gf 18 ?_
   refine TL.gf 18 ?_
   refine TL.gf 18 ?_
   refine TL.pk false (pB false) ?_
   refine TL.as (pB false) ?_
   refine TL.nil ?_
   refine T.ret ?_
   refine ⟨[(false, [.d (.bool false)])], (.cons rfl .nil), rfl, [], (RetC.rd' ?_ .nil)⟩ <;> (first | rfl | (congr 1; symm; simp only [headFits, *, Bool.and_true, Bool.true_and, Bool.and_false, Bool.false_and, decide_true, decide_false, and_true, true_and, and_self, and_false, false_and, Bool.and_self, not_true, not_false, Bool.not_true, Bool.not_false, ge_iff_le, gt_iff_lt, if_true, if_false, Bool.false_eq_true, ite_true, ite_false, reduceIte]; done) | (congr 1; symm; simp_all [headFits]; done) | (congr 1; symm; simp_all [headFits]; omega))
 ·
  refine TL.known 9 hb1 rfl ?_
  refine TL.gf 9 ?_
  refine TL.gf 9 ?_
  refine TL.gf 9 ?_
  refine TL.gf 9 ?_
  refine TL.gf 9 ?_
  refine TL.gf 9 ?_
  refine TL.gf 9 ?_
  refine TL.pk false (pB false) ?_
  refine TL.mv (pB false) ?_
  refine TL.gf 18 ?_
  refine TL.gf 18 ?_
  refine TL.gf 18 ?_
  refine TL.gf 18 ?_
  refine TL.gf 18 ?_
  refine TL.gf 18 ?_
  refine TL.pk false (pB false) ?_
  refine TL.as (pB false) ?_
  refine TL.nil ?_
  refine T.ret ?_
  refine ⟨[(false, [.d (.bool false)])], (.cons rfl .nil), rfl, [], (RetC.rd' ?_ .nil)⟩ <;> (first | rfl | (congr 1; symm; simp only [headFits, *, Bool.and_true, Bool.true_and, Bool.and_false, Bool.false_and, decide_true, decide_false, and_true, true_and, and_self, and_false, false_and, Bool.and_self, not_true, not_false, Bool.not_true, Bool.not_false, ge_iff_le, gt_iff_lt, if_true, if_false, Bool.false_eq_true, ite_true, ite_false, reduceIte]; done) | (congr 1; symm; simp_all [headFits]; done) | (congr 1; symm; simp_all [headFits]; omega))
theorem ok_impl_HeadOk (l : SLimits) (h : SHead) (h0_ : h.ok) (h1_ : h.sm) : RO Try.prog 79 [.agg l.cells, .agg h.cells] [(false, [.rd (.bool (headOk l h))])] := by
 refine RO.intro Try.func79 rfl 39 rfl (le_ok rfl) fun w Z => ?_
 have hok_ := h0_
 have hsm_ := h1_
 obtain ⟨o0, o1, o2, o3, o4, o5⟩ := h0_
 obtain ⟨s0, s1, s2⟩ := h1_
 refine T.seq ?_
 refine T.region ?_
 refine TL.c (Step.box (p := (.agg [cI l.f0, cI l.f1, cI l.f2, cI l.f3, cI l.f4])) (ps := [cI l.f0, cI l.f1, cI l.f2, cI l.f3, cI l.f4]) rfl rfl (lt_ok rfl) rfl rfl rfl rfl rfl) ?_
 refine TL.c (Step.box (p := (.agg [cI h.f0, cI h.f1, cI h.f2, cS h.f3, cS h.f4, cI h.f5.f0, cI h.f5.f1, cS h.f5.f2, cS h.f5.f3, .d (.bss h.f5.f4)])) (ps := [cI h.f0, cI h.f1, cI h.f2, cS h.f3, cS h.f4, cI h.f5.f0, cI h.f5.f1, cS h.f5.f2, cS h.f5.f3, .d (.bss h.f5.f4)]) rfl rfl (lt_ok rfl) rfl rfl rfl rfl rfl) ?_
 refine TL.as (pB false) ?_
 refine TL.nil ?_
 refine T.seq ?_
 refine T.region ?_
 refine TL.c (Step.load_box_agg (n := 5) (qs := [cI l.f0, cI l.f1, cI l.f2, cI l.f3, cI l.f4]) rfl rfl (lt_ok rfl) (by kernel_rfl) rfl rfl rfl rfl) ?_
 refine TL.c (Step.fieldAddr (q := 0) (off := 5) (n := 5) (one := false) rfl rfl (lt_ok rfl) (by kernel_rfl) (Nat.succ_ne_zero _) rfl) ?_
 refine TL.c (Step.load_box_agg (n := 5) (qs := [cI h.f5.f0, cI h.f5.f1, cS h.f5.f2, cS h.f5.f3, .d (.bss h.f5.f4)]) rfl rfl (lt_ok rfl) (by kernel_rfl) rfl rfl rfl rfl) ?_
 refine TL.c (Step.cl (xs := [.tmp 5, .tmp 7]) (ps := [(.agg [cI l.f0, cI l.f1, cI l.f2, cI l.f3, cI l.f4]), (.agg [cI h.f5.f0, cI h.f5.f1, cS h.f5.f2, cS h.f5.f3, .d (.bss h.f5.f4)])]) (g := .func 98) false (.cons (.agg (.cons (.d _) (.cons (.d _) (.cons (.d _) (.cons (.d _) (.cons (.d _) .nil)))))) (.cons (.agg (.cons (.d _) (.cons (.d _) (.cons (.d _) (.cons (.d _) (.cons (.d _) .nil)))))) .nil)) (ok_impl_QcOk l h.f5 (by first | assumption | exact qcOf_ok (l := l) h0_) (by first | assumption | exact qcOf_sm (l := l) h1_ h2_))) ?_
 refine TL.mv (pB (qcOk l h.f5)) ?_
 rcases Bool.eq_false_or_eq_true (qcOk l h.f5) with hb1 | hb1
 ·
  refine TL.known 9 hb1 rfl ?_
  refine TL.gy 9 (Step.fieldAddr (q := 0) (off := 0) (n := 1) (one := true) rfl rfl (lt_ok rfl) (by kernel_rfl) (Nat.succ_ne_zero _) rfl) ?_
  refine TL.gy 9 (Step.load_box (c := cI h.f0) rfl rfl (lt_ok rfl) (by kernel_rfl) rfl rfl rfl) ?_
  refine TL.gy 9 (Step.cl (xs := [.tmp 11]) (ps := [(pI h.f0)]) (g := .func 99) false (.cons (.one (.d _)) .nil) (ok_impl_isNum h.f0)) ?_
  refine TL.pk true (pB (decide (0 ≤ h.f0 ∧ h.f0 ≤ 1152921504606846975))) ?_
  refine TL.mv (pB (decide (0 ≤ h.f0 ∧ h.f0 ≤ 1152921504606846975))) ?_
  rcases Bool.eq_false_or_eq_true (decide (0 ≤ h.f0 ∧ h.f0 ≤ 1152921504606846975)) with hb2 | hb2
  ·
   refine TL.known 14 hb2 rfl ?_
   refine TL.gy 14 (Step.fieldAddr (q := 0) (off := 1) (n := 1) (one := true) rfl rfl (lt_ok rfl) (by kernel_rfl) (Nat.succ_ne_zero _) rfl) ?_
   refine TL.gy 14 (Step.load_box (c := cI h.f1) rfl rfl (lt_ok rfl) (by kernel_rfl) rfl rfl rfl) ?_
   refine TL.gy 14 (Step.cl (xs := [.tmp 16, .const (.int .i64 1), .const (.int .i64 1152921504606846975)]) (ps := [(pI h.f1), (pI 1), (pI 1152921504606846975)]) (g := .func 52) false (.cons (.one (.d _)) (.cons (.one (.d _)) (.cons (.one (.d _)) .nil))) (ok_impl_within h.f1 1 1152921504606846975)) ?_
   refine TL.pk true (pB (decide (1 ≤ h.f1 ∧ h.f1 ≤ 1152921504606846975))) ?_
   refine TL.mv (pB (decide (1 ≤ h.f1 ∧ h.f1 ≤ 1152921504606846975))) ?_
   rcases Bool.eq_false_or_eq_true (decide (1 ≤ h.f1 ∧ h.f1 ≤ 1152921504606846975)) with hb3 | hb3
   ·
    refine TL.known 19 hb3 rfl ?_
    refine TL.gy 19 (Step.fieldAddr (q := 0) (off := 2) (n := 1) (one := true) rfl rfl (lt_ok rfl) (by kernel_rfl) (Nat.succ_ne_zero _) rfl) ?_
    refine TL.gy 19 (Step.load_box (c := cI h.f2) rfl rfl (lt_ok rfl) (by kernel_rfl) rfl rfl rfl) ?_
    refine TL.gy 19 (Step.fieldAddr (q := 0) (off := 0) (n := 1) (one := true) rfl rfl (lt_ok rfl) (by kernel_rfl) (Nat.succ_ne_zero _) rfl) ?_
    refine TL.gy 19 (Step.load_box (c := cI l.f0) rfl rfl (lt_ok rfl) (by kernel_rfl) rfl rfl rfl) ?_
    refine TL.gy 19 (Step.bin (r := .int .i64 (IntKind.i64.wrap (l.f0 - 1))) rfl rfl (lt_ok rfl) rfl rfl (Bin.sub (a := l.f0) (b := 1) (rfl))) ?_
    refine TL.gy 19 (Step.cl (xs := [.tmp 21, .const (.int .i64 0), .tmp 24]) (ps := [(pI h.f2), (pI 0), (pI (IntKind.i64.wrap (l.f0 - 1)))]) (g := .func 52) false (.cons (.one (.d _)) (.cons (.one (.d _)) (.cons (.one (.d _)) .nil))) (ok_impl_within h.f2 0 (IntKind.i64.wrap (l.f0 - 1)))) ?_
    refine TL.pk true (pB (decide (0 ≤ h.f2 ∧ h.f2 ≤ (IntKind.i64.wrap (l.f0 - 1))))) ?_
    refine TL.mv (pB (decide (0 ≤ h.f2 ∧ h.f2 ≤ (IntKind.i64.wrap (l.f0 - 1))))) ?_
    rcases Bool.eq_false_or_eq_true (decide (0 ≤ h.f2 ∧ h.f2 ≤ (IntKind.i64.wrap (l.f0 - 1)))) with hb4 | hb4
    ·
     refine TL.known 27 hb4 rfl ?_
     refine TL.gy 27 (Step.fieldAddr (q := 0) (off := 3) (n := 1) (one := true) rfl rfl (lt_ok rfl) (by kernel_rfl) (Nat.succ_ne_zero _) rfl) ?_
     refine TL.gy 27 (Step.load_box (c := cS h.f3) rfl rfl (lt_ok rfl) (by kernel_rfl) rfl rfl rfl) ?_
     refine TL.gy 27 (Step.fieldAddr (q := 0) (off := 4) (n := 1) (one := true) rfl rfl (lt_ok rfl) (by kernel_rfl) (Nat.succ_ne_zero _) rfl) ?_
     refine TL.gy 27 (Step.load_box (c := cS h.f4) rfl rfl (lt_ok rfl) (by kernel_rfl) rfl rfl rfl) ?_
     refine TL.gy 27 (Step.lit_d (e := 22) (z := 1) (by_ := 24) (xs := [.tmp 29, .tmp 31]) (pss := [[cS h.f3], [cS h.f4]]) (ds := [(.ints .u8 h.f3), (.ints .u8 h.f4)]) (d := (.bss [h.f3, h.f4])) rfl rfl (lt_ok rfl) (by kernel_rfl) rfl rfl (.cons rfl (.cons rfl .nil)) (by simp) (le_ok rfl) (le_ok rfl) rfl rfl trivial rfl rfl) ?_
     refine TL.gy 27 (Step.cl (xs := [.tmp 32]) (ps := [(.one (.d (.bss [h.f3, h.f4])))]) (g := .func 55) false (.cons (.one (.d _)) .nil) (ok_impl_areHashes [h.f3, h.f4])) ?_
     refine TL.pk true (pB (hashes [h.f3, h.f4])) ?_
     refine TL.mv (pB (hashes [h.f3, h.f4])) ?_
     rcases Bool.eq_false_or_eq_true (hashes [h.f3, h.f4]) with hb5 | hb5
     ·
      refine TL.known 35 hb5 rfl ?_
      refine TL.gy 35 (Step.load_box_agg (n := 10) (qs := [cI h.f0, cI h.f1, cI h.f2, cS h.f3, cS h.f4, cI h.f5.f0, cI h.f5.f1, cS h.f5.f2, cS h.f5.f3, .d (.bss h.f5.f4)]) rfl rfl (lt_ok rfl) (by kernel_rfl) rfl rfl rfl rfl) ?_
      refine TL.gy 35 (Step.cl (xs := [.tmp 36]) (ps := [(.agg [cI h.f0, cI h.f1, cI h.f2, cS h.f3, cS h.f4, cI h.f5.f0, cI h.f5.f1, cS h.f5.f2, cS h.f5.f3, .d (.bss h.f5.f4)])]) (g := .func 100) false (.cons (.agg (.cons (.d _) (.cons (.d _) (.cons (.d _) (.cons (.d _) (.cons (.d _) (.cons (.d _) (.cons (.d _) (.cons (.d _) (.cons (.d _) (.cons (.d _) .nil))))))))))) .nil) (ok_impl_Head__matches h (by first | assumption | exact rdHead_ok (l := l) (s := s) h0_))) ?_
      refine TL.pk true (pB (headFits h)) ?_
      refine TL.as (pB (headFits h)) ?_
      refine TL.nil ?_
      refine T.weaken (E' := { tm := [(4, (pB (headFits h)))], rows := [], boxes := [] }) (Env.le_mk ⟨by kernel_rfl, trivial⟩ trivial trivial) ?_
      refine T.ret ?_
      refine ⟨[(false, [.d (.bool (headFits h))])], (.cons rfl .nil), rfl, [], (RetC.rd' ?_ .nil)⟩ <;> (first | rfl | (congr 1; symm; simp only [headOk, hashes, List.all_cons, List.all_nil, *, Bool.and_true, Bool.true_and, Bool.and_false, Bool.false_and, decide_true, decide_false, and_true, true_and, and_self, and_false, false_and, Bool.and_self, not_true, not_false, Bool.not_true, Bool.not_false, ge_iff_le, gt_iff_lt, if_true, if_false, Bool.false_eq_true, ite_true, ite_false, reduceIte]; done) | (congr 1; symm; simp_all [headOk, hashes, List.all_cons, List.all_nil]; done) | (congr 1; symm; simp_all [headOk, hashes, List.all_cons, List.all_nil]; omega))
     ·
      refine TL.known 35 hb5 rfl ?_
      refine TL.gf 35 ?_
      refine TL.gf 35 ?_
      refine TL.pk false (pB false) ?_
      refine TL.as (pB false) ?_
      refine TL.nil ?_
      refine T.ret ?_
      refine ⟨[(false, [.d (.bool false)])], (.cons rfl .nil), rfl, [], (RetC.rd' ?_ .nil)⟩ <;> (first | rfl | (congr 1; symm; simp only [headOk, hashes, List.all_cons, List.all_nil, *, Bool.and_true, Bool.true_and, Bool.and_false, Bool.false_and, decide_true, decide_false, and_true, true_and, and_self, and_false, false_and, Bool.and_self, not_true, not_false, Bool.not_true, Bool.not_false, ge_iff_le, gt_iff_lt, if_true, if_false, Bool.false_eq_true, ite_true, ite_false, reduceIte]; done) | (congr 1; symm; simp_all [headOk, hashes, List.all_cons, List.all_nil]; done) | (congr 1; symm; simp_all [headOk, hashes, List.all_cons, List.all_nil]; omega))
    ·
     refine TL.known 27 hb4 rfl ?_
     refine TL.gf 27 ?_
     refine TL.gf 27 ?_
     refine TL.gf 27 ?_
     refine TL.gf 27 ?_
     refine TL.gf 27 ?_
     refine TL.gf 27 ?_
     refine TL.pk false (pB false) ?_
     refine TL.mv (pB false) ?_
     refine TL.gf 35 ?_
     refine TL.gf 35 ?_
     refine TL.pk false (pB false) ?_
     refine TL.as (pB false) ?_
     refine TL.nil ?_
     refine T.ret ?_
     refine ⟨[(false, [.d (.bool false)])], (.cons rfl .nil), rfl, [], (RetC.rd' ?_ .nil)⟩ <;> (first | rfl | (congr 1; symm; simp only [headOk, hashes, List.all_cons, List.all_nil, *, Bool.and_true, Bool.true_and, Bool.and_false, Bool.false_and, decide_true, decide_false, and_true, true_and, and_self, and_false, false_and, Bool.and_self, not_true, not_false, Bool.not_true, Bool.not_false, ge_iff_le, gt_iff_lt, if_true, if_false, Bool.false_eq_true, ite_true, ite_false, reduceIte]; done) | (congr 1; symm; simp_all [headOk, hashes, List.all_cons, List.all_nil]; done) | (congr 1; symm; simp_all [headOk, hashes, List.all_cons, List.all_nil]; omega))
   ·
    refine TL.known 19 hb3 rfl ?_
    refine TL.gf 19 ?_
    refine TL.gf 19 ?_
    refine TL.gf 19 ?_
    refine TL.gf 19 ?_
    refine TL.gf 19 ?_
    refine TL.gf 19 ?_
    refine TL.pk false (pB false) ?_
    refine TL.mv (pB false) ?_
    refine TL.gf 27 ?_
    refine TL.gf 27 ?_
    refine TL.gf 27 ?_
    refine TL.gf 27 ?_
    refine TL.gf 27 ?_
    refine TL.gf 27 ?_
    refine TL.pk false (pB false) ?_
    refine TL.mv (pB false) ?_
    refine TL.gf 35 ?_
    refine TL.gf 35 ?_
    refine TL.pk false (pB false) ?_
    refine TL.as (pB false) ?_
    refine TL.nil ?_
    refine T.ret ?_
    refine ⟨[(false, [.d (.bool false)])], (.cons rfl .nil), rfl, [], (RetC.rd' ?_ .nil)⟩ <;> (first | rfl | (congr 1; symm; simp only [headOk, hashes, List.all_cons, List.all_nil, *, Bool.and_true, Bool.true_and, Bool.and_false, Bool.false_and, decide_true, decide_false, and_true, true_and, and_self, and_false, false_and, Bool.and_self, not_true, not_false, Bool.not_true, Bool.not_false, ge_iff_le, gt_iff_lt, if_true, if_false, Bool.false_eq_true, ite_true, ite_false, reduceIte]; done) | (congr 1; symm; simp_all [headOk, hashes, List.all_cons, List.all_nil]; done) | (congr 1; symm; simp_all [headOk, hashes, List.all_cons, List.all_nil]; omega))
  ·
   refine TL.known 14 hb2 rfl ?_
   refine TL.gf 14 ?_
   refine TL.gf 14 ?_
   refine TL.gf 14 ?_
   refine TL.pk false (pB false) ?_
   refine TL.mv (pB false) ?_
   refine TL.gf 19 ?_
   refine TL.gf 19 ?_
   refine TL.gf 19 ?_
   refine TL.gf 19 ?_
   refine TL.gf 19 ?_
   refine TL.gf 19 ?_
   refine TL.pk false (pB false) ?_
   refine TL.mv (pB false) ?_
   refine TL.gf 27 ?_
   refine TL.gf 27 ?_
   refine TL.gf 27 ?_
   refine TL.gf 27 ?_
   refine TL.gf 27 ?_
   refine TL.gf 27 ?_
   refine TL.pk false (pB false) ?_
   refine TL.mv (pB false) ?_
   refine TL.gf 35 ?_
   refine TL.gf 35 ?_
   refine TL.pk false (pB false) ?_
   refine TL.as (pB false) ?_
   refine TL.nil ?_
   refine T.ret ?_
   refine ⟨[(false, [.d (.bool false)])], (.cons rfl .nil), rfl, [], (RetC.rd' ?_ .nil)⟩ <;> (first | rfl | (congr 1; symm; simp only [headOk, hashes, List.all_cons, List.all_nil, *, Bool.and_true, Bool.true_and, Bool.and_false, Bool.false_and, decide_true, decide_false, and_true, true_and, and_self, and_false, false_and, Bool.and_self, not_true, not_false, Bool.not_true, Bool.not_false, ge_iff_le, gt_iff_lt, if_true, if_false, Bool.false_eq_true, ite_true, ite_false, reduceIte]; done) | (congr 1; symm; simp_all [headOk, hashes, List.all_cons, List.all_nil]; done) | (congr 1; symm; simp_all [headOk, hashes, List.all_cons, List.all_nil]; omega))
 ·
  refine TL.known 9 hb1 rfl ?_
  refine TL.gf 9 ?_
  refine TL.gf 9 ?_
  refine TL.gf 9 ?_
  refine TL.pk false (pB false) ?_
  refine TL.mv (pB false) ?_
  refine TL.gf 14 ?_
  refine TL.gf 14 ?_
  refine TL.gf 14 ?_
  refine TL.pk false (pB false) ?_
  refine TL.mv (pB false) ?_
  refine TL.gf 19 ?_
  refine TL.gf 19 ?_
  refine TL.gf 19 ?_
  refine TL.gf 19 ?_
  refine TL.gf 19 ?_
  refine TL.gf 19 ?_
  refine TL.pk false (pB false) ?_
  refine TL.mv (pB false) ?_
  refine TL.gf 27 ?_
  refine TL.gf 27 ?_
  refine TL.gf 27 ?_
  refine TL.gf 27 ?_
  refine TL.gf 27 ?_
  refine TL.gf 27 ?_
  refine TL.pk false (pB false) ?_
  refine TL.mv (pB false) ?_
  refine TL.gf 35 ?_
  refine TL.gf 35 ?_
  refine TL.pk false (pB false) ?_
  refine TL.as (pB false) ?_
  refine TL.nil ?_
  refine T.ret ?_
  refine ⟨[(false, [.d (.bool false)])], (.cons rfl .nil), rfl, [], (RetC.rd' ?_ .nil)⟩ <;> (first | rfl | (congr 1; symm; simp only [headOk, hashes, List.all_cons, List.all_nil, *, Bool.and_true, Bool.true_and, Bool.and_false, Bool.false_and, decide_true, decide_false, and_true, true_and, and_self, and_false, false_and, Bool.and_self, not_true, not_false, Bool.not_true, Bool.not_false, ge_iff_le, gt_iff_lt, if_true, if_false, Bool.false_eq_true, ite_true, ite_false, reduceIte]; done) | (congr 1; symm; simp_all [headOk, hashes, List.all_cons, List.all_nil]; done) | (congr 1; symm; simp_all [headOk, hashes, List.all_cons, List.all_nil]; omega))
theorem ok_impl_BlockOk (l : SLimits) (x : SBlock) (h0_ : x.ok) (h1_ : x.sm) : RO Try.prog 41 [.agg l.cells, .agg x.cells] [(false, [.rd (.bool (blockOk l x))])] := by
 refine RO.intro Try.func41 rfl 41 rfl (le_ok rfl) fun w Z => ?_
 refine T.bnd 1 3 rfl rfl fun hb_1_3 => ?_
 simp only [D.size, List.length_map] at hb_1_3
 refine T.bnd 1 4 rfl rfl fun hb_1_4 => ?_
 simp only [D.size, List.length_map] at hb_1_4
 refine T.bnd 1 7 rfl rfl fun hb_1_7 => ?_
 simp only [D.size, List.length_map] at hb_1_7
 refine T.bnd 1 8 rfl rfl fun hb_1_8 => ?_
 simp only [D.size, List.length_map] at hb_1_8
 refine T.bnd 1 9 rfl rfl fun hb_1_9 => ?_
 simp only [D.size, List.length_map] at hb_1_9
 refine T.bnd 1 10 rfl rfl fun hb_1_10 => ?_
 simp only [D.size, List.length_map] at hb_1_10
 have hok_ := h0_
 have hsm_ := h1_
 obtain ⟨o0, o1⟩ := h0_
 obtain ⟨s0, s1⟩ := h1_
 have hrt_ := treeRoot_u8 x.f1
 have ho4_ := o0.2.2.2.2.1
 refine T.seq ?_
 refine T.region ?_
 refine TL.c (Step.box (p := (.agg [cI l.f0, cI l.f1, cI l.f2, cI l.f3, cI l.f4])) (ps := [cI l.f0, cI l.f1, cI l.f2, cI l.f3, cI l.f4]) rfl rfl (lt_ok rfl) rfl rfl rfl rfl rfl) ?_
 refine TL.c (Step.box (p := (.agg [cI x.f0.f0, cI x.f0.f1, cI x.f0.f2, cS x.f0.f3, cS x.f0.f4, cI x.f0.f5.f0, cI x.f0.f5.f1, cS x.f0.f5.f2, cS x.f0.f5.f3, .d (.bss x.f0.f5.f4), .d (.bss x.f1)])) (ps := [cI x.f0.f0, cI x.f0.f1, cI x.f0.f2, cS x.f0.f3, cS x.f0.f4, cI x.f0.f5.f0, cI x.f0.f5.f1, cS x.f0.f5.f2, cS x.f0.f5.f3, .d (.bss x.f0.f5.f4), .d (.bss x.f1)]) rfl rfl (lt_ok rfl) rfl rfl rfl rfl rfl) ?_
 refine TL.as (pB false) ?_
 refine TL.nil ?_
 refine T.seq ?_
 refine T.seq ?_
 refine T.region ?_
 refine TL.c (Step.fieldAddr (q := 0) (off := 10) (n := 1) (one := true) rfl rfl (lt_ok rfl) (by kernel_rfl) (Nat.succ_ne_zero _) rfl) ?_
 refine TL.c (Step.load_box (c := .d (.bss x.f1)) rfl rfl (lt_ok rfl) (by kernel_rfl) rfl rfl rfl) ?_
 refine TL.c (Step.len (e := 22) (z := 1) (d := (.bss x.f1)) rfl rfl (lt_ok rfl) (by kernel_rfl) rfl rfl) ?_
 refine TL.mv (pI 0) ?_
 refine TL.nil ?_
 refine T.block ?_
 refine T.loop (ι := Nat) (fun xx_ => { tm := [(2, (.one (.ptr 2 0))), (3, (.one (.ptr 3 0))), (8, (.one (.d (.bss x.f1)))), (9, (pI (x.f1.length : Int))), (10, (pI (xx_ : Int)))], rows := [], boxes := [(2, (55, [cI l.f0, cI l.f1, cI l.f2, cI l.f3, cI l.f4])), (3, (61, [cI x.f0.f0, cI x.f0.f1, cI x.f0.f2, cS x.f0.f3, cS x.f0.f4, cI x.f0.f5.f0, cI x.f0.f5.f1, cS x.f0.f5.f2, cS x.f0.f5.f3, .d (.bss x.f0.f5.f4), .d (.bss x.f1)]))] }) (fun xx_ => xx_ ≤ x.f1.length ∧ txsOk l (x.f1.take xx_) = true) (fun xx_ => x.f1.length - xx_) 0 ?_ ?_ ?_
 · refine Env.le_mk ⟨rfl, rfl, rfl, rfl, ?_, trivial⟩ trivial ⟨rfl, rfl, trivial⟩ <;> (first | rfl | (simp; done) | (congr 3; omega))
 · exact ⟨Nat.zero_le _, by rw [List.take_zero]; rfl⟩
 ·
  intro i hx
  try dsimp only at hx ⊢
  obtain ⟨hx1, hx2⟩ := hx
  refine T.seq ?_
  refine T.region ?_
  refine TL.c (Step.bin rfl rfl (lt_ok rfl) rfl rfl (Bin.lss (k := .i64) (a := (i : Int)) (b := (x.f1.length : Int)))) ?_
  refine TL.nil ?_
  refine T.seq ?_
  refine T.cond (b := decide ((i : Int) < (x.f1.length : Int))) rfl (fun h1 => ?_) (fun h1 => ?_)
  ·
   replace h1 := of_decide_eq_true h1
   refine T.skip ?_
   refine T.seq ?_
   refine T.block ?_
   refine T.seq ?_
   refine T.region ?_
   refine TL.c (Step.index (e := 22) (z := 1) (i := (i : Int)) rfl rfl (lt_ok rfl) (by kernel_rfl) rfl rfl rfl (lt_ok rfl) rfl (by first | omega | (simp; omega)) (by simp only [D.size]; first | omega | (simp; omega))) ?_
   refine TL.c (Step.load (e := (.ints .u8 (x.f1.getD i []))) rfl rfl (lt_ok rfl) (by kernel_rfl) rfl rfl) ?_
   refine TL.as (pS (x.f1.getD i [])) ?_
   refine TL.nil ?_
   refine T.seq ?_
   refine T.region ?_
   refine TL.mv (pS (x.f1.getD i [])) ?_
   refine TL.c (Step.len (e := 5) (z := 1) (d := (.ints .u8 (x.f1.getD i []))) rfl rfl (lt_ok rfl) (by kernel_rfl) rfl rfl) ?_
   refine TL.c (Step.fieldAddr (q := 0) (off := 1) (n := 1) (one := true) rfl rfl (lt_ok rfl) (by kernel_rfl) (Nat.succ_ne_zero _) rfl) ?_
   refine TL.c (Step.load_box (c := cI l.f1) rfl rfl (lt_ok rfl) (by kernel_rfl) rfl rfl rfl) ?_
   refine TL.c (Step.bin rfl rfl (lt_ok rfl) rfl rfl (Bin.gtr (k := .i64) (a := ((x.f1.getD i []).length : Int)) (b := l.f1))) ?_
   refine TL.nil ?_
   refine T.cond (b := decide (l.f1 < ((x.f1.getD i []).length : Int))) rfl (fun h2 => ?_) (fun h2 => ?_)
   ·
    replace h2 := of_decide_eq_true h2
    refine T.seq ?_
    refine T.region ?_
    refine TL.as (pB false) ?_
    refine TL.nil ?_
    refine T.ret ?_
    refine ⟨[(false, [.d (.bool false)])], (.cons rfl .nil), rfl, [], (RetC.rd' ?_ .nil)⟩ <;> ((congr 1; symm; first | (unfold blockOk; rw [txsOk_no (i := i) (by omega) (by omega)]; simp; done) | (rw [List.take_of_length_le (by omega)] at hx2; rw [blockOk_mk (by assumption) (by omega) hx2]; first | done | rfl | assumption | exact decide_eq_true ‹_› | exact decide_eq_false ‹_›) | (rw [List.take_of_length_le (by omega)] at hx2; simp_all [blockOk]; done) | (simp_all [blockOk]; done) | (rw [List.take_of_length_le (by omega)] at hx2; simp_all [blockOk]; omega) | (simp_all [blockOk]; omega)))
   ·
    replace h2 := of_decide_eq_false h2
    refine T.skip ?_
    refine T.region ?_
    refine TL.c (Step.bin (r := .int .i64 ((i : Int) + 1)) rfl rfl (lt_ok rfl) rfl rfl (Bin.add (a := (i : Int)) (b := 1) (by first | exact wrap_ok (by first | omega | (simp; omega)) (by first | omega | (simp; omega)) | rfl))) ?_
    refine TL.mv (pI ((i : Int) + 1)) ?_
    refine TL.nil ?_
    refine ⟨i + 1, by (refine ⟨by omega, txsOk_step (by omega) hx2 (by omega)⟩), by first | omega | (dsimp only; omega), Env.le_mk ⟨rfl, rfl, rfl, rfl, ?_, trivial⟩ trivial ⟨rfl, rfl, trivial⟩⟩ <;> (first | rfl | (simp; done) | (congr 3; omega))
  ·
   replace h1 := of_decide_eq_false h1
   refine T.exit ?_
   refine T.seq ?_
   rcases Bool.eq_false_or_eq_true (headOk l x.f0) with hb3 | hb3
   ·
    rcases Bool.eq_false_or_eq_true (decide ((x.f1.length : Int) ≤ l.f2)) with hb4 | hb4
    ·
     have hb4' := hb4
     replace hb4' := of_decide_eq_true hb4'
     have nn5 := treeRoot_len x.f1
     have nn6 := treeRoot_u8 x.f1
     refine T.draw [⟨20, (.agg [cI l.f0, cI l.f1, cI l.f2, cI l.f3, cI l.f4]), []⟩, ⟨21, (.one (.ptr 3 0)), []⟩, ⟨22, (.agg [cI x.f0.f0, cI x.f0.f1, cI x.f0.f2, cS x.f0.f3, cS x.f0.f4, cI x.f0.f5.f0, cI x.f0.f5.f1, cS x.f0.f5.f2, cS x.f0.f5.f3, .d (.bss x.f0.f5.f4)]), []⟩, ⟨23, (pB true), []⟩, ⟨24, (pB true), []⟩, ⟨25, (.one (.ptr 3 10)), []⟩, ⟨26, (.one (.d (.bss x.f1))), []⟩, ⟨27, (pI (x.f1.length : Int)), []⟩, ⟨28, (.one (.ptr 2 2)), []⟩, ⟨29, (pI l.f2), []⟩, ⟨30, (pB true), []⟩, ⟨31, (pB true), []⟩, ⟨32, (pB true), []⟩, ⟨33, (.one (.ptr 3 0)), []⟩, ⟨34, (.one (.ptr 3 4)), []⟩, ⟨35, (pS x.f0.f4), []⟩, ⟨36, (.one (.ptr 3 10)), []⟩, ⟨37, (.one (.d (.bss x.f1))), []⟩, ⟨38, (.one (.row 1038 [])), [(1038, (5, (.ints .u8 (treeRoot x.f1))))]⟩, ⟨39, (pB (decide (x.f0.f4 = (treeRoot x.f1)))), []⟩, ⟨40, (pB (decide (x.f0.f4 = (treeRoot x.f1)))), []⟩, ⟨4, (pB (decide (x.f0.f4 = (treeRoot x.f1)))), []⟩] (by kernel_rfl) (by kernel_rfl) ?_ ?_
     ·
      refine .cons (fun E A => OpStep.plain rfl (Step.load_box_agg (n := 5) (qs := [cI l.f0, cI l.f1, cI l.f2, cI l.f3, cI l.f4]) (t := 20) rfl rfl (by exact lt_ok rfl) (by kernel_rfl) (A.g 2 rfl) (by exact A.box rfl) rfl rfl)) ?_
      refine .cons (fun E A => OpStep.plain rfl (Step.fa (off := 0) (n := 10) (one := false) 0 21 (A.g 3 rfl))) ?_
      refine .cons (fun E A => OpStep.plain rfl (Step.load_box_agg (n := 10) (qs := [cI x.f0.f0, cI x.f0.f1, cI x.f0.f2, cS x.f0.f3, cS x.f0.f4, cI x.f0.f5.f0, cI x.f0.f5.f1, cS x.f0.f5.f2, cS x.f0.f5.f3, .d (.bss x.f0.f5.f4)]) (t := 22) rfl rfl (by exact lt_ok rfl) (by kernel_rfl) (A.g 21 rfl) (by exact A.box rfl) rfl rfl)) ?_
      refine .cons (fun E A => OpStep.plain rfl (Step.tb 23 (headOk l x.f0) hb3 (Step.cd (xs := [.tmp 20, .tmp 22]) (ps := [(.agg [cI l.f0, cI l.f1, cI l.f2, cI l.f3, cI l.f4]), (.agg [cI x.f0.f0, cI x.f0.f1, cI x.f0.f2, cS x.f0.f3, cS x.f0.f4, cI x.f0.f5.f0, cI x.f0.f5.f1, cS x.f0.f5.f2, cS x.f0.f5.f3, .d (.bss x.f0.f5.f4)])]) (g := .func 79) false 23 (evs_cons (A.g 20 rfl) (evs_cons (A.g 22 rfl) (rfl))) (.cons (.agg (.cons (.d _) (.cons (.d _) (.cons (.d _) (.cons (.d _) (.cons (.d _) .nil)))))) (.cons (.agg (.cons (.d _) (.cons (.d _) (.cons (.d _) (.cons (.d _) (.cons (.d _) (.cons (.d _) (.cons (.d _) (.cons (.d _) (.cons (.d _) (.cons (.d _) .nil))))))))))) .nil)) (ok_impl_HeadOk l x.f0 (by first | assumption | exact mem_getD o0 (by omega) | exact mem_getD h0_ (by omega)) (by first | assumption | exact mem_getD s0.2 (by omega) | exact mem_getD h1_ (by omega))) (At.freshRows A rfl)))) ?_
      refine .cons (fun E A => A.mv 23 24) ?_
      refine .cons (fun E A => A.y 24 (Step.fa (off := 10) (n := 1) (one := true) 0 25 (A.g 3 rfl))) ?_
      refine .cons (fun E A => A.y 24 (Step.load_box (c := .d (.bss x.f1)) (t := 26) rfl rfl (by exact lt_ok rfl) (by kernel_rfl) (A.g 25 rfl) (by exact A.box rfl) rfl)) ?_
      refine .cons (fun E A => A.y 24 (Step.len (e := 22) (z := 1) (d := (.bss x.f1)) (t := 27) rfl rfl (by exact lt_ok rfl) (by kernel_rfl) (A.g 26 rfl) rfl)) ?_
      refine .cons (fun E A => A.y 24 (Step.fa (off := 2) (n := 1) (one := true) 0 28 (A.g 2 rfl))) ?_
      refine .cons (fun E A => A.y 24 (Step.load_box (c := cI l.f2) (t := 29) rfl rfl (by exact lt_ok rfl) (by kernel_rfl) (A.g 28 rfl) (by exact A.box rfl) rfl)) ?_
      refine .cons (fun E A => A.y 24 (Step.tb 30 (decide ((x.f1.length : Int) ≤ l.f2)) hb4 (Step.bd 30 (A.g 27 rfl) (A.g 29 rfl) (Bin.leq (k := .i64) (a := (x.f1.length : Int)) (b := l.f2))))) ?_
      refine .cons (fun E A => OpStep.plain rfl (Step.pick (b := true) (p := (pB true)) (t := 31) rfl rfl (by exact lt_ok rfl) (A.g 24 rfl) (A.g 30 rfl))) ?_
      refine .cons (fun E A => A.mv 31 32) ?_
      refine .cons (fun E A => A.y 32 (Step.fa (off := 0) (n := 10) (one := false) 0 33 (A.g 3 rfl))) ?_
      refine .cons (fun E A => A.y 32 (Step.fa (off := 4) (n := 1) (one := true) 0 34 (A.g 33 rfl))) ?_
      refine .cons (fun E A => A.y 32 (Step.load_box (c := cS x.f0.f4) (t := 35) rfl rfl (by exact lt_ok rfl) (by kernel_rfl) (A.g 34 rfl) (by exact A.box rfl) rfl)) ?_
      refine .cons (fun E A => A.y 32 (Step.fa (off := 10) (n := 1) (one := true) 0 36 (A.g 3 rfl))) ?_
      refine .cons (fun E A => A.y 32 (Step.load_box (c := .d (.bss x.f1)) (t := 37) rfl rfl (by exact lt_ok rfl) (by kernel_rfl) (A.g 36 rfl) (by exact A.box rfl) rfl)) ?_
      refine .cons (fun E A => A.y 32 (Step.cd (xs := [.tmp 37]) (ps := [(.one (.d (.bss x.f1)))]) (g := .func 13) false 38 (evs_cons (A.g 37 rfl) (rfl)) (.cons (.one (.d _)) .nil) (ok_impl_TreeRoot x.f1 (by first | assumption | exact mem_sub (by assumption) _ _ | exact s0.2 | exact o1) (by first | assumption | exact mem_sub (by assumption) _ _ | exact s0.2 | exact s1.2)) (At.freshRows A rfl))) ?_
      refine .cons (fun E A => A.y 32 (Step.cd (xs := [.tmp 35, .tmp 38]) (ps := [(pS x.f0.f4), (.one (.row 1038 []))]) (g := .func 17) false 39 (evs_cons (A.g 35 rfl) (evs_cons (A.g 38 rfl) (rfl))) (.cons (.one (.d _)) (.cons (.one (.row rfl (by exact (A.row 1038 (by kernel_rfl)).trans rfl) rfl rfl)) .nil)) (ok_impl_SameBytes x.f0.f4 (treeRoot x.f1) (by first | assumption | exact s1.2 | exact o1 | omega) (by first | assumption | exact s1.2 | exact o1 | omega)) (At.freshRows A rfl))) ?_
      refine .cons (fun E A => OpStep.plain rfl (Step.pick (b := true) (p := (pB (decide (x.f0.f4 = (treeRoot x.f1))))) (t := 40) rfl rfl (by exact lt_ok rfl) (A.g 32 rfl) (A.g 39 rfl))) ?_
      refine .cons (fun E A => A.as 40 4) ?_
      exact .nil _ _
     refine TL.nil ?_
     refine T.ret ?_
     refine ⟨[(false, [.d (.bool (decide (x.f0.f4 = (treeRoot x.f1))))])], (.cons rfl .nil), rfl, [], (RetC.rd' ?_ .nil)⟩ <;> ((congr 1; symm; first | (unfold blockOk; rw [txsOk_no (i := i) (by omega) (by omega)]; simp; done) | (rw [List.take_of_length_le (by omega)] at hx2; rw [blockOk_mk (by assumption) (by omega) hx2]; first | done | rfl | assumption | exact decide_eq_true ‹_› | exact decide_eq_false ‹_›) | (rw [List.take_of_length_le (by omega)] at hx2; simp_all [blockOk]; done) | (simp_all [blockOk]; done) | (rw [List.take_of_length_le (by omega)] at hx2; simp_all [blockOk]; omega) | (simp_all [blockOk]; omega)))
    ·
     have hb4' := hb4
     replace hb4' := of_decide_eq_false hb4'
     refine T.draw [⟨20, (.agg [cI l.f0, cI l.f1, cI l.f2, cI l.f3, cI l.f4]), []⟩, ⟨21, (.one (.ptr 3 0)), []⟩, ⟨22, (.agg [cI x.f0.f0, cI x.f0.f1, cI x.f0.f2, cS x.f0.f3, cS x.f0.f4, cI x.f0.f5.f0, cI x.f0.f5.f1, cS x.f0.f5.f2, cS x.f0.f5.f3, .d (.bss x.f0.f5.f4)]), []⟩, ⟨23, (pB true), []⟩, ⟨24, (pB true), []⟩, ⟨25, (.one (.ptr 3 10)), []⟩, ⟨26, (.one (.d (.bss x.f1))), []⟩, ⟨27, (pI (x.f1.length : Int)), []⟩, ⟨28, (.one (.ptr 2 2)), []⟩, ⟨29, (pI l.f2), []⟩, ⟨30, (pB false), []⟩, ⟨31, (pB false), []⟩, ⟨32, (pB false), []⟩, ⟨33, (.tup []), []⟩, ⟨34, (.tup []), []⟩, ⟨35, (.tup []), []⟩, ⟨36, (.tup []), []⟩, ⟨37, (.tup []), []⟩, ⟨38, (.tup []), []⟩, ⟨39, (.tup []), []⟩, ⟨40, (pB false), []⟩, ⟨4, (pB false), []⟩] (by kernel_rfl) (by kernel_rfl) ?_ ?_
     ·
      refine .cons (fun E A => OpStep.plain rfl (Step.load_box_agg (n := 5) (qs := [cI l.f0, cI l.f1, cI l.f2, cI l.f3, cI l.f4]) (t := 20) rfl rfl (by exact lt_ok rfl) (by kernel_rfl) (A.g 2 rfl) (by exact A.box rfl) rfl rfl)) ?_
      refine .cons (fun E A => OpStep.plain rfl (Step.fa (off := 0) (n := 10) (one := false) 0 21 (A.g 3 rfl))) ?_
      refine .cons (fun E A => OpStep.plain rfl (Step.load_box_agg (n := 10) (qs := [cI x.f0.f0, cI x.f0.f1, cI x.f0.f2, cS x.f0.f3, cS x.f0.f4, cI x.f0.f5.f0, cI x.f0.f5.f1, cS x.f0.f5.f2, cS x.f0.f5.f3, .d (.bss x.f0.f5.f4)]) (t := 22) rfl rfl (by exact lt_ok rfl) (by kernel_rfl) (A.g 21 rfl) (by exact A.box rfl) rfl rfl)) ?_
      refine .cons (fun E A => OpStep.plain rfl (Step.tb 23 (headOk l x.f0) hb3 (Step.cd (xs := [.tmp 20, .tmp 22]) (ps := [(.agg [cI l.f0, cI l.f1, cI l.f2, cI l.f3, cI l.f4]), (.agg [cI x.f0.f0, cI x.f0.f1, cI x.f0.f2, cS x.f0.f3, cS x.f0.f4, cI x.f0.f5.f0, cI x.f0.f5.f1, cS x.f0.f5.f2, cS x.f0.f5.f3, .d (.bss x.f0.f5.f4)])]) (g := .func 79) false 23 (evs_cons (A.g 20 rfl) (evs_cons (A.g 22 rfl) (rfl))) (.cons (.agg (.cons (.d _) (.cons (.d _) (.cons (.d _) (.cons (.d _) (.cons (.d _) .nil)))))) (.cons (.agg (.cons (.d _) (.cons (.d _) (.cons (.d _) (.cons (.d _) (.cons (.d _) (.cons (.d _) (.cons (.d _) (.cons (.d _) (.cons (.d _) (.cons (.d _) .nil))))))))))) .nil)) (ok_impl_HeadOk l x.f0 (by first | assumption | exact mem_getD o0 (by omega) | exact mem_getD h0_ (by omega)) (by first | assumption | exact mem_getD s0.2 (by omega) | exact mem_getD h1_ (by omega))) (At.freshRows A rfl)))) ?_
      refine .cons (fun E A => A.mv 23 24) ?_
      refine .cons (fun E A => A.y 24 (Step.fa (off := 10) (n := 1) (one := true) 0 25 (A.g 3 rfl))) ?_
      refine .cons (fun E A => A.y 24 (Step.load_box (c := .d (.bss x.f1)) (t := 26) rfl rfl (by exact lt_ok rfl) (by kernel_rfl) (A.g 25 rfl) (by exact A.box rfl) rfl)) ?_
      refine .cons (fun E A => A.y 24 (Step.len (e := 22) (z := 1) (d := (.bss x.f1)) (t := 27) rfl rfl (by exact lt_ok rfl) (by kernel_rfl) (A.g 26 rfl) rfl)) ?_
      refine .cons (fun E A => A.y 24 (Step.fa (off := 2) (n := 1) (one := true) 0 28 (A.g 2 rfl))) ?_
      refine .cons (fun E A => A.y 24 (Step.load_box (c := cI l.f2) (t := 29) rfl rfl (by exact lt_ok rfl) (by kernel_rfl) (A.g 28 rfl) (by exact A.box rfl) rfl)) ?_
      refine .cons (fun E A => A.y 24 (Step.tb 30 (decide ((x.f1.length : Int) ≤ l.f2)) hb4 (Step.bd 30 (A.g 27 rfl) (A.g 29 rfl) (Bin.leq (k := .i64) (a := (x.f1.length : Int)) (b := l.f2))))) ?_
      refine .cons (fun E A => OpStep.plain rfl (Step.pick (b := true) (p := (pB false)) (t := 31) rfl rfl (by exact lt_ok rfl) (A.g 24 rfl) (A.g 30 rfl))) ?_
      refine .cons (fun E A => A.mv 31 32) ?_
      refine .cons (fun E A => A.of 32) ?_
      refine .cons (fun E A => A.of 32) ?_
      refine .cons (fun E A => A.of 32) ?_
      refine .cons (fun E A => A.of 32) ?_
      refine .cons (fun E A => A.of 32) ?_
      refine .cons (fun E A => A.of 32) ?_
      refine .cons (fun E A => A.of 32) ?_
      refine .cons (fun E A => OpStep.plain rfl (Step.pick (b := false) (p := (pB false)) (t := 40) rfl rfl (by exact lt_ok rfl) (A.g 32 rfl) rfl)) ?_
      refine .cons (fun E A => A.as 40 4) ?_
      exact .nil _ _
     refine TL.nil ?_
     refine T.ret ?_
     refine ⟨[(false, [.d (.bool false)])], (.cons rfl .nil), rfl, [], (RetC.rd' ?_ .nil)⟩ <;> ((congr 1; symm; first | (unfold blockOk; rw [txsOk_no (i := i) (by omega) (by omega)]; simp; done) | (rw [List.take_of_length_le (by omega)] at hx2; rw [blockOk_mk (by assumption) (by omega) hx2]; first | done | rfl | assumption | exact decide_eq_true ‹_› | exact decide_eq_false ‹_›) | (rw [List.take_of_length_le (by omega)] at hx2; simp_all [blockOk]; done) | (simp_all [blockOk]; done) | (rw [List.take_of_length_le (by omega)] at hx2; simp_all [blockOk]; omega) | (simp_all [blockOk]; omega)))
   ·
    refine T.draw [⟨20, (.agg [cI l.f0, cI l.f1, cI l.f2, cI l.f3, cI l.f4]), []⟩, ⟨21, (.one (.ptr 3 0)), []⟩, ⟨22, (.agg [cI x.f0.f0, cI x.f0.f1, cI x.f0.f2, cS x.f0.f3, cS x.f0.f4, cI x.f0.f5.f0, cI x.f0.f5.f1, cS x.f0.f5.f2, cS x.f0.f5.f3, .d (.bss x.f0.f5.f4)]), []⟩, ⟨23, (pB false), []⟩, ⟨24, (pB false), []⟩, ⟨25, (.tup []), []⟩, ⟨26, (.tup []), []⟩, ⟨27, (.tup []), []⟩, ⟨28, (.tup []), []⟩, ⟨29, (.tup []), []⟩, ⟨30, (.tup []), []⟩, ⟨31, (pB false), []⟩, ⟨32, (pB false), []⟩, ⟨33, (.tup []), []⟩, ⟨34, (.tup []), []⟩, ⟨35, (.tup []), []⟩, ⟨36, (.tup []), []⟩, ⟨37, (.tup []), []⟩, ⟨38, (.tup []), []⟩, ⟨39, (.tup []), []⟩, ⟨40, (pB false), []⟩, ⟨4, (pB false), []⟩] (by kernel_rfl) (by kernel_rfl) ?_ ?_
    ·
     refine .cons (fun E A => OpStep.plain rfl (Step.load_box_agg (n := 5) (qs := [cI l.f0, cI l.f1, cI l.f2, cI l.f3, cI l.f4]) (t := 20) rfl rfl (by exact lt_ok rfl) (by kernel_rfl) (A.g 2 rfl) (by exact A.box rfl) rfl rfl)) ?_
     refine .cons (fun E A => OpStep.plain rfl (Step.fa (off := 0) (n := 10) (one := false) 0 21 (A.g 3 rfl))) ?_
     refine .cons (fun E A => OpStep.plain rfl (Step.load_box_agg (n := 10) (qs := [cI x.f0.f0, cI x.f0.f1, cI x.f0.f2, cS x.f0.f3, cS x.f0.f4, cI x.f0.f5.f0, cI x.f0.f5.f1, cS x.f0.f5.f2, cS x.f0.f5.f3, .d (.bss x.f0.f5.f4)]) (t := 22) rfl rfl (by exact lt_ok rfl) (by kernel_rfl) (A.g 21 rfl) (by exact A.box rfl) rfl rfl)) ?_
     refine .cons (fun E A => OpStep.plain rfl (Step.tb 23 (headOk l x.f0) hb3 (Step.cd (xs := [.tmp 20, .tmp 22]) (ps := [(.agg [cI l.f0, cI l.f1, cI l.f2, cI l.f3, cI l.f4]), (.agg [cI x.f0.f0, cI x.f0.f1, cI x.f0.f2, cS x.f0.f3, cS x.f0.f4, cI x.f0.f5.f0, cI x.f0.f5.f1, cS x.f0.f5.f2, cS x.f0.f5.f3, .d (.bss x.f0.f5.f4)])]) (g := .func 79) false 23 (evs_cons (A.g 20 rfl) (evs_cons (A.g 22 rfl) (rfl))) (.cons (.agg (.cons (.d _) (.cons (.d _) (.cons (.d _) (.cons (.d _) (.cons (.d _) .nil)))))) (.cons (.agg (.cons (.d _) (.cons (.d _) (.cons (.d _) (.cons (.d _) (.cons (.d _) (.cons (.d _) (.cons (.d _) (.cons (.d _) (.cons (.d _) (.cons (.d _) .nil))))))))))) .nil)) (ok_impl_HeadOk l x.f0 (by first | assumption | exact mem_getD o0 (by omega) | exact mem_getD h0_ (by omega)) (by first | assumption | exact mem_getD s0.2 (by omega) | exact mem_getD h1_ (by omega))) (At.freshRows A rfl)))) ?_
     refine .cons (fun E A => A.mv 23 24) ?_
     refine .cons (fun E A => A.of 24) ?_
     refine .cons (fun E A => A.of 24) ?_
     refine .cons (fun E A => A.of 24) ?_
     refine .cons (fun E A => A.of 24) ?_
     refine .cons (fun E A => A.of 24) ?_
     refine .cons (fun E A => A.of 24) ?_
     refine .cons (fun E A => OpStep.plain rfl (Step.pick (b := false) (p := (pB false)) (t := 31) rfl rfl (by exact lt_ok rfl) (A.g 24 rfl) rfl)) ?_
     refine .cons (fun E A => A.mv 31 32) ?_
     refine .cons (fun E A => A.of 32) ?_
     refine .cons (fun E A => A.of 32) ?_
     refine .cons (fun E A => A.of 32) ?_
     refine .cons (fun E A => A.of 32) ?_
     refine .cons (fun E A => A.of 32) ?_
     refine .cons (fun E A => A.of 32) ?_
     refine .cons (fun E A => A.of 32) ?_
     refine .cons (fun E A => OpStep.plain rfl (Step.pick (b := false) (p := (pB false)) (t := 40) rfl rfl (by exact lt_ok rfl) (A.g 32 rfl) rfl)) ?_
     refine .cons (fun E A => A.as 40 4) ?_
     exact .nil _ _
    refine TL.nil ?_
    refine T.ret ?_
    refine ⟨[(false, [.d (.bool false)])], (.cons rfl .nil), rfl, [], (RetC.rd' ?_ .nil)⟩ <;> ((congr 1; symm; first | (unfold blockOk; rw [txsOk_no (i := i) (by omega) (by omega)]; simp; done) | (rw [List.take_of_length_le (by omega)] at hx2; rw [blockOk_mk (by assumption) (by omega) hx2]; first | done | rfl | assumption | exact decide_eq_true ‹_› | exact decide_eq_false ‹_›) | (rw [List.take_of_length_le (by omega)] at hx2; simp_all [blockOk]; done) | (simp_all [blockOk]; done) | (rw [List.take_of_length_le (by omega)] at hx2; simp_all [blockOk]; omega) | (simp_all [blockOk]; omega)))
theorem ok_impl_BlockPath (l : SLimits) (x : SBlock) (i : Int) (h0_ : x.ok) (h1_ : x.sm) (h2_ : I64 i) : RO Try.prog 44 [.agg l.cells, .agg x.cells, .one (.int .i64 i)] [(false, [.own 22 (.bss (blockPath l x i))]), (false, [.rd (.bool (blockOk l x && decide (0 ≤ i ∧ i ≤ (x.f1.length : Int) - 1)))])] := by
 refine RO.intro Try.func44 rfl 18 rfl (le_ok rfl) fun w Z => ?_
 have hok_ := h0_
 have hsm_ := h1_
 obtain ⟨o0, o1⟩ := h0_
 obtain ⟨s0, s1⟩ := h1_
 have hrt_ := treeRoot_u8 x.f1
 have ho4_ := o0.2.2.2.2.1
 refine T.seq ?_
 refine T.region ?_
 refine TL.c (Step.box (p := (.agg [cI l.f0, cI l.f1, cI l.f2, cI l.f3, cI l.f4])) (ps := [cI l.f0, cI l.f1, cI l.f2, cI l.f3, cI l.f4]) rfl rfl (lt_ok rfl) rfl rfl rfl rfl rfl) ?_
 refine TL.c (Step.box (p := (.agg [cI x.f0.f0, cI x.f0.f1, cI x.f0.f2, cS x.f0.f3, cS x.f0.f4, cI x.f0.f5.f0, cI x.f0.f5.f1, cS x.f0.f5.f2, cS x.f0.f5.f3, .d (.bss x.f0.f5.f4), .d (.bss x.f1)])) (ps := [cI x.f0.f0, cI x.f0.f1, cI x.f0.f2, cS x.f0.f3, cS x.f0.f4, cI x.f0.f5.f0, cI x.f0.f5.f1, cS x.f0.f5.f2, cS x.f0.f5.f3, .d (.bss x.f0.f5.f4), .d (.bss x.f1)]) rfl rfl (lt_ok rfl) rfl rfl rfl rfl rfl) ?_
 refine TL.as (.one (.nil)) ?_
 refine TL.as (pB false) ?_
 refine TL.nil ?_
 refine T.seq ?_
 refine T.seq ?_
 refine T.region ?_
 refine TL.c (Step.load_box_agg (n := 5) (qs := [cI l.f0, cI l.f1, cI l.f2, cI l.f3, cI l.f4]) rfl rfl (lt_ok rfl) (by kernel_rfl) rfl rfl rfl rfl) ?_
 refine TL.c (Step.load_box_agg (n := 11) (qs := [cI x.f0.f0, cI x.f0.f1, cI x.f0.f2, cS x.f0.f3, cS x.f0.f4, cI x.f0.f5.f0, cI x.f0.f5.f1, cS x.f0.f5.f2, cS x.f0.f5.f3, .d (.bss x.f0.f5.f4), .d (.bss x.f1)]) rfl rfl (lt_ok rfl) (by kernel_rfl) rfl rfl rfl rfl) ?_
 refine TL.c (Step.cl (xs := [.tmp 8, .tmp 9]) (ps := [(.agg [cI l.f0, cI l.f1, cI l.f2, cI l.f3, cI l.f4]), (.agg [cI x.f0.f0, cI x.f0.f1, cI x.f0.f2, cS x.f0.f3, cS x.f0.f4, cI x.f0.f5.f0, cI x.f0.f5.f1, cS x.f0.f5.f2, cS x.f0.f5.f3, .d (.bss x.f0.f5.f4), .d (.bss x.f1)])]) (g := .func 41) false (.cons (.agg (.cons (.d _) (.cons (.d _) (.cons (.d _) (.cons (.d _) (.cons (.d _) .nil)))))) (.cons (.agg (.cons (.d _) (.cons (.d _) (.cons (.d _) (.cons (.d _) (.cons (.d _) (.cons (.d _) (.cons (.d _) (.cons (.d _) (.cons (.d _) (.cons (.d _) (.cons (.d _) .nil)))))))))))) .nil)) (ok_impl_BlockOk l x (by first | assumption | exact hok_) (by first | assumption | exact hsm_))) ?_
 refine TL.c (Step.not (b := (blockOk l x)) rfl rfl (lt_ok rfl) rfl) ?_
 refine TL.nil ?_
 refine T.cond (b := !(blockOk l x)) rfl (fun h1 => ?_) (fun h1 => ?_)
 ·
  replace h1 : (blockOk l x) = false := by simpa only [Bool.not_eq_true', Bool.not_eq_false'] using h1
  refine T.seq ?_
  refine T.region ?_
  refine TL.as (.one (.nil)) ?_
  refine TL.as (pB false) ?_
  refine TL.nil ?_
  refine T.ret ?_
  refine ⟨[(false, [.nil]), (false, [.d (.bool false)])], (.cons rfl (.cons rfl .nil)), rfl, [], (RetC.nilown' rfl ?_ (by first | exact trivial | exact D.wf_nil _) (RetC.rd' ?_ .nil))⟩ <;> (first | (congr 1; rw [blockPath_yes (l := l) (x := x) (by first | assumption | simpa using ‹(!blockOk l x) = false›)]; done) | (simp only [D.size]; rw [blockPath_no (l := l) (x := x) (by first | assumption | simpa using ‹(!blockOk l x) = true›)]; rfl) | (congr 1; rw [show blockOk l x = true from by first | assumption | simpa using ‹(!blockOk l x) = false›]; rfl) | (congr 1; rw [show blockOk l x = false from by first | assumption | simpa using ‹(!blockOk l x) = true›]; rfl))
 ·
  replace h1 : (blockOk l x) = true := by simpa only [Bool.not_eq_true', Bool.not_eq_false'] using h1
  refine T.skip ?_
  refine T.seq ?_
  refine T.region ?_
  refine TL.c (Step.fieldAddr (q := 0) (off := 10) (n := 1) (one := true) rfl rfl (lt_ok rfl) (by kernel_rfl) (Nat.succ_ne_zero _) rfl) ?_
  refine TL.c (Step.load_box (c := .d (.bss x.f1)) rfl rfl (lt_ok rfl) (by kernel_rfl) rfl rfl rfl) ?_
  refine TL.mv (pI i) ?_
  have nn2 := pathOf_len x.f1.length x.f1 i (Nat.le_refl _)
  refine TL.c (Step.cl (xs := [.tmp 13, .tmp 14]) (ps := [(.one (.d (.bss x.f1))), (pI i)]) (g := .func 22) false (.cons (.one (.d _)) (.cons (.one (.d _)) .nil)) (ok_impl_PathOf x.f1 i (by first | assumption | exact mem_sub (by assumption) _ _ | exact s0.2 | exact o1) (by first | assumption | exact mem_sub (by assumption) _ _ | exact s0.2 | exact s1.2) (by first | assumption | exact ⟨by omega, by omega⟩) (by first | omega | exact s0.1 | exact s1.1))) ?_
  refine TL.c (Step.extract (p := (.one (.row 1015 []))) rfl rfl (lt_ok rfl) rfl rfl) ?_
  refine TL.c (Step.extract (p := (pB (decide (0 ≤ i ∧ i ≤ (x.f1.length : Int) - 1)))) rfl rfl (lt_ok rfl) rfl rfl) ?_
  refine TL.as (.one (.row 1015 [])) ?_
  refine TL.as (pB (decide (0 ≤ i ∧ i ≤ (x.f1.length : Int) - 1))) ?_
  refine TL.nil ?_
  refine T.ret ?_
  refine ⟨[(false, [.row 1015 []]), (false, [.d (.bool (decide (0 ≤ i ∧ i ≤ (x.f1.length : Int) - 1)))])], (.cons rfl (.cons rfl .nil)), rfl, [1015], (RetC.own' rfl ?_ rfl (RetC.rd' ?_ .nil))⟩ <;> (first | (congr 1; rw [blockPath_yes (l := l) (x := x) (by first | assumption | simpa using ‹(!blockOk l x) = false›)]; done) | (simp only [D.size]; rw [blockPath_no (l := l) (x := x) (by first | assumption | simpa using ‹(!blockOk l x) = true›)]; rfl) | (congr 1; rw [show blockOk l x = true from by first | assumption | simpa using ‹(!blockOk l x) = false›]; rfl) | (congr 1; rw [show blockOk l x = false from by first | assumption | simpa using ‹(!blockOk l x) = true›]; rfl))
theorem ok_laws_markQc (a : SQc) (k : Int) (h0_ : 0 ≤ k) (h1_ : k + a.cm ≤ 4611686018427387904) : MK Try.prog 102 [.agg [.rd (.int .i64 a.f0), .rd (.int .i64 a.f1), .mk (.ints .u8 a.f2) (.ints .u8 (mkB a.f2 k)), .mk (.ints .u8 a.f3) (.ints .u8 (mkB a.f3 (k + (a.f2.length : Int)))), .mk (.bss a.f4) (.bss (mkBs a.f4 ((k + (a.f2.length : Int)) + (a.f3.length : Int))))], .one (.rd (.int .i64 k))] [(false, [.rd (.int .i64 (k + a.cm))])] := by
 refine MK.intro Try.func102 rfl 18 rfl (le_ok rfl) (le_ok rfl) rfl fun w Z IX pin Ts hp => ?_
 have n4 := cntBs_nonneg a.f4
 simp only [SQc.cm] at h1_
 refine T.seq ?_
 refine T.region ?_
 refine TL.c (Step.box (p := (.agg [cI a.f0, cI a.f1, .row 902 [], .row 903 [], .row 904 []])) (ps := [cI a.f0, cI a.f1, .row 902 [], .row 903 [], .row 904 []]) rfl rfl (lt_ok rfl) rfl rfl rfl rfl rfl) ?_
 refine TL.as (pI 0) ?_
 refine TL.nil ?_
 refine T.seq ?_
 refine T.region ?_
 refine TL.c (Step.fieldAddr (q := 0) (off := 2) (n := 1) (one := true) rfl rfl (lt_ok rfl) (by kernel_rfl) (Nat.succ_ne_zero _) rfl) ?_
 refine TL.c (Step.load_box (c := .row 902 []) rfl rfl (lt_ok rfl) (by kernel_rfl) rfl rfl rfl) ?_
 refine TL.mv (pI k) ?_
 refine TL.c (Step.callM2 (xs := [.tmp 6, .tmp 7]) (ps := [(.one (.row 902 [])), (pI k)]) (js := [(902, (.ints .u8 (mkB a.f2 k)))]) (g := .func 33) (ok_laws_markByteS a.f2 k (by omega) (by first | omega | (have := (by assumption); omega))) rfl rfl (lt_ok rfl) rfl (by kernel_rfl) rfl rfl (.row (T := (Ts 2)) (d := (.ints .u8 a.f2)) (e' := (.ints .u8 (mkB a.f2 k))) (d' := (.ints .u8 (mkB a.f2 k))) rfl rfl rfl rfl rfl (by simp [D.size, mkL_length]) rfl rfl (.d .nil)) rfl) ?_
 refine TL.as (pI (k + (a.f2.length : Int))) ?_
 refine TL.nil ?_
 refine T.seq ?_
 refine T.region ?_
 refine TL.c (Step.fieldAddr (q := 0) (off := 3) (n := 1) (one := true) rfl rfl (lt_ok rfl) (by kernel_rfl) (Nat.succ_ne_zero _) rfl) ?_
 refine TL.c (Step.load_box (c := .row 903 []) rfl rfl (lt_ok rfl) (by kernel_rfl) rfl rfl rfl) ?_
 refine TL.mv (pI (k + (a.f2.length : Int))) ?_
 refine TL.c (Step.callM2 (xs := [.tmp 10, .tmp 11]) (ps := [(.one (.row 903 [])), (pI (k + (a.f2.length : Int)))]) (js := [(903, (.ints .u8 (mkB a.f3 (k + (a.f2.length : Int)))))]) (g := .func 33) (ok_laws_markByteS a.f3 (k + (a.f2.length : Int)) (by omega) (by first | omega | (have := (by assumption); omega))) rfl rfl (lt_ok rfl) rfl (by kernel_rfl) rfl rfl (.row (T := (Ts 3)) (d := (.ints .u8 a.f3)) (e' := (.ints .u8 (mkB a.f3 (k + (a.f2.length : Int))))) (d' := (.ints .u8 (mkB a.f3 (k + (a.f2.length : Int))))) rfl rfl rfl rfl rfl (by simp [D.size, mkL_length]) rfl rfl (.d .nil)) rfl) ?_
 refine TL.as (pI ((k + (a.f2.length : Int)) + (a.f3.length : Int))) ?_
 refine TL.nil ?_
 refine T.seq ?_
 refine T.region ?_
 refine TL.c (Step.fieldAddr (q := 0) (off := 4) (n := 1) (one := true) rfl rfl (lt_ok rfl) (by kernel_rfl) (Nat.succ_ne_zero _) rfl) ?_
 refine TL.c (Step.load_box (c := .row 904 []) rfl rfl (lt_ok rfl) (by kernel_rfl) rfl rfl rfl) ?_
 refine TL.mv (pI ((k + (a.f2.length : Int)) + (a.f3.length : Int))) ?_
 have nn1 := cntBs_nonneg a.f4
 refine TL.c (Step.callM2 (xs := [.tmp 14, .tmp 15]) (ps := [(.one (.row 904 [])), (pI ((k + (a.f2.length : Int)) + (a.f3.length : Int)))]) (js := [(904, (.bss (mkBs a.f4 ((k + (a.f2.length : Int)) + (a.f3.length : Int)))))]) (g := .func 24) (ok_laws_markByteSS a.f4 ((k + (a.f2.length : Int)) + (a.f3.length : Int)) (by omega) (by first | omega | (have := cntBs_le (xs := a.f4) (by assumption); omega))) rfl rfl (lt_ok rfl) rfl (by kernel_rfl) rfl rfl (.row (T := (Ts 4)) (d := (.bss a.f4)) (e' := (.bss (mkBs a.f4 ((k + (a.f2.length : Int)) + (a.f3.length : Int))))) (d' := (.bss (mkBs a.f4 ((k + (a.f2.length : Int)) + (a.f3.length : Int))))) rfl rfl rfl rfl rfl (by simp [D.size, mkL_length]) rfl rfl (.d .nil)) rfl) ?_
 refine TL.as (pI (((k + (a.f2.length : Int)) + (a.f3.length : Int)) + cntL (fun x : List Int => (x.length : Int)) a.f4)) ?_
 refine TL.nil ?_
 refine T.seq ?_
 refine T.region ?_
 refine TL.mv (pI (((k + (a.f2.length : Int)) + (a.f3.length : Int)) + cntL (fun x : List Int => (x.length : Int)) a.f4)) ?_
 refine TL.as (pI (((k + (a.f2.length : Int)) + (a.f3.length : Int)) + cntL (fun x : List Int => (x.length : Int)) a.f4)) ?_
 refine TL.nil ?_
 refine T.ret ?_
 refine ⟨⟨⟨[(false, [cI (((k + (a.f2.length : Int)) + (a.f3.length : Int)) + cntL (fun x : List Int => (x.length : Int)) a.f4)])], (.cons rfl .nil), rfl, [], (RetC.rd' ?_ .nil)⟩, rfl⟩, (.rd (.rd (.mk' (by rfl) (.mk' (by rfl) (.mk' (by rfl) (.rd .nil'))))))⟩ <;> (first | rfl | (congr 1; simp only [SQc.cm]; omega))
theorem ok_laws_markHead (a : SHead) (k : Int) (h0_ : 0 ≤ k) (h1_ : k + a.cm ≤ 4611686018427387904) : MK Try.prog 81 [.agg [.rd (.int .i64 a.f0), .rd (.int .i64 a.f1), .rd (.int .i64 a.f2), .mk (.ints .u8 a.f3) (.ints .u8 (mkB a.f3 k)), .mk (.ints .u8 a.f4) (.ints .u8 (mkB a.f4 (k + (a.f3.length : Int)))), .rd (.int .i64 a.f5.f0), .rd (.int .i64 a.f5.f1), .mk (.ints .u8 a.f5.f2) (.ints .u8 (mkB a.f5.f2 ((k + (a.f3.length : Int)) + (a.f4.length : Int)))), .mk (.ints .u8 a.f5.f3) (.ints .u8 (mkB a.f5.f3 (((k + (a.f3.length : Int)) + (a.f4.length : Int)) + (a.f5.f2.length : Int)))), .mk (.bss a.f5.f4) (.bss (mkBs a.f5.f4 ((((k + (a.f3.length : Int)) + (a.f4.length : Int)) + (a.f5.f2.length : Int)) + (a.f5.f3.length : Int))))], .one (.rd (.int .i64 k))] [(false, [.rd (.int .i64 (k + a.cm))])] := by
 refine MK.intro Try.func81 rfl 18 rfl (le_ok rfl) (le_ok rfl) rfl fun w Z IX pin Ts hp => ?_
 have n5 := SQc.cm_nn a.f5
 simp only [SHead.cm] at h1_
 refine T.seq ?_
 refine T.region ?_
 refine TL.c (Step.box (p := (.agg [cI a.f0, cI a.f1, cI a.f2, .row 903 [], .row 904 [], cI a.f5.f0, cI a.f5.f1, .row 907 [], .row 908 [], .row 909 []])) (ps := [cI a.f0, cI a.f1, cI a.f2, .row 903 [], .row 904 [], cI a.f5.f0, cI a.f5.f1, .row 907 [], .row 908 [], .row 909 []]) rfl rfl (lt_ok rfl) rfl rfl rfl rfl rfl) ?_
 refine TL.as (pI 0) ?_
 refine TL.nil ?_
 refine T.seq ?_
 refine T.region ?_
 refine TL.c (Step.fieldAddr (q := 0) (off := 3) (n := 1) (one := true) rfl rfl (lt_ok rfl) (by kernel_rfl) (Nat.succ_ne_zero _) rfl) ?_
 refine TL.c (Step.load_box (c := .row 903 []) rfl rfl (lt_ok rfl) (by kernel_rfl) rfl rfl rfl) ?_
 refine TL.mv (pI k) ?_
 refine TL.c (Step.callM2 (xs := [.tmp 6, .tmp 7]) (ps := [(.one (.row 903 [])), (pI k)]) (js := [(903, (.ints .u8 (mkB a.f3 k)))]) (g := .func 33) (ok_laws_markByteS a.f3 k (by omega) (by first | omega | (have := (by assumption); omega))) rfl rfl (lt_ok rfl) rfl (by kernel_rfl) rfl rfl (.row (T := (Ts 3)) (d := (.ints .u8 a.f3)) (e' := (.ints .u8 (mkB a.f3 k))) (d' := (.ints .u8 (mkB a.f3 k))) rfl rfl rfl rfl rfl (by simp [D.size, mkL_length]) rfl rfl (.d .nil)) rfl) ?_
 refine TL.as (pI (k + (a.f3.length : Int))) ?_
 refine TL.nil ?_
 refine T.seq ?_
 refine T.region ?_
 refine TL.c (Step.fieldAddr (q := 0) (off := 4) (n := 1) (one := true) rfl rfl (lt_ok rfl) (by kernel_rfl) (Nat.succ_ne_zero _) rfl) ?_
 refine TL.c (Step.load_box (c := .row 904 []) rfl rfl (lt_ok rfl) (by kernel_rfl) rfl rfl rfl) ?_
 refine TL.mv (pI (k + (a.f3.length : Int))) ?_
 refine TL.c (Step.callM2 (xs := [.tmp 10, .tmp 11]) (ps := [(.one (.row 904 [])), (pI (k + (a.f3.length : Int)))]) (js := [(904, (.ints .u8 (mkB a.f4 (k + (a.f3.length : Int)))))]) (g := .func 33) (ok_laws_markByteS a.f4 (k + (a.f3.length : Int)) (by omega) (by first | omega | (have := (by assumption); omega))) rfl rfl (lt_ok rfl) rfl (by kernel_rfl) rfl rfl (.row (T := (Ts 4)) (d := (.ints .u8 a.f4)) (e' := (.ints .u8 (mkB a.f4 (k + (a.f3.length : Int))))) (d' := (.ints .u8 (mkB a.f4 (k + (a.f3.length : Int))))) rfl rfl rfl rfl rfl (by simp [D.size, mkL_length]) rfl rfl (.d .nil)) rfl) ?_
 refine TL.as (pI ((k + (a.f3.length : Int)) + (a.f4.length : Int))) ?_
 refine TL.nil ?_
 refine T.seq ?_
 refine T.region ?_
 refine TL.c (Step.fieldAddr (q := 0) (off := 5) (n := 5) (one := false) rfl rfl (lt_ok rfl) (by kernel_rfl) (Nat.succ_ne_zero _) rfl) ?_
 refine TL.c (Step.load_box_agg (n := 5) (qs := [cI a.f5.f0, cI a.f5.f1, .row 907 [], .row 908 [], .row 909 []]) rfl rfl (lt_ok rfl) (by kernel_rfl) rfl rfl rfl rfl) ?_
 refine TL.mv (pI ((k + (a.f3.length : Int)) + (a.f4.length : Int))) ?_
 have nn1 := SQc.cm_nn a.f5
 refine TL.c (Step.callM2 (xs := [.tmp 14, .tmp 15]) (ps := [(.agg [cI a.f5.f0, cI a.f5.f1, .row 907 [], .row 908 [], .row 909 []]), (pI ((k + (a.f3.length : Int)) + (a.f4.length : Int)))]) (js := [(907, (.ints .u8 (mkB a.f5.f2 ((k + (a.f3.length : Int)) + (a.f4.length : Int))))), (908, (.ints .u8 (mkB a.f5.f3 (((k + (a.f3.length : Int)) + (a.f4.length : Int)) + (a.f5.f2.length : Int))))), (909, (.bss (mkBs a.f5.f4 ((((k + (a.f3.length : Int)) + (a.f4.length : Int)) + (a.f5.f2.length : Int)) + (a.f5.f3.length : Int)))))]) (g := .func 102) (ok_laws_markQc a.f5 ((k + (a.f3.length : Int)) + (a.f4.length : Int)) (by omega) (by first | omega | (have := SQc.cm_le (x := a.f5) (by assumption); omega))) rfl rfl (lt_ok rfl) rfl (by kernel_rfl) rfl rfl (.d (.d (.row (T := (Ts 7)) (d := (.ints .u8 a.f5.f2)) (e' := (.ints .u8 (mkB a.f5.f2 ((k + (a.f3.length : Int)) + (a.f4.length : Int))))) (d' := (.ints .u8 (mkB a.f5.f2 ((k + (a.f3.length : Int)) + (a.f4.length : Int))))) rfl rfl rfl rfl rfl (by simp [D.size, mkL_length]) rfl rfl (.row (T := (Ts 8)) (d := (.ints .u8 a.f5.f3)) (e' := (.ints .u8 (mkB a.f5.f3 (((k + (a.f3.length : Int)) + (a.f4.length : Int)) + (a.f5.f2.length : Int))))) (d' := (.ints .u8 (mkB a.f5.f3 (((k + (a.f3.length : Int)) + (a.f4.length : Int)) + (a.f5.f2.length : Int))))) rfl rfl rfl rfl rfl (by simp [D.size, mkL_length]) rfl rfl (.row (T := (Ts 9)) (d := (.bss a.f5.f4)) (e' := (.bss (mkBs a.f5.f4 ((((k + (a.f3.length : Int)) + (a.f4.length : Int)) + (a.f5.f2.length : Int)) + (a.f5.f3.length : Int))))) (d' := (.bss (mkBs a.f5.f4 ((((k + (a.f3.length : Int)) + (a.f4.length : Int)) + (a.f5.f2.length : Int)) + (a.f5.f3.length : Int))))) rfl rfl rfl rfl rfl (by simp [D.size, mkL_length]) rfl rfl (.d .nil)))))) rfl) ?_
 refine TL.as (pI (((k + (a.f3.length : Int)) + (a.f4.length : Int)) + a.f5.cm)) ?_
 refine TL.nil ?_
 refine T.seq ?_
 refine T.region ?_
 refine TL.mv (pI (((k + (a.f3.length : Int)) + (a.f4.length : Int)) + a.f5.cm)) ?_
 refine TL.as (pI (((k + (a.f3.length : Int)) + (a.f4.length : Int)) + a.f5.cm)) ?_
 refine TL.nil ?_
 refine T.ret ?_
 refine ⟨⟨⟨[(false, [cI (((k + (a.f3.length : Int)) + (a.f4.length : Int)) + a.f5.cm)])], (.cons rfl .nil), rfl, [], (RetC.rd' ?_ .nil)⟩, rfl⟩, (.rd (.rd (.rd (.mk' (by rfl) (.mk' (by rfl) (.rd (.rd (.mk' (by rfl) (.mk' (by rfl) (.mk' (by rfl) (.rd .nil')))))))))))⟩ <;> (first | rfl | (congr 1; simp only [SHead.cm]; omega))
theorem ok_laws_markBlock (a : SBlock) (k : Int) (h0_ : 0 ≤ k) (h1_ : k + a.cm ≤ 4611686018427387904) : MK Try.prog 45 [.agg [.rd (.int .i64 a.f0.f0), .rd (.int .i64 a.f0.f1), .rd (.int .i64 a.f0.f2), .mk (.ints .u8 a.f0.f3) (.ints .u8 (mkB a.f0.f3 k)), .mk (.ints .u8 a.f0.f4) (.ints .u8 (mkB a.f0.f4 (k + (a.f0.f3.length : Int)))), .rd (.int .i64 a.f0.f5.f0), .rd (.int .i64 a.f0.f5.f1), .mk (.ints .u8 a.f0.f5.f2) (.ints .u8 (mkB a.f0.f5.f2 ((k + (a.f0.f3.length : Int)) + (a.f0.f4.length : Int)))), .mk (.ints .u8 a.f0.f5.f3) (.ints .u8 (mkB a.f0.f5.f3 (((k + (a.f0.f3.length : Int)) + (a.f0.f4.length : Int)) + (a.f0.f5.f2.length : Int)))), .mk (.bss a.f0.f5.f4) (.bss (mkBs a.f0.f5.f4 ((((k + (a.f0.f3.length : Int)) + (a.f0.f4.length : Int)) + (a.f0.f5.f2.length : Int)) + (a.f0.f5.f3.length : Int)))), .mk (.bss a.f1) (.bss (mkBs a.f1 (k + a.f0.cm)))], .one (.rd (.int .i64 k))] [(false, [.rd (.int .i64 (k + a.cm))])] := by
 refine MK.intro Try.func45 rfl 14 rfl (le_ok rfl) (le_ok rfl) rfl fun w Z IX pin Ts hp => ?_
 have n0 := SHead.cm_nn a.f0
 have n1 := cntBs_nonneg a.f1
 simp only [SBlock.cm] at h1_
 refine T.seq ?_
 refine T.region ?_
 refine TL.c (Step.box (p := (.agg [cI a.f0.f0, cI a.f0.f1, cI a.f0.f2, .row 903 [], .row 904 [], cI a.f0.f5.f0, cI a.f0.f5.f1, .row 907 [], .row 908 [], .row 909 [], .row 910 []])) (ps := [cI a.f0.f0, cI a.f0.f1, cI a.f0.f2, .row 903 [], .row 904 [], cI a.f0.f5.f0, cI a.f0.f5.f1, .row 907 [], .row 908 [], .row 909 [], .row 910 []]) rfl rfl (lt_ok rfl) rfl rfl rfl rfl rfl) ?_
 refine TL.as (pI 0) ?_
 refine TL.nil ?_
 refine T.seq ?_
 refine T.region ?_
 refine TL.c (Step.fieldAddr (q := 0) (off := 0) (n := 10) (one := false) rfl rfl (lt_ok rfl) (by kernel_rfl) (Nat.succ_ne_zero _) rfl) ?_
 refine TL.c (Step.load_box_agg (n := 10) (qs := [cI a.f0.f0, cI a.f0.f1, cI a.f0.f2, .row 903 [], .row 904 [], cI a.f0.f5.f0, cI a.f0.f5.f1, .row 907 [], .row 908 [], .row 909 []]) rfl rfl (lt_ok rfl) (by kernel_rfl) rfl rfl rfl rfl) ?_
 refine TL.mv (pI k) ?_
 have nn1 := SHead.cm_nn a.f0
 refine TL.c (Step.callM2 (xs := [.tmp 6, .tmp 7]) (ps := [(.agg [cI a.f0.f0, cI a.f0.f1, cI a.f0.f2, .row 903 [], .row 904 [], cI a.f0.f5.f0, cI a.f0.f5.f1, .row 907 [], .row 908 [], .row 909 []]), (pI k)]) (js := [(903, (.ints .u8 (mkB a.f0.f3 k))), (904, (.ints .u8 (mkB a.f0.f4 (k + (a.f0.f3.length : Int))))), (907, (.ints .u8 (mkB a.f0.f5.f2 ((k + (a.f0.f3.length : Int)) + (a.f0.f4.length : Int))))), (908, (.ints .u8 (mkB a.f0.f5.f3 (((k + (a.f0.f3.length : Int)) + (a.f0.f4.length : Int)) + (a.f0.f5.f2.length : Int))))), (909, (.bss (mkBs a.f0.f5.f4 ((((k + (a.f0.f3.length : Int)) + (a.f0.f4.length : Int)) + (a.f0.f5.f2.length : Int)) + (a.f0.f5.f3.length : Int)))))]) (g := .func 81) (ok_laws_markHead a.f0 k (by omega) (by first | omega | (have := SHead.cm_le (x := a.f0) (by assumption); omega))) rfl rfl (lt_ok rfl) rfl (by kernel_rfl) rfl rfl (.d (.d (.d (.row (T := (Ts 3)) (d := (.ints .u8 a.f0.f3)) (e' := (.ints .u8 (mkB a.f0.f3 k))) (d' := (.ints .u8 (mkB a.f0.f3 k))) rfl rfl rfl rfl rfl (by simp [D.size, mkL_length]) rfl rfl (.row (T := (Ts 4)) (d := (.ints .u8 a.f0.f4)) (e' := (.ints .u8 (mkB a.f0.f4 (k + (a.f0.f3.length : Int))))) (d' := (.ints .u8 (mkB a.f0.f4 (k + (a.f0.f3.length : Int))))) rfl rfl rfl rfl rfl (by simp [D.size, mkL_length]) rfl rfl (.d (.d (.row (T := (Ts 7)) (d := (.ints .u8 a.f0.f5.f2)) (e' := (.ints .u8 (mkB a.f0.f5.f2 ((k + (a.f0.f3.length : Int)) + (a.f0.f4.length : Int))))) (d' := (.ints .u8 (mkB a.f0.f5.f2 ((k + (a.f0.f3.length : Int)) + (a.f0.f4.length : Int))))) rfl rfl rfl rfl rfl (by simp [D.size, mkL_length]) rfl rfl (.row (T := (Ts 8)) (d := (.ints .u8 a.f0.f5.f3)) (e' := (.ints .u8 (mkB a.f0.f5.f3 (((k + (a.f0.f3.length : Int)) + (a.f0.f4.length : Int)) + (a.f0.f5.f2.length : Int))))) (d' := (.ints .u8 (mkB a.f0.f5.f3 (((k + (a.f0.f3.length : Int)) + (a.f0.f4.length : Int)) + (a.f0.f5.f2.length : Int))))) rfl rfl rfl rfl rfl (by simp [D.size, mkL_length]) rfl rfl (.row (T := (Ts 9)) (d := (.bss a.f0.f5.f4)) (e' := (.bss (mkBs a.f0.f5.f4 ((((k + (a.f0.f3.length : Int)) + (a.f0.f4.length : Int)) + (a.f0.f5.f2.length : Int)) + (a.f0.f5.f3.length : Int))))) (d' := (.bss (mkBs a.f0.f5.f4 ((((k + (a.f0.f3.length : Int)) + (a.f0.f4.length : Int)) + (a.f0.f5.f2.length : Int)) + (a.f0.f5.f3.length : Int))))) rfl rfl rfl rfl rfl (by simp [D.size, mkL_length]) rfl rfl (.d .nil))))))))))) rfl) ?_
 refine TL.as (pI (k + a.f0.cm)) ?_
 refine TL.nil ?_
 refine T.seq ?_
 refine T.region ?_
 refine TL.c (Step.fieldAddr (q := 0) (off := 10) (n := 1) (one := true) rfl rfl (lt_ok rfl) (by kernel_rfl) (Nat.succ_ne_zero _) rfl) ?_
 refine TL.c (Step.load_box (c := .row 910 []) rfl rfl (lt_ok rfl) (by kernel_rfl) rfl rfl rfl) ?_
 refine TL.mv (pI (k + a.f0.cm)) ?_
 have nn2 := cntBs_nonneg a.f1
 refine TL.c (Step.callM2 (xs := [.tmp 10, .tmp 11]) (ps := [(.one (.row 910 [])), (pI (k + a.f0.cm))]) (js := [(910, (.bss (mkBs a.f1 (k + a.f0.cm))))]) (g := .func 24) (ok_laws_markByteSS a.f1 (k + a.f0.cm) (by omega) (by first | omega | (have := cntBs_le (xs := a.f1) (by assumption); omega))) rfl rfl (lt_ok rfl) rfl (by kernel_rfl) rfl rfl (.row (T := (Ts 10)) (d := (.bss a.f1)) (e' := (.bss (mkBs a.f1 (k + a.f0.cm)))) (d' := (.bss (mkBs a.f1 (k + a.f0.cm)))) rfl rfl rfl rfl rfl (by simp [D.size, mkL_length]) rfl rfl (.d .nil)) rfl) ?_
 refine TL.as (pI ((k + a.f0.cm) + cntL (fun x : List Int => (x.length : Int)) a.f1)) ?_
 refine TL.nil ?_
 refine T.seq ?_
 refine T.region ?_
 refine TL.mv (pI ((k + a.f0.cm) + cntL (fun x : List Int => (x.length : Int)) a.f1)) ?_
 refine TL.as (pI ((k + a.f0.cm) + cntL (fun x : List Int => (x.length : Int)) a.f1)) ?_
 refine TL.nil ?_
 refine T.ret ?_
 refine ⟨⟨⟨[(false, [cI ((k + a.f0.cm) + cntL (fun x : List Int => (x.length : Int)) a.f1)])], (.cons rfl .nil), rfl, [], (RetC.rd' ?_ .nil)⟩, rfl⟩, (.rd (.rd (.rd (.mk' (by rfl) (.mk' (by rfl) (.rd (.rd (.mk' (by rfl) (.mk' (by rfl) (.mk' (by rfl) (.mk' (by rfl) (.rd .nil'))))))))))))⟩ <;> (first | rfl | (congr 1; simp only [SBlock.cm]; omega))
theorem ok_laws_FnExactBlockPath (aL : SLimits) (aX : SBlock) (aI : Int) (h0_ : aL.ok) (h1_ : aX.ok) (h2_ : I64 aI) : RO Try.prog 11 [.agg aL.cells, .agg aX.cells, .one (.int .i64 aI)] [(false, [.rd (.bool true)])] := by
 refine RO.intro Try.func11 rfl 109 rfl (le_ok rfl) fun w Z => ?_
 refine T.seq ?_
 refine T.region ?_
 refine TL.c (Step.box (p := (.agg [cI aL.f0, cI aL.f1, cI aL.f2, cI aL.f3, cI aL.f4])) (ps := [cI aL.f0, cI aL.f1, cI aL.f2, cI aL.f3, cI aL.f4]) rfl rfl (lt_ok rfl) rfl rfl rfl rfl rfl) ?_
 refine TL.c (Step.box (p := (.agg [cI aX.f0.f0, cI aX.f0.f1, cI aX.f0.f2, cS aX.f0.f3, cS aX.f0.f4, cI aX.f0.f5.f0, cI aX.f0.f5.f1, cS aX.f0.f5.f2, cS aX.f0.f5.f3, .d (.bss aX.f0.f5.f4), .d (.bss aX.f1)])) (ps := [cI aX.f0.f0, cI aX.f0.f1, cI aX.f0.f2, cS aX.f0.f3, cS aX.f0.f4, cI aX.f0.f5.f0, cI aX.f0.f5.f1, cS aX.f0.f5.f2, cS aX.f0.f5.f3, .d (.bss aX.f0.f5.f4), .d (.bss aX.f1)]) rfl rfl (lt_ok rfl) rfl rfl rfl rfl rfl) ?_
 refine TL.as (pB false) ?_
 refine TL.nil ?_
 refine T.seq ?_
 refine T.region ?_
 refine TL.as (pI 1048576) ?_
 refine TL.nil ?_
 refine T.seq ?_
 refine T.region ?_
 refine TL.c (Step.load_box_agg (n := 11) (qs := [cI aX.f0.f0, cI aX.f0.f1, cI aX.f0.f2, cS aX.f0.f3, cS aX.f0.f4, cI aX.f0.f5.f0, cI aX.f0.f5.f1, cS aX.f0.f5.f2, cS aX.f0.f5.f3, .d (.bss aX.f0.f5.f4), .d (.bss aX.f1)]) rfl rfl (lt_ok rfl) (by kernel_rfl) rfl rfl rfl rfl) ?_
 refine TL.mv (pI 1048576) ?_
 refine TL.c (Step.cl (xs := [.tmp 18, .tmp 19]) (ps := [(.agg [cI aX.f0.f0, cI aX.f0.f1, cI aX.f0.f2, cS aX.f0.f3, cS aX.f0.f4, cI aX.f0.f5.f0, cI aX.f0.f5.f1, cS aX.f0.f5.f2, cS aX.f0.f5.f3, .d (.bss aX.f0.f5.f4), .d (.bss aX.f1)]), (pI 1048576)]) (g := .func 37) false (.cons (.agg (.cons (.d _) (.cons (.d _) (.cons (.d _) (.cons (.d _) (.cons (.d _) (.cons (.d _) (.cons (.d _) (.cons (.d _) (.cons (.d _) (.cons (.d _) (.cons (.d _) .nil)))))))))))) (.cons (.one (.d _)) .nil)) (ok_laws_szBlock aX 1048576 (by omega) (by omega))) ?_
 refine TL.as (pI (aX.sz 1048576)) ?_
 refine TL.nil ?_
 refine T.seq ?_
 refine T.seq ?_
 refine T.region ?_
 refine TL.mv (pI (aX.sz 1048576)) ?_
 refine TL.c (Step.bin rfl rfl (lt_ok rfl) rfl rfl (Bin.lss (k := .i64) (a := (aX.sz 1048576)) (b := 0))) ?_
 refine TL.nil ?_
 refine T.cond (b := decide ((aX.sz 1048576) < 0)) rfl (fun h2 => ?_) (fun h2 => ?_)
 ·
  replace h2 := of_decide_eq_true h2
  refine T.seq ?_
  refine T.region ?_
  refine TL.as (pB true) ?_
  refine TL.nil ?_
  refine T.ret ?_
  exact ⟨[(false, [.d (.bool true)])], (.cons rfl .nil), rfl, [], (RetC.rd' rfl .nil)⟩
 ·
  replace h2 := of_decide_eq_false h2
  have z1_le : aX.sz 1048576 ≤ 1048576 := SBlock.sz_le _ (by omega)
  have z1_sm := SBlock.sz_sm _ (by omega : (0 : Int) ≤ 1048576) (by omega : (1048576 : Int) ≤ 1048576) (by omega : (0 : Int) ≤ aX.sz 1048576)
  refine T.skip ?_
  refine T.seq ?_
  have nn3 := @blockPath_sm aL aX aI (by assumption)
  refine T.draw [⟨24, (.agg [cI aL.f0, cI aL.f1, cI aL.f2, cI aL.f3, cI aL.f4]), []⟩, ⟨25, (.agg [cI aL.f0, cI aL.f1, cI aL.f2, cI aL.f3, cI aL.f4]), []⟩, ⟨26, (.agg [cI aX.f0.f0, cI aX.f0.f1, cI aX.f0.f2, cS aX.f0.f3, cS aX.f0.f4, cI aX.f0.f5.f0, cI aX.f0.f5.f1, cS aX.f0.f5.f2, cS aX.f0.f5.f3, .d (.bss aX.f0.f5.f4), .d (.bss aX.f1)]), []⟩, ⟨27, (.agg [cI aX.f0.f0, cI aX.f0.f1, cI aX.f0.f2, .row 4027 [], .row 5027 [], cI aX.f0.f5.f0, cI aX.f0.f5.f1, .row 8027 [], .row 9027 [], .row 10027 [], .row 11027 []]), [(11027, (22, (.bss aX.f1))), (10027, (22, (.bss aX.f0.f5.f4))), (9027, (5, (.ints .u8 aX.f0.f5.f3))), (8027, (5, (.ints .u8 aX.f0.f5.f2))), (5027, (5, (.ints .u8 aX.f0.f4))), (4027, (5, (.ints .u8 aX.f0.f3)))]⟩, ⟨28, (pI aI), []⟩, ⟨29, (.tup [(false, [.row 1029 []]), (false, [.d (.bool (blockOk aL aX && decide (0 ≤ aI ∧ aI ≤ (aX.f1.length : Int) - 1)))])]), [(1029, (22, (.bss (blockPath aL aX aI))))]⟩, ⟨23, (.tup [(false, [.row 1029 []]), (false, [.d (.bool (blockOk aL aX && decide (0 ≤ aI ∧ aI ≤ (aX.f1.length : Int) - 1)))])]), []⟩, ⟨30, (.one (.row 1029 [])), []⟩, ⟨31, (pB (blockOk aL aX && decide (0 ≤ aI ∧ aI ≤ (aX.f1.length : Int) - 1))), []⟩, ⟨8, (.one (.row 1029 [])), []⟩, ⟨9, (pB (blockOk aL aX && decide (0 ≤ aI ∧ aI ≤ (aX.f1.length : Int) - 1))), []⟩] (by kernel_rfl) (by kernel_rfl) ?_ ?_
  ·
   refine .cons (fun E A => OpStep.plain rfl (Step.load_box_agg (n := 5) (qs := [cI aL.f0, cI aL.f1, cI aL.f2, cI aL.f3, cI aL.f4]) (t := 24) rfl rfl (by exact lt_ok rfl) (by kernel_rfl) (A.g 3 rfl) (by exact A.box rfl) rfl rfl)) ?_
   refine .cons (fun E A => OpStep.plain rfl (Step.cd (xs := [.tmp 24]) (ps := [(.agg [cI aL.f0, cI aL.f1, cI aL.f2, cI aL.f3, cI aL.f4])]) (g := .func 39) false 25 (evs_cons (A.g 24 rfl) (rfl)) (.cons (.agg (.cons (.d _) (.cons (.d _) (.cons (.d _) (.cons (.d _) (.cons (.d _) .nil)))))) .nil) (ok_laws_toLimits aL) (At.freshRows A rfl))) ?_
   refine .cons (fun E A => OpStep.plain rfl (Step.load_box_agg (n := 11) (qs := [cI aX.f0.f0, cI aX.f0.f1, cI aX.f0.f2, cS aX.f0.f3, cS aX.f0.f4, cI aX.f0.f5.f0, cI aX.f0.f5.f1, cS aX.f0.f5.f2, cS aX.f0.f5.f3, .d (.bss aX.f0.f5.f4), .d (.bss aX.f1)]) (t := 26) rfl rfl (by exact lt_ok rfl) (by kernel_rfl) (A.g 4 rfl) (by exact A.box rfl) rfl rfl)) ?_
   refine .cons (fun E A => OpStep.plain rfl (Step.cd (xs := [.tmp 26]) (ps := [(.agg [cI aX.f0.f0, cI aX.f0.f1, cI aX.f0.f2, cS aX.f0.f3, cS aX.f0.f4, cI aX.f0.f5.f0, cI aX.f0.f5.f1, cS aX.f0.f5.f2, cS aX.f0.f5.f3, .d (.bss aX.f0.f5.f4), .d (.bss aX.f1)])]) (g := .func 40) false 27 (evs_cons (A.g 26 rfl) (rfl)) (.cons (.agg (.cons (.d _) (.cons (.d _) (.cons (.d _) (.cons (.d _) (.cons (.d _) (.cons (.d _) (.cons (.d _) (.cons (.d _) (.cons (.d _) (.cons (.d _) (.cons (.d _) .nil)))))))))))) .nil) (ok_laws_toBlock aX (by first | assumption | exact ⟨‹_›, ‹_›⟩ | (refine mem_getD (p := SBlock.sm) h0_.2 (by omega)) | exact mem_getD h0_.2 (by omega))) (At.freshRows A rfl))) ?_
   refine .cons (fun E A => A.mv 2 28) ?_
   refine .cons (fun E A => OpStep.plain rfl (Step.cd (xs := [.tmp 25, .tmp 27, .tmp 28]) (ps := [(.agg [cI aL.f0, cI aL.f1, cI aL.f2, cI aL.f3, cI aL.f4]), (.agg [cI aX.f0.f0, cI aX.f0.f1, cI aX.f0.f2, .row 4027 [], .row 5027 [], cI aX.f0.f5.f0, cI aX.f0.f5.f1, .row 8027 [], .row 9027 [], .row 10027 [], .row 11027 []]), (pI aI)]) (g := .func 43) false 29 (evs_cons (A.g 25 rfl) (evs_cons (A.g 27 rfl) (evs_cons (A.g 28 rfl) (rfl)))) (.cons (.agg (.cons (.d _) (.cons (.d _) (.cons (.d _) (.cons (.d _) (.cons (.d _) .nil)))))) (.cons (.agg (.cons (.d _) (.cons (.d _) (.cons (.d _) (.cons (.row rfl (by exact (A.row 4027 (by kernel_rfl)).trans rfl) rfl rfl) (.cons (.row rfl (by exact (A.row 5027 (by kernel_rfl)).trans rfl) rfl rfl) (.cons (.d _) (.cons (.d _) (.cons (.row rfl (by exact (A.row 8027 (by kernel_rfl)).trans rfl) rfl rfl) (.cons (.row rfl (by exact (A.row 9027 (by kernel_rfl)).trans rfl) rfl rfl) (.cons (.row rfl (by exact (A.row 10027 (by kernel_rfl)).trans rfl) rfl rfl) (.cons (.row rfl (by exact (A.row 11027 (by kernel_rfl)).trans rfl) rfl rfl) .nil)))))))))))) (.cons (.one (.d _)) .nil))) (ok_spec_BlockPath aL aX aI (by first | assumption | exact hok_) (by first | assumption | exact hsm_) (by first | assumption | exact ⟨by omega, by omega⟩)) (At.freshRows A rfl))) ?_
   refine .cons (fun E A => A.mv 29 23) ?_
   refine .cons (fun E A => OpStep.plain rfl (Step.extract (p := (.one (.row 1029 []))) (t := 30) rfl rfl (by exact lt_ok rfl) (A.g 23 rfl) rfl)) ?_
   refine .cons (fun E A => OpStep.plain rfl (Step.extract (p := (pB (blockOk aL aX && decide (0 ≤ aI ∧ aI ≤ (aX.f1.length : Int) - 1)))) (t := 31) rfl rfl (by exact lt_ok rfl) (A.g 23 rfl) rfl)) ?_
   refine .cons (fun E A => A.as 30 8) ?_
   refine .cons (fun E A => A.as 31 9) ?_
   exact .nil _ _
  refine TL.nil ?_
  refine T.weaken (E' := { tm := [(2, (pI aI)), (3, (.one (.ptr 3 0))), (4, (.one (.ptr 4 0))), (6, (pB false)), (8, (.one (.row 1029 []))), (9, (pB (blockOk aL aX && decide (0 ≤ aI ∧ aI ≤ (aX.f1.length : Int) - 1))))], rows := [(1029, (22, (.bss (blockPath aL aX aI))))], boxes := [(3, (46, [cI aL.f0, cI aL.f1, cI aL.f2, cI aL.f3, cI aL.f4])), (4, (52, [cI aX.f0.f0, cI aX.f0.f1, cI aX.f0.f2, cS aX.f0.f3, cS aX.f0.f4, cI aX.f0.f5.f0, cI aX.f0.f5.f1, cS aX.f0.f5.f2, cS aX.f0.f5.f3, .d (.bss aX.f0.f5.f4), .d (.bss aX.f1)]))] }) (Env.le_mk ⟨by kernel_rfl, by kernel_rfl, by kernel_rfl, by kernel_rfl, by kernel_rfl, by kernel_rfl, trivial⟩ ⟨by kernel_rfl, trivial⟩ ⟨by kernel_rfl, by kernel_rfl, trivial⟩) ?_
  refine T.seq ?_
  refine T.region ?_
  refine TL.c (Step.load_box_agg (n := 11) (qs := [cI aX.f0.f0, cI aX.f0.f1, cI aX.f0.f2, cS aX.f0.f3, cS aX.f0.f4, cI aX.f0.f5.f0, cI aX.f0.f5.f1, cS aX.f0.f5.f2, cS aX.f0.f5.f3, .d (.bss aX.f0.f5.f4), .d (.bss aX.f1)]) rfl rfl (lt_ok rfl) (by kernel_rfl) rfl rfl rfl rfl) ?_
  refine TL.c (Step.cl (xs := [.tmp 32]) (ps := [(.agg [cI aX.f0.f0, cI aX.f0.f1, cI aX.f0.f2, cS aX.f0.f3, cS aX.f0.f4, cI aX.f0.f5.f0, cI aX.f0.f5.f1, cS aX.f0.f5.f2, cS aX.f0.f5.f3, .d (.bss aX.f0.f5.f4), .d (.bss aX.f1)])]) (g := .func 40) false (.cons (.agg (.cons (.d _) (.cons (.d _) (.cons (.d _) (.cons (.d _) (.cons (.d _) (.cons (.d _) (.cons (.d _) (.cons (.d _) (.cons (.d _) (.cons (.d _) (.cons (.d _) .nil)))))))))))) .nil) (ok_laws_toBlock aX (by first | assumption | exact ⟨‹_›, ‹_›⟩ | (refine mem_getD (p := SBlock.sm) h0_.2 (by omega)) | exact mem_getD h0_.2 (by omega)))) ?_
  refine TL.c (Step.alloc (cs := [.int .i64 0, .int .i64 0, .int .i64 0, .slice none 0 0, .slice none 0 0, .int .i64 0, .int .i64 0, .slice none 0 0, .slice none 0 0, .slice none 0 0, .slice none 0 0]) (ps := [cI 0, cI 0, cI 0, .nil, .nil, cI 0, cI 0, .nil, .nil, .nil, .nil]) rfl rfl (lt_ok rfl) (by kernel_rfl) rfl rfl rfl rfl) ?_
  refine TL.c (Step.store_box (n := 11) (p := (.agg [cI aX.f0.f0, cI aX.f0.f1, cI aX.f0.f2, .row 4033 [], .row 5033 [], cI aX.f0.f5.f0, cI aX.f0.f5.f1, .row 8033 [], .row 9033 [], .row 10033 [], .row 11033 []])) (qs := [cI aX.f0.f0, cI aX.f0.f1, cI aX.f0.f2, .row 4033 [], .row 5033 [], cI aX.f0.f5.f0, cI aX.f0.f5.f1, .row 8033 [], .row 9033 [], .row 10033 [], .row 11033 []]) (ps' := [cI aX.f0.f0, cI aX.f0.f1, cI aX.f0.f2, .row 4033 [], .row 5033 [], cI aX.f0.f5.f0, cI aX.f0.f5.f1, .row 8033 [], .row 9033 [], .row 10033 [], .row 11033 []]) rfl rfl (by kernel_rfl) rfl rfl rfl rfl rfl rfl (le_ok rfl) rfl) ?_
  refine TL.nil ?_
  refine T.seq ?_
  have nn4 := @blockPath_sm aL aX aI (by assumption)
  refine T.draw [⟨35, (.agg [cI aL.f0, cI aL.f1, cI aL.f2, cI aL.f3, cI aL.f4]), []⟩, ⟨36, (.agg [cI aL.f0, cI aL.f1, cI aL.f2, cI aL.f3, cI aL.f4]), []⟩, ⟨37, (.agg [cI aX.f0.f0, cI aX.f0.f1, cI aX.f0.f2, .row 4033 [], .row 5033 [], cI aX.f0.f5.f0, cI aX.f0.f5.f1, .row 8033 [], .row 9033 [], .row 10033 [], .row 11033 []]), []⟩, ⟨38, (pI aI), []⟩, ⟨39, (.tup [(false, [.row 1039 []]), (false, [.d (.bool (blockOk aL aX && decide (0 ≤ aI ∧ aI ≤ (aX.f1.length : Int) - 1)))])]), [(1039, (22, (.bss (blockPath aL aX aI))))]⟩, ⟨34, (.tup [(false, [.row 1039 []]), (false, [.d (.bool (blockOk aL aX && decide (0 ≤ aI ∧ aI ≤ (aX.f1.length : Int) - 1)))])]), []⟩, ⟨40, (.one (.row 1039 [])), []⟩, ⟨41, (pB (blockOk aL aX && decide (0 ≤ aI ∧ aI ≤ (aX.f1.length : Int) - 1))), []⟩, ⟨11, (.one (.row 1039 [])), []⟩, ⟨12, (pB (blockOk aL aX && decide (0 ≤ aI ∧ aI ≤ (aX.f1.length : Int) - 1))), []⟩] (by kernel_rfl) (by kernel_rfl) ?_ ?_
  ·
   refine .cons (fun E A => OpStep.plain rfl (Step.load_box_agg (n := 5) (qs := [cI aL.f0, cI aL.f1, cI aL.f2, cI aL.f3, cI aL.f4]) (t := 35) rfl rfl (by exact lt_ok rfl) (by kernel_rfl) (A.g 3 rfl) (by exact A.box rfl) rfl rfl)) ?_
   refine .cons (fun E A => OpStep.plain rfl (Step.cd (xs := [.tmp 35]) (ps := [(.agg [cI aL.f0, cI aL.f1, cI aL.f2, cI aL.f3, cI aL.f4])]) (g := .func 39) false 36 (evs_cons (A.g 35 rfl) (rfl)) (.cons (.agg (.cons (.d _) (.cons (.d _) (.cons (.d _) (.cons (.d _) (.cons (.d _) .nil)))))) .nil) (ok_laws_toLimits aL) (At.freshRows A rfl))) ?_
   refine .cons (fun E A => OpStep.plain rfl (Step.load_box_agg (n := 11) (qs := [cI aX.f0.f0, cI aX.f0.f1, cI aX.f0.f2, .row 4033 [], .row 5033 [], cI aX.f0.f5.f0, cI aX.f0.f5.f1, .row 8033 [], .row 9033 [], .row 10033 [], .row 11033 []]) (t := 37) rfl rfl (by exact lt_ok rfl) (by kernel_rfl) (A.g 10 rfl) (by exact A.box rfl) rfl rfl)) ?_
   refine .cons (fun E A => A.mv 2 38) ?_
   refine .cons (fun E A => OpStep.plain rfl (Step.cd (xs := [.tmp 36, .tmp 37, .tmp 38]) (ps := [(.agg [cI aL.f0, cI aL.f1, cI aL.f2, cI aL.f3, cI aL.f4]), (.agg [cI aX.f0.f0, cI aX.f0.f1, cI aX.f0.f2, .row 4033 [], .row 5033 [], cI aX.f0.f5.f0, cI aX.f0.f5.f1, .row 8033 [], .row 9033 [], .row 10033 [], .row 11033 []]), (pI aI)]) (g := .func 44) false 39 (evs_cons (A.g 36 rfl) (evs_cons (A.g 37 rfl) (evs_cons (A.g 38 rfl) (rfl)))) (.cons (.agg (.cons (.d _) (.cons (.d _) (.cons (.d _) (.cons (.d _) (.cons (.d _) .nil)))))) (.cons (.agg (.cons (.d _) (.cons (.d _) (.cons (.d _) (.cons (.row rfl (by exact (A.row 4033 (by kernel_rfl)).trans rfl) rfl rfl) (.cons (.row rfl (by exact (A.row 5033 (by kernel_rfl)).trans rfl) rfl rfl) (.cons (.d _) (.cons (.d _) (.cons (.row rfl (by exact (A.row 8033 (by kernel_rfl)).trans rfl) rfl rfl) (.cons (.row rfl (by exact (A.row 9033 (by kernel_rfl)).trans rfl) rfl rfl) (.cons (.row rfl (by exact (A.row 10033 (by kernel_rfl)).trans rfl) rfl rfl) (.cons (.row rfl (by exact (A.row 11033 (by kernel_rfl)).trans rfl) rfl rfl) .nil)))))))))))) (.cons (.one (.d _)) .nil))) (ok_impl_BlockPath aL aX aI (by first | assumption | exact hok_) (by first | assumption | exact hsm_) (by first | assumption | exact ⟨by omega, by omega⟩)) (At.freshRows A rfl))) ?_
   refine .cons (fun E A => A.mv 39 34) ?_
   refine .cons (fun E A => OpStep.plain rfl (Step.extract (p := (.one (.row 1039 []))) (t := 40) rfl rfl (by exact lt_ok rfl) (A.g 34 rfl) rfl)) ?_
   refine .cons (fun E A => OpStep.plain rfl (Step.extract (p := (pB (blockOk aL aX && decide (0 ≤ aI ∧ aI ≤ (aX.f1.length : Int) - 1)))) (t := 41) rfl rfl (by exact lt_ok rfl) (A.g 34 rfl) rfl)) ?_
   refine .cons (fun E A => A.as 40 11) ?_
   refine .cons (fun E A => A.as 41 12) ?_
   exact .nil _ _
  refine TL.nil ?_
  refine T.seq ?_
  refine T.seq ?_
  refine T.region ?_
  refine TL.mv (.one (.row 1039 [])) ?_
  refine TL.mv (.one (.row 1029 [])) ?_
  refine TL.c (Step.cl (xs := [.tmp 42, .tmp 43]) (ps := [(.one (.row 1039 [])), (.one (.row 1029 []))]) (g := .func 23) false (.cons (.one (.row rfl rfl rfl rfl)) (.cons (.one (.row rfl rfl rfl rfl)) .nil)) (ok_laws_eqByteSS (blockPath aL aX aI) (blockPath aL aX aI))) ?_
  refine TL.known 44 (c := true) (by simp) rfl ?_
  refine TL.c (Step.not (b := true) rfl rfl (lt_ok rfl) rfl) ?_
  refine TL.mv (pB false) ?_
  refine TL.gm 46 (pB (blockOk aL aX && decide (0 ≤ aI ∧ aI ≤ (aX.f1.length : Int) - 1))) ?_
  refine TL.gm 46 (pB (blockOk aL aX && decide (0 ≤ aI ∧ aI ≤ (aX.f1.length : Int) - 1))) ?_
  refine TL.gy 46 (Step.bneq (b := (blockOk aL aX && decide (0 ≤ aI ∧ aI ≤ (aX.f1.length : Int) - 1))) (c := (blockOk aL aX && decide (0 ≤ aI ∧ aI ≤ (aX.f1.length : Int) - 1))) rfl rfl (lt_ok rfl) (by kernel_rfl) rfl rfl) ?_
  refine TL.known 49 (c := false) (by simp) rfl ?_
  refine TL.pk false (pB false) ?_
  refine TL.nil ?_
  refine T.cond (b := false) rfl (fun h5_ => absurd h5_ (by simp)) (fun h5_ => ?_)
  refine T.skip ?_
  refine T.seq ?_
  refine T.seq ?_
  refine T.draw [⟨51, (.agg [cI aX.f0.f0, cI aX.f0.f1, cI aX.f0.f2, .row 4033 [], .row 5033 [], cI aX.f0.f5.f0, cI aX.f0.f5.f1, .row 8033 [], .row 9033 [], .row 10033 [], .row 11033 []]), []⟩, ⟨52, (.agg [cI aX.f0.f0, cI aX.f0.f1, cI aX.f0.f2, cS aX.f0.f3, cS aX.f0.f4, cI aX.f0.f5.f0, cI aX.f0.f5.f1, cS aX.f0.f5.f2, cS aX.f0.f5.f3, .d (.bss aX.f0.f5.f4), .d (.bss aX.f1)]), []⟩, ⟨53, (.agg [cI aX.f0.f0, cI aX.f0.f1, cI aX.f0.f2, .row 4053 [], .row 5053 [], cI aX.f0.f5.f0, cI aX.f0.f5.f1, .row 8053 [], .row 9053 [], .row 10053 [], .row 11053 []]), [(11053, (22, (.bss aX.f1))), (10053, (22, (.bss aX.f0.f5.f4))), (9053, (5, (.ints .u8 aX.f0.f5.f3))), (8053, (5, (.ints .u8 aX.f0.f5.f2))), (5053, (5, (.ints .u8 aX.f0.f4))), (4053, (5, (.ints .u8 aX.f0.f3)))]⟩, ⟨54, (pB true), []⟩, ⟨55, (pB false), []⟩] (by kernel_rfl) (by kernel_rfl) ?_ ?_
  ·
   refine .cons (fun E A => OpStep.plain rfl (Step.load_box_agg (n := 11) (qs := [cI aX.f0.f0, cI aX.f0.f1, cI aX.f0.f2, .row 4033 [], .row 5033 [], cI aX.f0.f5.f0, cI aX.f0.f5.f1, .row 8033 [], .row 9033 [], .row 10033 [], .row 11033 []]) (t := 51) rfl rfl (by exact lt_ok rfl) (by kernel_rfl) (A.g 10 rfl) (by exact A.box rfl) rfl rfl)) ?_
   refine .cons (fun E A => OpStep.plain rfl (Step.load_box_agg (n := 11) (qs := [cI aX.f0.f0, cI aX.f0.f1, cI aX.f0.f2, cS aX.f0.f3, cS aX.f0.f4, cI aX.f0.f5.f0, cI aX.f0.f5.f1, cS aX.f0.f5.f2, cS aX.f0.f5.f3, .d (.bss aX.f0.f5.f4), .d (.bss aX.f1)]) (t := 52) rfl rfl (by exact lt_ok rfl) (by kernel_rfl) (A.g 4 rfl) (by exact A.box rfl) rfl rfl)) ?_
   refine .cons (fun E A => OpStep.plain rfl (Step.cd (xs := [.tmp 52]) (ps := [(.agg [cI aX.f0.f0, cI aX.f0.f1, cI aX.f0.f2, cS aX.f0.f3, cS aX.f0.f4, cI aX.f0.f5.f0, cI aX.f0.f5.f1, cS aX.f0.f5.f2, cS aX.f0.f5.f3, .d (.bss aX.f0.f5.f4), .d (.bss aX.f1)])]) (g := .func 40) false 53 (evs_cons (A.g 52 rfl) (rfl)) (.cons (.agg (.cons (.d _) (.cons (.d _) (.cons (.d _) (.cons (.d _) (.cons (.d _) (.cons (.d _) (.cons (.d _) (.cons (.d _) (.cons (.d _) (.cons (.d _) (.cons (.d _) .nil)))))))))))) .nil) (ok_laws_toBlock aX (by first | assumption | exact ⟨‹_›, ‹_›⟩ | (refine mem_getD (p := SBlock.sm) h0_.2 (by omega)) | exact mem_getD h0_.2 (by omega))) (At.freshRows A rfl))) ?_
   refine .cons (fun E A => OpStep.plain rfl (Step.tb 54 (decide (aX = aX)) (by simp : (decide (aX = aX)) = true) (Step.cd (xs := [.tmp 51, .tmp 53]) (ps := [(.agg [cI aX.f0.f0, cI aX.f0.f1, cI aX.f0.f2, .row 4033 [], .row 5033 [], cI aX.f0.f5.f0, cI aX.f0.f5.f1, .row 8033 [], .row 9033 [], .row 10033 [], .row 11033 []]), (.agg [cI aX.f0.f0, cI aX.f0.f1, cI aX.f0.f2, .row 4053 [], .row 5053 [], cI aX.f0.f5.f0, cI aX.f0.f5.f1, .row 8053 [], .row 9053 [], .row 10053 [], .row 11053 []])]) (g := .func 42) false 54 (evs_cons (A.g 51 rfl) (evs_cons (A.g 53 rfl) (rfl))) (.cons (.agg (.cons (.d _) (.cons (.d _) (.cons (.d _) (.cons (.row rfl (by exact (A.row 4033 (by kernel_rfl)).trans rfl) rfl rfl) (.cons (.row rfl (by exact (A.row 5033 (by kernel_rfl)).trans rfl) rfl rfl) (.cons (.d _) (.cons (.d _) (.cons (.row rfl (by exact (A.row 8033 (by kernel_rfl)).trans rfl) rfl rfl) (.cons (.row rfl (by exact (A.row 9033 (by kernel_rfl)).trans rfl) rfl rfl) (.cons (.row rfl (by exact (A.row 10033 (by kernel_rfl)).trans rfl) rfl rfl) (.cons (.row rfl (by exact (A.row 11033 (by kernel_rfl)).trans rfl) rfl rfl) .nil)))))))))))) (.cons (.agg (.cons (.d _) (.cons (.d _) (.cons (.d _) (.cons (.row rfl (by exact (A.row 4053 (by kernel_rfl)).trans rfl) rfl rfl) (.cons (.row rfl (by exact (A.row 5053 (by kernel_rfl)).trans rfl) rfl rfl) (.cons (.d _) (.cons (.d _) (.cons (.row rfl (by exact (A.row 8053 (by kernel_rfl)).trans rfl) rfl rfl) (.cons (.row rfl (by exact (A.row 9053 (by kernel_rfl)).trans rfl) rfl rfl) (.cons (.row rfl (by exact (A.row 10053 (by kernel_rfl)).trans rfl) rfl rfl) (.cons (.row rfl (by exact (A.row 11053 (by kernel_rfl)).trans rfl) rfl rfl) .nil)))))))))))) .nil)) (ok_laws_eqBlock aX aX) (At.freshRows A rfl)))) ?_
   refine .cons (fun E A => OpStep.plain rfl (Step.not (b := true) (t := 55) rfl rfl (by exact lt_ok rfl) (A.g 54 rfl))) ?_
   exact .nil _ _
  refine TL.nil ?_
  refine T.weaken (E' := { tm := [(2, (pI aI)), (3, (.one (.ptr 3 0))), (4, (.one (.ptr 4 0))), (6, (pB false)), (8, (.one (.row 1029 []))), (9, (pB (blockOk aL aX && decide (0 ≤ aI ∧ aI ≤ (aX.f1.length : Int) - 1)))), (10, (.one (.ptr 10 0))), (11, (.one (.row 1039 []))), (12, (pB (blockOk aL aX && decide (0 ≤ aI ∧ aI ≤ (aX.f1.length : Int) - 1)))), (55, (pB false))], rows := [(1029, (22, (.bss (blockPath aL aX aI)))), (4033, (5, (.ints .u8 aX.f0.f3))), (5033, (5, (.ints .u8 aX.f0.f4))), (8033, (5, (.ints .u8 aX.f0.f5.f2))), (9033, (5, (.ints .u8 aX.f0.f5.f3))), (10033, (22, (.bss aX.f0.f5.f4))), (11033, (22, (.bss aX.f1))), (1039, (22, (.bss (blockPath aL aX aI))))], boxes := [(10, (61, [cI aX.f0.f0, cI aX.f0.f1, cI aX.f0.f2, .row 4033 [], .row 5033 [], cI aX.f0.f5.f0, cI aX.f0.f5.f1, .row 8033 [], .row 9033 [], .row 10033 [], .row 11033 []])), (3, (46, [cI aL.f0, cI aL.f1, cI aL.f2, cI aL.f3, cI aL.f4])), (4, (52, [cI aX.f0.f0, cI aX.f0.f1, cI aX.f0.f2, cS aX.f0.f3, cS aX.f0.f4, cI aX.f0.f5.f0, cI aX.f0.f5.f1, cS aX.f0.f5.f2, cS aX.f0.f5.f3, .d (.bss aX.f0.f5.f4), .d (.bss aX.f1)]))] }) (Env.le_mk ⟨by kernel_rfl, by kernel_rfl, by kernel_rfl, by kernel_rfl, by kernel_rfl, by kernel_rfl, by kernel_rfl, by kernel_rfl, by kernel_rfl, by kernel_rfl, trivial⟩ ⟨by kernel_rfl, by kernel_rfl, by kernel_rfl, by kernel_rfl, by kernel_rfl, by kernel_rfl, by kernel_rfl, by kernel_rfl, trivial⟩ ⟨by kernel_rfl, by kernel_rfl, by kernel_rfl, trivial⟩) ?_
  refine T.cond (b := false) rfl (fun h6_ => absurd h6_ (by simp)) (fun h6_ => ?_)
  refine T.skip ?_
  refine T.seq ?_
  refine T.region ?_
  refine TL.as (pI 1) ?_
  refine TL.nil ?_
  refine T.seq ?_
  refine T.region ?_
  refine TL.c (Step.load_box_agg (n := 11) (qs := [cI aX.f0.f0, cI aX.f0.f1, cI aX.f0.f2, .row 4033 [], .row 5033 [], cI aX.f0.f5.f0, cI aX.f0.f5.f1, .row 8033 [], .row 9033 [], .row 10033 [], .row 11033 []]) rfl rfl (lt_ok rfl) (by kernel_rfl) rfl rfl rfl rfl) ?_
  refine TL.mv (pI 1) ?_
  have nn7 := SBlock.cm_nn aX
  refine TL.c (Step.callM2 (xs := [.tmp 56, .tmp 57]) (ps := [(.agg [cI aX.f0.f0, cI aX.f0.f1, cI aX.f0.f2, .row 4033 [], .row 5033 [], cI aX.f0.f5.f0, cI aX.f0.f5.f1, .row 8033 [], .row 9033 [], .row 10033 [], .row 11033 []]), (pI 1)]) (js := [(4033, (.ints .u8 (mkB aX.f0.f3 1))), (5033, (.ints .u8 (mkB aX.f0.f4 (1 + (aX.f0.f3.length : Int))))), (8033, (.ints .u8 (mkB aX.f0.f5.f2 ((1 + (aX.f0.f3.length : Int)) + (aX.f0.f4.length : Int))))), (9033, (.ints .u8 (mkB aX.f0.f5.f3 (((1 + (aX.f0.f3.length : Int)) + (aX.f0.f4.length : Int)) + (aX.f0.f5.f2.length : Int))))), (10033, (.bss (mkBs aX.f0.f5.f4 ((((1 + (aX.f0.f3.length : Int)) + (aX.f0.f4.length : Int)) + (aX.f0.f5.f2.length : Int)) + (aX.f0.f5.f3.length : Int))))), (11033, (.bss (mkBs aX.f1 (1 + aX.f0.cm))))]) (g := .func 45) (ok_laws_markBlock aX 1 (by omega) (by first | omega | (have := SBlock.cm_le (x := aX) (by assumption); omega))) rfl rfl (lt_ok rfl) rfl (by kernel_rfl) rfl rfl (.d (.d (.d (.row (T := 5) (d := (.ints .u8 aX.f0.f3)) (e' := (.ints .u8 (mkB aX.f0.f3 1))) (d' := (.ints .u8 (mkB aX.f0.f3 1))) rfl rfl rfl rfl rfl (by simp [D.size, mkL_length]) rfl rfl (.row (T := 5) (d := (.ints .u8 aX.f0.f4)) (e' := (.ints .u8 (mkB aX.f0.f4 (1 + (aX.f0.f3.length : Int))))) (d' := (.ints .u8 (mkB aX.f0.f4 (1 + (aX.f0.f3.length : Int))))) rfl rfl rfl rfl rfl (by simp [D.size, mkL_length]) rfl rfl (.d (.d (.row (T := 5) (d := (.ints .u8 aX.f0.f5.f2)) (e' := (.ints .u8 (mkB aX.f0.f5.f2 ((1 + (aX.f0.f3.length : Int)) + (aX.f0.f4.length : Int))))) (d' := (.ints .u8 (mkB aX.f0.f5.f2 ((1 + (aX.f0.f3.length : Int)) + (aX.f0.f4.length : Int))))) rfl rfl rfl rfl rfl (by simp [D.size, mkL_length]) rfl rfl (.row (T := 5) (d := (.ints .u8 aX.f0.f5.f3)) (e' := (.ints .u8 (mkB aX.f0.f5.f3 (((1 + (aX.f0.f3.length : Int)) + (aX.f0.f4.length : Int)) + (aX.f0.f5.f2.length : Int))))) (d' := (.ints .u8 (mkB aX.f0.f5.f3 (((1 + (aX.f0.f3.length : Int)) + (aX.f0.f4.length : Int)) + (aX.f0.f5.f2.length : Int))))) rfl rfl rfl rfl rfl (by simp [D.size, mkL_length]) rfl rfl (.row (T := 22) (d := (.bss aX.f0.f5.f4)) (e' := (.bss (mkBs aX.f0.f5.f4 ((((1 + (aX.f0.f3.length : Int)) + (aX.f0.f4.length : Int)) + (aX.f0.f5.f2.length : Int)) + (aX.f0.f5.f3.length : Int))))) (d' := (.bss (mkBs aX.f0.f5.f4 ((((1 + (aX.f0.f3.length : Int)) + (aX.f0.f4.length : Int)) + (aX.f0.f5.f2.length : Int)) + (aX.f0.f5.f3.length : Int))))) rfl rfl rfl rfl rfl (by simp [D.size, mkL_length]) rfl rfl (.row (T := 22) (d := (.bss aX.f1)) (e' := (.bss (mkBs aX.f1 (1 + aX.f0.cm)))) (d' := (.bss (mkBs aX.f1 (1 + aX.f0.cm)))) rfl rfl rfl rfl rfl (by simp [D.size, mkL_length]) rfl rfl (.d .nil)))))))))))) rfl) ?_
  refine TL.as (pI (1 + aX.cm)) ?_
  refine TL.nil ?_
  refine T.seq ?_
  refine T.seq ?_
  refine T.region ?_
  refine TL.mv (pI (1 + aX.cm)) ?_
  refine TL.c (Step.bin rfl rfl (lt_ok rfl) rfl rfl (Bin.lss (k := .i64) (a := (1 + aX.cm)) (b := 0))) ?_
  refine TL.known 60 (c := false) (decide_eq_false (by omega)) rfl ?_
  refine TL.mv (pB false) ?_
  refine TL.gm 61 (.one (.row 1039 [])) ?_
  refine TL.gm 61 (.one (.row 1029 [])) ?_
  refine TL.gy 61 (Step.cl (xs := [.tmp 62, .tmp 63]) (ps := [(.one (.row 1039 [])), (.one (.row 1029 []))]) (g := .func 23) false (.cons (.one (.row rfl rfl rfl rfl)) (.cons (.one (.row rfl rfl rfl rfl)) .nil)) (ok_laws_eqByteSS (blockPath aL aX aI) (blockPath aL aX aI))) ?_
  refine TL.known 64 (c := true) (by simp) rfl ?_
  refine TL.gy 61 (Step.not (b := true) rfl rfl (lt_ok rfl) rfl) ?_
  refine TL.pk false (pB false) ?_
  refine TL.mv (pB false) ?_
  refine TL.gm 67 (pB (blockOk aL aX && decide (0 ≤ aI ∧ aI ≤ (aX.f1.length : Int) - 1))) ?_
  refine TL.gm 67 (pB (blockOk aL aX && decide (0 ≤ aI ∧ aI ≤ (aX.f1.length : Int) - 1))) ?_
  refine TL.gy 67 (Step.bneq (b := (blockOk aL aX && decide (0 ≤ aI ∧ aI ≤ (aX.f1.length : Int) - 1))) (c := (blockOk aL aX && decide (0 ≤ aI ∧ aI ≤ (aX.f1.length : Int) - 1))) rfl rfl (lt_ok rfl) (by kernel_rfl) rfl rfl) ?_
  refine TL.known 70 (c := false) (by simp) rfl ?_
  refine TL.pk false (pB false) ?_
  refine TL.nil ?_
  refine T.cond (b := false) rfl (fun h8_ => absurd h8_ (by simp)) (fun h8_ => ?_)
  refine T.skip ?_
  refine T.seq ?_
  refine T.region ?_
  refine TL.as (pI 1) ?_
  refine TL.nil ?_
  refine T.seq ?_
  refine T.region ?_
  refine TL.mv (.one (.row 1039 [])) ?_
  refine TL.mv (pI 1) ?_
  have nn9 := cntBs_nonneg (blockPath aL aX aI)
  refine TL.c (Step.callM2 (xs := [.tmp 72, .tmp 73]) (ps := [(.one (.row 1039 [])), (pI 1)]) (js := [(1039, (.bss (mkBs (blockPath aL aX aI) 1)))]) (g := .func 24) (ok_laws_markByteSS (blockPath aL aX aI) 1 (by omega) (by first | omega | (have := cntBs_le (xs := (blockPath aL aX aI)) (by assumption); omega))) rfl rfl (lt_ok rfl) rfl (by kernel_rfl) rfl rfl (.row (T := 22) (d := (.bss (blockPath aL aX aI))) (e' := (.bss (mkBs (blockPath aL aX aI) 1))) (d' := (.bss (mkBs (blockPath aL aX aI) 1))) rfl rfl rfl rfl rfl (by simp [D.size, mkL_length]) rfl rfl (.d .nil)) rfl) ?_
  refine TL.as (pI (1 + cntL (fun x : List Int => (x.length : Int)) (blockPath aL aX aI))) ?_
  refine TL.nil ?_
  refine T.seq ?_
  refine T.region ?_
  refine TL.as (pI 1) ?_
  refine TL.nil ?_
  refine T.seq ?_
  refine T.region ?_
  refine TL.mv (.one (.row 1039 [])) ?_
  refine TL.mv (pI 1) ?_
  have nn10 := cntBs_nonneg (blockPath aL aX aI)
  refine TL.c (Step.cl (xs := [.tmp 75, .tmp 76]) (ps := [(.one (.row 1039 [])), (pI 1)]) (g := .func 25) false (.cons (.one (.row rfl rfl rfl rfl)) (.cons (.one (.d _)) .nil)) (ok_laws_heldByteSS (blockPath aL aX aI) (mkBs (blockPath aL aX aI) 1) 1 (by omega) (by first | omega | (have := cntBs_le (xs := (blockPath aL aX aI)) (by assumption); omega)) (by first | rfl | assumption | (repeat' (first | rfl | apply And.intro))))) ?_
  refine TL.as (pI (1 + cntL (fun x : List Int => (x.length : Int)) (blockPath aL aX aI))) ?_
  refine TL.nil ?_
  refine T.seq ?_
  refine T.seq ?_
  refine T.region ?_
  refine TL.mv (pI (1 + cntL (fun x : List Int => (x.length : Int)) (blockPath aL aX aI))) ?_
  refine TL.c (Step.bin rfl rfl (lt_ok rfl) rfl rfl (Bin.lss (k := .i64) (a := (1 + cntL (fun x : List Int => (x.length : Int)) (blockPath aL aX aI))) (b := 0))) ?_
  refine TL.known 79 (c := false) (decide_eq_false (by omega)) rfl ?_
  refine TL.nil ?_
  refine T.cond (b := false) rfl (fun h11_ => absurd h11_ (by simp)) (fun h11_ => ?_)
  refine T.skip ?_
  refine T.seq ?_
  refine T.seq ?_
  refine T.region ?_
  refine TL.mv (pI (1 + cntL (fun x : List Int => (x.length : Int)) (blockPath aL aX aI))) ?_
  refine TL.mv (pI (1 + cntL (fun x : List Int => (x.length : Int)) (blockPath aL aX aI))) ?_
  refine TL.c (Step.bin rfl rfl (lt_ok rfl) rfl rfl (Bin.neq (k := .i64) (a := (1 + cntL (fun x : List Int => (x.length : Int)) (blockPath aL aX aI))) (b := (1 + cntL (fun x : List Int => (x.length : Int)) (blockPath aL aX aI))))) ?_
  refine TL.known 82 (c := false) (by simp) rfl ?_
  refine TL.nil ?_
  refine T.cond (b := false) rfl (fun h12_ => absurd h12_ (by simp)) (fun h12_ => ?_)
  refine T.skip ?_
  refine T.seq ?_
  have nn13 := @blockPath_sm aL aX aI (by assumption)
  refine T.draw [⟨84, (.agg [cI aL.f0, cI aL.f1, cI aL.f2, cI aL.f3, cI aL.f4]), []⟩, ⟨85, (.agg [cI aL.f0, cI aL.f1, cI aL.f2, cI aL.f3, cI aL.f4]), []⟩, ⟨86, (.agg [cI aX.f0.f0, cI aX.f0.f1, cI aX.f0.f2, cS aX.f0.f3, cS aX.f0.f4, cI aX.f0.f5.f0, cI aX.f0.f5.f1, cS aX.f0.f5.f2, cS aX.f0.f5.f3, .d (.bss aX.f0.f5.f4), .d (.bss aX.f1)]), []⟩, ⟨87, (.agg [cI aX.f0.f0, cI aX.f0.f1, cI aX.f0.f2, .row 4087 [], .row 5087 [], cI aX.f0.f5.f0, cI aX.f0.f5.f1, .row 8087 [], .row 9087 [], .row 10087 [], .row 11087 []]), [(11087, (22, (.bss aX.f1))), (10087, (22, (.bss aX.f0.f5.f4))), (9087, (5, (.ints .u8 aX.f0.f5.f3))), (8087, (5, (.ints .u8 aX.f0.f5.f2))), (5087, (5, (.ints .u8 aX.f0.f4))), (4087, (5, (.ints .u8 aX.f0.f3)))]⟩, ⟨88, (pI aI), []⟩, ⟨89, (.tup [(false, [.row 1089 []]), (false, [.d (.bool (blockOk aL aX && decide (0 ≤ aI ∧ aI ≤ (aX.f1.length : Int) - 1)))])]), [(1089, (22, (.bss (blockPath aL aX aI))))]⟩, ⟨83, (.tup [(false, [.row 1089 []]), (false, [.d (.bool (blockOk aL aX && decide (0 ≤ aI ∧ aI ≤ (aX.f1.length : Int) - 1)))])]), []⟩, ⟨90, (.one (.row 1089 [])), []⟩, ⟨91, (pB (blockOk aL aX && decide (0 ≤ aI ∧ aI ≤ (aX.f1.length : Int) - 1))), []⟩, ⟨16, (.one (.row 1089 [])), []⟩, ⟨17, (pB (blockOk aL aX && decide (0 ≤ aI ∧ aI ≤ (aX.f1.length : Int) - 1))), []⟩] (by kernel_rfl) (by kernel_rfl) ?_ ?_
  ·
   refine .cons (fun E A => OpStep.plain rfl (Step.load_box_agg (n := 5) (qs := [cI aL.f0, cI aL.f1, cI aL.f2, cI aL.f3, cI aL.f4]) (t := 84) rfl rfl (by exact lt_ok rfl) (by kernel_rfl) (A.g 3 rfl) (by exact A.box rfl) rfl rfl)) ?_
   refine .cons (fun E A => OpStep.plain rfl (Step.cd (xs := [.tmp 84]) (ps := [(.agg [cI aL.f0, cI aL.f1, cI aL.f2, cI aL.f3, cI aL.f4])]) (g := .func 39) false 85 (evs_cons (A.g 84 rfl) (rfl)) (.cons (.agg (.cons (.d _) (.cons (.d _) (.cons (.d _) (.cons (.d _) (.cons (.d _) .nil)))))) .nil) (ok_laws_toLimits aL) (At.freshRows A rfl))) ?_
   refine .cons (fun E A => OpStep.plain rfl (Step.load_box_agg (n := 11) (qs := [cI aX.f0.f0, cI aX.f0.f1, cI aX.f0.f2, cS aX.f0.f3, cS aX.f0.f4, cI aX.f0.f5.f0, cI aX.f0.f5.f1, cS aX.f0.f5.f2, cS aX.f0.f5.f3, .d (.bss aX.f0.f5.f4), .d (.bss aX.f1)]) (t := 86) rfl rfl (by exact lt_ok rfl) (by kernel_rfl) (A.g 4 rfl) (by exact A.box rfl) rfl rfl)) ?_
   refine .cons (fun E A => OpStep.plain rfl (Step.cd (xs := [.tmp 86]) (ps := [(.agg [cI aX.f0.f0, cI aX.f0.f1, cI aX.f0.f2, cS aX.f0.f3, cS aX.f0.f4, cI aX.f0.f5.f0, cI aX.f0.f5.f1, cS aX.f0.f5.f2, cS aX.f0.f5.f3, .d (.bss aX.f0.f5.f4), .d (.bss aX.f1)])]) (g := .func 40) false 87 (evs_cons (A.g 86 rfl) (rfl)) (.cons (.agg (.cons (.d _) (.cons (.d _) (.cons (.d _) (.cons (.d _) (.cons (.d _) (.cons (.d _) (.cons (.d _) (.cons (.d _) (.cons (.d _) (.cons (.d _) (.cons (.d _) .nil)))))))))))) .nil) (ok_laws_toBlock aX (by first | assumption | exact ⟨‹_›, ‹_›⟩ | (refine mem_getD (p := SBlock.sm) h0_.2 (by omega)) | exact mem_getD h0_.2 (by omega))) (At.freshRows A rfl))) ?_
   refine .cons (fun E A => A.mv 2 88) ?_
   refine .cons (fun E A => OpStep.plain rfl (Step.cd (xs := [.tmp 85, .tmp 87, .tmp 88]) (ps := [(.agg [cI aL.f0, cI aL.f1, cI aL.f2, cI aL.f3, cI aL.f4]), (.agg [cI aX.f0.f0, cI aX.f0.f1, cI aX.f0.f2, .row 4087 [], .row 5087 [], cI aX.f0.f5.f0, cI aX.f0.f5.f1, .row 8087 [], .row 9087 [], .row 10087 [], .row 11087 []]), (pI aI)]) (g := .func 44) false 89 (evs_cons (A.g 85 rfl) (evs_cons (A.g 87 rfl) (evs_cons (A.g 88 rfl) (rfl)))) (.cons (.agg (.cons (.d _) (.cons (.d _) (.cons (.d _) (.cons (.d _) (.cons (.d _) .nil)))))) (.cons (.agg (.cons (.d _) (.cons (.d _) (.cons (.d _) (.cons (.row rfl (by exact (A.row 4087 (by kernel_rfl)).trans rfl) rfl rfl) (.cons (.row rfl (by exact (A.row 5087 (by kernel_rfl)).trans rfl) rfl rfl) (.cons (.d _) (.cons (.d _) (.cons (.row rfl (by exact (A.row 8087 (by kernel_rfl)).trans rfl) rfl rfl) (.cons (.row rfl (by exact (A.row 9087 (by kernel_rfl)).trans rfl) rfl rfl) (.cons (.row rfl (by exact (A.row 10087 (by kernel_rfl)).trans rfl) rfl rfl) (.cons (.row rfl (by exact (A.row 11087 (by kernel_rfl)).trans rfl) rfl rfl) .nil)))))))))))) (.cons (.one (.d _)) .nil))) (ok_impl_BlockPath aL aX aI (by first | assumption | exact hok_) (by first | assumption | exact hsm_) (by first | assumption | exact ⟨by omega, by omega⟩)) (At.freshRows A rfl))) ?_
   refine .cons (fun E A => A.mv 89 83) ?_
   refine .cons (fun E A => OpStep.plain rfl (Step.extract (p := (.one (.row 1089 []))) (t := 90) rfl rfl (by exact lt_ok rfl) (A.g 83 rfl) rfl)) ?_
   refine .cons (fun E A => OpStep.plain rfl (Step.extract (p := (pB (blockOk aL aX && decide (0 ≤ aI ∧ aI ≤ (aX.f1.length : Int) - 1)))) (t := 91) rfl rfl (by exact lt_ok rfl) (A.g 83 rfl) rfl)) ?_
   refine .cons (fun E A => A.as 90 16) ?_
   refine .cons (fun E A => A.as 91 17) ?_
   exact .nil _ _
  refine TL.nil ?_
  refine T.weaken (E' := { tm := [(6, (pB false)), (8, (.one (.row 1029 []))), (9, (pB (blockOk aL aX && decide (0 ≤ aI ∧ aI ≤ (aX.f1.length : Int) - 1)))), (11, (.one (.row 1039 []))), (14, (pI (1 + cntL (fun x : List Int => (x.length : Int)) (blockPath aL aX aI)))), (15, (pI (1 + cntL (fun x : List Int => (x.length : Int)) (blockPath aL aX aI)))), (16, (.one (.row 1089 []))), (17, (pB (blockOk aL aX && decide (0 ≤ aI ∧ aI ≤ (aX.f1.length : Int) - 1))))], rows := [(1029, (22, (.bss (blockPath aL aX aI)))), (1039, (22, (.bss (mkBs (blockPath aL aX aI) 1)))), (1089, (22, (.bss (blockPath aL aX aI))))], boxes := [] }) (Env.le_mk ⟨by kernel_rfl, by kernel_rfl, by kernel_rfl, by kernel_rfl, by kernel_rfl, by kernel_rfl, by kernel_rfl, by kernel_rfl, trivial⟩ ⟨by kernel_rfl, by kernel_rfl, by kernel_rfl, trivial⟩ trivial) ?_
  refine T.seq ?_
  refine T.seq ?_
  refine T.region ?_
  refine TL.mv (.one (.row 1089 [])) ?_
  refine TL.mv (.one (.row 1029 [])) ?_
  refine TL.c (Step.cl (xs := [.tmp 92, .tmp 93]) (ps := [(.one (.row 1089 [])), (.one (.row 1029 []))]) (g := .func 23) false (.cons (.one (.row rfl rfl rfl rfl)) (.cons (.one (.row rfl rfl rfl rfl)) .nil)) (ok_laws_eqByteSS (blockPath aL aX aI) (blockPath aL aX aI))) ?_
  refine TL.known 94 (c := true) (by simp) rfl ?_
  refine TL.c (Step.not (b := true) rfl rfl (lt_ok rfl) rfl) ?_
  refine TL.mv (pB false) ?_
  refine TL.gm 96 (pB (blockOk aL aX && decide (0 ≤ aI ∧ aI ≤ (aX.f1.length : Int) - 1))) ?_
  refine TL.gm 96 (pB (blockOk aL aX && decide (0 ≤ aI ∧ aI ≤ (aX.f1.length : Int) - 1))) ?_
  refine TL.gy 96 (Step.bneq (b := (blockOk aL aX && decide (0 ≤ aI ∧ aI ≤ (aX.f1.length : Int) - 1))) (c := (blockOk aL aX && decide (0 ≤ aI ∧ aI ≤ (aX.f1.length : Int) - 1))) rfl rfl (lt_ok rfl) (by kernel_rfl) rfl rfl) ?_
  refine TL.known 99 (c := false) (by simp) rfl ?_
  refine TL.pk false (pB false) ?_
  refine TL.nil ?_
  refine T.cond (b := false) rfl (fun h14_ => absurd h14_ (by simp)) (fun h14_ => ?_)
  refine T.skip ?_
  refine T.seq ?_
  refine T.region ?_
  refine TL.as (pI 1) ?_
  refine TL.nil ?_
  refine T.seq ?_
  refine T.region ?_
  refine TL.mv (.one (.row 1039 [])) ?_
  refine TL.mv (pI 1) ?_
  have nn15 := cntBs_nonneg (blockPath aL aX aI)
  refine TL.c (Step.cl (xs := [.tmp 101, .tmp 102]) (ps := [(.one (.row 1039 [])), (pI 1)]) (g := .func 25) false (.cons (.one (.row rfl rfl rfl rfl)) (.cons (.one (.d _)) .nil)) (ok_laws_heldByteSS (blockPath aL aX aI) (mkBs (blockPath aL aX aI) 1) 1 (by omega) (by first | omega | (have := cntBs_le (xs := (blockPath aL aX aI)) (by assumption); omega)) (by first | rfl | assumption | (repeat' (first | rfl | apply And.intro))))) ?_
  refine TL.as (pI (1 + cntL (fun x : List Int => (x.length : Int)) (blockPath aL aX aI))) ?_
  refine TL.nil ?_
  refine T.seq ?_
  refine T.seq ?_
  refine T.region ?_
  refine TL.mv (pI (1 + cntL (fun x : List Int => (x.length : Int)) (blockPath aL aX aI))) ?_
  refine TL.c (Step.bin rfl rfl (lt_ok rfl) rfl rfl (Bin.lss (k := .i64) (a := (1 + cntL (fun x : List Int => (x.length : Int)) (blockPath aL aX aI))) (b := 0))) ?_
  refine TL.known 105 (c := false) (decide_eq_false (by omega)) rfl ?_
  refine TL.nil ?_
  refine T.cond (b := false) rfl (fun h16_ => absurd h16_ (by simp)) (fun h16_ => ?_)
  refine T.skip ?_
  refine T.seq ?_
  refine T.seq ?_
  refine T.region ?_
  refine TL.mv (pI (1 + cntL (fun x : List Int => (x.length : Int)) (blockPath aL aX aI))) ?_
  refine TL.mv (pI (1 + cntL (fun x : List Int => (x.length : Int)) (blockPath aL aX aI))) ?_
  refine TL.c (Step.bin rfl rfl (lt_ok rfl) rfl rfl (Bin.neq (k := .i64) (a := (1 + cntL (fun x : List Int => (x.length : Int)) (blockPath aL aX aI))) (b := (1 + cntL (fun x : List Int => (x.length : Int)) (blockPath aL aX aI))))) ?_
  refine TL.known 108 (c := false) (by simp) rfl ?_
  refine TL.nil ?_
  refine T.cond (b := false) rfl (fun h17_ => absurd h17_ (by simp)) (fun h17_ => ?_)
  refine T.skip ?_
  refine T.seq ?_
  refine T.region ?_
  refine TL.as (pB true) ?_
  refine TL.nil ?_
  refine T.ret ?_
  exact ⟨[(false, [.d (.bool true)])], (.cons rfl .nil), rfl, [], (RetC.rd' rfl .nil)⟩
end Go.Proofs.Ytmdojlglemnijaa.Rf
