/- The functions that FnExactPutBlock calls, each held to what it answers. Printed by a program of this session; Lean checks it. -/
import Derived.Test.YtlcmflenbddliaaProg
import Derived.Test.YtlcmflenbddliaaRFnExactPutBlockx1
namespace Go.Proofs.Ytlcmflenbddliaa.Rf
open Go.RowKit
set_option linter.unusedVariables false
set_option linter.unnecessarySimpa false
set_option linter.unusedSimpArgs false
set_option maxRecDepth 100000
set_option maxHeartbeats 4000000
theorem ok_impl_QcOk (l : SLimits) (q : SQc) (h0_ : q.ok) (h1_ : q.sm) : RO Try.prog 127 [.agg l.cells, .agg q.cells] [(false, [.rd (.bool (qcOk l q))])] := by
 refine RO.intro Try.func127 rfl 44 rfl (le_ok rfl) fun w Z => ?_
 obtain ⟨o0, o1, o2, o3, o4⟩ := h0_
 obtain ⟨s0, s1, s2⟩ := h1_
 refine T.seq ?_
 refine T.region ?_
 refine TL.c (Step.box (p := (.agg [cI l.f0, cI l.f1, cI l.f2, cI l.f3, cI l.f4])) (ps := [cI l.f0, cI l.f1, cI l.f2, cI l.f3, cI l.f4]) rfl rfl (lt_ok rfl) rfl rfl rfl rfl rfl) ?_
 refine TL.c (Step.box (p := (.agg [cI q.f0, cI q.f1, cS q.f2, cS q.f3, .d (.bss q.f4)])) (ps := [cI q.f0, cI q.f1, cS q.f2, cS q.f3, .d (.bss q.f4)]) rfl rfl (lt_ok rfl) rfl rfl rfl rfl rfl) ?_
 refine TL.as (pB false) ?_
 refine TL.nil ?_
 refine T.seq ?_
 rcases Bool.eq_false_or_eq_true (limOk l) with hb1 | hb1
 ·
  rcases Bool.eq_false_or_eq_true (decide (0 ≤ q.f0 ∧ q.f0 ≤ 1152921504606846975)) with hb2 | hb2
  ·
   rcases Bool.eq_false_or_eq_true (decide (0 ≤ q.f1 ∧ q.f1 ≤ 1152921504606846975)) with hb3 | hb3
   ·
    rcases Bool.eq_false_or_eq_true (hashes [q.f2]) with hb4 | hb4
    ·
     rcases Bool.eq_false_or_eq_true (bitsOk q.f3 l.f0) with hb5 | hb5
     ·
      have nn6 := bitList_len q.f3
      rcases Bool.eq_false_or_eq_true (decide ((q.f4.length : Int) = ((bitList q.f3).length : Int))) with hb7 | hb7
      ·
       have nn8 := bitList_len q.f3
       refine T.draw [⟨5, (.agg [cI l.f0, cI l.f1, cI l.f2, cI l.f3, cI l.f4]), []⟩, ⟨6, (pB true), []⟩, ⟨7, (pB true), []⟩, ⟨8, (.one (.ptr 3 0)), []⟩, ⟨9, (pI q.f0), []⟩, ⟨10, (pB true), []⟩, ⟨11, (pB true), []⟩, ⟨12, (pB true), []⟩, ⟨13, (.one (.ptr 3 1)), []⟩, ⟨14, (pI q.f1), []⟩, ⟨15, (pB true), []⟩, ⟨16, (pB true), []⟩, ⟨17, (pB true), []⟩, ⟨18, (.one (.ptr 3 2)), []⟩, ⟨19, (pS q.f2), []⟩, ⟨20, (.one (.d (.bss [q.f2]))), []⟩, ⟨21, (pB true), []⟩, ⟨22, (pB true), []⟩, ⟨23, (pB true), []⟩, ⟨24, (.one (.ptr 3 3)), []⟩, ⟨25, (pS q.f3), []⟩, ⟨26, (.one (.ptr 2 0)), []⟩, ⟨27, (pI l.f0), []⟩, ⟨28, (pB true), []⟩, ⟨29, (pB true), []⟩, ⟨30, (pB true), []⟩, ⟨31, (.one (.ptr 3 4)), []⟩, ⟨32, (.one (.d (.bss q.f4))), []⟩, ⟨33, (pI (q.f4.length : Int)), []⟩, ⟨34, (.one (.ptr 3 3)), []⟩, ⟨35, (pS q.f3), []⟩, ⟨36, (pI ((bitList q.f3).length : Int)), []⟩, ⟨37, (pB true), []⟩, ⟨38, (pB true), []⟩, ⟨39, (pB true), []⟩, ⟨40, (.one (.ptr 3 4)), []⟩, ⟨41, (.one (.d (.bss q.f4))), []⟩, ⟨42, (pB (hashes q.f4)), []⟩, ⟨43, (pB (hashes q.f4)), []⟩, ⟨4, (pB (hashes q.f4)), []⟩] (by kernel_rfl) (by kernel_rfl) ?_ ?_
       ·
        refine .cons (fun E A => OpStep.plain rfl (Step.load_box_agg (n := 5) (qs := [cI l.f0, cI l.f1, cI l.f2, cI l.f3, cI l.f4]) (t := 5) rfl rfl (by exact lt_ok rfl) (by kernel_rfl) (A.g 2 rfl) (by exact A.box rfl) rfl rfl)) ?_
        refine .cons (fun E A => OpStep.plain rfl (Step.tb 6 (limOk l) hb1 (Step.cd (xs := [.tmp 5]) (ps := [(.agg [cI l.f0, cI l.f1, cI l.f2, cI l.f3, cI l.f4])]) (g := .func 135) false 6 (evs_cons (A.g 5 rfl) (rfl)) (.cons (.agg (.cons (.d _) (.cons (.d _) (.cons (.d _) (.cons (.d _) (.cons (.d _) .nil)))))) .nil) (ok_impl_LimitsOk l) (At.freshRows A rfl)))) ?_
        refine .cons (fun E A => A.mv 6 7) ?_
        refine .cons (fun E A => A.y 7 (Step.fa (off := 0) (n := 1) (one := true) 0 8 (A.g 3 rfl))) ?_
        refine .cons (fun E A => A.y 7 (Step.load_box (c := cI q.f0) (t := 9) rfl rfl (by exact lt_ok rfl) (by kernel_rfl) (A.g 8 rfl) (by exact A.box rfl) rfl)) ?_
        refine .cons (fun E A => A.y 7 (Step.tb 10 (decide (0 ≤ q.f0 ∧ q.f0 ≤ 1152921504606846975)) hb2 (Step.cd (xs := [.tmp 9]) (ps := [(pI q.f0)]) (g := .func 155) false 10 (evs_cons (A.g 9 rfl) (rfl)) (.cons (.one (.d _)) .nil) (ok_impl_isNum q.f0) (At.freshRows A rfl)))) ?_
        refine .cons (fun E A => OpStep.plain rfl (Step.pick (b := true) (p := (pB true)) (t := 11) rfl rfl (by exact lt_ok rfl) (A.g 7 rfl) (A.g 10 rfl))) ?_
        refine .cons (fun E A => A.mv 11 12) ?_
        refine .cons (fun E A => A.y 12 (Step.fa (off := 1) (n := 1) (one := true) 0 13 (A.g 3 rfl))) ?_
        refine .cons (fun E A => A.y 12 (Step.load_box (c := cI q.f1) (t := 14) rfl rfl (by exact lt_ok rfl) (by kernel_rfl) (A.g 13 rfl) (by exact A.box rfl) rfl)) ?_
        refine .cons (fun E A => A.y 12 (Step.tb 15 (decide (0 ≤ q.f1 ∧ q.f1 ≤ 1152921504606846975)) hb3 (Step.cd (xs := [.tmp 14]) (ps := [(pI q.f1)]) (g := .func 155) false 15 (evs_cons (A.g 14 rfl) (rfl)) (.cons (.one (.d _)) .nil) (ok_impl_isNum q.f1) (At.freshRows A rfl)))) ?_
        refine .cons (fun E A => OpStep.plain rfl (Step.pick (b := true) (p := (pB true)) (t := 16) rfl rfl (by exact lt_ok rfl) (A.g 12 rfl) (A.g 15 rfl))) ?_
        refine .cons (fun E A => A.mv 16 17) ?_
        refine .cons (fun E A => A.y 17 (Step.fa (off := 2) (n := 1) (one := true) 0 18 (A.g 3 rfl))) ?_
        refine .cons (fun E A => A.y 17 (Step.load_box (c := cS q.f2) (t := 19) rfl rfl (by exact lt_ok rfl) (by kernel_rfl) (A.g 18 rfl) (by exact A.box rfl) rfl)) ?_
        refine .cons (fun E A => A.y 17 (Step.lit_d (e := 24) (z := 1) (by_ := 24) (xs := [.tmp 19]) (pss := [[cS q.f2]]) (ds := [(.ints .u8 q.f2)]) (d := (.bss [q.f2])) (t := 20) rfl rfl (by exact lt_ok rfl) (by kernel_rfl) rfl rfl (.cons (by exact (congrArg PV.flat (A.g 19 rfl)).trans rfl) .nil) (by simp) (le_ok rfl) (le_ok rfl) rfl rfl trivial rfl rfl)) ?_
        refine .cons (fun E A => A.y 17 (Step.tb 21 (hashes [q.f2]) hb4 (Step.cd (xs := [.tmp 20]) (ps := [(.one (.d (.bss [q.f2])))]) (g := .func 156) false 21 (evs_cons (A.g 20 rfl) (rfl)) (.cons (.one (.d _)) .nil) (ok_impl_areHashes [q.f2]) (At.freshRows A rfl)))) ?_
        refine .cons (fun E A => OpStep.plain rfl (Step.pick (b := true) (p := (pB true)) (t := 22) rfl rfl (by exact lt_ok rfl) (A.g 17 rfl) (A.g 21 rfl))) ?_
        refine .cons (fun E A => A.mv 22 23) ?_
        refine .cons (fun E A => A.y 23 (Step.fa (off := 3) (n := 1) (one := true) 0 24 (A.g 3 rfl))) ?_
        refine .cons (fun E A => A.y 23 (Step.load_box (c := cS q.f3) (t := 25) rfl rfl (by exact lt_ok rfl) (by kernel_rfl) (A.g 24 rfl) (by exact A.box rfl) rfl)) ?_
        refine .cons (fun E A => A.y 23 (Step.fa (off := 0) (n := 1) (one := true) 0 26 (A.g 2 rfl))) ?_
        refine .cons (fun E A => A.y 23 (Step.load_box (c := cI l.f0) (t := 27) rfl rfl (by exact lt_ok rfl) (by kernel_rfl) (A.g 26 rfl) (by exact A.box rfl) rfl)) ?_
        refine .cons (fun E A => A.y 23 (Step.tb 28 (bitsOk q.f3 l.f0) hb5 (Step.cd (xs := [.tmp 25, .tmp 27]) (ps := [(pS q.f3), (pI l.f0)]) (g := .func 174) false 28 (evs_cons (A.g 25 rfl) (evs_cons (A.g 27 rfl) (rfl))) (.cons (.one (.d _)) (.cons (.one (.d _)) .nil)) (ok_impl_BitsOk q.f3 l.f0 (by assumption) (by first | omega | assumption | (simp only [List.length_append] at *; omega))) (At.freshRows A rfl)))) ?_
        refine .cons (fun E A => OpStep.plain rfl (Step.pick (b := true) (p := (pB true)) (t := 29) rfl rfl (by exact lt_ok rfl) (A.g 23 rfl) (A.g 28 rfl))) ?_
        refine .cons (fun E A => A.mv 29 30) ?_
        refine .cons (fun E A => A.y 30 (Step.fa (off := 4) (n := 1) (one := true) 0 31 (A.g 3 rfl))) ?_
        refine .cons (fun E A => A.y 30 (Step.load_box (c := .d (.bss q.f4)) (t := 32) rfl rfl (by exact lt_ok rfl) (by kernel_rfl) (A.g 31 rfl) (by exact A.box rfl) rfl)) ?_
        refine .cons (fun E A => A.y 30 (Step.len (e := 24) (z := 1) (d := (.bss q.f4)) (t := 33) rfl rfl (by exact lt_ok rfl) (by kernel_rfl) (A.g 32 rfl) rfl)) ?_
        refine .cons (fun E A => A.y 30 (Step.fa (off := 3) (n := 1) (one := true) 0 34 (A.g 3 rfl))) ?_
        refine .cons (fun E A => A.y 30 (Step.load_box (c := cS q.f3) (t := 35) rfl rfl (by exact lt_ok rfl) (by kernel_rfl) (A.g 34 rfl) (by exact A.box rfl) rfl)) ?_
        refine .cons (fun E A => A.y 30 (Step.cd (xs := [.tmp 35]) (ps := [(pS q.f3)]) (g := .func 139) false 36 (evs_cons (A.g 35 rfl) (rfl)) (.cons (.one (.d _)) .nil) (ok_impl_BitsCount q.f3 (by first | assumption | exact fun x hx => by cases hx) (by first | omega | assumption | (simp only [List.length_append] at *; omega) | (simp; done))) (At.freshRows A rfl))) ?_
        refine .cons (fun E A => A.y 30 (Step.tb 37 (decide ((q.f4.length : Int) = ((bitList q.f3).length : Int))) hb7 (Step.bd 37 (A.g 33 rfl) (A.g 36 rfl) (Bin.eql (k := .i64) (a := (q.f4.length : Int)) (b := ((bitList q.f3).length : Int)))))) ?_
        refine .cons (fun E A => OpStep.plain rfl (Step.pick (b := true) (p := (pB true)) (t := 38) rfl rfl (by exact lt_ok rfl) (A.g 30 rfl) (A.g 37 rfl))) ?_
        refine .cons (fun E A => A.mv 38 39) ?_
        refine .cons (fun E A => A.y 39 (Step.fa (off := 4) (n := 1) (one := true) 0 40 (A.g 3 rfl))) ?_
        refine .cons (fun E A => A.y 39 (Step.load_box (c := .d (.bss q.f4)) (t := 41) rfl rfl (by exact lt_ok rfl) (by kernel_rfl) (A.g 40 rfl) (by exact A.box rfl) rfl)) ?_
        refine .cons (fun E A => A.y 39 (Step.cd (xs := [.tmp 41]) (ps := [(.one (.d (.bss q.f4)))]) (g := .func 156) false 42 (evs_cons (A.g 41 rfl) (rfl)) (.cons (.one (.d _)) .nil) (ok_impl_areHashes q.f4) (At.freshRows A rfl))) ?_
        refine .cons (fun E A => OpStep.plain rfl (Step.pick (b := true) (p := (pB (hashes q.f4))) (t := 43) rfl rfl (by exact lt_ok rfl) (A.g 39 rfl) (A.g 42 rfl))) ?_
        refine .cons (fun E A => A.as 43 4) ?_
        exact .nil _ _
       refine TL.nil ?_
       refine T.ret ?_
       refine ⟨[(false, [.d (.bool (hashes q.f4))])], (.cons rfl .nil), rfl, [], (RetC.rd' ?_ .nil)⟩ <;> (first | rfl | (congr 1; symm; simp only [qcOk, hashes, List.all_cons, List.all_nil, *, Bool.and_true, Bool.true_and, Bool.and_false, Bool.false_and, decide_true, decide_false, and_true, true_and, and_self, and_false, false_and, Bool.and_self, not_true, not_false, Bool.not_true, Bool.not_false, ge_iff_le, gt_iff_lt, if_true, if_false, Bool.false_eq_true, ite_true, ite_false, reduceIte]; done) | (congr 1; symm; simp_all [qcOk, hashes, List.all_cons, List.all_nil]; done) | (congr 1; symm; simp_all [qcOk, hashes, List.all_cons, List.all_nil]; omega))
      ·
       have nn9 := bitList_len q.f3
       refine T.draw [⟨5, (.agg [cI l.f0, cI l.f1, cI l.f2, cI l.f3, cI l.f4]), []⟩, ⟨6, (pB true), []⟩, ⟨7, (pB true), []⟩, ⟨8, (.one (.ptr 3 0)), []⟩, ⟨9, (pI q.f0), []⟩, ⟨10, (pB true), []⟩, ⟨11, (pB true), []⟩, ⟨12, (pB true), []⟩, ⟨13, (.one (.ptr 3 1)), []⟩, ⟨14, (pI q.f1), []⟩, ⟨15, (pB true), []⟩, ⟨16, (pB true), []⟩, ⟨17, (pB true), []⟩, ⟨18, (.one (.ptr 3 2)), []⟩, ⟨19, (pS q.f2), []⟩, ⟨20, (.one (.d (.bss [q.f2]))), []⟩, ⟨21, (pB true), []⟩, ⟨22, (pB true), []⟩, ⟨23, (pB true), []⟩, ⟨24, (.one (.ptr 3 3)), []⟩, ⟨25, (pS q.f3), []⟩, ⟨26, (.one (.ptr 2 0)), []⟩, ⟨27, (pI l.f0), []⟩, ⟨28, (pB true), []⟩, ⟨29, (pB true), []⟩, ⟨30, (pB true), []⟩, ⟨31, (.one (.ptr 3 4)), []⟩, ⟨32, (.one (.d (.bss q.f4))), []⟩, ⟨33, (pI (q.f4.length : Int)), []⟩, ⟨34, (.one (.ptr 3 3)), []⟩, ⟨35, (pS q.f3), []⟩, ⟨36, (pI ((bitList q.f3).length : Int)), []⟩, ⟨37, (pB false), []⟩, ⟨38, (pB false), []⟩, ⟨39, (pB false), []⟩, ⟨40, (.tup []), []⟩, ⟨41, (.tup []), []⟩, ⟨42, (.tup []), []⟩, ⟨43, (pB false), []⟩, ⟨4, (pB false), []⟩] (by kernel_rfl) (by kernel_rfl) ?_ ?_
       ·
        refine .cons (fun E A => OpStep.plain rfl (Step.load_box_agg (n := 5) (qs := [cI l.f0, cI l.f1, cI l.f2, cI l.f3, cI l.f4]) (t := 5) rfl rfl (by exact lt_ok rfl) (by kernel_rfl) (A.g 2 rfl) (by exact A.box rfl) rfl rfl)) ?_
        refine .cons (fun E A => OpStep.plain rfl (Step.tb 6 (limOk l) hb1 (Step.cd (xs := [.tmp 5]) (ps := [(.agg [cI l.f0, cI l.f1, cI l.f2, cI l.f3, cI l.f4])]) (g := .func 135) false 6 (evs_cons (A.g 5 rfl) (rfl)) (.cons (.agg (.cons (.d _) (.cons (.d _) (.cons (.d _) (.cons (.d _) (.cons (.d _) .nil)))))) .nil) (ok_impl_LimitsOk l) (At.freshRows A rfl)))) ?_
        refine .cons (fun E A => A.mv 6 7) ?_
        refine .cons (fun E A => A.y 7 (Step.fa (off := 0) (n := 1) (one := true) 0 8 (A.g 3 rfl))) ?_
        refine .cons (fun E A => A.y 7 (Step.load_box (c := cI q.f0) (t := 9) rfl rfl (by exact lt_ok rfl) (by kernel_rfl) (A.g 8 rfl) (by exact A.box rfl) rfl)) ?_
        refine .cons (fun E A => A.y 7 (Step.tb 10 (decide (0 ≤ q.f0 ∧ q.f0 ≤ 1152921504606846975)) hb2 (Step.cd (xs := [.tmp 9]) (ps := [(pI q.f0)]) (g := .func 155) false 10 (evs_cons (A.g 9 rfl) (rfl)) (.cons (.one (.d _)) .nil) (ok_impl_isNum q.f0) (At.freshRows A rfl)))) ?_
        refine .cons (fun E A => OpStep.plain rfl (Step.pick (b := true) (p := (pB true)) (t := 11) rfl rfl (by exact lt_ok rfl) (A.g 7 rfl) (A.g 10 rfl))) ?_
        refine .cons (fun E A => A.mv 11 12) ?_
        refine .cons (fun E A => A.y 12 (Step.fa (off := 1) (n := 1) (one := true) 0 13 (A.g 3 rfl))) ?_
        refine .cons (fun E A => A.y 12 (Step.load_box (c := cI q.f1) (t := 14) rfl rfl (by exact lt_ok rfl) (by kernel_rfl) (A.g 13 rfl) (by exact A.box rfl) rfl)) ?_
        refine .cons (fun E A => A.y 12 (Step.tb 15 (decide (0 ≤ q.f1 ∧ q.f1 ≤ 1152921504606846975)) hb3 (Step.cd (xs := [.tmp 14]) (ps := [(pI q.f1)]) (g := .func 155) false 15 (evs_cons (A.g 14 rfl) (rfl)) (.cons (.one (.d _)) .nil) (ok_impl_isNum q.f1) (At.freshRows A rfl)))) ?_
        refine .cons (fun E A => OpStep.plain rfl (Step.pick (b := true) (p := (pB true)) (t := 16) rfl rfl (by exact lt_ok rfl) (A.g 12 rfl) (A.g 15 rfl))) ?_
        refine .cons (fun E A => A.mv 16 17) ?_
        refine .cons (fun E A => A.y 17 (Step.fa (off := 2) (n := 1) (one := true) 0 18 (A.g 3 rfl))) ?_
        refine .cons (fun E A => A.y 17 (Step.load_box (c := cS q.f2) (t := 19) rfl rfl (by exact lt_ok rfl) (by kernel_rfl) (A.g 18 rfl) (by exact A.box rfl) rfl)) ?_
        refine .cons (fun E A => A.y 17 (Step.lit_d (e := 24) (z := 1) (by_ := 24) (xs := [.tmp 19]) (pss := [[cS q.f2]]) (ds := [(.ints .u8 q.f2)]) (d := (.bss [q.f2])) (t := 20) rfl rfl (by exact lt_ok rfl) (by kernel_rfl) rfl rfl (.cons (by exact (congrArg PV.flat (A.g 19 rfl)).trans rfl) .nil) (by simp) (le_ok rfl) (le_ok rfl) rfl rfl trivial rfl rfl)) ?_
        refine .cons (fun E A => A.y 17 (Step.tb 21 (hashes [q.f2]) hb4 (Step.cd (xs := [.tmp 20]) (ps := [(.one (.d (.bss [q.f2])))]) (g := .func 156) false 21 (evs_cons (A.g 20 rfl) (rfl)) (.cons (.one (.d _)) .nil) (ok_impl_areHashes [q.f2]) (At.freshRows A rfl)))) ?_
        refine .cons (fun E A => OpStep.plain rfl (Step.pick (b := true) (p := (pB true)) (t := 22) rfl rfl (by exact lt_ok rfl) (A.g 17 rfl) (A.g 21 rfl))) ?_
        refine .cons (fun E A => A.mv 22 23) ?_
        refine .cons (fun E A => A.y 23 (Step.fa (off := 3) (n := 1) (one := true) 0 24 (A.g 3 rfl))) ?_
        refine .cons (fun E A => A.y 23 (Step.load_box (c := cS q.f3) (t := 25) rfl rfl (by exact lt_ok rfl) (by kernel_rfl) (A.g 24 rfl) (by exact A.box rfl) rfl)) ?_
        refine .cons (fun E A => A.y 23 (Step.fa (off := 0) (n := 1) (one := true) 0 26 (A.g 2 rfl))) ?_
        refine .cons (fun E A => A.y 23 (Step.load_box (c := cI l.f0) (t := 27) rfl rfl (by exact lt_ok rfl) (by kernel_rfl) (A.g 26 rfl) (by exact A.box rfl) rfl)) ?_
        refine .cons (fun E A => A.y 23 (Step.tb 28 (bitsOk q.f3 l.f0) hb5 (Step.cd (xs := [.tmp 25, .tmp 27]) (ps := [(pS q.f3), (pI l.f0)]) (g := .func 174) false 28 (evs_cons (A.g 25 rfl) (evs_cons (A.g 27 rfl) (rfl))) (.cons (.one (.d _)) (.cons (.one (.d _)) .nil)) (ok_impl_BitsOk q.f3 l.f0 (by assumption) (by first | omega | assumption | (simp only [List.length_append] at *; omega))) (At.freshRows A rfl)))) ?_
        refine .cons (fun E A => OpStep.plain rfl (Step.pick (b := true) (p := (pB true)) (t := 29) rfl rfl (by exact lt_ok rfl) (A.g 23 rfl) (A.g 28 rfl))) ?_
        refine .cons (fun E A => A.mv 29 30) ?_
        refine .cons (fun E A => A.y 30 (Step.fa (off := 4) (n := 1) (one := true) 0 31 (A.g 3 rfl))) ?_
        refine .cons (fun E A => A.y 30 (Step.load_box (c := .d (.bss q.f4)) (t := 32) rfl rfl (by exact lt_ok rfl) (by kernel_rfl) (A.g 31 rfl) (by exact A.box rfl) rfl)) ?_
        refine .cons (fun E A => A.y 30 (Step.len (e := 24) (z := 1) (d := (.bss q.f4)) (t := 33) rfl rfl (by exact lt_ok rfl) (by kernel_rfl) (A.g 32 rfl) rfl)) ?_
        refine .cons (fun E A => A.y 30 (Step.fa (off := 3) (n := 1) (one := true) 0 34 (A.g 3 rfl))) ?_
        refine .cons (fun E A => A.y 30 (Step.load_box (c := cS q.f3) (t := 35) rfl rfl (by exact lt_ok rfl) (by kernel_rfl) (A.g 34 rfl) (by exact A.box rfl) rfl)) ?_
        refine .cons (fun E A => A.y 30 (Step.cd (xs := [.tmp 35]) (ps := [(pS q.f3)]) (g := .func 139) false 36 (evs_cons (A.g 35 rfl) (rfl)) (.cons (.one (.d _)) .nil) (ok_impl_BitsCount q.f3 (by first | assumption | exact fun x hx => by cases hx) (by first | omega | assumption | (simp only [List.length_append] at *; omega) | (simp; done))) (At.freshRows A rfl))) ?_
        refine .cons (fun E A => A.y 30 (Step.tb 37 (decide ((q.f4.length : Int) = ((bitList q.f3).length : Int))) hb7 (Step.bd 37 (A.g 33 rfl) (A.g 36 rfl) (Bin.eql (k := .i64) (a := (q.f4.length : Int)) (b := ((bitList q.f3).length : Int)))))) ?_
        refine .cons (fun E A => OpStep.plain rfl (Step.pick (b := true) (p := (pB false)) (t := 38) rfl rfl (by exact lt_ok rfl) (A.g 30 rfl) (A.g 37 rfl))) ?_
        refine .cons (fun E A => A.mv 38 39) ?_
        refine .cons (fun E A => A.of 39) ?_
        refine .cons (fun E A => A.of 39) ?_
        refine .cons (fun E A => A.of 39) ?_
        refine .cons (fun E A => OpStep.plain rfl (Step.pick (b := false) (p := (pB false)) (t := 43) rfl rfl (by exact lt_ok rfl) (A.g 39 rfl) rfl)) ?_
        refine .cons (fun E A => A.as 43 4) ?_
        exact .nil _ _
       refine TL.nil ?_
       refine T.ret ?_
       refine ⟨[(false, [.d (.bool false)])], (.cons rfl .nil), rfl, [], (RetC.rd' ?_ .nil)⟩ <;> (first | rfl | (congr 1; symm; simp only [qcOk, hashes, List.all_cons, List.all_nil, *, Bool.and_true, Bool.true_and, Bool.and_false, Bool.false_and, decide_true, decide_false, and_true, true_and, and_self, and_false, false_and, Bool.and_self, not_true, not_false, Bool.not_true, Bool.not_false, ge_iff_le, gt_iff_lt, if_true, if_false, Bool.false_eq_true, ite_true, ite_false, reduceIte]; done) | (congr 1; symm; simp_all [qcOk, hashes, List.all_cons, List.all_nil]; done) | (congr 1; symm; simp_all [qcOk, hashes, List.all_cons, List.all_nil]; omega))
     ·
      refine T.draw [⟨5, (.agg [cI l.f0, cI l.f1, cI l.f2, cI l.f3, cI l.f4]), []⟩, ⟨6, (pB true), []⟩, ⟨7, (pB true), []⟩, ⟨8, (.one (.ptr 3 0)), []⟩, ⟨9, (pI q.f0), []⟩, ⟨10, (pB true), []⟩, ⟨11, (pB true), []⟩, ⟨12, (pB true), []⟩, ⟨13, (.one (.ptr 3 1)), []⟩, ⟨14, (pI q.f1), []⟩, ⟨15, (pB true), []⟩, ⟨16, (pB true), []⟩, ⟨17, (pB true), []⟩, ⟨18, (.one (.ptr 3 2)), []⟩, ⟨19, (pS q.f2), []⟩, ⟨20, (.one (.d (.bss [q.f2]))), []⟩, ⟨21, (pB true), []⟩, ⟨22, (pB true), []⟩, ⟨23, (pB true), []⟩, ⟨24, (.one (.ptr 3 3)), []⟩, ⟨25, (pS q.f3), []⟩, ⟨26, (.one (.ptr 2 0)), []⟩, ⟨27, (pI l.f0), []⟩, ⟨28, (pB false), []⟩, ⟨29, (pB false), []⟩, ⟨30, (pB false), []⟩, ⟨31, (.tup []), []⟩, ⟨32, (.tup []), []⟩, ⟨33, (.tup []), []⟩, ⟨34, (.tup []), []⟩, ⟨35, (.tup []), []⟩, ⟨36, (.tup []), []⟩, ⟨37, (.tup []), []⟩, ⟨38, (pB false), []⟩, ⟨39, (pB false), []⟩, ⟨40, (.tup []), []⟩, ⟨41, (.tup []), []⟩, ⟨42, (.tup []), []⟩, ⟨43, (pB false), []⟩, ⟨4, (pB false), []⟩] (by kernel_rfl) (by kernel_rfl) ?_ ?_
      ·
       refine .cons (fun E A => OpStep.plain rfl (Step.load_box_agg (n := 5) (qs := [cI l.f0, cI l.f1, cI l.f2, cI l.f3, cI l.f4]) (t := 5) rfl rfl (by exact lt_ok rfl) (by kernel_rfl) (A.g 2 rfl) (by exact A.box rfl) rfl rfl)) ?_
       refine .cons (fun E A => OpStep.plain rfl (Step.tb 6 (limOk l) hb1 (Step.cd (xs := [.tmp 5]) (ps := [(.agg [cI l.f0, cI l.f1, cI l.f2, cI l.f3, cI l.f4])]) (g := .func 135) false 6 (evs_cons (A.g 5 rfl) (rfl)) (.cons (.agg (.cons (.d _) (.cons (.d _) (.cons (.d _) (.cons (.d _) (.cons (.d _) .nil)))))) .nil) (ok_impl_LimitsOk l) (At.freshRows A rfl)))) ?_
       refine .cons (fun E A => A.mv 6 7) ?_
       refine .cons (fun E A => A.y 7 (Step.fa (off := 0) (n := 1) (one := true) 0 8 (A.g 3 rfl))) ?_
       refine .cons (fun E A => A.y 7 (Step.load_box (c := cI q.f0) (t := 9) rfl rfl (by exact lt_ok rfl) (by kernel_rfl) (A.g 8 rfl) (by exact A.box rfl) rfl)) ?_
       refine .cons (fun E A => A.y 7 (Step.tb 10 (decide (0 ≤ q.f0 ∧ q.f0 ≤ 1152921504606846975)) hb2 (Step.cd (xs := [.tmp 9]) (ps := [(pI q.f0)]) (g := .func 155) false 10 (evs_cons (A.g 9 rfl) (rfl)) (.cons (.one (.d _)) .nil) (ok_impl_isNum q.f0) (At.freshRows A rfl)))) ?_
       refine .cons (fun E A => OpStep.plain rfl (Step.pick (b := true) (p := (pB true)) (t := 11) rfl rfl (by exact lt_ok rfl) (A.g 7 rfl) (A.g 10 rfl))) ?_
       refine .cons (fun E A => A.mv 11 12) ?_
       refine .cons (fun E A => A.y 12 (Step.fa (off := 1) (n := 1) (one := true) 0 13 (A.g 3 rfl))) ?_
       refine .cons (fun E A => A.y 12 (Step.load_box (c := cI q.f1) (t := 14) rfl rfl (by exact lt_ok rfl) (by kernel_rfl) (A.g 13 rfl) (by exact A.box rfl) rfl)) ?_
       refine .cons (fun E A => A.y 12 (Step.tb 15 (decide (0 ≤ q.f1 ∧ q.f1 ≤ 1152921504606846975)) hb3 (Step.cd (xs := [.tmp 14]) (ps := [(pI q.f1)]) (g := .func 155) false 15 (evs_cons (A.g 14 rfl) (rfl)) (.cons (.one (.d _)) .nil) (ok_impl_isNum q.f1) (At.freshRows A rfl)))) ?_
       refine .cons (fun E A => OpStep.plain rfl (Step.pick (b := true) (p := (pB true)) (t := 16) rfl rfl (by exact lt_ok rfl) (A.g 12 rfl) (A.g 15 rfl))) ?_
       refine .cons (fun E A => A.mv 16 17) ?_
       refine .cons (fun E A => A.y 17 (Step.fa (off := 2) (n := 1) (one := true) 0 18 (A.g 3 rfl))) ?_
       refine .cons (fun E A => A.y 17 (Step.load_box (c := cS q.f2) (t := 19) rfl rfl (by exact lt_ok rfl) (by kernel_rfl) (A.g 18 rfl) (by exact A.box rfl) rfl)) ?_
       refine .cons (fun E A => A.y 17 (Step.lit_d (e := 24) (z := 1) (by_ := 24) (xs := [.tmp 19]) (pss := [[cS q.f2]]) (ds := [(.ints .u8 q.f2)]) (d := (.bss [q.f2])) (t := 20) rfl rfl (by exact lt_ok rfl) (by kernel_rfl) rfl rfl (.cons (by exact (congrArg PV.flat (A.g 19 rfl)).trans rfl) .nil) (by simp) (le_ok rfl) (le_ok rfl) rfl rfl trivial rfl rfl)) ?_
       refine .cons (fun E A => A.y 17 (Step.tb 21 (hashes [q.f2]) hb4 (Step.cd (xs := [.tmp 20]) (ps := [(.one (.d (.bss [q.f2])))]) (g := .func 156) false 21 (evs_cons (A.g 20 rfl) (rfl)) (.cons (.one (.d _)) .nil) (ok_impl_areHashes [q.f2]) (At.freshRows A rfl)))) ?_
       refine .cons (fun E A => OpStep.plain rfl (Step.pick (b := true) (p := (pB true)) (t := 22) rfl rfl (by exact lt_ok rfl) (A.g 17 rfl) (A.g 21 rfl))) ?_
       refine .cons (fun E A => A.mv 22 23) ?_
       refine .cons (fun E A => A.y 23 (Step.fa (off := 3) (n := 1) (one := true) 0 24 (A.g 3 rfl))) ?_
       refine .cons (fun E A => A.y 23 (Step.load_box (c := cS q.f3) (t := 25) rfl rfl (by exact lt_ok rfl) (by kernel_rfl) (A.g 24 rfl) (by exact A.box rfl) rfl)) ?_
       refine .cons (fun E A => A.y 23 (Step.fa (off := 0) (n := 1) (one := true) 0 26 (A.g 2 rfl))) ?_
       refine .cons (fun E A => A.y 23 (Step.load_box (c := cI l.f0) (t := 27) rfl rfl (by exact lt_ok rfl) (by kernel_rfl) (A.g 26 rfl) (by exact A.box rfl) rfl)) ?_
       refine .cons (fun E A => A.y 23 (Step.tb 28 (bitsOk q.f3 l.f0) hb5 (Step.cd (xs := [.tmp 25, .tmp 27]) (ps := [(pS q.f3), (pI l.f0)]) (g := .func 174) false 28 (evs_cons (A.g 25 rfl) (evs_cons (A.g 27 rfl) (rfl))) (.cons (.one (.d _)) (.cons (.one (.d _)) .nil)) (ok_impl_BitsOk q.f3 l.f0 (by assumption) (by first | omega | assumption | (simp only [List.length_append] at *; omega))) (At.freshRows A rfl)))) ?_
       refine .cons (fun E A => OpStep.plain rfl (Step.pick (b := true) (p := (pB false)) (t := 29) rfl rfl (by exact lt_ok rfl) (A.g 23 rfl) (A.g 28 rfl))) ?_
       refine .cons (fun E A => A.mv 29 30) ?_
       refine .cons (fun E A => A.of 30) ?_
       refine .cons (fun E A => A.of 30) ?_
       refine .cons (fun E A => A.of 30) ?_
       refine .cons (fun E A => A.of 30) ?_
       refine .cons (fun E A => A.of 30) ?_
       refine .cons (fun E A => A.of 30) ?_
       refine .cons (fun E A => A.of 30) ?_
       refine .cons (fun E A => OpStep.plain rfl (Step.pick (b := false) (p := (pB false)) (t := 38) rfl rfl (by exact lt_ok rfl) (A.g 30 rfl) rfl)) ?_
       refine .cons (fun E A => A.mv 38 39) ?_
       refine .cons (fun E A => A.of 39) ?_
       refine .cons (fun E A => A.of 39) ?_
       refine .cons (fun E A => A.of 39) ?_
       refine .cons (fun E A => OpStep.plain rfl (Step.pick (b := false) (p := (pB false)) (t := 43) rfl rfl (by exact lt_ok rfl) (A.g 39 rfl) rfl)) ?_
       refine .cons (fun E A => A.as 43 4) ?_
       exact .nil _ _
      refine TL.nil ?_
      refine T.ret ?_
      refine ⟨[(false, [.d (.bool false)])], (.cons rfl .nil), rfl, [], (RetC.rd' ?_ .nil)⟩ <;> (first | rfl | (congr 1; symm; simp only [qcOk, hashes, List.all_cons, List.all_nil, *, Bool.and_true, Bool.true_and, Bool.and_false, Bool.false_and, decide_true, decide_false, and_true, true_and, and_self, and_false, false_and, Bool.and_self, not_true, not_false, Bool.not_true, Bool.not_false, ge_iff_le, gt_iff_lt, if_true, if_false, Bool.false_eq_true, ite_true, ite_false, reduceIte]; done) | (congr 1; symm; simp_all [qcOk, hashes, List.all_cons, List.all_nil]; done) | (congr 1; symm; simp_all [qcOk, hashes, List.all_cons, List.all_nil]; omega))
    ·
     refine T.draw [⟨5, (.agg [cI l.f0, cI l.f1, cI l.f2, cI l.f3, cI l.f4]), []⟩, ⟨6, (pB true), []⟩, ⟨7, (pB true), []⟩, ⟨8, (.one (.ptr 3 0)), []⟩, ⟨9, (pI q.f0), []⟩, ⟨10, (pB true), []⟩, ⟨11, (pB true), []⟩, ⟨12, (pB true), []⟩, ⟨13, (.one (.ptr 3 1)), []⟩, ⟨14, (pI q.f1), []⟩, ⟨15, (pB true), []⟩, ⟨16, (pB true), []⟩, ⟨17, (pB true), []⟩, ⟨18, (.one (.ptr 3 2)), []⟩, ⟨19, (pS q.f2), []⟩, ⟨20, (.one (.d (.bss [q.f2]))), []⟩, ⟨21, (pB false), []⟩, ⟨22, (pB false), []⟩, ⟨23, (pB false), []⟩, ⟨24, (.tup []), []⟩, ⟨25, (.tup []), []⟩, ⟨26, (.tup []), []⟩, ⟨27, (.tup []), []⟩, ⟨28, (.tup []), []⟩, ⟨29, (pB false), []⟩, ⟨30, (pB false), []⟩, ⟨31, (.tup []), []⟩, ⟨32, (.tup []), []⟩, ⟨33, (.tup []), []⟩, ⟨34, (.tup []), []⟩, ⟨35, (.tup []), []⟩, ⟨36, (.tup []), []⟩, ⟨37, (.tup []), []⟩, ⟨38, (pB false), []⟩, ⟨39, (pB false), []⟩, ⟨40, (.tup []), []⟩, ⟨41, (.tup []), []⟩, ⟨42, (.tup []), []⟩, ⟨43, (pB false), []⟩, ⟨4, (pB false), []⟩] (by kernel_rfl) (by kernel_rfl) ?_ ?_
     ·
      refine .cons (fun E A => OpStep.plain rfl (Step.load_box_agg (n := 5) (qs := [cI l.f0, cI l.f1, cI l.f2, cI l.f3, cI l.f4]) (t := 5) rfl rfl (by exact lt_ok rfl) (by kernel_rfl) (A.g 2 rfl) (by exact A.box rfl) rfl rfl)) ?_
      refine .cons (fun E A => OpStep.plain rfl (Step.tb 6 (limOk l) hb1 (Step.cd (xs := [.tmp 5]) (ps := [(.agg [cI l.f0, cI l.f1, cI l.f2, cI l.f3, cI l.f4])]) (g := .func 135) false 6 (evs_cons (A.g 5 rfl) (rfl)) (.cons (.agg (.cons (.d _) (.cons (.d _) (.cons (.d _) (.cons (.d _) (.cons (.d _) .nil)))))) .nil) (ok_impl_LimitsOk l) (At.freshRows A rfl)))) ?_
      refine .cons (fun E A => A.mv 6 7) ?_
      refine .cons (fun E A => A.y 7 (Step.fa (off := 0) (n := 1) (one := true) 0 8 (A.g 3 rfl))) ?_
      refine .cons (fun E A => A.y 7 (Step.load_box (c := cI q.f0) (t := 9) rfl rfl (by exact lt_ok rfl) (by kernel_rfl) (A.g 8 rfl) (by exact A.box rfl) rfl)) ?_
      refine .cons (fun E A => A.y 7 (Step.tb 10 (decide (0 ≤ q.f0 ∧ q.f0 ≤ 1152921504606846975)) hb2 (Step.cd (xs := [.tmp 9]) (ps := [(pI q.f0)]) (g := .func 155) false 10 (evs_cons (A.g 9 rfl) (rfl)) (.cons (.one (.d _)) .nil) (ok_impl_isNum q.f0) (At.freshRows A rfl)))) ?_
      refine .cons (fun E A => OpStep.plain rfl (Step.pick (b := true) (p := (pB true)) (t := 11) rfl rfl (by exact lt_ok rfl) (A.g 7 rfl) (A.g 10 rfl))) ?_
      refine .cons (fun E A => A.mv 11 12) ?_
      refine .cons (fun E A => A.y 12 (Step.fa (off := 1) (n := 1) (one := true) 0 13 (A.g 3 rfl))) ?_
      refine .cons (fun E A => A.y 12 (Step.load_box (c := cI q.f1) (t := 14) rfl rfl (by exact lt_ok rfl) (by kernel_rfl) (A.g 13 rfl) (by exact A.box rfl) rfl)) ?_
      refine .cons (fun E A => A.y 12 (Step.tb 15 (decide (0 ≤ q.f1 ∧ q.f1 ≤ 1152921504606846975)) hb3 (Step.cd (xs := [.tmp 14]) (ps := [(pI q.f1)]) (g := .func 155) false 15 (evs_cons (A.g 14 rfl) (rfl)) (.cons (.one (.d _)) .nil) (ok_impl_isNum q.f1) (At.freshRows A rfl)))) ?_
      refine .cons (fun E A => OpStep.plain rfl (Step.pick (b := true) (p := (pB true)) (t := 16) rfl rfl (by exact lt_ok rfl) (A.g 12 rfl) (A.g 15 rfl))) ?_
      refine .cons (fun E A => A.mv 16 17) ?_
      refine .cons (fun E A => A.y 17 (Step.fa (off := 2) (n := 1) (one := true) 0 18 (A.g 3 rfl))) ?_
      refine .cons (fun E A => A.y 17 (Step.load_box (c := cS q.f2) (t := 19) rfl rfl (by exact lt_ok rfl) (by kernel_rfl) (A.g 18 rfl) (by exact A.box rfl) rfl)) ?_
      refine .cons (fun E A => A.y 17 (Step.lit_d (e := 24) (z := 1) (by_ := 24) (xs := [.tmp 19]) (pss := [[cS q.f2]]) (ds := [(.ints .u8 q.f2)]) (d := (.bss [q.f2])) (t := 20) rfl rfl (by exact lt_ok rfl) (by kernel_rfl) rfl rfl (.cons (by exact (congrArg PV.flat (A.g 19 rfl)).trans rfl) .nil) (by simp) (le_ok rfl) (le_ok rfl) rfl rfl trivial rfl rfl)) ?_
      refine .cons (fun E A => A.y 17 (Step.tb 21 (hashes [q.f2]) hb4 (Step.cd (xs := [.tmp 20]) (ps := [(.one (.d (.bss [q.f2])))]) (g := .func 156) false 21 (evs_cons (A.g 20 rfl) (rfl)) (.cons (.one (.d _)) .nil) (ok_impl_areHashes [q.f2]) (At.freshRows A rfl)))) ?_
      refine .cons (fun E A => OpStep.plain rfl (Step.pick (b := true) (p := (pB false)) (t := 22) rfl rfl (by exact lt_ok rfl) (A.g 17 rfl) (A.g 21 rfl))) ?_
      refine .cons (fun E A => A.mv 22 23) ?_
      refine .cons (fun E A => A.of 23) ?_
      refine .cons (fun E A => A.of 23) ?_
      refine .cons (fun E A => A.of 23) ?_
      refine .cons (fun E A => A.of 23) ?_
      refine .cons (fun E A => A.of 23) ?_
      refine .cons (fun E A => OpStep.plain rfl (Step.pick (b := false) (p := (pB false)) (t := 29) rfl rfl (by exact lt_ok rfl) (A.g 23 rfl) rfl)) ?_
      refine .cons (fun E A => A.mv 29 30) ?_
      refine .cons (fun E A => A.of 30) ?_
      refine .cons (fun E A => A.of 30) ?_
      refine .cons (fun E A => A.of 30) ?_
      refine .cons (fun E A => A.of 30) ?_
      refine .cons (fun E A => A.of 30) ?_
      refine .cons (fun E A => A.of 30) ?_
      refine .cons (fun E A => A.of 30) ?_
      refine .cons (fun E A => OpStep.plain rfl (Step.pick (b := false) (p := (pB false)) (t := 38) rfl rfl (by exact lt_ok rfl) (A.g 30 rfl) rfl)) ?_
      refine .cons (fun E A => A.mv 38 39) ?_
      refine .cons (fun E A => A.of 39) ?_
      refine .cons (fun E A => A.of 39) ?_
      refine .cons (fun E A => A.of 39) ?_
      refine .cons (fun E A => OpStep.plain rfl (Step.pick (b := false) (p := (pB false)) (t := 43) rfl rfl (by exact lt_ok rfl) (A.g 39 rfl) rfl)) ?_
      refine .cons (fun E A => A.as 43 4) ?_
      exact .nil _ _
     refine TL.nil ?_
     refine T.ret ?_
     refine ⟨[(false, [.d (.bool false)])], (.cons rfl .nil), rfl, [], (RetC.rd' ?_ .nil)⟩ <;> (first | rfl | (congr 1; symm; simp only [qcOk, hashes, List.all_cons, List.all_nil, *, Bool.and_true, Bool.true_and, Bool.and_false, Bool.false_and, decide_true, decide_false, and_true, true_and, and_self, and_false, false_and, Bool.and_self, not_true, not_false, Bool.not_true, Bool.not_false, ge_iff_le, gt_iff_lt, if_true, if_false, Bool.false_eq_true, ite_true, ite_false, reduceIte]; done) | (congr 1; symm; simp_all [qcOk, hashes, List.all_cons, List.all_nil]; done) | (congr 1; symm; simp_all [qcOk, hashes, List.all_cons, List.all_nil]; omega))
   ·
    refine T.draw [⟨5, (.agg [cI l.f0, cI l.f1, cI l.f2, cI l.f3, cI l.f4]), []⟩, ⟨6, (pB true), []⟩, ⟨7, (pB true), []⟩, ⟨8, (.one (.ptr 3 0)), []⟩, ⟨9, (pI q.f0), []⟩, ⟨10, (pB true), []⟩, ⟨11, (pB true), []⟩, ⟨12, (pB true), []⟩, ⟨13, (.one (.ptr 3 1)), []⟩, ⟨14, (pI q.f1), []⟩, ⟨15, (pB false), []⟩, ⟨16, (pB false), []⟩, ⟨17, (pB false), []⟩, ⟨18, (.tup []), []⟩, ⟨19, (.tup []), []⟩, ⟨20, (.tup []), []⟩, ⟨21, (.tup []), []⟩, ⟨22, (pB false), []⟩, ⟨23, (pB false), []⟩, ⟨24, (.tup []), []⟩, ⟨25, (.tup []), []⟩, ⟨26, (.tup []), []⟩, ⟨27, (.tup []), []⟩, ⟨28, (.tup []), []⟩, ⟨29, (pB false), []⟩, ⟨30, (pB false), []⟩, ⟨31, (.tup []), []⟩, ⟨32, (.tup []), []⟩, ⟨33, (.tup []), []⟩, ⟨34, (.tup []), []⟩, ⟨35, (.tup []), []⟩, ⟨36, (.tup []), []⟩, ⟨37, (.tup []), []⟩, ⟨38, (pB false), []⟩, ⟨39, (pB false), []⟩, ⟨40, (.tup []), []⟩, ⟨41, (.tup []), []⟩, ⟨42, (.tup []), []⟩, ⟨43, (pB false), []⟩, ⟨4, (pB false), []⟩] (by kernel_rfl) (by kernel_rfl) ?_ ?_
    ·
     refine .cons (fun E A => OpStep.plain rfl (Step.load_box_agg (n := 5) (qs := [cI l.f0, cI l.f1, cI l.f2, cI l.f3, cI l.f4]) (t := 5) rfl rfl (by exact lt_ok rfl) (by kernel_rfl) (A.g 2 rfl) (by exact A.box rfl) rfl rfl)) ?_
     refine .cons (fun E A => OpStep.plain rfl (Step.tb 6 (limOk l) hb1 (Step.cd (xs := [.tmp 5]) (ps := [(.agg [cI l.f0, cI l.f1, cI l.f2, cI l.f3, cI l.f4])]) (g := .func 135) false 6 (evs_cons (A.g 5 rfl) (rfl)) (.cons (.agg (.cons (.d _) (.cons (.d _) (.cons (.d _) (.cons (.d _) (.cons (.d _) .nil)))))) .nil) (ok_impl_LimitsOk l) (At.freshRows A rfl)))) ?_
     refine .cons (fun E A => A.mv 6 7) ?_
     refine .cons (fun E A => A.y 7 (Step.fa (off := 0) (n := 1) (one := true) 0 8 (A.g 3 rfl))) ?_
     refine .cons (fun E A => A.y 7 (Step.load_box (c := cI q.f0) (t := 9) rfl rfl (by exact lt_ok rfl) (by kernel_rfl) (A.g 8 rfl) (by exact A.box rfl) rfl)) ?_
     refine .cons (fun E A => A.y 7 (Step.tb 10 (decide (0 ≤ q.f0 ∧ q.f0 ≤ 1152921504606846975)) hb2 (Step.cd (xs := [.tmp 9]) (ps := [(pI q.f0)]) (g := .func 155) false 10 (evs_cons (A.g 9 rfl) (rfl)) (.cons (.one (.d _)) .nil) (ok_impl_isNum q.f0) (At.freshRows A rfl)))) ?_
     refine .cons (fun E A => OpStep.plain rfl (Step.pick (b := true) (p := (pB true)) (t := 11) rfl rfl (by exact lt_ok rfl) (A.g 7 rfl) (A.g 10 rfl))) ?_
     refine .cons (fun E A => A.mv 11 12) ?_
     refine .cons (fun E A => A.y 12 (Step.fa (off := 1) (n := 1) (one := true) 0 13 (A.g 3 rfl))) ?_
     refine .cons (fun E A => A.y 12 (Step.load_box (c := cI q.f1) (t := 14) rfl rfl (by exact lt_ok rfl) (by kernel_rfl) (A.g 13 rfl) (by exact A.box rfl) rfl)) ?_
     refine .cons (fun E A => A.y 12 (Step.tb 15 (decide (0 ≤ q.f1 ∧ q.f1 ≤ 1152921504606846975)) hb3 (Step.cd (xs := [.tmp 14]) (ps := [(pI q.f1)]) (g := .func 155) false 15 (evs_cons (A.g 14 rfl) (rfl)) (.cons (.one (.d _)) .nil) (ok_impl_isNum q.f1) (At.freshRows A rfl)))) ?_
     refine .cons (fun E A => OpStep.plain rfl (Step.pick (b := true) (p := (pB false)) (t := 16) rfl rfl (by exact lt_ok rfl) (A.g 12 rfl) (A.g 15 rfl))) ?_
     refine .cons (fun E A => A.mv 16 17) ?_
     refine .cons (fun E A => A.of 17) ?_
     refine .cons (fun E A => A.of 17) ?_
     refine .cons (fun E A => A.of 17) ?_
     refine .cons (fun E A => A.of 17) ?_
     refine .cons (fun E A => OpStep.plain rfl (Step.pick (b := false) (p := (pB false)) (t := 22) rfl rfl (by exact lt_ok rfl) (A.g 17 rfl) rfl)) ?_
     refine .cons (fun E A => A.mv 22 23) ?_
     refine .cons (fun E A => A.of 23) ?_
     refine .cons (fun E A => A.of 23) ?_
     refine .cons (fun E A => A.of 23) ?_
     refine .cons (fun E A => A.of 23) ?_
     refine .cons (fun E A => A.of 23) ?_
     refine .cons (fun E A => OpStep.plain rfl (Step.pick (b := false) (p := (pB false)) (t := 29) rfl rfl (by exact lt_ok rfl) (A.g 23 rfl) rfl)) ?_
     refine .cons (fun E A => A.mv 29 30) ?_
     refine .cons (fun E A => A.of 30) ?_
     refine .cons (fun E A => A.of 30) ?_
     refine .cons (fun E A => A.of 30) ?_
     refine .cons (fun E A => A.of 30) ?_
     refine .cons (fun E A => A.of 30) ?_
     refine .cons (fun E A => A.of 30) ?_
     refine .cons (fun E A => A.of 30) ?_
     refine .cons (fun E A => OpStep.plain rfl (Step.pick (b := false) (p := (pB false)) (t := 38) rfl rfl (by exact lt_ok rfl) (A.g 30 rfl) rfl)) ?_
     refine .cons (fun E A => A.mv 38 39) ?_
     refine .cons (fun E A => A.of 39) ?_
     refine .cons (fun E A => A.of 39) ?_
     refine .cons (fun E A => A.of 39) ?_
     refine .cons (fun E A => OpStep.plain rfl (Step.pick (b := false) (p := (pB false)) (t := 43) rfl rfl (by exact lt_ok rfl) (A.g 39 rfl) rfl)) ?_
     refine .cons (fun E A => A.as 43 4) ?_
     exact .nil _ _
    refine TL.nil ?_
    refine T.ret ?_
    refine ⟨[(false, [.d (.bool false)])], (.cons rfl .nil), rfl, [], (RetC.rd' ?_ .nil)⟩ <;> (first | rfl | (congr 1; symm; simp only [qcOk, hashes, List.all_cons, List.all_nil, *, Bool.and_true, Bool.true_and, Bool.and_false, Bool.false_and, decide_true, decide_false, and_true, true_and, and_self, and_false, false_and, Bool.and_self, not_true, not_false, Bool.not_true, Bool.not_false, ge_iff_le, gt_iff_lt, if_true, if_false, Bool.false_eq_true, ite_true, ite_false, reduceIte]; done) | (congr 1; symm; simp_all [qcOk, hashes, List.all_cons, List.all_nil]; done) | (congr 1; symm; simp_all [qcOk, hashes, List.all_cons, List.all_nil]; omega))
  ·
   refine T.draw [⟨5, (.agg [cI l.f0, cI l.f1, cI l.f2, cI l.f3, cI l.f4]), []⟩, ⟨6, (pB true), []⟩, ⟨7, (pB true), []⟩, ⟨8, (.one (.ptr 3 0)), []⟩, ⟨9, (pI q.f0), []⟩, ⟨10, (pB false), []⟩, ⟨11, (pB false), []⟩, ⟨12, (pB false), []⟩, ⟨13, (.tup []), []⟩, ⟨14, (.tup []), []⟩, ⟨15, (.tup []), []⟩, ⟨16, (pB false), []⟩, ⟨17, (pB false), []⟩, ⟨18, (.tup []), []⟩, ⟨19, (.tup []), []⟩, ⟨20, (.tup []), []⟩, ⟨21, (.tup []), []⟩, ⟨22, (pB false), []⟩, ⟨23, (pB false), []⟩, ⟨24, (.tup []), []⟩, ⟨25, (.tup []), []⟩, ⟨26, (.tup []), []⟩, ⟨27, (.tup []), []⟩, ⟨28, (.tup []), []⟩, ⟨29, (pB false), []⟩, ⟨30, (pB false), []⟩, ⟨31, (.tup []), []⟩, ⟨32, (.tup []), []⟩, ⟨33, (.tup []), []⟩, ⟨34, (.tup []), []⟩, ⟨35, (.tup []), []⟩, ⟨36, (.tup []), []⟩, ⟨37, (.tup []), []⟩, ⟨38, (pB false), []⟩, ⟨39, (pB false), []⟩, ⟨40, (.tup []), []⟩, ⟨41, (.tup []), []⟩, ⟨42, (.tup []), []⟩, ⟨43, (pB false), []⟩, ⟨4, (pB false), []⟩] (by kernel_rfl) (by kernel_rfl) ?_ ?_
   ·
    refine .cons (fun E A => OpStep.plain rfl (Step.load_box_agg (n := 5) (qs := [cI l.f0, cI l.f1, cI l.f2, cI l.f3, cI l.f4]) (t := 5) rfl rfl (by exact lt_ok rfl) (by kernel_rfl) (A.g 2 rfl) (by exact A.box rfl) rfl rfl)) ?_
    refine .cons (fun E A => OpStep.plain rfl (Step.tb 6 (limOk l) hb1 (Step.cd (xs := [.tmp 5]) (ps := [(.agg [cI l.f0, cI l.f1, cI l.f2, cI l.f3, cI l.f4])]) (g := .func 135) false 6 (evs_cons (A.g 5 rfl) (rfl)) (.cons (.agg (.cons (.d _) (.cons (.d _) (.cons (.d _) (.cons (.d _) (.cons (.d _) .nil)))))) .nil) (ok_impl_LimitsOk l) (At.freshRows A rfl)))) ?_
    refine .cons (fun E A => A.mv 6 7) ?_
    refine .cons (fun E A => A.y 7 (Step.fa (off := 0) (n := 1) (one := true) 0 8 (A.g 3 rfl))) ?_
    refine .cons (fun E A => A.y 7 (Step.load_box (c := cI q.f0) (t := 9) rfl rfl (by exact lt_ok rfl) (by kernel_rfl) (A.g 8 rfl) (by exact A.box rfl) rfl)) ?_
    refine .cons (fun E A => A.y 7 (Step.tb 10 (decide (0 ≤ q.f0 ∧ q.f0 ≤ 1152921504606846975)) hb2 (Step.cd (xs := [.tmp 9]) (ps := [(pI q.f0)]) (g := .func 155) false 10 (evs_cons (A.g 9 rfl) (rfl)) (.cons (.one (.d _)) .nil) (ok_impl_isNum q.f0) (At.freshRows A rfl)))) ?_
    refine .cons (fun E A => OpStep.plain rfl (Step.pick (b := true) (p := (pB false)) (t := 11) rfl rfl (by exact lt_ok rfl) (A.g 7 rfl) (A.g 10 rfl))) ?_
    refine .cons (fun E A => A.mv 11 12) ?_
    refine .cons (fun E A => A.of 12) ?_
    refine .cons (fun E A => A.of 12) ?_
    refine .cons (fun E A => A.of 12) ?_
    refine .cons (fun E A => OpStep.plain rfl (Step.pick (b := false) (p := (pB false)) (t := 16) rfl rfl (by exact lt_ok rfl) (A.g 12 rfl) rfl)) ?_
    refine .cons (fun E A => A.mv 16 17) ?_
    refine .cons (fun E A => A.of 17) ?_
    refine .cons (fun E A => A.of 17) ?_
    refine .cons (fun E A => A.of 17) ?_
    refine .cons (fun E A => A.of 17) ?_
    refine .cons (fun E A => OpStep.plain rfl (Step.pick (b := false) (p := (pB false)) (t := 22) rfl rfl (by exact lt_ok rfl) (A.g 17 rfl) rfl)) ?_
    refine .cons (fun E A => A.mv 22 23) ?_
    refine .cons (fun E A => A.of 23) ?_
    refine .cons (fun E A => A.of 23) ?_
    refine .cons (fun E A => A.of 23) ?_
    refine .cons (fun E A => A.of 23) ?_
    refine .cons (fun E A => A.of 23) ?_
    refine .cons (fun E A => OpStep.plain rfl (Step.pick (b := false) (p := (pB false)) (t := 29) rfl rfl (by exact lt_ok rfl) (A.g 23 rfl) rfl)) ?_
    refine .cons (fun E A => A.mv 29 30) ?_
    refine .cons (fun E A => A.of 30) ?_
    refine .cons (fun E A => A.of 30) ?_
    refine .cons (fun E A => A.of 30) ?_
    refine .cons (fun E A => A.of 30) ?_
    refine .cons (fun E A => A.of 30) ?_
    refine .cons (fun E A => A.of 30) ?_
    refine .cons (fun E A => A.of 30) ?_
    refine .cons (fun E A => OpStep.plain rfl (Step.pick (b := false) (p := (pB false)) (t := 38) rfl rfl (by exact lt_ok rfl) (A.g 30 rfl) rfl)) ?_
    refine .cons (fun E A => A.mv 38 39) ?_
    refine .cons (fun E A => A.of 39) ?_
    refine .cons (fun E A => A.of 39) ?_
    refine .cons (fun E A => A.of 39) ?_
    refine .cons (fun E A => OpStep.plain rfl (Step.pick (b := false) (p := (pB false)) (t := 43) rfl rfl (by exact lt_ok rfl) (A.g 39 rfl) rfl)) ?_
    refine .cons (fun E A => A.as 43 4) ?_
    exact .nil _ _
   refine TL.nil ?_
   refine T.ret ?_
   refine ⟨[(false, [.d (.bool false)])], (.cons rfl .nil), rfl, [], (RetC.rd' ?_ .nil)⟩ <;> (first | rfl | (congr 1; symm; simp only [qcOk, hashes, List.all_cons, List.all_nil, *, Bool.and_true, Bool.true_and, Bool.and_false, Bool.false_and, decide_true, decide_false, and_true, true_and, and_self, and_false, false_and, Bool.and_self, not_true, not_false, Bool.not_true, Bool.not_false, ge_iff_le, gt_iff_lt, if_true, if_false, Bool.false_eq_true, ite_true, ite_false, reduceIte]; done) | (congr 1; symm; simp_all [qcOk, hashes, List.all_cons, List.all_nil]; done) | (congr 1; symm; simp_all [qcOk, hashes, List.all_cons, List.all_nil]; omega))
 ·
  refine T.draw [⟨5, (.agg [cI l.f0, cI l.f1, cI l.f2, cI l.f3, cI l.f4]), []⟩, ⟨6, (pB false), []⟩, ⟨7, (pB false), []⟩, ⟨8, (.tup []), []⟩, ⟨9, (.tup []), []⟩, ⟨10, (.tup []), []⟩, ⟨11, (pB false), []⟩, ⟨12, (pB false), []⟩, ⟨13, (.tup []), []⟩, ⟨14, (.tup []), []⟩, ⟨15, (.tup []), []⟩, ⟨16, (pB false), []⟩, ⟨17, (pB false), []⟩, ⟨18, (.tup []), []⟩, ⟨19, (.tup []), []⟩, ⟨20, (.tup []), []⟩, ⟨21, (.tup []), []⟩, ⟨22, (pB false), []⟩, ⟨23, (pB false), []⟩, ⟨24, (.tup []), []⟩, ⟨25, (.tup []), []⟩, ⟨26, (.tup []), []⟩, ⟨27, (.tup []), []⟩, ⟨28, (.tup []), []⟩, ⟨29, (pB false), []⟩, ⟨30, (pB false), []⟩, ⟨31, (.tup []), []⟩, ⟨32, (.tup []), []⟩, ⟨33, (.tup []), []⟩, ⟨34, (.tup []), []⟩, ⟨35, (.tup []), []⟩, ⟨36, (.tup []), []⟩, ⟨37, (.tup []), []⟩, ⟨38, (pB false), []⟩, ⟨39, (pB false), []⟩, ⟨40, (.tup []), []⟩, ⟨41, (.tup []), []⟩, ⟨42, (.tup []), []⟩, ⟨43, (pB false), []⟩, ⟨4, (pB false), []⟩] (by kernel_rfl) (by kernel_rfl) ?_ ?_
  ·
   refine .cons (fun E A => OpStep.plain rfl (Step.load_box_agg (n := 5) (qs := [cI l.f0, cI l.f1, cI l.f2, cI l.f3, cI l.f4]) (t := 5) rfl rfl (by exact lt_ok rfl) (by kernel_rfl) (A.g 2 rfl) (by exact A.box rfl) rfl rfl)) ?_
   refine .cons (fun E A => OpStep.plain rfl (Step.tb 6 (limOk l) hb1 (Step.cd (xs := [.tmp 5]) (ps := [(.agg [cI l.f0, cI l.f1, cI l.f2, cI l.f3, cI l.f4])]) (g := .func 135) false 6 (evs_cons (A.g 5 rfl) (rfl)) (.cons (.agg (.cons (.d _) (.cons (.d _) (.cons (.d _) (.cons (.d _) (.cons (.d _) .nil)))))) .nil) (ok_impl_LimitsOk l) (At.freshRows A rfl)))) ?_
   refine .cons (fun E A => A.mv 6 7) ?_
   refine .cons (fun E A => A.of 7) ?_
   refine .cons (fun E A => A.of 7) ?_
   refine .cons (fun E A => A.of 7) ?_
   refine .cons (fun E A => OpStep.plain rfl (Step.pick (b := false) (p := (pB false)) (t := 11) rfl rfl (by exact lt_ok rfl) (A.g 7 rfl) rfl)) ?_
   refine .cons (fun E A => A.mv 11 12) ?_
   refine .cons (fun E A => A.of 12) ?_
   refine .cons (fun E A => A.of 12) ?_
   refine .cons (fun E A => A.of 12) ?_
   refine .cons (fun E A => OpStep.plain rfl (Step.pick (b := false) (p := (pB false)) (t := 16) rfl rfl (by exact lt_ok rfl) (A.g 12 rfl) rfl)) ?_
   refine .cons (fun E A => A.mv 16 17) ?_
   refine .cons (fun E A => A.of 17) ?_
   refine .cons (fun E A => A.of 17) ?_
   refine .cons (fun E A => A.of 17) ?_
   refine .cons (fun E A => A.of 17) ?_
   refine .cons (fun E A => OpStep.plain rfl (Step.pick (b := false) (p := (pB false)) (t := 22) rfl rfl (by exact lt_ok rfl) (A.g 17 rfl) rfl)) ?_
   refine .cons (fun E A => A.mv 22 23) ?_
   refine .cons (fun E A => A.of 23) ?_
   refine .cons (fun E A => A.of 23) ?_
   refine .cons (fun E A => A.of 23) ?_
   refine .cons (fun E A => A.of 23) ?_
   refine .cons (fun E A => A.of 23) ?_
   refine .cons (fun E A => OpStep.plain rfl (Step.pick (b := false) (p := (pB false)) (t := 29) rfl rfl (by exact lt_ok rfl) (A.g 23 rfl) rfl)) ?_
   refine .cons (fun E A => A.mv 29 30) ?_
   refine .cons (fun E A => A.of 30) ?_
   refine .cons (fun E A => A.of 30) ?_
   refine .cons (fun E A => A.of 30) ?_
   refine .cons (fun E A => A.of 30) ?_
   refine .cons (fun E A => A.of 30) ?_
   refine .cons (fun E A => A.of 30) ?_
   refine .cons (fun E A => A.of 30) ?_
   refine .cons (fun E A => OpStep.plain rfl (Step.pick (b := false) (p := (pB false)) (t := 38) rfl rfl (by exact lt_ok rfl) (A.g 30 rfl) rfl)) ?_
   refine .cons (fun E A => A.mv 38 39) ?_
   refine .cons (fun E A => A.of 39) ?_
   refine .cons (fun E A => A.of 39) ?_
   refine .cons (fun E A => A.of 39) ?_
   refine .cons (fun E A => OpStep.plain rfl (Step.pick (b := false) (p := (pB false)) (t := 43) rfl rfl (by exact lt_ok rfl) (A.g 39 rfl) rfl)) ?_
   refine .cons (fun E A => A.as 43 4) ?_
   exact .nil _ _
  refine TL.nil ?_
  refine T.ret ?_
  refine ⟨[(false, [.d (.bool false)])], (.cons rfl .nil), rfl, [], (RetC.rd' ?_ .nil)⟩ <;> (first | rfl | (congr 1; symm; simp only [qcOk, hashes, List.all_cons, List.all_nil, *, Bool.and_true, Bool.true_and, Bool.and_false, Bool.false_and, decide_true, decide_false, and_true, true_and, and_self, and_false, false_and, Bool.and_self, not_true, not_false, Bool.not_true, Bool.not_false, ge_iff_le, gt_iff_lt, if_true, if_false, Bool.false_eq_true, ite_true, ite_false, reduceIte]; done) | (congr 1; symm; simp_all [qcOk, hashes, List.all_cons, List.all_nil]; done) | (congr 1; symm; simp_all [qcOk, hashes, List.all_cons, List.all_nil]; omega))
theorem ok_impl_SameBytes (a : List Int) (b : List Int) (h0_ : U8s a) (h1_ : U8s b) : RO Try.prog 107 [.one (.ints .u8 a), .one (.ints .u8 b)] [(false, [.rd (.bool (decide (a = b)))])] := by
 refine RO.intro Try.func107 rfl 10 rfl (le_ok rfl) fun w Z => ?_
 refine T.bnd 0 0 rfl rfl fun hb_0_0 => ?_
 simp only [D.size, List.length_map] at hb_0_0
 refine T.bnd 1 0 rfl rfl fun hb_1_0 => ?_
 simp only [D.size, List.length_map] at hb_1_0
 refine T.seq ?_
 refine T.region ?_
 refine TL.as (pB false) ?_
 refine TL.nil ?_
 refine T.seq ?_
 refine T.region ?_
 refine TL.mv (pS a) ?_
 refine TL.c (Step.toStr (e := 5) (xs := a) rfl rfl (lt_ok rfl) (by kernel_rfl) (by kernel_rfl) (by kernel_rfl) rfl rfl) ?_
 refine TL.mv (pS b) ?_
 refine TL.c (Step.toStr (e := 5) (xs := b) rfl rfl (lt_ok rfl) (by kernel_rfl) (by kernel_rfl) (by kernel_rfl) rfl rfl) ?_
 refine TL.c (Step.bin rfl rfl (lt_ok rfl) rfl rfl Bin.streq) ?_
 refine TL.as (pB ((strOfNums a).toList == (strOfNums b).toList)) ?_
 refine TL.nil ?_
 refine T.ret ?_
 refine ⟨[(false, [.d (.bool ((strOfNums a).toList == (strOfNums b).toList))])], (.cons rfl .nil), rfl, [], (RetC.rd' ?_ .nil)⟩ <;> (exact congrArg D.bool (str_eq h0_ h1_))
theorem ok_impl_Head__matches (h : SHead) (h0_ : h.ok) : RO Try.prog 144 [.agg h.cells] [(false, [.rd (.bool (headFits h))])] := by
 refine RO.intro Try.func144 rfl 26 rfl (le_ok rfl) fun w Z => ?_
 obtain ⟨o0, o1, o2, o3, o4, o5, o6, o7, o8, o9⟩ := h0_
 refine T.seq ?_
 refine T.region ?_
 refine TL.c (Step.box (p := (.agg [cI h.f0, cI h.f1, cI h.f2, cS h.f3, cS h.f4, cI h.f5.f0, cI h.f5.f1, cS h.f5.f2, cS h.f5.f3, .d (.bss h.f5.f4)])) (ps := [cI h.f0, cI h.f1, cI h.f2, cS h.f3, cS h.f4, cI h.f5.f0, cI h.f5.f1, cS h.f5.f2, cS h.f5.f3, .d (.bss h.f5.f4)]) rfl rfl (lt_ok rfl) rfl rfl rfl rfl rfl) ?_
 refine TL.as (pB false) ?_
 refine TL.nil ?_
 refine T.seq ?_
 refine T.region ?_
 refine TL.c (Step.fieldAddr (q := 0) (off := 5) (n := 5) (one := false) rfl rfl (lt_ok rfl) (by kernel_rfl) (Nat.succ_ne_zero _) rfl) ?_
 refine TL.c (Step.fieldAddr (q := 5) (off := 0) (n := 1) (one := true) rfl rfl (lt_ok rfl) (by kernel_rfl) (Nat.succ_ne_zero _) rfl) ?_
 refine TL.c (Step.load_box (c := cI h.f5.f0) rfl rfl (lt_ok rfl) (by kernel_rfl) rfl rfl rfl) ?_
 refine TL.c (Step.fieldAddr (q := 0) (off := 0) (n := 1) (one := true) rfl rfl (lt_ok rfl) (by kernel_rfl) (Nat.succ_ne_zero _) rfl) ?_
 refine TL.c (Step.load_box (c := cI h.f0) rfl rfl (lt_ok rfl) (by kernel_rfl) rfl rfl rfl) ?_
 refine TL.c (Step.bin rfl rfl (lt_ok rfl) rfl rfl (Bin.lss (k := .i64) (a := h.f5.f0) (b := h.f0))) ?_
 refine TL.mv (pB (decide (h.f5.f0 < h.f0))) ?_
 rcases Bool.eq_false_or_eq_true (decide (h.f5.f0 < h.f0)) with hb1 | hb1
 ·
  refine TL.known 9 hb1 rfl ?_
  refine TL.gy 9 (Step.fieldAddr (q := 0) (off := 5) (n := 5) (one := false) rfl rfl (lt_ok rfl) (by kernel_rfl) (Nat.succ_ne_zero _) rfl) ?_
  refine TL.gy 9 (Step.fieldAddr (q := 5) (off := 1) (n := 1) (one := true) rfl rfl (lt_ok rfl) (by kernel_rfl) (Nat.succ_ne_zero _) rfl) ?_
  refine TL.gy 9 (Step.load_box (c := cI h.f5.f1) rfl rfl (lt_ok rfl) (by kernel_rfl) rfl rfl rfl) ?_
  refine TL.gy 9 (Step.fieldAddr (q := 0) (off := 1) (n := 1) (one := true) rfl rfl (lt_ok rfl) (by kernel_rfl) (Nat.succ_ne_zero _) rfl) ?_
  refine TL.gy 9 (Step.load_box (c := cI h.f1) rfl rfl (lt_ok rfl) (by kernel_rfl) rfl rfl rfl) ?_
  refine TL.gy 9 (Step.bin (r := .int .i64 (IntKind.i64.wrap (h.f1 - 1))) rfl rfl (lt_ok rfl) rfl rfl (Bin.sub (a := h.f1) (b := 1) (rfl))) ?_
  refine TL.gy 9 (Step.bin rfl rfl (lt_ok rfl) rfl rfl (Bin.eql (k := .i64) (a := h.f5.f1) (b := (IntKind.i64.wrap (h.f1 - 1))))) ?_
  refine TL.pk true (pB (decide (h.f5.f1 = (IntKind.i64.wrap (h.f1 - 1))))) ?_
  refine TL.mv (pB (decide (h.f5.f1 = (IntKind.i64.wrap (h.f1 - 1))))) ?_
  rcases Bool.eq_false_or_eq_true (decide (h.f5.f1 = (IntKind.i64.wrap (h.f1 - 1)))) with hb2 | hb2
  ·
   refine TL.known 18 hb2 rfl ?_
   refine TL.gy 18 (Step.fieldAddr (q := 0) (off := 5) (n := 5) (one := false) rfl rfl (lt_ok rfl) (by kernel_rfl) (Nat.succ_ne_zero _) rfl) ?_
   refine TL.gy 18 (Step.fieldAddr (q := 5) (off := 2) (n := 1) (one := true) rfl rfl (lt_ok rfl) (by kernel_rfl) (Nat.succ_ne_zero _) rfl) ?_
   refine TL.gy 18 (Step.load_box (c := cS h.f5.f2) rfl rfl (lt_ok rfl) (by kernel_rfl) rfl rfl rfl) ?_
   refine TL.gy 18 (Step.fieldAddr (q := 0) (off := 3) (n := 1) (one := true) rfl rfl (lt_ok rfl) (by kernel_rfl) (Nat.succ_ne_zero _) rfl) ?_
   refine TL.gy 18 (Step.load_box (c := cS h.f3) rfl rfl (lt_ok rfl) (by kernel_rfl) rfl rfl rfl) ?_
   refine TL.gy 18 (Step.cl (xs := [.tmp 21, .tmp 23]) (ps := [(pS h.f5.f2), (pS h.f3)]) (g := .func 107) false (.cons (.one (.d _)) (.cons (.one (.d _)) .nil)) (ok_impl_SameBytes h.f5.f2 h.f3 (by first | assumption | omega) (by first | assumption | omega))) ?_
   refine TL.pk true (pB (decide (h.f5.f2 = h.f3))) ?_
   refine TL.as (pB (decide (h.f5.f2 = h.f3))) ?_
   refine TL.nil ?_
   refine T.ret ?_
   refine ⟨[(false, [.d (.bool (decide (h.f5.f2 = h.f3)))])], (.cons rfl .nil), rfl, [], (RetC.rd' ?_ .nil)⟩ <;> (first | rfl | (congr 1; symm; simp only [headFits, *, Bool.and_true, Bool.true_and, Bool.and_false, Bool.false_and, decide_true, decide_false, and_true, true_and, and_self, and_false, false_and, Bool.and_self, not_true, not_false, Bool.not_true, Bool.not_false, ge_iff_le, gt_iff_lt, if_true, if_false, Bool.false_eq_true, ite_true, ite_false, reduceIte]; done) | (congr 1; symm; simp_all [headFits]; done) | (congr 1; symm; simp_all [headFits]; omega))
  ·
   refine TL.known 18 hb2 rfl ?_
   refine TL.gf 18 ?_
   refine TL.gf 18 ?_
   refine TL.gf 18 ?_
   refine TL.gf 18 ?_
   refine TL.gf 18 ?_
   refine TL.gf 18 ?_
   refine TL.pk false (pB false) ?_
   refine TL.as (pB false) ?_
   refine TL.nil ?_
   refine T.ret ?_
   refine ⟨[(false, [.d (.bool false)])], (.cons rfl .nil), rfl, [], (RetC.rd' ?_ .nil)⟩ <;> (first | rfl | (congr 1; symm; simp only [headFits, *, Bool.and_true, Bool.true_and, Bool.and_false, Bool.false_and, decide_true, decide_false, and_true, true_and, and_self, and_false, false_and, Bool.and_self, not_true, not_false, Bool.not_true, Bool.not_false, ge_iff_le, gt_iff_lt, if_true, if_false, Bool.false_eq_true, ite_true, ite_false, reduceIte]; done) | (congr 1; symm; simp_all [headFits]; done) | (congr 1; symm; simp_all [headFits]; omega))
 ·
  refine TL.known 9 hb1 rfl ?_
  refine TL.gf 9 ?_
  refine TL.gf 9 ?_
  refine TL.gf 9 ?_
  refine TL.gf 9 ?_
  refine TL.gf 9 ?_
  refine TL.gf 9 ?_
  refine TL.gf 9 ?_
  refine TL.pk false (pB false) ?_
  refine TL.mv (pB false) ?_
  refine TL.gf 18 ?_
  refine TL.gf 18 ?_
  refine TL.gf 18 ?_
  refine TL.gf 18 ?_
  refine TL.gf 18 ?_
  refine TL.gf 18 ?_
  refine TL.pk false (pB false) ?_
  refine TL.as (pB false) ?_
  refine TL.nil ?_
  refine T.ret ?_
  refine ⟨[(false, [.d (.bool false)])], (.cons rfl .nil), rfl, [], (RetC.rd' ?_ .nil)⟩ <;> (first | rfl | (congr 1; symm; simp only [headFits, *, Bool.and_true, Bool.true_and, Bool.and_false, Bool.false_and, decide_true, decide_false, and_true, true_and, and_self, and_false, false_and, Bool.and_self, not_true, not_false, Bool.not_true, Bool.not_false, ge_iff_le, gt_iff_lt, if_true, if_false, Bool.false_eq_true, ite_true, ite_false, reduceIte]; done) | (congr 1; symm; simp_all [headFits]; done) | (congr 1; symm; simp_all [headFits]; omega))
theorem ok_impl_HeadOk (l : SLimits) (h : SHead) (h0_ : h.ok) (h1_ : h.sm) : RO Try.prog 106 [.agg l.cells, .agg h.cells] [(false, [.rd (.bool (headOk l h))])] := by
 refine RO.intro Try.func106 rfl 39 rfl (le_ok rfl) fun w Z => ?_
 have hok_ := h0_
 have hsm_ := h1_
 obtain ⟨o0, o1, o2, o3, o4, o5⟩ := h0_
 obtain ⟨s0, s1, s2⟩ := h1_
 refine T.seq ?_
 refine T.region ?_
 refine TL.c (Step.box (p := (.agg [cI l.f0, cI l.f1, cI l.f2, cI l.f3, cI l.f4])) (ps := [cI l.f0, cI l.f1, cI l.f2, cI l.f3, cI l.f4]) rfl rfl (lt_ok rfl) rfl rfl rfl rfl rfl) ?_
 refine TL.c (Step.box (p := (.agg [cI h.f0, cI h.f1, cI h.f2, cS h.f3, cS h.f4, cI h.f5.f0, cI h.f5.f1, cS h.f5.f2, cS h.f5.f3, .d (.bss h.f5.f4)])) (ps := [cI h.f0, cI h.f1, cI h.f2, cS h.f3, cS h.f4, cI h.f5.f0, cI h.f5.f1, cS h.f5.f2, cS h.f5.f3, .d (.bss h.f5.f4)]) rfl rfl (lt_ok rfl) rfl rfl rfl rfl rfl) ?_
 refine TL.as (pB false) ?_
 refine TL.nil ?_
 refine T.seq ?_
 refine T.region ?_
 refine TL.c (Step.load_box_agg (n := 5) (qs := [cI l.f0, cI l.f1, cI l.f2, cI l.f3, cI l.f4]) rfl rfl (lt_ok rfl) (by kernel_rfl) rfl rfl rfl rfl) ?_
 refine TL.c (Step.fieldAddr (q := 0) (off := 5) (n := 5) (one := false) rfl rfl (lt_ok rfl) (by kernel_rfl) (Nat.succ_ne_zero _) rfl) ?_
 refine TL.c (Step.load_box_agg (n := 5) (qs := [cI h.f5.f0, cI h.f5.f1, cS h.f5.f2, cS h.f5.f3, .d (.bss h.f5.f4)]) rfl rfl (lt_ok rfl) (by kernel_rfl) rfl rfl rfl rfl) ?_
 refine TL.c (Step.cl (xs := [.tmp 5, .tmp 7]) (ps := [(.agg [cI l.f0, cI l.f1, cI l.f2, cI l.f3, cI l.f4]), (.agg [cI h.f5.f0, cI h.f5.f1, cS h.f5.f2, cS h.f5.f3, .d (.bss h.f5.f4)])]) (g := .func 127) false (.cons (.agg (.cons (.d _) (.cons (.d _) (.cons (.d _) (.cons (.d _) (.cons (.d _) .nil)))))) (.cons (.agg (.cons (.d _) (.cons (.d _) (.cons (.d _) (.cons (.d _) (.cons (.d _) .nil)))))) .nil)) (ok_impl_QcOk l h.f5 (by first | assumption | exact qcOf_ok (l := l) h0_) (by first | assumption | exact qcOf_sm (l := l) h1_ h2_))) ?_
 refine TL.mv (pB (qcOk l h.f5)) ?_
 rcases Bool.eq_false_or_eq_true (qcOk l h.f5) with hb1 | hb1
 ·
  refine TL.known 9 hb1 rfl ?_
  refine TL.gy 9 (Step.fieldAddr (q := 0) (off := 0) (n := 1) (one := true) rfl rfl (lt_ok rfl) (by kernel_rfl) (Nat.succ_ne_zero _) rfl) ?_
  refine TL.gy 9 (Step.load_box (c := cI h.f0) rfl rfl (lt_ok rfl) (by kernel_rfl) rfl rfl rfl) ?_
  refine TL.gy 9 (Step.cl (xs := [.tmp 11]) (ps := [(pI h.f0)]) (g := .func 155) false (.cons (.one (.d _)) .nil) (ok_impl_isNum h.f0)) ?_
  refine TL.pk true (pB (decide (0 ≤ h.f0 ∧ h.f0 ≤ 1152921504606846975))) ?_
  refine TL.mv (pB (decide (0 ≤ h.f0 ∧ h.f0 ≤ 1152921504606846975))) ?_
  rcases Bool.eq_false_or_eq_true (decide (0 ≤ h.f0 ∧ h.f0 ≤ 1152921504606846975)) with hb2 | hb2
  ·
   refine TL.known 14 hb2 rfl ?_
   refine TL.gy 14 (Step.fieldAddr (q := 0) (off := 1) (n := 1) (one := true) rfl rfl (lt_ok rfl) (by kernel_rfl) (Nat.succ_ne_zero _) rfl) ?_
   refine TL.gy 14 (Step.load_box (c := cI h.f1) rfl rfl (lt_ok rfl) (by kernel_rfl) rfl rfl rfl) ?_
   refine TL.gy 14 (Step.cl (xs := [.tmp 16, .const (.int .i64 1), .const (.int .i64 1152921504606846975)]) (ps := [(pI h.f1), (pI 1), (pI 1152921504606846975)]) (g := .func 117) false (.cons (.one (.d _)) (.cons (.one (.d _)) (.cons (.one (.d _)) .nil))) (ok_impl_within h.f1 1 1152921504606846975)) ?_
   refine TL.pk true (pB (decide (1 ≤ h.f1 ∧ h.f1 ≤ 1152921504606846975))) ?_
   refine TL.mv (pB (decide (1 ≤ h.f1 ∧ h.f1 ≤ 1152921504606846975))) ?_
   rcases Bool.eq_false_or_eq_true (decide (1 ≤ h.f1 ∧ h.f1 ≤ 1152921504606846975)) with hb3 | hb3
   ·
    refine TL.known 19 hb3 rfl ?_
    refine TL.gy 19 (Step.fieldAddr (q := 0) (off := 2) (n := 1) (one := true) rfl rfl (lt_ok rfl) (by kernel_rfl) (Nat.succ_ne_zero _) rfl) ?_
    refine TL.gy 19 (Step.load_box (c := cI h.f2) rfl rfl (lt_ok rfl) (by kernel_rfl) rfl rfl rfl) ?_
    refine TL.gy 19 (Step.fieldAddr (q := 0) (off := 0) (n := 1) (one := true) rfl rfl (lt_ok rfl) (by kernel_rfl) (Nat.succ_ne_zero _) rfl) ?_
    refine TL.gy 19 (Step.load_box (c := cI l.f0) rfl rfl (lt_ok rfl) (by kernel_rfl) rfl rfl rfl) ?_
    refine TL.gy 19 (Step.bin (r := .int .i64 (IntKind.i64.wrap (l.f0 - 1))) rfl rfl (lt_ok rfl) rfl rfl (Bin.sub (a := l.f0) (b := 1) (rfl))) ?_
    refine TL.gy 19 (Step.cl (xs := [.tmp 21, .const (.int .i64 0), .tmp 24]) (ps := [(pI h.f2), (pI 0), (pI (IntKind.i64.wrap (l.f0 - 1)))]) (g := .func 117) false (.cons (.one (.d _)) (.cons (.one (.d _)) (.cons (.one (.d _)) .nil))) (ok_impl_within h.f2 0 (IntKind.i64.wrap (l.f0 - 1)))) ?_
    refine TL.pk true (pB (decide (0 ≤ h.f2 ∧ h.f2 ≤ (IntKind.i64.wrap (l.f0 - 1))))) ?_
    refine TL.mv (pB (decide (0 ≤ h.f2 ∧ h.f2 ≤ (IntKind.i64.wrap (l.f0 - 1))))) ?_
    rcases Bool.eq_false_or_eq_true (decide (0 ≤ h.f2 ∧ h.f2 ≤ (IntKind.i64.wrap (l.f0 - 1)))) with hb4 | hb4
    ·
     refine TL.known 27 hb4 rfl ?_
     refine TL.gy 27 (Step.fieldAddr (q := 0) (off := 3) (n := 1) (one := true) rfl rfl (lt_ok rfl) (by kernel_rfl) (Nat.succ_ne_zero _) rfl) ?_
     refine TL.gy 27 (Step.load_box (c := cS h.f3) rfl rfl (lt_ok rfl) (by kernel_rfl) rfl rfl rfl) ?_
     refine TL.gy 27 (Step.fieldAddr (q := 0) (off := 4) (n := 1) (one := true) rfl rfl (lt_ok rfl) (by kernel_rfl) (Nat.succ_ne_zero _) rfl) ?_
     refine TL.gy 27 (Step.load_box (c := cS h.f4) rfl rfl (lt_ok rfl) (by kernel_rfl) rfl rfl rfl) ?_
     refine TL.gy 27 (Step.lit_d (e := 24) (z := 1) (by_ := 24) (xs := [.tmp 29, .tmp 31]) (pss := [[cS h.f3], [cS h.f4]]) (ds := [(.ints .u8 h.f3), (.ints .u8 h.f4)]) (d := (.bss [h.f3, h.f4])) rfl rfl (lt_ok rfl) (by kernel_rfl) rfl rfl (.cons rfl (.cons rfl .nil)) (by simp) (le_ok rfl) (le_ok rfl) rfl rfl trivial rfl rfl) ?_
     refine TL.gy 27 (Step.cl (xs := [.tmp 32]) (ps := [(.one (.d (.bss [h.f3, h.f4])))]) (g := .func 156) false (.cons (.one (.d _)) .nil) (ok_impl_areHashes [h.f3, h.f4])) ?_
     refine TL.pk true (pB (hashes [h.f3, h.f4])) ?_
     refine TL.mv (pB (hashes [h.f3, h.f4])) ?_
     rcases Bool.eq_false_or_eq_true (hashes [h.f3, h.f4]) with hb5 | hb5
     ·
      refine TL.known 35 hb5 rfl ?_
      refine TL.gy 35 (Step.load_box_agg (n := 10) (qs := [cI h.f0, cI h.f1, cI h.f2, cS h.f3, cS h.f4, cI h.f5.f0, cI h.f5.f1, cS h.f5.f2, cS h.f5.f3, .d (.bss h.f5.f4)]) rfl rfl (lt_ok rfl) (by kernel_rfl) rfl rfl rfl rfl) ?_
      refine TL.gy 35 (Step.cl (xs := [.tmp 36]) (ps := [(.agg [cI h.f0, cI h.f1, cI h.f2, cS h.f3, cS h.f4, cI h.f5.f0, cI h.f5.f1, cS h.f5.f2, cS h.f5.f3, .d (.bss h.f5.f4)])]) (g := .func 144) false (.cons (.agg (.cons (.d _) (.cons (.d _) (.cons (.d _) (.cons (.d _) (.cons (.d _) (.cons (.d _) (.cons (.d _) (.cons (.d _) (.cons (.d _) (.cons (.d _) .nil))))))))))) .nil) (ok_impl_Head__matches h (by first | assumption | exact rdHead_ok (l := l) (s := s) h0_))) ?_
      refine TL.pk true (pB (headFits h)) ?_
      refine TL.as (pB (headFits h)) ?_
      refine TL.nil ?_
      refine T.weaken (E' := { tm := [(4, (pB (headFits h)))], rows := [], boxes := [] }) (Env.le_mk ⟨by kernel_rfl, trivial⟩ trivial trivial) ?_
      refine T.ret ?_
      refine ⟨[(false, [.d (.bool (headFits h))])], (.cons rfl .nil), rfl, [], (RetC.rd' ?_ .nil)⟩ <;> (first | rfl | (congr 1; symm; simp only [headOk, hashes, List.all_cons, List.all_nil, *, Bool.and_true, Bool.true_and, Bool.and_false, Bool.false_and, decide_true, decide_false, and_true, true_and, and_self, and_false, false_and, Bool.and_self, not_true, not_false, Bool.not_true, Bool.not_false, ge_iff_le, gt_iff_lt, if_true, if_false, Bool.false_eq_true, ite_true, ite_false, reduceIte]; done) | (congr 1; symm; simp_all [headOk, hashes, List.all_cons, List.all_nil]; done) | (congr 1; symm; simp_all [headOk, hashes, List.all_cons, List.all_nil]; omega))
     ·
      refine TL.known 35 hb5 rfl ?_
      refine TL.gf 35 ?_
      refine TL.gf 35 ?_
      refine TL.pk false (pB false) ?_
      refine TL.as (pB false) ?_
      refine TL.nil ?_
      refine T.ret ?_
      refine ⟨[(false, [.d (.bool false)])], (.cons rfl .nil), rfl, [], (RetC.rd' ?_ .nil)⟩ <;> (first | rfl | (congr 1; symm; simp only [headOk, hashes, List.all_cons, List.all_nil, *, Bool.and_true, Bool.true_and, Bool.and_false, Bool.false_and, decide_true, decide_false, and_true, true_and, and_self, and_false, false_and, Bool.and_self, not_true, not_false, Bool.not_true, Bool.not_false, ge_iff_le, gt_iff_lt, if_true, if_false, Bool.false_eq_true, ite_true, ite_false, reduceIte]; done) | (congr 1; symm; simp_all [headOk, hashes, List.all_cons, List.all_nil]; done) | (congr 1; symm; simp_all [headOk, hashes, List.all_cons, List.all_nil]; omega))
    ·
     refine TL.known 27 hb4 rfl ?_
     refine TL.gf 27 ?_
     refine TL.gf 27 ?_
     refine TL.gf 27 ?_
     refine TL.gf 27 ?_
     refine TL.gf 27 ?_
     refine TL.gf 27 ?_
     refine TL.pk false (pB false) ?_
     refine TL.mv (pB false) ?_
     refine TL.gf 35 ?_
     refine TL.gf 35 ?_
     refine TL.pk false (pB false) ?_
     refine TL.as (pB false) ?_
     refine TL.nil ?_
     refine T.ret ?_
     refine ⟨[(false, [.d (.bool false)])], (.cons rfl .nil), rfl, [], (RetC.rd' ?_ .nil)⟩ <;> (first | rfl | (congr 1; symm; simp only [headOk, hashes, List.all_cons, List.all_nil, *, Bool.and_true, Bool.true_and, Bool.and_false, Bool.false_and, decide_true, decide_false, and_true, true_and, and_self, and_false, false_and, Bool.and_self, not_true, not_false, Bool.not_true, Bool.not_false, ge_iff_le, gt_iff_lt, if_true, if_false, Bool.false_eq_true, ite_true, ite_false, reduceIte]; done) | (congr 1; symm; simp_all [headOk, hashes, List.all_cons, List.all_nil]; done) | (congr 1; symm; simp_all [headOk, hashes, List.all_cons, List.all_nil]; omega))
   ·
    refine TL.known 19 hb3 rfl ?_
    refine TL.gf 19 ?_
    refine TL.gf 19 ?_
    refine TL.gf 19 ?_
    refine TL.gf 19 ?_
    refine TL.gf 19 ?_
    refine TL.gf 19 ?_
    refine TL.pk false (pB false) ?_
    refine TL.mv (pB false) ?_
    refine TL.gf 27 ?_
    refine TL.gf 27 ?_
    refine TL.gf 27 ?_
    refine TL.gf 27 ?_
    refine TL.gf 27 ?_
    refine TL.gf 27 ?_
    refine TL.pk false (pB false) ?_
    refine TL.mv (pB false) ?_
    refine TL.gf 35 ?_
    refine TL.gf 35 ?_
    refine TL.pk false (pB false) ?_
    refine TL.as (pB false) ?_
    refine TL.nil ?_
    refine T.ret ?_
    refine ⟨[(false, [.d (.bool false)])], (.cons rfl .nil), rfl, [], (RetC.rd' ?_ .nil)⟩ <;> (first | rfl | (congr 1; symm; simp only [headOk, hashes, List.all_cons, List.all_nil, *, Bool.and_true, Bool.true_and, Bool.and_false, Bool.false_and, decide_true, decide_false, and_true, true_and, and_self, and_false, false_and, Bool.and_self, not_true, not_false, Bool.not_true, Bool.not_false, ge_iff_le, gt_iff_lt, if_true, if_false, Bool.false_eq_true, ite_true, ite_false, reduceIte]; done) | (congr 1; symm; simp_all [headOk, hashes, List.all_cons, List.all_nil]; done) | (congr 1; symm; simp_all [headOk, hashes, List.all_cons, List.all_nil]; omega))
  ·
   refine TL.known 14 hb2 rfl ?_
   refine TL.gf 14 ?_
   refine TL.gf 14 ?_
   refine TL.gf 14 ?_
   refine TL.pk false (pB false) ?_
   refine TL.mv (pB false) ?_
   refine TL.gf 19 ?_
   refine TL.gf 19 ?_
   refine TL.gf 19 ?_
   refine TL.gf 19 ?_
   refine TL.gf 19 ?_
   refine TL.gf 19 ?_
   refine TL.pk false (pB false) ?_
   refine TL.mv (pB false) ?_
   refine TL.gf 27 ?_
   refine TL.gf 27 ?_
   refine TL.gf 27 ?_
   refine TL.gf 27 ?_
   refine TL.gf 27 ?_
   refine TL.gf 27 ?_
   refine TL.pk false (pB false) ?_
   refine TL.mv (pB false) ?_
   refine TL.gf 35 ?_
   refine TL.gf 35 ?_
   refine TL.pk false (pB false) ?_
   refine TL.as (pB false) ?_
   refine TL.nil ?_
   refine T.ret ?_
   refine ⟨[(false, [.d (.bool false)])], (.cons rfl .nil), rfl, [], (RetC.rd' ?_ .nil)⟩ <;> (first | rfl | (congr 1; symm; simp only [headOk, hashes, List.all_cons, List.all_nil, *, Bool.and_true, Bool.true_and, Bool.and_false, Bool.false_and, decide_true, decide_false, and_true, true_and, and_self, and_false, false_and, Bool.and_self, not_true, not_false, Bool.not_true, Bool.not_false, ge_iff_le, gt_iff_lt, if_true, if_false, Bool.false_eq_true, ite_true, ite_false, reduceIte]; done) | (congr 1; symm; simp_all [headOk, hashes, List.all_cons, List.all_nil]; done) | (congr 1; symm; simp_all [headOk, hashes, List.all_cons, List.all_nil]; omega))
 ·
  refine TL.known 9 hb1 rfl ?_
  refine TL.gf 9 ?_
  refine TL.gf 9 ?_
  refine TL.gf 9 ?_
  refine TL.pk false (pB false) ?_
  refine TL.mv (pB false) ?_
  refine TL.gf 14 ?_
  refine TL.gf 14 ?_
  refine TL.gf 14 ?_
  refine TL.pk false (pB false) ?_
  refine TL.mv (pB false) ?_
  refine TL.gf 19 ?_
  refine TL.gf 19 ?_
  refine TL.gf 19 ?_
  refine TL.gf 19 ?_
  refine TL.gf 19 ?_
  refine TL.gf 19 ?_
  refine TL.pk false (pB false) ?_
  refine TL.mv (pB false) ?_
  refine TL.gf 27 ?_
  refine TL.gf 27 ?_
  refine TL.gf 27 ?_
  refine TL.gf 27 ?_
  refine TL.gf 27 ?_
  refine TL.gf 27 ?_
  refine TL.pk false (pB false) ?_
  refine TL.mv (pB false) ?_
  refine TL.gf 35 ?_
  refine TL.gf 35 ?_
  refine TL.pk false (pB false) ?_
  refine TL.as (pB false) ?_
  refine TL.nil ?_
  refine T.ret ?_
  refine ⟨[(false, [.d (.bool false)])], (.cons rfl .nil), rfl, [], (RetC.rd' ?_ .nil)⟩ <;> (first | rfl | (congr 1; symm; simp only [headOk, hashes, List.all_cons, List.all_nil, *, Bool.and_true, Bool.true_and, Bool.and_false, Bool.false_and, decide_true, decide_false, and_true, true_and, and_self, and_false, false_and, Bool.and_self, not_true, not_false, Bool.not_true, Bool.not_false, ge_iff_le, gt_iff_lt, if_true, if_false, Bool.false_eq_true, ite_true, ite_false, reduceIte]; done) | (congr 1; symm; simp_all [headOk, hashes, List.all_cons, List.all_nil]; done) | (congr 1; symm; simp_all [headOk, hashes, List.all_cons, List.all_nil]; omega))
theorem ok_impl_ShaInit  : RO Try.prog 150 [] [(false, [.own 3 (.ints .i64 shaInit)])] := by
 refine RO.intro Try.func150 rfl 2 rfl (le_ok rfl) fun w Z => ?_
 refine T.seq ?_
 refine T.region ?_
 refine TL.as (.one (.nil)) ?_
 refine TL.nil ?_
 refine T.seq ?_
 refine T.region ?_
 refine TL.c (Step.lit (e := 3) (z := 1) (by_ := 8) (xs := [.const (.int .i64 1779033703), .const (.int .i64 3144134277), .const (.int .i64 1013904242), .const (.int .i64 2773480762), .const (.int .i64 1359893119), .const (.int .i64 2600822924), .const (.int .i64 528734635), .const (.int .i64 1541459225)]) (pss := [[cI 1779033703], [cI 3144134277], [cI 1013904242], [cI 2773480762], [cI 1359893119], [cI 2600822924], [cI 528734635], [cI 1541459225]]) (es := [(.int .i64 1779033703), (.int .i64 3144134277), (.int .i64 1013904242), (.int .i64 2773480762), (.int .i64 1359893119), (.int .i64 2600822924), (.int .i64 528734635), (.int .i64 1541459225)]) (ss := []) (d := (.ints .i64 [1779033703, 3144134277, 1013904242, 2773480762, 1359893119, 2600822924, 528734635, 1541459225])) rfl rfl (lt_ok rfl) (by kernel_rfl) rfl rfl (.cons rfl (.cons rfl (.cons rfl (.cons rfl (.cons rfl (.cons rfl (.cons rfl (.cons rfl .nil)))))))) (by simp) (le_ok rfl) (le_ok rfl) rfl (.val rfl (.val rfl (.val rfl (.val rfl (.val rfl (.val rfl (.val rfl (.val rfl .nil)))))))) rfl (by simp) (by simp) rfl trivial rfl rfl) ?_
 refine TL.as (.one (.row 1 [])) ?_
 refine TL.nil ?_
 refine T.ret ?_
 refine ⟨[(false, [.row 1 []])], (.cons rfl .nil), rfl, [1], (RetC.own' rfl ?_ rfl .nil)⟩ <;> (rfl)
theorem ok_impl_ShaPad (b : List Int) (h0_ : b.length ≤ 17592186040000) : RO Try.prog 151 [.one (.ints .u8 b)] [(false, [.own 5 (.ints .u8 (shaPad b))])] := by
 refine RO.intro Try.func151 rfl 31 rfl (le_ok rfl) fun w Z => ?_
 refine T.bnd 0 0 rfl rfl fun hb_0_0 => ?_
 simp only [D.size, List.length_map] at hb_0_0
 refine T.seq ?_
 refine T.region ?_
 refine TL.as (.one (.nil)) ?_
 refine TL.nil ?_
 refine T.seq ?_
 refine T.region ?_
 refine TL.mv (pS b) ?_
 refine TL.c (Step.cl (xs := [.tmp 5]) (ps := [(pS b)]) (g := .func 76) false (.cons (.one (.d _)) .nil) (ok_impl_copyBytes b (by first | omega | assumption | (simp only [List.length_take, List.length_drop]; omega)))) ?_
 refine TL.c (Step.lit (e := 5) (z := 1) (by_ := 1) (xs := [.const (.int .u8 128)]) (pss := [[.d (.int .u8 128)]]) (es := [(.int .u8 128)]) (ss := []) (d := (.ints .u8 [128])) rfl rfl (lt_ok rfl) (by kernel_rfl) rfl rfl (.cons rfl .nil) (by simp) (le_ok rfl) (le_ok rfl) rfl (.val rfl .nil) rfl (by simp) (by simp) rfl trivial rfl rfl) ?_
 refine TL.c (Step.append (e := 5) (z := 1) (by_ := 1) (d := (.ints .u8 b)) (dy := (.ints .u8 [128])) (d' := (.ints .u8 (b ++ [128]))) (ss := []) rfl rfl (lt_ok rfl) (by kernel_rfl) rfl rfl rfl (lt_ok rfl) rfl (.copy rfl rfl rfl (by simp [D.flat, D.val])) (by simp) rfl (by simp only [D.size, List.length_map]; first | omega | (simp only [List.length_append, List.length_cons, List.length_nil]; omega) | (simp; omega) | (simp only [List.length_append] at *; omega)) (by simp only [D.size, List.length_map]; first | omega | (simp only [List.length_append, List.length_cons, List.length_nil]; omega) | (simp; omega) | (simp only [List.length_append] at *; omega)) (by simp)) ?_
 refine TL.as (.one (.row 1006 [])) ?_
 refine TL.nil ?_
 refine T.seq ?_
 refine T.block ?_
 refine T.loop (ι := Nat) (fun xx_ => { tm := [(0, (pS b)), (2, (.one (.nil))), (3, (.one (.row 1006 [])))], rows := [(1006, (5, (.ints .u8 (b ++ [128] ++ List.replicate xx_ 0)))), (7, (5, (.ints .u8 [128])))], boxes := [] }) (fun xx_ => xx_ ≤ padK b.length) (fun xx_ => padK b.length - xx_) 0 ?_ ?_ ?_
 · refine Env.le_mk ⟨rfl, rfl, rfl, trivial⟩ ⟨?_, rfl, trivial⟩ trivial <;> (first | rfl | (refine congrArg (fun x => some (_, D.ints .u8 x)) ?_; first | (simp; done) | (rw [List.replicate_succ', List.append_assoc, List.append_assoc]; first | done | rfl) | (simp only [List.append_assoc, List.replicate_succ', padB]; done) | (rw [show i = padK b.length from by unfold padK; omega]; simp [padB]; done)) | (refine congrArg (fun n => PV.one (.d (.int .i64 n))) ?_; first | rfl | omega | (simp; done)))
 · exact Nat.zero_le _
 ·
  intro i hx
  try dsimp only at hx ⊢
  have hl_ : (b ++ [128] ++ List.replicate i 0).length = b.length + 1 + i := by simp; omega
  have hk_ : padK b.length ≤ 63 := by unfold padK; omega
  refine T.seq ?_
  refine T.seq ?_
  refine T.region ?_
  refine TL.mv (.one (.row 1006 [])) ?_
  refine TL.c (Step.len (e := 5) (z := 1) (d := (.ints .u8 (b ++ [128] ++ List.replicate i 0))) rfl rfl (lt_ok rfl) (by kernel_rfl) rfl rfl) ?_
  refine TL.c (Step.bin (r := .int .i64 (((b ++ [128] ++ List.replicate i 0).length : Int) % 64)) rfl rfl (lt_ok rfl) rfl rfl (Bin.rem (k := .i64) (a := ((b ++ [128] ++ List.replicate i 0).length : Int)) (b := 64) (by decide) (Int.tmod_eq_emod_of_nonneg (by first | omega | (simp; omega))))) ?_
  refine TL.c (Step.bin rfl rfl (lt_ok rfl) rfl rfl (Bin.neq (k := .i64) (a := (((b ++ [128] ++ List.replicate i 0).length : Int) % 64)) (b := 56))) ?_
  refine TL.nil ?_
  refine T.cond (b := decide ((((b ++ [128] ++ List.replicate i 0).length : Int) % 64) ≠ 56)) rfl (fun h1 => ?_) (fun h1 => ?_)
  ·
   replace h1 := of_decide_eq_true h1
   refine T.skip ?_
   refine T.block ?_
   refine T.region ?_
   refine TL.mv (.one (.row 1006 [])) ?_
   refine TL.c (Step.lit (e := 5) (z := 1) (by_ := 1) (xs := [.const (.int .u8 0)]) (pss := [[.d (.int .u8 0)]]) (es := [(.int .u8 0)]) (ss := []) (d := (.ints .u8 [0])) rfl rfl (lt_ok rfl) (by kernel_rfl) rfl rfl (.cons rfl .nil) (by simp) (le_ok rfl) (le_ok rfl) rfl (.val rfl .nil) rfl (by simp) (by simp) rfl trivial rfl rfl) ?_
   refine TL.c (Step.append (e := 5) (z := 1) (by_ := 1) (d := (.ints .u8 (b ++ [128] ++ List.replicate i 0))) (dy := (.ints .u8 [0])) (d' := (.ints .u8 ((b ++ [128] ++ List.replicate i 0) ++ [0]))) (ss := []) rfl rfl (lt_ok rfl) (by kernel_rfl) rfl rfl rfl (lt_ok rfl) rfl (.copy rfl rfl rfl (by simp [D.flat, D.val])) (by simp) rfl (by simp only [D.size, List.length_map]; first | omega | (simp only [List.length_append, List.length_cons, List.length_nil]; omega) | (simp; omega) | (simp only [List.length_append] at *; omega)) (by simp only [D.size, List.length_map]; first | omega | (simp only [List.length_append, List.length_cons, List.length_nil]; omega) | (simp; omega) | (simp only [List.length_append] at *; omega)) (by simp)) ?_
   refine TL.as (.one (.row 1006 [])) ?_
   refine TL.nil ?_
   refine ⟨i + 1, by (unfold padK at *; omega), by (unfold padK at *; omega), Env.le_mk ⟨rfl, rfl, rfl, trivial⟩ ⟨?_, rfl, trivial⟩ trivial⟩ <;> (first | rfl | (refine congrArg (fun x => some (_, D.ints .u8 x)) ?_; first | (simp; done) | (rw [List.replicate_succ', List.append_assoc, List.append_assoc]; first | done | rfl) | (simp only [List.append_assoc, List.replicate_succ', padB]; done) | (rw [show i = padK b.length from by unfold padK; omega]; simp [padB]; done)) | (refine congrArg (fun n => PV.one (.d (.int .i64 n))) ?_; first | rfl | omega | (simp; done)))
  ·
   replace h1 := of_decide_eq_false h1
   refine T.exit ?_
   refine T.seq ?_
   refine T.seq ?_
   refine T.region ?_
   refine TL.as (pI 7) ?_
   refine TL.nil ?_
   refine T.block ?_
   refine T.loop (ι := Nat) (fun xx_ => { tm := [(0, (pS b)), (2, (.one (.nil))), (3, (.one (.row 1006 []))), (4, (pI (7 - (xx_ : Int))))], rows := [(1006, (5, (.ints .u8 (b ++ [128] ++ List.replicate (padK b.length) 0 ++ padB b.length xx_)))), (7, (5, (.ints .u8 [128])))], boxes := [] }) (fun xx_ => xx_ ≤ 8) (fun xx_ => 8 - xx_) 0 ?_ ?_ ?_
   · refine Env.le_mk ⟨rfl, rfl, rfl, ?_, trivial⟩ ⟨?_, rfl, trivial⟩ trivial <;> (first | rfl | (refine congrArg (fun x => some (_, D.ints .u8 x)) ?_; first | (simp; done) | (rw [List.replicate_succ', List.append_assoc, List.append_assoc]; first | done | rfl) | (simp only [List.append_assoc, List.replicate_succ', padB]; done) | (rw [show i = padK b.length from by unfold padK at *; omega]; simp [padB]; done)) | (refine congrArg (fun n => PV.one (.d (.int .i64 n))) ?_; first | rfl | omega | (simp; done)))
   · exact Nat.zero_le _
   ·
    intro i hx
    try dsimp only at hx ⊢
    have hl_ : (b ++ [128] ++ List.replicate (padK b.length) 0 ++ padB b.length i).length = b.length + 1 + padK b.length + i := by simp [padB_len]; omega
    have hl3_ := padB_len b.length i
    have hk_ : padK b.length ≤ 63 := by unfold padK; omega
    refine T.seq ?_
    refine T.seq ?_
    refine T.region ?_
    refine TL.mv (pI (7 - (i : Int))) ?_
    refine TL.c (Step.bin rfl rfl (lt_ok rfl) rfl rfl (Bin.geq (k := .i64) (a := (7 - (i : Int))) (b := 0))) ?_
    refine TL.nil ?_
    refine T.cond (b := decide (0 ≤ (7 - (i : Int)))) rfl (fun h2 => ?_) (fun h2 => ?_)
    ·
     replace h2 := of_decide_eq_true h2
     refine T.skip ?_
     refine T.seq ?_
     refine T.block ?_
     refine T.region ?_
     refine TL.mv (.one (.row 1006 [])) ?_
     refine TL.mv (pS b) ?_
     refine TL.c (Step.len (e := 5) (z := 1) (d := (.ints .u8 b)) rfl rfl (lt_ok rfl) (by kernel_rfl) rfl rfl) ?_
     refine TL.c (Step.bin (r := .int .i64 (8 * (b.length : Int))) rfl rfl (lt_ok rfl) rfl rfl (Bin.mul (a := 8) (b := (b.length : Int)) (by first | exact wrap_ok (by first | omega | (simp; omega)) (by first | omega | (simp; omega)) | rfl))) ?_
     refine TL.mv (pI (7 - (i : Int))) ?_
     refine TL.c (Step.bin (r := .int .i64 (8 * (7 - (i : Int)))) rfl rfl (lt_ok rfl) rfl rfl (Bin.mul (a := 8) (b := (7 - (i : Int))) (by first | exact wrap_ok (by first | omega | (simp; omega)) (by first | omega | (simp; omega)) | rfl))) ?_
     refine TL.c (Step.bin (r := .int .i64 (bshr (8 * (b.length : Int)) (8 * (7 - (i : Int))))) rfl rfl (lt_ok rfl) rfl rfl (Bin.shr (k := .i64) (k' := .i64) (a := (8 * (b.length : Int))) (b := (8 * (7 - (i : Int)))) (by first | omega | (simp; omega)) (rfl))) ?_
     refine TL.c (Step.conv (c := ((bshr (8 * (b.length : Int)) (8 * (7 - (i : Int)))) % 256)) rfl rfl (lt_ok rfl) (by kernel_rfl) (by kernel_rfl) rfl (wrap_byte _)) ?_
     refine TL.c (Step.lit (e := 5) (z := 1) (by_ := 1) (xs := [.tmp 27]) (pss := [[.d (.int .u8 ((bshr (8 * (b.length : Int)) (8 * (7 - (i : Int)))) % 256))]]) (es := [(.int .u8 ((bshr (8 * (b.length : Int)) (8 * (7 - (i : Int)))) % 256))]) (ss := []) (d := (.ints .u8 [(bshr (8 * (b.length : Int)) (8 * (7 - (i : Int)))) % 256])) rfl rfl (lt_ok rfl) (by kernel_rfl) rfl rfl (.cons rfl .nil) (by simp) (le_ok rfl) (le_ok rfl) rfl (.val rfl .nil) rfl (by simp) (by simp) rfl trivial rfl rfl) ?_
     refine TL.c (Step.append (e := 5) (z := 1) (by_ := 1) (d := (.ints .u8 (b ++ [128] ++ List.replicate (padK b.length) 0 ++ padB b.length i))) (dy := (.ints .u8 [(bshr (8 * (b.length : Int)) (8 * (7 - (i : Int)))) % 256])) (d' := (.ints .u8 ((b ++ [128] ++ List.replicate (padK b.length) 0 ++ padB b.length i) ++ [(bshr (8 * (b.length : Int)) (8 * (7 - (i : Int)))) % 256]))) (ss := []) rfl rfl (lt_ok rfl) (by kernel_rfl) rfl rfl rfl (lt_ok rfl) rfl (.copy rfl rfl rfl (by simp [D.flat, D.val])) (by simp) rfl (by simp only [D.size, List.length_map]; first | omega | (simp only [List.length_append, List.length_cons, List.length_nil]; omega) | (simp; omega) | (simp only [List.length_append] at *; omega)) (by simp only [D.size, List.length_map]; first | omega | (simp only [List.length_append, List.length_cons, List.length_nil]; omega) | (simp; omega) | (simp only [List.length_append] at *; omega)) (by simp)) ?_
     refine TL.as (.one (.row 1006 [])) ?_
     refine TL.nil ?_
     refine T.region ?_
     refine TL.mv (pI (7 - (i : Int))) ?_
     refine TL.c (Step.bin (r := .int .i64 ((7 - (i : Int)) - 1)) rfl rfl (lt_ok rfl) rfl rfl (Bin.sub (a := (7 - (i : Int))) (b := 1) (by first | exact wrap_ok (by first | omega | (simp; omega)) (by first | omega | (simp; omega)) | rfl))) ?_
     refine TL.as (pI ((7 - (i : Int)) - 1)) ?_
     refine TL.nil ?_
     refine ⟨i + 1, by omega, by omega, Env.le_mk ⟨rfl, rfl, rfl, ?_, trivial⟩ ⟨?_, rfl, trivial⟩ trivial⟩ <;> (first | rfl | (refine congrArg (fun x => some (_, D.ints .u8 x)) ?_; first | (simp; done) | (rw [List.replicate_succ', List.append_assoc, List.append_assoc]; first | done | rfl) | (simp only [List.append_assoc, List.replicate_succ', padB]; done) | (rw [show i = padK b.length from by unfold padK at *; omega]; simp [padB]; done)) | (refine congrArg (fun n => PV.one (.d (.int .i64 n))) ?_; first | rfl | omega | (simp; done)))
    ·
     replace h2 := of_decide_eq_false h2
     refine T.exit ?_
     refine T.seq ?_
     refine T.region ?_
     refine TL.mv (.one (.row 1006 [])) ?_
     refine TL.as (.one (.row 1006 [])) ?_
     refine TL.nil ?_
     refine T.ret ?_
     refine ⟨[(false, [.row 1006 []])], (.cons rfl .nil), rfl, [1006], (RetC.own' rfl ?_ rfl .nil)⟩ <;> ((congr 1; unfold shaPad; rw [show i = 8 from by omega]))
theorem ok_impl_isWord (x : Int) : RO Try.prog 189 [.one (.int .i64 x)] [(false, [.rd (.bool (decide (0 ≤ x ∧ x ≤ 4294967295)))])] := by
 refine RO.intro Try.func189 rfl 5 rfl (le_ok rfl) fun w Z => ?_
 refine T.seq ?_
 refine T.region ?_
 refine TL.as (pB false) ?_
 refine TL.nil ?_
 refine T.seq ?_
 refine T.region ?_
 refine TL.mv (pI x) ?_
 refine TL.c (Step.cl (xs := [.tmp 3, .const (.int .i64 0), .const (.int .i64 4294967295)]) (ps := [(pI x), (pI 0), (pI 4294967295)]) (g := .func 117) false (.cons (.one (.d _)) (.cons (.one (.d _)) (.cons (.one (.d _)) .nil))) (ok_impl_within x 0 4294967295)) ?_
 refine TL.as (pB (decide (0 ≤ x ∧ x ≤ 4294967295))) ?_
 refine TL.nil ?_
 refine T.ret ?_
 exact ⟨[(false, [.d (.bool (decide (0 ≤ x ∧ x ≤ 4294967295)))])], (.cons rfl .nil), rfl, [], (RetC.rd' rfl .nil)⟩
theorem ok_impl_rounds  : RO Try.prog 190 [] [(false, [.own 3 (.ints .i64 shaK)])] := by
 refine RO.intro Try.func190 rfl 2 rfl (le_ok rfl) fun w Z => ?_
 refine T.seq ?_
 refine T.region ?_
 refine TL.as (.one (.nil)) ?_
 refine TL.nil ?_
 refine T.seq ?_
 refine T.region ?_
 refine TL.c (Step.lit (e := 3) (z := 1) (by_ := 8) (xs := [.const (.int .i64 1116352408), .const (.int .i64 1899447441), .const (.int .i64 3049323471), .const (.int .i64 3921009573), .const (.int .i64 961987163), .const (.int .i64 1508970993), .const (.int .i64 2453635748), .const (.int .i64 2870763221), .const (.int .i64 3624381080), .const (.int .i64 310598401), .const (.int .i64 607225278), .const (.int .i64 1426881987), .const (.int .i64 1925078388), .const (.int .i64 2162078206), .const (.int .i64 2614888103), .const (.int .i64 3248222580), .const (.int .i64 3835390401), .const (.int .i64 4022224774), .const (.int .i64 264347078), .const (.int .i64 604807628), .const (.int .i64 770255983), .const (.int .i64 1249150122), .const (.int .i64 1555081692), .const (.int .i64 1996064986), .const (.int .i64 2554220882), .const (.int .i64 2821834349), .const (.int .i64 2952996808), .const (.int .i64 3210313671), .const (.int .i64 3336571891), .const (.int .i64 3584528711), .const (.int .i64 113926993), .const (.int .i64 338241895), .const (.int .i64 666307205), .const (.int .i64 773529912), .const (.int .i64 1294757372), .const (.int .i64 1396182291), .const (.int .i64 1695183700), .const (.int .i64 1986661051), .const (.int .i64 2177026350), .const (.int .i64 2456956037), .const (.int .i64 2730485921), .const (.int .i64 2820302411), .const (.int .i64 3259730800), .const (.int .i64 3345764771), .const (.int .i64 3516065817), .const (.int .i64 3600352804), .const (.int .i64 4094571909), .const (.int .i64 275423344), .const (.int .i64 430227734), .const (.int .i64 506948616), .const (.int .i64 659060556), .const (.int .i64 883997877), .const (.int .i64 958139571), .const (.int .i64 1322822218), .const (.int .i64 1537002063), .const (.int .i64 1747873779), .const (.int .i64 1955562222), .const (.int .i64 2024104815), .const (.int .i64 2227730452), .const (.int .i64 2361852424), .const (.int .i64 2428436474), .const (.int .i64 2756734187), .const (.int .i64 3204031479), .const (.int .i64 3329325298)]) (pss := [[cI 1116352408], [cI 1899447441], [cI 3049323471], [cI 3921009573], [cI 961987163], [cI 1508970993], [cI 2453635748], [cI 2870763221], [cI 3624381080], [cI 310598401], [cI 607225278], [cI 1426881987], [cI 1925078388], [cI 2162078206], [cI 2614888103], [cI 3248222580], [cI 3835390401], [cI 4022224774], [cI 264347078], [cI 604807628], [cI 770255983], [cI 1249150122], [cI 1555081692], [cI 1996064986], [cI 2554220882], [cI 2821834349], [cI 2952996808], [cI 3210313671], [cI 3336571891], [cI 3584528711], [cI 113926993], [cI 338241895], [cI 666307205], [cI 773529912], [cI 1294757372], [cI 1396182291], [cI 1695183700], [cI 1986661051], [cI 2177026350], [cI 2456956037], [cI 2730485921], [cI 2820302411], [cI 3259730800], [cI 3345764771], [cI 3516065817], [cI 3600352804], [cI 4094571909], [cI 275423344], [cI 430227734], [cI 506948616], [cI 659060556], [cI 883997877], [cI 958139571], [cI 1322822218], [cI 1537002063], [cI 1747873779], [cI 1955562222], [cI 2024104815], [cI 2227730452], [cI 2361852424], [cI 2428436474], [cI 2756734187], [cI 3204031479], [cI 3329325298]]) (es := [(.int .i64 1116352408), (.int .i64 1899447441), (.int .i64 3049323471), (.int .i64 3921009573), (.int .i64 961987163), (.int .i64 1508970993), (.int .i64 2453635748), (.int .i64 2870763221), (.int .i64 3624381080), (.int .i64 310598401), (.int .i64 607225278), (.int .i64 1426881987), (.int .i64 1925078388), (.int .i64 2162078206), (.int .i64 2614888103), (.int .i64 3248222580), (.int .i64 3835390401), (.int .i64 4022224774), (.int .i64 264347078), (.int .i64 604807628), (.int .i64 770255983), (.int .i64 1249150122), (.int .i64 1555081692), (.int .i64 1996064986), (.int .i64 2554220882), (.int .i64 2821834349), (.int .i64 2952996808), (.int .i64 3210313671), (.int .i64 3336571891), (.int .i64 3584528711), (.int .i64 113926993), (.int .i64 338241895), (.int .i64 666307205), (.int .i64 773529912), (.int .i64 1294757372), (.int .i64 1396182291), (.int .i64 1695183700), (.int .i64 1986661051), (.int .i64 2177026350), (.int .i64 2456956037), (.int .i64 2730485921), (.int .i64 2820302411), (.int .i64 3259730800), (.int .i64 3345764771), (.int .i64 3516065817), (.int .i64 3600352804), (.int .i64 4094571909), (.int .i64 275423344), (.int .i64 430227734), (.int .i64 506948616), (.int .i64 659060556), (.int .i64 883997877), (.int .i64 958139571), (.int .i64 1322822218), (.int .i64 1537002063), (.int .i64 1747873779), (.int .i64 1955562222), (.int .i64 2024104815), (.int .i64 2227730452), (.int .i64 2361852424), (.int .i64 2428436474), (.int .i64 2756734187), (.int .i64 3204031479), (.int .i64 3329325298)]) (ss := []) (d := (.ints .i64 [1116352408, 1899447441, 3049323471, 3921009573, 961987163, 1508970993, 2453635748, 2870763221, 3624381080, 310598401, 607225278, 1426881987, 1925078388, 2162078206, 2614888103, 3248222580, 3835390401, 4022224774, 264347078, 604807628, 770255983, 1249150122, 1555081692, 1996064986, 2554220882, 2821834349, 2952996808, 3210313671, 3336571891, 3584528711, 113926993, 338241895, 666307205, 773529912, 1294757372, 1396182291, 1695183700, 1986661051, 2177026350, 2456956037, 2730485921, 2820302411, 3259730800, 3345764771, 3516065817, 3600352804, 4094571909, 275423344, 430227734, 506948616, 659060556, 883997877, 958139571, 1322822218, 1537002063, 1747873779, 1955562222, 2024104815, 2227730452, 2361852424, 2428436474, 2756734187, 3204031479, 3329325298])) rfl rfl (lt_ok rfl) (by kernel_rfl) rfl rfl (.cons rfl (.cons rfl (.cons rfl (.cons rfl (.cons rfl (.cons rfl (.cons rfl (.cons rfl (.cons rfl (.cons rfl (.cons rfl (.cons rfl (.cons rfl (.cons rfl (.cons rfl (.cons rfl (.cons rfl (.cons rfl (.cons rfl (.cons rfl (.cons rfl (.cons rfl (.cons rfl (.cons rfl (.cons rfl (.cons rfl (.cons rfl (.cons rfl (.cons rfl (.cons rfl (.cons rfl (.cons rfl (.cons rfl (.cons rfl (.cons rfl (.cons rfl (.cons rfl (.cons rfl (.cons rfl (.cons rfl (.cons rfl (.cons rfl (.cons rfl (.cons rfl (.cons rfl (.cons rfl (.cons rfl (.cons rfl (.cons rfl (.cons rfl (.cons rfl (.cons rfl (.cons rfl (.cons rfl (.cons rfl (.cons rfl (.cons rfl (.cons rfl (.cons rfl (.cons rfl (.cons rfl (.cons rfl (.cons rfl (.cons rfl .nil)))))))))))))))))))))))))))))))))))))))))))))))))))))))))))))))) (by simp) (le_ok rfl) (le_ok rfl) rfl (.val rfl (.val rfl (.val rfl (.val rfl (.val rfl (.val rfl (.val rfl (.val rfl (.val rfl (.val rfl (.val rfl (.val rfl (.val rfl (.val rfl (.val rfl (.val rfl (.val rfl (.val rfl (.val rfl (.val rfl (.val rfl (.val rfl (.val rfl (.val rfl (.val rfl (.val rfl (.val rfl (.val rfl (.val rfl (.val rfl (.val rfl (.val rfl (.val rfl (.val rfl (.val rfl (.val rfl (.val rfl (.val rfl (.val rfl (.val rfl (.val rfl (.val rfl (.val rfl (.val rfl (.val rfl (.val rfl (.val rfl (.val rfl (.val rfl (.val rfl (.val rfl (.val rfl (.val rfl (.val rfl (.val rfl (.val rfl (.val rfl (.val rfl (.val rfl (.val rfl (.val rfl (.val rfl (.val rfl (.val rfl .nil)))))))))))))))))))))))))))))))))))))))))))))))))))))))))))))))) rfl (by simp) (by simp) rfl trivial rfl rfl) ?_
 refine TL.as (.one (.row 1 [])) ?_
 refine TL.nil ?_
 refine T.ret ?_
 refine ⟨[(false, [.row 1 []])], (.cons rfl .nil), rfl, [1], (RetC.own' rfl ?_ rfl .nil)⟩ <;> (rfl)
theorem ok_impl_TurnRight (x : Int) (n : Int) (h0_ : 0 ≤ x ∧ x ≤ 4294967295) (h1_ : 0 ≤ n ∧ n ≤ 31) : RO Try.prog 191 [.one (.int .i64 x), .one (.int .i64 n)] [(false, [.rd (.int .i64 (turnW x n))])] := by
 refine RO.intro Try.func191 rfl 22 rfl (le_ok rfl) fun w Z => ?_
 refine T.seq ?_
 refine T.region ?_
 refine TL.as (pI 0) ?_
 refine TL.nil ?_
 refine T.seq ?_
 refine T.seq ?_
 refine T.region ?_
 refine TL.mv (pI x) ?_
 refine TL.c (Step.cl (xs := [.tmp 5]) (ps := [(pI x)]) (g := .func 189) false (.cons (.one (.d _)) .nil) (ok_impl_isWord x)) ?_
 refine TL.c (Step.not (b := (decide (0 ≤ x ∧ x ≤ 4294967295))) rfl rfl (lt_ok rfl) rfl) ?_
 refine TL.mv (pB (!(decide (0 ≤ x ∧ x ≤ 4294967295)))) ?_
 rcases Bool.eq_false_or_eq_true (!(decide (0 ≤ x ∧ x ≤ 4294967295))) with hb1 | hb1
 ·
  refine TL.known 8 hb1 rfl ?_
  have hb1' := hb1
  replace hb1' : (decide (0 ≤ x ∧ x ≤ 4294967295)) = false := by simpa only [Bool.not_eq_true', Bool.not_eq_false'] using hb1'
  replace hb1' := of_decide_eq_false hb1'
  refine TL.gf 8 ?_
  refine TL.gf 8 ?_
  refine TL.gf 8 ?_
  refine TL.pk true (pB true) ?_
  refine TL.nil ?_
  refine T.cond (b := true) rfl (fun h2_ => ?_) (fun h2_ => absurd h2_ (by simp))
  refine T.seq ?_
  refine T.region ?_
  refine TL.as (pI 0) ?_
  refine TL.nil ?_
  refine T.ret ?_
  refine ⟨[(false, [cI 0])], (.cons rfl .nil), rfl, [], (RetC.rd' ?_ .nil)⟩ <;> (first | rfl | (exfalso; omega))
 ·
  refine TL.known 8 hb1 rfl ?_
  have hb1' := hb1
  replace hb1' : (decide (0 ≤ x ∧ x ≤ 4294967295)) = true := by simpa only [Bool.not_eq_true', Bool.not_eq_false'] using hb1'
  replace hb1' := of_decide_eq_true hb1'
  refine TL.gm 8 (pI n) ?_
  refine TL.gy 8 (Step.cl (xs := [.tmp 9, .const (.int .i64 0), .const (.int .i64 31)]) (ps := [(pI n), (pI 0), (pI 31)]) (g := .func 117) false (.cons (.one (.d _)) (.cons (.one (.d _)) (.cons (.one (.d _)) .nil))) (ok_impl_within n 0 31)) ?_
  refine TL.gy 8 (Step.not (b := (decide (0 ≤ n ∧ n ≤ 31))) rfl rfl (lt_ok rfl) rfl) ?_
  refine TL.pk false (pB (!(decide (0 ≤ n ∧ n ≤ 31)))) ?_
  refine TL.nil ?_
  refine T.cond (b := !(decide (0 ≤ n ∧ n ≤ 31))) rfl (fun h3 => ?_) (fun h3 => ?_)
  ·
   replace h3 : (decide (0 ≤ n ∧ n ≤ 31)) = false := by simpa only [Bool.not_eq_true', Bool.not_eq_false'] using h3
   replace h3 := of_decide_eq_false h3
   refine T.seq ?_
   refine T.region ?_
   refine TL.as (pI 0) ?_
   refine TL.nil ?_
   refine T.ret ?_
   refine ⟨[(false, [cI 0])], (.cons rfl .nil), rfl, [], (RetC.rd' ?_ .nil)⟩ <;> (first | rfl | (exfalso; omega))
  ·
   replace h3 : (decide (0 ≤ n ∧ n ≤ 31)) = true := by simpa only [Bool.not_eq_true', Bool.not_eq_false'] using h3
   replace h3 := of_decide_eq_true h3
   refine T.skip ?_
   refine T.seq ?_
   refine T.draw [⟨13, (pI x), []⟩, ⟨14, (pI n), []⟩, ⟨15, (pI (bshr x n)), []⟩, ⟨16, (pI x), []⟩, ⟨17, (pI n), []⟩, ⟨18, (pI (32 - n)), []⟩, ⟨19, (pI (bshl x (32 - n))), []⟩, ⟨20, (pI (bor (bshr x n) (bshl x (32 - n)))), []⟩, ⟨21, (pI (band (bor (bshr x n) (bshl x (32 - n))) 4294967295)), []⟩, ⟨4, (pI (band (bor (bshr x n) (bshl x (32 - n))) 4294967295)), []⟩] (by kernel_rfl) (by kernel_rfl) ?_ ?_
   ·
    refine .cons (fun E A => A.mv 0 13) ?_
    refine .cons (fun E A => A.mv 1 14) ?_
    refine .cons (fun E A => OpStep.plain rfl (Step.bd (r := .int .i64 (bshr x n)) 15 (A.g 13 rfl) (A.g 14 rfl) (Bin.shr (k := .i64) (k' := .i64) (a := x) (b := n) (by first | omega | (simp; omega)) (rfl)))) ?_
    refine .cons (fun E A => A.mv 0 16) ?_
    refine .cons (fun E A => A.mv 1 17) ?_
    refine .cons (fun E A => OpStep.plain rfl (Step.bd (r := .int .i64 (32 - n)) 18 rfl (A.g 17 rfl) (Bin.sub (a := 32) (b := n) (by first | exact wrap_ok (by first | omega | (simp; omega)) (by first | omega | (simp; omega)) | rfl)))) ?_
    refine .cons (fun E A => OpStep.plain rfl (Step.bd (r := .int .i64 (bshl x (32 - n))) 19 (A.g 16 rfl) (A.g 18 rfl) (Bin.shl (k := .i64) (k' := .i64) (a := x) (b := (32 - n)) (by first | omega | (simp; omega)) (rfl)))) ?_
    refine .cons (fun E A => OpStep.plain rfl (Step.bd (r := .int .i64 (bor (bshr x n) (bshl x (32 - n)))) 20 (A.g 15 rfl) (A.g 19 rfl) (Bin.or (k := .i64) (a := (bshr x n)) (b := (bshl x (32 - n))) (rfl)))) ?_
    refine .cons (fun E A => OpStep.plain rfl (Step.bd (r := .int .i64 (band (bor (bshr x n) (bshl x (32 - n))) 4294967295)) 21 (A.g 20 rfl) rfl (Bin.and (k := .i64) (a := (bor (bshr x n) (bshl x (32 - n)))) (b := 4294967295) (rfl)))) ?_
    refine .cons (fun E A => A.as 21 4) ?_
    exact .nil _ _
   refine TL.nil ?_
   refine T.ret ?_
   refine ⟨[(false, [cI (band (bor (bshr x n) (bshl x (32 - n))) 4294967295)])], (.cons rfl .nil), rfl, [], (RetC.rd' ?_ .nil)⟩ <;> (first | rfl | (exfalso; omega))
theorem ok_impl_ShaBlock (h : List Int) (b : List Int) (h0_ : U8s b) : RO Try.prog 152 [.one (.ints .i64 h), .one (.ints .u8 b)] [(false, [.own 3 (.ints .i64 (shaBlock h b))])] := by
 refine RO.intro Try.func152 rfl 235 rfl (le_ok rfl) fun w Z => ?_
 refine T.bnd 0 0 rfl rfl fun hb_0_0 => ?_
 simp only [D.size, List.length_map] at hb_0_0
 refine T.bnd 1 0 rfl rfl fun hb_1_0 => ?_
 simp only [D.size, List.length_map] at hb_1_0
 refine T.seq ?_
 refine T.region ?_
 refine TL.as (.one (.nil)) ?_
 refine TL.nil ?_
 refine T.seq ?_
 refine T.seq ?_
 refine T.region ?_
 refine TL.mv (.one (.d (.ints .i64 h))) ?_
 refine TL.c (Step.len (e := 3) (z := 1) (d := (.ints .i64 h)) rfl rfl (lt_ok rfl) (by kernel_rfl) rfl rfl) ?_
 refine TL.c (Step.bin rfl rfl (lt_ok rfl) rfl rfl (Bin.neq (k := .i64) (a := (h.length : Int)) (b := 8))) ?_
 refine TL.mv (pB (decide ((h.length : Int) ≠ 8))) ?_
 rcases Bool.eq_false_or_eq_true (decide ((h.length : Int) ≠ 8)) with hb1 | hb1
 ·
  refine TL.known 28 hb1 rfl ?_
  have hb1' := hb1
  replace hb1' := of_decide_eq_true hb1'
  refine TL.gf 28 ?_
  refine TL.gf 28 ?_
  refine TL.gf 28 ?_
  refine TL.pk true (pB true) ?_
  refine TL.nil ?_
  refine T.cond (b := true) rfl (fun h2_ => ?_) (fun h2_ => absurd h2_ (by simp))
  refine T.seq ?_
  refine T.region ?_
  refine TL.as (.one (.nil)) ?_
  refine TL.nil ?_
  refine T.ret ?_
  refine ⟨[(false, [.nil])], (.cons rfl .nil), rfl, [], (RetC.nilown' rfl ?_ (by first | exact trivial | exact D.wf_nil _) .nil)⟩ <;> (first | (rw [shaBlock_yes (h := h) (b := b) ⟨by omega, by omega, hwo_⟩, show i = 8 from by omega]; done) | (simp only [D.size]; first | (rw [shaBlock_no (fun h_ => by have := h_.1; have := h_.2.1; omega)]; rfl) | (rw [shaBlock_no (fun h_ => by have := h_.2.2; rw [words_no (i := i) (by omega) (by omega)] at this; cases this)]; rfl)))
 ·
  refine TL.known 28 hb1 rfl ?_
  have hb1' := hb1
  replace hb1' := of_decide_eq_false hb1'
  refine TL.gm 28 (pS b) ?_
  refine TL.gy 28 (Step.len (e := 5) (z := 1) (d := (.ints .u8 b)) rfl rfl (lt_ok rfl) (by kernel_rfl) rfl rfl) ?_
  refine TL.gy 28 (Step.bin rfl rfl (lt_ok rfl) rfl rfl (Bin.neq (k := .i64) (a := (b.length : Int)) (b := 64))) ?_
  refine TL.pk false (pB (decide ((b.length : Int) ≠ 64))) ?_
  refine TL.nil ?_
  refine T.cond (b := decide ((b.length : Int) ≠ 64)) rfl (fun h3 => ?_) (fun h3 => ?_)
  ·
   replace h3 := of_decide_eq_true h3
   refine T.seq ?_
   refine T.region ?_
   refine TL.as (.one (.nil)) ?_
   refine TL.nil ?_
   refine T.ret ?_
   refine ⟨[(false, [.nil])], (.cons rfl .nil), rfl, [], (RetC.nilown' rfl ?_ (by first | exact trivial | exact D.wf_nil _) .nil)⟩ <;> (first | (rw [shaBlock_yes (h := h) (b := b) ⟨by omega, by omega, hwo_⟩, show i = 8 from by omega]; done) | (simp only [D.size]; first | (rw [shaBlock_no (fun h_ => by have := h_.1; have := h_.2.1; omega)]; rfl) | (rw [shaBlock_no (fun h_ => by have := h_.2.2; rw [words_no (i := i) (by omega) (by omega)] at this; cases this)]; rfl)))
  ·
   replace h3 := of_decide_eq_false h3
   refine T.skip ?_
   refine T.seq ?_
   refine T.seq ?_
   refine T.region ?_
   refine TL.mv (.one (.d (.ints .i64 h))) ?_
   refine TL.c (Step.len (e := 3) (z := 1) (d := (.ints .i64 h)) rfl rfl (lt_ok rfl) (by kernel_rfl) rfl rfl) ?_
   refine TL.mv (pI 0) ?_
   refine TL.nil ?_
   refine T.block ?_
   refine T.loop (ι := Nat) (fun xx_ => { tm := [(0, (.one (.d (.ints .i64 h)))), (1, (pS b)), (33, (.one (.d (.ints .i64 h)))), (34, (pI (h.length : Int))), (35, (pI (xx_ : Int)))], rows := [], boxes := [] }) (fun xx_ => xx_ ≤ h.length ∧ wordsOk (h.take xx_) = true) (fun xx_ => h.length - xx_) 0 ?_ ?_ ?_
   · refine Env.le_mk ⟨rfl, rfl, rfl, rfl, ?_, trivial⟩ trivial trivial <;> (first | rfl | (simp; done) | (congr 3; omega))
   · (refine ⟨Nat.zero_le _, by rw [List.take_zero]; rfl⟩)
   ·
    intro i hx
    try dsimp only at hx ⊢
    obtain ⟨hx1, hx2⟩ := hx
    refine T.seq ?_
    refine T.region ?_
    refine TL.c (Step.bin rfl rfl (lt_ok rfl) rfl rfl (Bin.lss (k := .i64) (a := (i : Int)) (b := (h.length : Int)))) ?_
    refine TL.nil ?_
    refine T.seq ?_
    refine T.cond (b := decide ((i : Int) < (h.length : Int))) rfl (fun h4 => ?_) (fun h4 => ?_)
    ·
     replace h4 := of_decide_eq_true h4
     refine T.skip ?_
     refine T.seq ?_
     refine T.block ?_
     refine T.seq ?_
     refine T.region ?_
     refine TL.c (Step.index (e := 3) (z := 1) (i := (i : Int)) rfl rfl (lt_ok rfl) (by kernel_rfl) rfl rfl rfl (lt_ok rfl) rfl (by first | omega | (simp; omega) | (simp [w16_len, wN_len]; omega)) (by simp only [D.size]; first | omega | (simp; omega) | (simp [w16_len, wN_len]; omega))) ?_
     refine TL.c (Step.load (e := (.int .i64 (h.getD i 0))) rfl rfl (lt_ok rfl) (by kernel_rfl) rfl rfl) ?_
     refine TL.as (pI (h.getD i 0)) ?_
     refine TL.nil ?_
     refine T.seq ?_
     refine T.region ?_
     refine TL.mv (pI (h.getD i 0)) ?_
     refine TL.c (Step.cl (xs := [.tmp 39]) (ps := [(pI (h.getD i 0))]) (g := .func 189) false (.cons (.one (.d _)) .nil) (ok_impl_isWord (h.getD i 0))) ?_
     refine TL.c (Step.not (b := (decide (0 ≤ (h.getD i 0) ∧ (h.getD i 0) ≤ 4294967295))) rfl rfl (lt_ok rfl) rfl) ?_
     refine TL.nil ?_
     refine T.cond (b := !(decide (0 ≤ (h.getD i 0) ∧ (h.getD i 0) ≤ 4294967295))) rfl (fun h5 => ?_) (fun h5 => ?_)
     ·
      replace h5 : (decide (0 ≤ (h.getD i 0) ∧ (h.getD i 0) ≤ 4294967295)) = false := by simpa only [Bool.not_eq_true', Bool.not_eq_false'] using h5
      replace h5 := of_decide_eq_false h5
      refine T.seq ?_
      refine T.region ?_
      refine TL.as (.one (.nil)) ?_
      refine TL.nil ?_
      refine T.ret ?_
      refine ⟨[(false, [.nil])], (.cons rfl .nil), rfl, [], (RetC.nilown' rfl ?_ (by first | exact trivial | exact D.wf_nil _) .nil)⟩ <;> (first | (rw [shaBlock_yes (h := h) (b := b) ⟨by omega, by omega, hwo_⟩, show i = 8 from by omega]; done) | (simp only [D.size]; first | (rw [shaBlock_no (fun h_ => by have := h_.1; have := h_.2.1; omega)]; rfl) | (rw [shaBlock_no (fun h_ => by have := h_.2.2; rw [words_no (i := i) (by omega) (by omega)] at this; cases this)]; rfl)))
     ·
      replace h5 : (decide (0 ≤ (h.getD i 0) ∧ (h.getD i 0) ≤ 4294967295)) = true := by simpa only [Bool.not_eq_true', Bool.not_eq_false'] using h5
      replace h5 := of_decide_eq_true h5
      refine T.skip ?_
      refine T.region ?_
      refine TL.c (Step.bin (r := .int .i64 ((i : Int) + 1)) rfl rfl (lt_ok rfl) rfl rfl (Bin.add (a := (i : Int)) (b := 1) (by first | exact wrap_ok (by first | omega | (simp; omega) | (simp [w16_len, wN_len]; omega)) (by first | omega | (simp; omega) | (simp [w16_len, wN_len]; omega)) | rfl))) ?_
      refine TL.mv (pI ((i : Int) + 1)) ?_
      refine TL.nil ?_
      refine ⟨i + 1, by (refine ⟨by omega, words_step (by omega) hx2 (by omega)⟩), by first | omega | (dsimp only; omega), Env.le_mk ⟨rfl, rfl, rfl, rfl, ?_, trivial⟩ trivial trivial⟩ <;> (first | rfl | (simp; done) | (congr 3; omega))
    ·
     replace h4 := of_decide_eq_false h4
     refine T.exit ?_
     refine T.seq ?_
     refine T.region ?_
     refine TL.c (Step.buildArr (zs := List.replicate 64 (.int .i64 0)) (size := 1) (pss := []) (ps' := (List.replicate 64 (.d (.int .i64 0)))) rfl rfl (lt_ok rfl) (by kernel_rfl) .nil rfl (by kernel_rfl) (by kernel_rfl)) ?_
     refine TL.c (Step.cl (xs := []) (ps := []) (g := .func 190) false .nil (ok_impl_rounds )) ?_
     refine TL.c (Step.buildArr (zs := List.replicate 8 (.int .i64 0)) (size := 1) (pss := []) (ps' := [cI 0, cI 0, cI 0, cI 0, cI 0, cI 0, cI 0, cI 0]) rfl rfl (lt_ok rfl) (by kernel_rfl) .nil rfl (by kernel_rfl) (by kernel_rfl)) ?_
     refine TL.c (Step.allocArr (zs := List.replicate 64 (.int .i64 0)) (zd := List.replicate 64 (.int .i64 0)) (d := (.ints .i64 (List.replicate 64 0))) rfl rfl (lt_ok rfl) (by kernel_rfl) (zeroB_ok _ _ (by kernel_rfl)) (by kernel_rfl) rfl trivial (by decide) (by decide) (by decide) rfl (by simp)) ?_
     refine TL.c (Step.allocArr (zs := List.replicate 8 (.int .i64 0)) (zd := List.replicate 8 (.int .i64 0)) (d := (.ints .i64 (List.replicate 8 0))) rfl rfl (lt_ok rfl) (by kernel_rfl) (zeroB_ok _ _ (by kernel_rfl)) (by kernel_rfl) rfl trivial (by decide) (by decide) (by decide) rfl (by simp)) ?_
     refine TL.c (Step.store_row (n := 64) (p := (.agg (List.replicate 64 (.d (.int .i64 0))))) (ps := (List.replicate 64 (.d (.int .i64 0)))) (es := (List.replicate 64 ((.int .i64 0)))) (ss := []) (d1 := (.ints .i64 (List.replicate 64 (0)))) (d' := (.ints .i64 (List.replicate 64 (0)))) rfl rfl (by kernel_rfl) rfl rfl rfl rfl rfl rfl (.val rfl (.val rfl (.val rfl (.val rfl (.val rfl (.val rfl (.val rfl (.val rfl (.val rfl (.val rfl (.val rfl (.val rfl (.val rfl (.val rfl (.val rfl (.val rfl (.val rfl (.val rfl (.val rfl (.val rfl (.val rfl (.val rfl (.val rfl (.val rfl (.val rfl (.val rfl (.val rfl (.val rfl (.val rfl (.val rfl (.val rfl (.val rfl (.val rfl (.val rfl (.val rfl (.val rfl (.val rfl (.val rfl (.val rfl (.val rfl (.val rfl (.val rfl (.val rfl (.val rfl (.val rfl (.val rfl (.val rfl (.val rfl (.val rfl (.val rfl (.val rfl (.val rfl (.val rfl (.val rfl (.val rfl (.val rfl (.val rfl (.val rfl (.val rfl (.val rfl (.val rfl (.val rfl (.val rfl (.val rfl .nil)))))))))))))))))))))))))))))))))))))))))))))))))))))))))))))))) (by simp) (by have h_ := Putd.all (k := .i64) (xs := List.replicate 64 0) (ys := (List.replicate 64 (0))) (by first | exact hl_ | rfl); exact h_) rfl) ?_
     refine TL.as (.one (.row 1044 [])) ?_
     refine TL.c (Step.store_row (n := 8) (p := (.agg [cI 0, cI 0, cI 0, cI 0, cI 0, cI 0, cI 0, cI 0])) (ps := [cI 0, cI 0, cI 0, cI 0, cI 0, cI 0, cI 0, cI 0]) (es := [(.int .i64 0), (.int .i64 0), (.int .i64 0), (.int .i64 0), (.int .i64 0), (.int .i64 0), (.int .i64 0), (.int .i64 0)]) (ss := []) (d1 := (.ints .i64 [0, 0, 0, 0, 0, 0, 0, 0])) (d' := (.ints .i64 [0, 0, 0, 0, 0, 0, 0, 0])) rfl rfl (by kernel_rfl) rfl rfl rfl rfl rfl rfl (.val rfl (.val rfl (.val rfl (.val rfl (.val rfl (.val rfl (.val rfl (.val rfl .nil)))))))) (by simp) (by have h_ := Putd.all (k := .i64) (xs := List.replicate 8 0) (ys := [0, 0, 0, 0, 0, 0, 0, 0]) (by first | exact hvl_ | exact hvl_.symm | rfl | (simp; done)); exact h_) rfl) ?_
     refine TL.nil ?_
     refine T.weaken (E' := { tm := [(0, (.one (.d (.ints .i64 h)))), (1, (pS b)), (7, (.one (.rptr 7 [] 0 0))), (9, (.one (.rptr 9 [] 0 0))), (8, (.one (.row 1044 [])))], rows := [(1044, (3, (.ints .i64 shaK))), (7, (170, (.ints .i64 (List.replicate 64 (0))))), (9, (171, (.ints .i64 [0, 0, 0, 0, 0, 0, 0, 0])))], boxes := [] }) (Env.le_mk ⟨by kernel_rfl, by kernel_rfl, by kernel_rfl, by kernel_rfl, by kernel_rfl, trivial⟩ ⟨by kernel_rfl, by kernel_rfl, by kernel_rfl, trivial⟩ trivial) ?_
     refine T.seq ?_
     refine T.seq ?_
     refine T.region ?_
     refine TL.mv (pI 0) ?_
     refine TL.nil ?_
     refine T.block ?_
     refine T.loop (ι := Nat) (fun xx_ => { tm := [(0, (.one (.d (.ints .i64 h)))), (1, (pS b)), (7, (.one (.rptr 7 [] 0 0))), (9, (.one (.rptr 9 [] 0 0))), (8, (.one (.row 1044 []))), (46, (pI (xx_ : Int)))], rows := [(1044, (3, (.ints .i64 shaK))), (7, (170, (.ints .i64 (aI b xx_)))), (9, (171, (.ints .i64 [0, 0, 0, 0, 0, 0, 0, 0])))], boxes := [] }) (fun xx_ => xx_ ≤ 16) (fun xx_ => 16 - xx_) 0 ?_ ?_ ?_
     · refine Env.le_mk ⟨rfl, rfl, rfl, rfl, rfl, ?_, trivial⟩ ⟨rfl, ?_, rfl, trivial⟩ trivial <;> (first | exact congrArg (fun x => some (_, D.ints .i64 x)) (aI_zero b) | exact congrArg (fun x => some (_, D.ints .i64 x)) (aI_set b (by omega)) | rfl | (refine congrArg (fun x => some (_, D.ints .i64 x)) ?_; first | rfl | fail) | (refine congrArg (fun n => PV.one (.d (.int .i64 n))) ?_; first | rfl | omega | (simp; done)))
     · exact Nat.zero_le _
     ·
      intro i hx
      try dsimp only at hx ⊢
      have hwo_ : wordsOk h = true := by rw [List.take_of_length_le (by omega)] at hx2; exact hx2
      have hl_ := aI_len b hx
      have hu0_ := getD_u8 h0_ (4 * (i : Int)).toNat
      have hu1_ := getD_u8 h0_ (4 * (i : Int) + 1).toNat
      have hu2_ := getD_u8 h0_ (4 * (i : Int) + 2).toNat
      have hu3_ := getD_u8 h0_ (4 * (i : Int) + 3).toNat
      refine T.seq ?_
      refine T.region ?_
      refine TL.c (Step.bin rfl rfl (lt_ok rfl) rfl rfl (Bin.lss (k := .i64) (a := (i : Int)) (b := 16))) ?_
      refine TL.nil ?_
      refine T.seq ?_
      refine T.cond (b := decide ((i : Int) < 16)) rfl (fun h6 => ?_) (fun h6 => ?_)
      ·
       replace h6 := of_decide_eq_true h6
       refine T.skip ?_
       refine T.seq ?_
       refine T.block ?_
       refine T.seq ?_
       refine T.region ?_
       refine TL.mv (pI (i : Int)) ?_
       refine TL.as (pI (i : Int)) ?_
       refine TL.nil ?_
       refine T.draw [⟨49, (pI (i : Int)), []⟩, ⟨50, (pS b), []⟩, ⟨51, (pI (i : Int)), []⟩, ⟨52, (pI (4 * (i : Int))), []⟩, ⟨53, (.one (.eptr (.ints .u8 b) (4 * (i : Int)).toNat 0)), []⟩, ⟨54, (.one (.d (.int .u8 (b.getD (4 * (i : Int)).toNat 0)))), []⟩, ⟨55, (pI (b.getD (4 * (i : Int)).toNat 0)), []⟩, ⟨56, (pI (bshl (b.getD (4 * (i : Int)).toNat 0) 24)), []⟩, ⟨57, (pS b), []⟩, ⟨58, (pI (i : Int)), []⟩, ⟨59, (pI (4 * (i : Int))), []⟩, ⟨60, (pI ((4 * (i : Int)) + 1)), []⟩, ⟨61, (.one (.eptr (.ints .u8 b) ((4 * (i : Int)) + 1).toNat 0)), []⟩, ⟨62, (.one (.d (.int .u8 (b.getD ((4 * (i : Int)) + 1).toNat 0)))), []⟩, ⟨63, (pI (b.getD ((4 * (i : Int)) + 1).toNat 0)), []⟩, ⟨64, (pI (bshl (b.getD ((4 * (i : Int)) + 1).toNat 0) 16)), []⟩, ⟨65, (pI (bor (bshl (b.getD (4 * (i : Int)).toNat 0) 24) (bshl (b.getD ((4 * (i : Int)) + 1).toNat 0) 16))), []⟩, ⟨66, (pS b), []⟩, ⟨67, (pI (i : Int)), []⟩, ⟨68, (pI (4 * (i : Int))), []⟩, ⟨69, (pI ((4 * (i : Int)) + 2)), []⟩, ⟨70, (.one (.eptr (.ints .u8 b) ((4 * (i : Int)) + 2).toNat 0)), []⟩, ⟨71, (.one (.d (.int .u8 (b.getD ((4 * (i : Int)) + 2).toNat 0)))), []⟩, ⟨72, (pI (b.getD ((4 * (i : Int)) + 2).toNat 0)), []⟩, ⟨73, (pI (bshl (b.getD ((4 * (i : Int)) + 2).toNat 0) 8)), []⟩, ⟨74, (pI (bor (bor (bshl (b.getD (4 * (i : Int)).toNat 0) 24) (bshl (b.getD ((4 * (i : Int)) + 1).toNat 0) 16)) (bshl (b.getD ((4 * (i : Int)) + 2).toNat 0) 8))), []⟩, ⟨75, (pS b), []⟩, ⟨76, (pI (i : Int)), []⟩, ⟨77, (pI (4 * (i : Int))), []⟩, ⟨78, (pI ((4 * (i : Int)) + 3)), []⟩, ⟨79, (.one (.eptr (.ints .u8 b) ((4 * (i : Int)) + 3).toNat 0)), []⟩, ⟨80, (.one (.d (.int .u8 (b.getD ((4 * (i : Int)) + 3).toNat 0)))), []⟩, ⟨81, (pI (b.getD ((4 * (i : Int)) + 3).toNat 0)), []⟩, ⟨82, (pI (bor (bor (bor (bshl (b.getD (4 * (i : Int)).toNat 0) 24) (bshl (b.getD ((4 * (i : Int)) + 1).toNat 0) 16)) (bshl (b.getD ((4 * (i : Int)) + 2).toNat 0) 8)) (b.getD ((4 * (i : Int)) + 3).toNat 0))), []⟩, ⟨83, (.one (.rptr 7 [] i 0)), []⟩] (by kernel_rfl) (by kernel_rfl) ?_ ?_
       ·
        refine .cons (fun E A => A.mv 10 49) ?_
        refine .cons (fun E A => A.mv 1 50) ?_
        refine .cons (fun E A => A.mv 10 51) ?_
        refine .cons (fun E A => OpStep.plain rfl (Step.bd (r := .int .i64 (4 * (i : Int))) 52 rfl (A.g 51 rfl) (Bin.mul (a := 4) (b := (i : Int)) (by first | exact wrap_ok (by first | omega | (simp; omega) | (simp [w16_len, wN_len]; omega)) (by first | omega | (simp; omega) | (simp [w16_len, wN_len]; omega)) | rfl)))) ?_
        refine .cons (fun E A => OpStep.plain rfl (Step.index (e := 5) (z := 1) (i := (4 * (i : Int))) (t := 53) rfl rfl (by exact lt_ok rfl) (by kernel_rfl) (A.g 50 rfl) rfl rfl (lt_ok rfl) (A.g 52 rfl) (by first | omega | (simp; omega) | (simp [w16_len, wN_len]; omega)) (by simp only [D.size]; first | omega | (simp; omega) | (simp [w16_len, wN_len]; omega)))) ?_
        refine .cons (fun E A => OpStep.plain rfl (Step.load (e := (.int .u8 (b.getD (4 * (i : Int)).toNat 0))) (t := 54) rfl rfl (by exact lt_ok rfl) (by kernel_rfl) (A.g 53 rfl) rfl)) ?_
        refine .cons (fun E A => OpStep.plain rfl (Step.conv (c := (b.getD (4 * (i : Int)).toNat 0)) (t := 55) rfl rfl (by exact lt_ok rfl) (by kernel_rfl) (by kernel_rfl) (A.g 54 rfl) (wrap_ok (by first | omega | (simp; omega) | (simp [w16_len, wN_len]; omega)) (by first | omega | (simp; omega) | (simp [w16_len, wN_len]; omega))))) ?_
        refine .cons (fun E A => OpStep.plain rfl (Step.bd (r := .int .i64 (bshl (b.getD (4 * (i : Int)).toNat 0) 24)) 56 (A.g 55 rfl) rfl (Bin.shl (k := .i64) (k' := .u64) (a := (b.getD (4 * (i : Int)).toNat 0)) (b := 24) (by first | omega | (simp; omega) | (simp [w16_len, wN_len]; omega)) (rfl)))) ?_
        refine .cons (fun E A => A.mv 1 57) ?_
        refine .cons (fun E A => A.mv 10 58) ?_
        refine .cons (fun E A => OpStep.plain rfl (Step.bd (r := .int .i64 (4 * (i : Int))) 59 rfl (A.g 58 rfl) (Bin.mul (a := 4) (b := (i : Int)) (by first | exact wrap_ok (by first | omega | (simp; omega) | (simp [w16_len, wN_len]; omega)) (by first | omega | (simp; omega) | (simp [w16_len, wN_len]; omega)) | rfl)))) ?_
        refine .cons (fun E A => OpStep.plain rfl (Step.bd (r := .int .i64 ((4 * (i : Int)) + 1)) 60 (A.g 59 rfl) rfl (Bin.add (a := (4 * (i : Int))) (b := 1) (by first | exact wrap_ok (by first | omega | (simp; omega) | (simp [w16_len, wN_len]; omega)) (by first | omega | (simp; omega) | (simp [w16_len, wN_len]; omega)) | rfl)))) ?_
        refine .cons (fun E A => OpStep.plain rfl (Step.index (e := 5) (z := 1) (i := ((4 * (i : Int)) + 1)) (t := 61) rfl rfl (by exact lt_ok rfl) (by kernel_rfl) (A.g 57 rfl) rfl rfl (lt_ok rfl) (A.g 60 rfl) (by first | omega | (simp; omega) | (simp [w16_len, wN_len]; omega)) (by simp only [D.size]; first | omega | (simp; omega) | (simp [w16_len, wN_len]; omega)))) ?_
        refine .cons (fun E A => OpStep.plain rfl (Step.load (e := (.int .u8 (b.getD ((4 * (i : Int)) + 1).toNat 0))) (t := 62) rfl rfl (by exact lt_ok rfl) (by kernel_rfl) (A.g 61 rfl) rfl)) ?_
        refine .cons (fun E A => OpStep.plain rfl (Step.conv (c := (b.getD ((4 * (i : Int)) + 1).toNat 0)) (t := 63) rfl rfl (by exact lt_ok rfl) (by kernel_rfl) (by kernel_rfl) (A.g 62 rfl) (wrap_ok (by first | omega | (simp; omega) | (simp [w16_len, wN_len]; omega)) (by first | omega | (simp; omega) | (simp [w16_len, wN_len]; omega))))) ?_
        refine .cons (fun E A => OpStep.plain rfl (Step.bd (r := .int .i64 (bshl (b.getD ((4 * (i : Int)) + 1).toNat 0) 16)) 64 (A.g 63 rfl) rfl (Bin.shl (k := .i64) (k' := .u64) (a := (b.getD ((4 * (i : Int)) + 1).toNat 0)) (b := 16) (by first | omega | (simp; omega) | (simp [w16_len, wN_len]; omega)) (rfl)))) ?_
        refine .cons (fun E A => OpStep.plain rfl (Step.bd (r := .int .i64 (bor (bshl (b.getD (4 * (i : Int)).toNat 0) 24) (bshl (b.getD ((4 * (i : Int)) + 1).toNat 0) 16))) 65 (A.g 56 rfl) (A.g 64 rfl) (Bin.or (k := .i64) (a := (bshl (b.getD (4 * (i : Int)).toNat 0) 24)) (b := (bshl (b.getD ((4 * (i : Int)) + 1).toNat 0) 16)) (rfl)))) ?_
        refine .cons (fun E A => A.mv 1 66) ?_
        refine .cons (fun E A => A.mv 10 67) ?_
        refine .cons (fun E A => OpStep.plain rfl (Step.bd (r := .int .i64 (4 * (i : Int))) 68 rfl (A.g 67 rfl) (Bin.mul (a := 4) (b := (i : Int)) (by first | exact wrap_ok (by first | omega | (simp; omega) | (simp [w16_len, wN_len]; omega)) (by first | omega | (simp; omega) | (simp [w16_len, wN_len]; omega)) | rfl)))) ?_
        refine .cons (fun E A => OpStep.plain rfl (Step.bd (r := .int .i64 ((4 * (i : Int)) + 2)) 69 (A.g 68 rfl) rfl (Bin.add (a := (4 * (i : Int))) (b := 2) (by first | exact wrap_ok (by first | omega | (simp; omega) | (simp [w16_len, wN_len]; omega)) (by first | omega | (simp; omega) | (simp [w16_len, wN_len]; omega)) | rfl)))) ?_
        refine .cons (fun E A => OpStep.plain rfl (Step.index (e := 5) (z := 1) (i := ((4 * (i : Int)) + 2)) (t := 70) rfl rfl (by exact lt_ok rfl) (by kernel_rfl) (A.g 66 rfl) rfl rfl (lt_ok rfl) (A.g 69 rfl) (by first | omega | (simp; omega) | (simp [w16_len, wN_len]; omega)) (by simp only [D.size]; first | omega | (simp; omega) | (simp [w16_len, wN_len]; omega)))) ?_
        refine .cons (fun E A => OpStep.plain rfl (Step.load (e := (.int .u8 (b.getD ((4 * (i : Int)) + 2).toNat 0))) (t := 71) rfl rfl (by exact lt_ok rfl) (by kernel_rfl) (A.g 70 rfl) rfl)) ?_
        refine .cons (fun E A => OpStep.plain rfl (Step.conv (c := (b.getD ((4 * (i : Int)) + 2).toNat 0)) (t := 72) rfl rfl (by exact lt_ok rfl) (by kernel_rfl) (by kernel_rfl) (A.g 71 rfl) (wrap_ok (by first | omega | (simp; omega) | (simp [w16_len, wN_len]; omega)) (by first | omega | (simp; omega) | (simp [w16_len, wN_len]; omega))))) ?_
        refine .cons (fun E A => OpStep.plain rfl (Step.bd (r := .int .i64 (bshl (b.getD ((4 * (i : Int)) + 2).toNat 0) 8)) 73 (A.g 72 rfl) rfl (Bin.shl (k := .i64) (k' := .u64) (a := (b.getD ((4 * (i : Int)) + 2).toNat 0)) (b := 8) (by first | omega | (simp; omega) | (simp [w16_len, wN_len]; omega)) (rfl)))) ?_
        refine .cons (fun E A => OpStep.plain rfl (Step.bd (r := .int .i64 (bor (bor (bshl (b.getD (4 * (i : Int)).toNat 0) 24) (bshl (b.getD ((4 * (i : Int)) + 1).toNat 0) 16)) (bshl (b.getD ((4 * (i : Int)) + 2).toNat 0) 8))) 74 (A.g 65 rfl) (A.g 73 rfl) (Bin.or (k := .i64) (a := (bor (bshl (b.getD (4 * (i : Int)).toNat 0) 24) (bshl (b.getD ((4 * (i : Int)) + 1).toNat 0) 16))) (b := (bshl (b.getD ((4 * (i : Int)) + 2).toNat 0) 8)) (rfl)))) ?_
        refine .cons (fun E A => A.mv 1 75) ?_
        refine .cons (fun E A => A.mv 10 76) ?_
        refine .cons (fun E A => OpStep.plain rfl (Step.bd (r := .int .i64 (4 * (i : Int))) 77 rfl (A.g 76 rfl) (Bin.mul (a := 4) (b := (i : Int)) (by first | exact wrap_ok (by first | omega | (simp; omega) | (simp [w16_len, wN_len]; omega)) (by first | omega | (simp; omega) | (simp [w16_len, wN_len]; omega)) | rfl)))) ?_
        refine .cons (fun E A => OpStep.plain rfl (Step.bd (r := .int .i64 ((4 * (i : Int)) + 3)) 78 (A.g 77 rfl) rfl (Bin.add (a := (4 * (i : Int))) (b := 3) (by first | exact wrap_ok (by first | omega | (simp; omega) | (simp [w16_len, wN_len]; omega)) (by first | omega | (simp; omega) | (simp [w16_len, wN_len]; omega)) | rfl)))) ?_
        refine .cons (fun E A => OpStep.plain rfl (Step.index (e := 5) (z := 1) (i := ((4 * (i : Int)) + 3)) (t := 79) rfl rfl (by exact lt_ok rfl) (by kernel_rfl) (A.g 75 rfl) rfl rfl (lt_ok rfl) (A.g 78 rfl) (by first | omega | (simp; omega) | (simp [w16_len, wN_len]; omega)) (by simp only [D.size]; first | omega | (simp; omega) | (simp [w16_len, wN_len]; omega)))) ?_
        refine .cons (fun E A => OpStep.plain rfl (Step.load (e := (.int .u8 (b.getD ((4 * (i : Int)) + 3).toNat 0))) (t := 80) rfl rfl (by exact lt_ok rfl) (by kernel_rfl) (A.g 79 rfl) rfl)) ?_
        refine .cons (fun E A => OpStep.plain rfl (Step.conv (c := (b.getD ((4 * (i : Int)) + 3).toNat 0)) (t := 81) rfl rfl (by exact lt_ok rfl) (by kernel_rfl) (by kernel_rfl) (A.g 80 rfl) (wrap_ok (by first | omega | (simp; omega) | (simp [w16_len, wN_len]; omega)) (by first | omega | (simp; omega) | (simp [w16_len, wN_len]; omega))))) ?_
        refine .cons (fun E A => OpStep.plain rfl (Step.bd (r := .int .i64 (bor (bor (bor (bshl (b.getD (4 * (i : Int)).toNat 0) 24) (bshl (b.getD ((4 * (i : Int)) + 1).toNat 0) 16)) (bshl (b.getD ((4 * (i : Int)) + 2).toNat 0) 8)) (b.getD ((4 * (i : Int)) + 3).toNat 0))) 82 (A.g 74 rfl) (A.g 81 rfl) (Bin.or (k := .i64) (a := (bor (bor (bshl (b.getD (4 * (i : Int)).toNat 0) 24) (bshl (b.getD ((4 * (i : Int)) + 1).toNat 0) 16)) (bshl (b.getD ((4 * (i : Int)) + 2).toNat 0) 8))) (b := (b.getD ((4 * (i : Int)) + 3).toNat 0)) (rfl)))) ?_
        refine .cons (fun E A => OpStep.plain rfl (Step.index_arr (d := (.ints .i64 (aI b i))) (e := 3) (n := 64) (z := 1) (i := (i : Int)) (t := 83) rfl rfl (by exact lt_ok rfl) (by kernel_rfl) (A.g 7 rfl) (by exact (A.row 7 (by kernel_rfl)).trans rfl) (by first | exact hl_ | rfl) rfl (lt_ok rfl) (A.g 49 rfl) (by first | omega | (simp; omega) | (simp [w16_len, wN_len]; omega)) (by first | omega | (simp; omega) | (simp [w16_len, wN_len]; omega)))) ?_
        exact .nil _ _
       refine TL.c (Step.store_row (n := 1) (p := (pI (bor (bor (bor (bshl (b.getD (4 * (i : Int)).toNat 0) 24) (bshl (b.getD ((4 * (i : Int)) + 1).toNat 0) 16)) (bshl (b.getD ((4 * (i : Int)) + 2).toNat 0) 8)) (b.getD ((4 * (i : Int)) + 3).toNat 0)))) (ps := [cI (bor (bor (bor (bshl (b.getD (4 * (i : Int)).toNat 0) 24) (bshl (b.getD ((4 * (i : Int)) + 1).toNat 0) 16)) (bshl (b.getD ((4 * (i : Int)) + 2).toNat 0) 8)) (b.getD ((4 * (i : Int)) + 3).toNat 0))]) (es := [(.int .i64 (bor (bor (bor (bshl (b.getD (4 * (i : Int)).toNat 0) 24) (bshl (b.getD ((4 * (i : Int)) + 1).toNat 0) 16)) (bshl (b.getD ((4 * (i : Int)) + 2).toNat 0) 8)) (b.getD ((4 * (i : Int)) + 3).toNat 0)))]) (ss := []) (d1 := (.ints .i64 ((aI b i).set i (bor (bor (bor (bshl (b.getD (4 * (i : Int)).toNat 0) 24) (bshl (b.getD ((4 * (i : Int)) + 1).toNat 0) 16)) (bshl (b.getD ((4 * (i : Int)) + 2).toNat 0) 8)) (b.getD ((4 * (i : Int)) + 3).toNat 0))))) (d' := (.ints .i64 ((aI b i).set i (bor (bor (bor (bshl (b.getD (4 * (i : Int)).toNat 0) 24) (bshl (b.getD ((4 * (i : Int)) + 1).toNat 0) 16)) (bshl (b.getD ((4 * (i : Int)) + 2).toNat 0) 8)) (b.getD ((4 * (i : Int)) + 3).toNat 0))))) rfl rfl (by kernel_rfl) rfl rfl rfl rfl rfl rfl (.val rfl .nil) (by simp) (Putd.one rfl trivial rfl (by simp only [D.at_, D.size, List.length_set, upTo_length]; first | omega | (simp; omega) | (simp [w16_len, wN_len]; omega)) (lt_ok rfl)) rfl) ?_
       refine TL.nil ?_
       refine T.region ?_
       refine TL.c (Step.bin (r := .int .i64 ((i : Int) + 1)) rfl rfl (lt_ok rfl) rfl rfl (Bin.add (a := (i : Int)) (b := 1) (by first | exact wrap_ok (by first | omega | (simp; omega) | (simp [w16_len, wN_len]; omega)) (by first | omega | (simp; omega) | (simp [w16_len, wN_len]; omega)) | rfl))) ?_
       refine TL.mv (pI ((i : Int) + 1)) ?_
       refine TL.nil ?_
       refine ⟨i + 1, by omega, by first | omega | (dsimp only; omega), Env.le_mk ⟨rfl, rfl, rfl, rfl, rfl, ?_, trivial⟩ ⟨rfl, ?_, rfl, trivial⟩ trivial⟩ <;> (first | exact congrArg (fun x => some (_, D.ints .i64 x)) (aI_zero b) | exact congrArg (fun x => some (_, D.ints .i64 x)) (aI_set b (by omega)) | rfl | (refine congrArg (fun x => some (_, D.ints .i64 x)) ?_; first | rfl | fail) | (refine congrArg (fun n => PV.one (.d (.int .i64 n))) ?_; first | rfl | omega | (simp; done)))
      ·
       replace h6 := of_decide_eq_false h6
       refine T.exit ?_
       refine T.seq ?_
       refine T.seq ?_
       refine T.region ?_
       refine TL.as (pI 16) ?_
       refine TL.nil ?_
       refine T.block ?_
       refine T.loop (ι := Nat) (fun xx_ => { tm := [(0, (.one (.d (.ints .i64 h)))), (7, (.one (.rptr 7 [] 0 0))), (9, (.one (.rptr 9 [] 0 0))), (8, (.one (.row 1044 []))), (11, (pI (16 + (xx_ : Int))))], rows := [(1044, (3, (.ints .i64 shaK))), (7, (170, (.ints .i64 (wI b xx_)))), (9, (171, (.ints .i64 [0, 0, 0, 0, 0, 0, 0, 0])))], boxes := [] }) (fun xx_ => xx_ ≤ 48) (fun xx_ => 48 - xx_) 0 ?_ ?_ ?_
       · refine Env.le_mk ⟨rfl, rfl, rfl, rfl, ?_, trivial⟩ ⟨rfl, ?_, rfl, trivial⟩ trivial <;> (first | exact congrArg (fun x => some (_, D.ints .i64 x)) ((congrArg (aI b) (show i = 16 by omega)).trans (wI_zero b)) | exact congrArg (fun x => some (_, D.ints .i64 x)) (wI_set b (by omega)) | rfl | (refine congrArg (fun x => some (_, D.ints .i64 x)) ?_; first | rfl | fail) | (refine congrArg (fun n => PV.one (.d (.int .i64 n))) ?_; first | rfl | omega | (simp; done)))
       · exact Nat.zero_le _
       ·
        intro i hx
        try dsimp only at hx ⊢
        have hl_ := wI_len b hx
        have hW_ := wI_W h0_ i
        refine T.seq ?_
        refine T.seq ?_
        refine T.region ?_
        refine TL.mv (pI (16 + (i : Int))) ?_
        refine TL.c (Step.bin rfl rfl (lt_ok rfl) rfl rfl (Bin.lss (k := .i64) (a := (16 + (i : Int))) (b := 64))) ?_
        refine TL.nil ?_
        refine T.cond (b := decide ((16 + (i : Int)) < 64)) rfl (fun h7 => ?_) (fun h7 => ?_)
        ·
         replace h7 := of_decide_eq_true h7
         refine T.skip ?_
         refine T.seq ?_
         refine T.block ?_
         refine T.seq ?_
         refine T.draw [⟨89, (pI (16 + (i : Int))), []⟩, ⟨90, (pI ((16 + (i : Int)) - 15)), []⟩, ⟨91, (.one (.rptr 7 [] ((16 + (i : Int)) - 15).toNat 0)), []⟩, ⟨92, (pI ((wI b i).getD ((16 + (i : Int)) - 15).toNat 0)), []⟩, ⟨93, (pI (16 + (i : Int))), []⟩, ⟨94, (pI ((16 + (i : Int)) - 2)), []⟩, ⟨95, (.one (.rptr 7 [] ((16 + (i : Int)) - 2).toNat 0)), []⟩, ⟨96, (pI ((wI b i).getD ((16 + (i : Int)) - 2).toNat 0)), []⟩, ⟨12, (pI ((wI b i).getD ((16 + (i : Int)) - 15).toNat 0)), []⟩, ⟨13, (pI ((wI b i).getD ((16 + (i : Int)) - 2).toNat 0)), []⟩] (by kernel_rfl) (by kernel_rfl) ?_ ?_
         ·
          refine .cons (fun E A => A.mv 11 89) ?_
          refine .cons (fun E A => OpStep.plain rfl (Step.bd (r := .int .i64 ((16 + (i : Int)) - 15)) 90 (A.g 89 rfl) rfl (Bin.sub (a := (16 + (i : Int))) (b := 15) (by first | exact wrap_ok (by first | omega | (simp; omega) | (simp [w16_len, wN_len]; omega)) (by first | omega | (simp; omega) | (simp [w16_len, wN_len]; omega)) | rfl)))) ?_
          refine .cons (fun E A => OpStep.plain rfl (Step.index_arr (d := (.ints .i64 (wI b i))) (e := 3) (n := 64) (z := 1) (i := ((16 + (i : Int)) - 15)) (t := 91) rfl rfl (by exact lt_ok rfl) (by kernel_rfl) (A.g 7 rfl) (by exact (A.row 7 (by kernel_rfl)).trans rfl) (by first | exact hl_ | rfl) rfl (lt_ok rfl) (A.g 90 rfl) (by first | omega | (simp; omega) | (simp [w16_len, wN_len]; omega)) (by first | omega | (simp; omega) | (simp [w16_len, wN_len]; omega)))) ?_
          refine .cons (fun E A => OpStep.plain rfl (Step.load_row (c := cI ((wI b i).getD ((16 + (i : Int)) - 15).toNat 0)) (t := 92) rfl rfl (by exact lt_ok rfl) (by kernel_rfl) (A.g 91 rfl) (by exact (A.row 7 (by kernel_rfl)).trans rfl) rfl)) ?_
          refine .cons (fun E A => A.mv 11 93) ?_
          refine .cons (fun E A => OpStep.plain rfl (Step.bd (r := .int .i64 ((16 + (i : Int)) - 2)) 94 (A.g 93 rfl) rfl (Bin.sub (a := (16 + (i : Int))) (b := 2) (by first | exact wrap_ok (by first | omega | (simp; omega) | (simp [w16_len, wN_len]; omega)) (by first | omega | (simp; omega) | (simp [w16_len, wN_len]; omega)) | rfl)))) ?_
          refine .cons (fun E A => OpStep.plain rfl (Step.index_arr (d := (.ints .i64 (wI b i))) (e := 3) (n := 64) (z := 1) (i := ((16 + (i : Int)) - 2)) (t := 95) rfl rfl (by exact lt_ok rfl) (by kernel_rfl) (A.g 7 rfl) (by exact (A.row 7 (by kernel_rfl)).trans rfl) (by first | exact hl_ | rfl) rfl (lt_ok rfl) (A.g 94 rfl) (by first | omega | (simp; omega) | (simp [w16_len, wN_len]; omega)) (by first | omega | (simp; omega) | (simp [w16_len, wN_len]; omega)))) ?_
          refine .cons (fun E A => OpStep.plain rfl (Step.load_row (c := cI ((wI b i).getD ((16 + (i : Int)) - 2).toNat 0)) (t := 96) rfl rfl (by exact lt_ok rfl) (by kernel_rfl) (A.g 95 rfl) (by exact (A.row 7 (by kernel_rfl)).trans rfl) rfl)) ?_
          refine .cons (fun E A => A.as 92 12) ?_
          refine .cons (fun E A => A.as 96 13) ?_
          exact .nil _ _
         refine TL.nil ?_
         refine T.seq ?_
         refine T.region ?_
         refine TL.mv (pI ((wI b i).getD ((16 + (i : Int)) - 15).toNat 0)) ?_
         refine TL.c (Step.cl (xs := [.tmp 97, .const (.int .i64 7)]) (ps := [(pI ((wI b i).getD ((16 + (i : Int)) - 15).toNat 0)), (pI 7)]) (g := .func 191) false (.cons (.one (.d _)) (.cons (.one (.d _)) .nil)) (ok_impl_TurnRight ((wI b i).getD ((16 + (i : Int)) - 15).toNat 0) 7 (by first | assumption | exact hW_ _ | exact hV_ _ | omega) (by first | omega | decide))) ?_
         refine TL.mv (pI ((wI b i).getD ((16 + (i : Int)) - 15).toNat 0)) ?_
         refine TL.c (Step.cl (xs := [.tmp 99, .const (.int .i64 18)]) (ps := [(pI ((wI b i).getD ((16 + (i : Int)) - 15).toNat 0)), (pI 18)]) (g := .func 191) false (.cons (.one (.d _)) (.cons (.one (.d _)) .nil)) (ok_impl_TurnRight ((wI b i).getD ((16 + (i : Int)) - 15).toNat 0) 18 (by first | assumption | exact hW_ _ | exact hV_ _ | omega) (by first | omega | decide))) ?_
         refine TL.c (Step.bin (r := .int .i64 (bxor (turnW ((wI b i).getD ((16 + (i : Int)) - 15).toNat 0) 7) (turnW ((wI b i).getD ((16 + (i : Int)) - 15).toNat 0) 18))) rfl rfl (lt_ok rfl) rfl rfl (Bin.xor (k := .i64) (a := (turnW ((wI b i).getD ((16 + (i : Int)) - 15).toNat 0) 7)) (b := (turnW ((wI b i).getD ((16 + (i : Int)) - 15).toNat 0) 18)) (rfl))) ?_
         refine TL.mv (pI ((wI b i).getD ((16 + (i : Int)) - 15).toNat 0)) ?_
         refine TL.c (Step.bin (r := .int .i64 (bshr ((wI b i).getD ((16 + (i : Int)) - 15).toNat 0) 3)) rfl rfl (lt_ok rfl) rfl rfl (Bin.shr (k := .i64) (k' := .u64) (a := ((wI b i).getD ((16 + (i : Int)) - 15).toNat 0)) (b := 3) (by first | omega | (simp; omega) | (simp [w16_len, wN_len]; omega)) (rfl))) ?_
         refine TL.c (Step.bin (r := .int .i64 (bxor (bxor (turnW ((wI b i).getD ((16 + (i : Int)) - 15).toNat 0) 7) (turnW ((wI b i).getD ((16 + (i : Int)) - 15).toNat 0) 18)) (bshr ((wI b i).getD ((16 + (i : Int)) - 15).toNat 0) 3))) rfl rfl (lt_ok rfl) rfl rfl (Bin.xor (k := .i64) (a := (bxor (turnW ((wI b i).getD ((16 + (i : Int)) - 15).toNat 0) 7) (turnW ((wI b i).getD ((16 + (i : Int)) - 15).toNat 0) 18))) (b := (bshr ((wI b i).getD ((16 + (i : Int)) - 15).toNat 0) 3)) (rfl))) ?_
         refine TL.as (pI (bxor (bxor (turnW ((wI b i).getD ((16 + (i : Int)) - 15).toNat 0) 7) (turnW ((wI b i).getD ((16 + (i : Int)) - 15).toNat 0) 18)) (bshr ((wI b i).getD ((16 + (i : Int)) - 15).toNat 0) 3))) ?_
         refine TL.nil ?_
         refine T.seq ?_
         refine T.region ?_
         refine TL.mv (pI ((wI b i).getD ((16 + (i : Int)) - 2).toNat 0)) ?_
         refine TL.c (Step.cl (xs := [.tmp 105, .const (.int .i64 17)]) (ps := [(pI ((wI b i).getD ((16 + (i : Int)) - 2).toNat 0)), (pI 17)]) (g := .func 191) false (.cons (.one (.d _)) (.cons (.one (.d _)) .nil)) (ok_impl_TurnRight ((wI b i).getD ((16 + (i : Int)) - 2).toNat 0) 17 (by first | assumption | exact hW_ _ | exact hV_ _ | omega) (by first | omega | decide))) ?_
         refine TL.mv (pI ((wI b i).getD ((16 + (i : Int)) - 2).toNat 0)) ?_
         refine TL.c (Step.cl (xs := [.tmp 107, .const (.int .i64 19)]) (ps := [(pI ((wI b i).getD ((16 + (i : Int)) - 2).toNat 0)), (pI 19)]) (g := .func 191) false (.cons (.one (.d _)) (.cons (.one (.d _)) .nil)) (ok_impl_TurnRight ((wI b i).getD ((16 + (i : Int)) - 2).toNat 0) 19 (by first | assumption | exact hW_ _ | exact hV_ _ | omega) (by first | omega | decide))) ?_
         refine TL.c (Step.bin (r := .int .i64 (bxor (turnW ((wI b i).getD ((16 + (i : Int)) - 2).toNat 0) 17) (turnW ((wI b i).getD ((16 + (i : Int)) - 2).toNat 0) 19))) rfl rfl (lt_ok rfl) rfl rfl (Bin.xor (k := .i64) (a := (turnW ((wI b i).getD ((16 + (i : Int)) - 2).toNat 0) 17)) (b := (turnW ((wI b i).getD ((16 + (i : Int)) - 2).toNat 0) 19)) (rfl))) ?_
         refine TL.mv (pI ((wI b i).getD ((16 + (i : Int)) - 2).toNat 0)) ?_
         refine TL.c (Step.bin (r := .int .i64 (bshr ((wI b i).getD ((16 + (i : Int)) - 2).toNat 0) 10)) rfl rfl (lt_ok rfl) rfl rfl (Bin.shr (k := .i64) (k' := .u64) (a := ((wI b i).getD ((16 + (i : Int)) - 2).toNat 0)) (b := 10) (by first | omega | (simp; omega) | (simp [w16_len, wN_len]; omega)) (rfl))) ?_
         refine TL.c (Step.bin (r := .int .i64 (bxor (bxor (turnW ((wI b i).getD ((16 + (i : Int)) - 2).toNat 0) 17) (turnW ((wI b i).getD ((16 + (i : Int)) - 2).toNat 0) 19)) (bshr ((wI b i).getD ((16 + (i : Int)) - 2).toNat 0) 10))) rfl rfl (lt_ok rfl) rfl rfl (Bin.xor (k := .i64) (a := (bxor (turnW ((wI b i).getD ((16 + (i : Int)) - 2).toNat 0) 17) (turnW ((wI b i).getD ((16 + (i : Int)) - 2).toNat 0) 19))) (b := (bshr ((wI b i).getD ((16 + (i : Int)) - 2).toNat 0) 10)) (rfl))) ?_
         refine TL.as (pI (bxor (bxor (turnW ((wI b i).getD ((16 + (i : Int)) - 2).toNat 0) 17) (turnW ((wI b i).getD ((16 + (i : Int)) - 2).toNat 0) 19)) (bshr ((wI b i).getD ((16 + (i : Int)) - 2).toNat 0) 10))) ?_
         refine TL.nil ?_
         refine T.draw [⟨113, (pI (16 + (i : Int))), []⟩, ⟨114, (pI (16 + (i : Int))), []⟩, ⟨115, (pI ((16 + (i : Int)) - 16)), []⟩, ⟨116, (.one (.rptr 7 [] ((16 + (i : Int)) - 16).toNat 0)), []⟩, ⟨117, (pI ((wI b i).getD ((16 + (i : Int)) - 16).toNat 0)), []⟩, ⟨118, (pI (bxor (bxor (turnW ((wI b i).getD ((16 + (i : Int)) - 15).toNat 0) 7) (turnW ((wI b i).getD ((16 + (i : Int)) - 15).toNat 0) 18)) (bshr ((wI b i).getD ((16 + (i : Int)) - 15).toNat 0) 3))), []⟩, ⟨119, (pI (wadd ((wI b i).getD ((16 + (i : Int)) - 16).toNat 0) (bxor (bxor (turnW ((wI b i).getD ((16 + (i : Int)) - 15).toNat 0) 7) (turnW ((wI b i).getD ((16 + (i : Int)) - 15).toNat 0) 18)) (bshr ((wI b i).getD ((16 + (i : Int)) - 15).toNat 0) 3)))), []⟩, ⟨120, (pI (16 + (i : Int))), []⟩, ⟨121, (pI ((16 + (i : Int)) - 7)), []⟩, ⟨122, (.one (.rptr 7 [] ((16 + (i : Int)) - 7).toNat 0)), []⟩, ⟨123, (pI ((wI b i).getD ((16 + (i : Int)) - 7).toNat 0)), []⟩, ⟨124, (pI (wadd (wadd ((wI b i).getD ((16 + (i : Int)) - 16).toNat 0) (bxor (bxor (turnW ((wI b i).getD ((16 + (i : Int)) - 15).toNat 0) 7) (turnW ((wI b i).getD ((16 + (i : Int)) - 15).toNat 0) 18)) (bshr ((wI b i).getD ((16 + (i : Int)) - 15).toNat 0) 3))) ((wI b i).getD ((16 + (i : Int)) - 7).toNat 0))), []⟩, ⟨125, (pI (bxor (bxor (turnW ((wI b i).getD ((16 + (i : Int)) - 2).toNat 0) 17) (turnW ((wI b i).getD ((16 + (i : Int)) - 2).toNat 0) 19)) (bshr ((wI b i).getD ((16 + (i : Int)) - 2).toNat 0) 10))), []⟩, ⟨126, (pI (wadd (wadd (wadd ((wI b i).getD ((16 + (i : Int)) - 16).toNat 0) (bxor (bxor (turnW ((wI b i).getD ((16 + (i : Int)) - 15).toNat 0) 7) (turnW ((wI b i).getD ((16 + (i : Int)) - 15).toNat 0) 18)) (bshr ((wI b i).getD ((16 + (i : Int)) - 15).toNat 0) 3))) ((wI b i).getD ((16 + (i : Int)) - 7).toNat 0)) (bxor (bxor (turnW ((wI b i).getD ((16 + (i : Int)) - 2).toNat 0) 17) (turnW ((wI b i).getD ((16 + (i : Int)) - 2).toNat 0) 19)) (bshr ((wI b i).getD ((16 + (i : Int)) - 2).toNat 0) 10)))), []⟩, ⟨127, (pI (band (wadd (wadd (wadd ((wI b i).getD ((16 + (i : Int)) - 16).toNat 0) (bxor (bxor (turnW ((wI b i).getD ((16 + (i : Int)) - 15).toNat 0) 7) (turnW ((wI b i).getD ((16 + (i : Int)) - 15).toNat 0) 18)) (bshr ((wI b i).getD ((16 + (i : Int)) - 15).toNat 0) 3))) ((wI b i).getD ((16 + (i : Int)) - 7).toNat 0)) (bxor (bxor (turnW ((wI b i).getD ((16 + (i : Int)) - 2).toNat 0) 17) (turnW ((wI b i).getD ((16 + (i : Int)) - 2).toNat 0) 19)) (bshr ((wI b i).getD ((16 + (i : Int)) - 2).toNat 0) 10))) 4294967295)), []⟩, ⟨128, (.one (.rptr 7 [] (16 + (i : Int)).toNat 0)), []⟩] (by kernel_rfl) (by kernel_rfl) ?_ ?_
         ·
          refine .cons (fun E A => A.mv 11 113) ?_
          refine .cons (fun E A => A.mv 11 114) ?_
          refine .cons (fun E A => OpStep.plain rfl (Step.bd (r := .int .i64 ((16 + (i : Int)) - 16)) 115 (A.g 114 rfl) rfl (Bin.sub (a := (16 + (i : Int))) (b := 16) (by first | exact wrap_ok (by first | omega | (simp; omega) | (simp [w16_len, wN_len]; omega)) (by first | omega | (simp; omega) | (simp [w16_len, wN_len]; omega)) | rfl)))) ?_
          refine .cons (fun E A => OpStep.plain rfl (Step.index_arr (d := (.ints .i64 (wI b i))) (e := 3) (n := 64) (z := 1) (i := ((16 + (i : Int)) - 16)) (t := 116) rfl rfl (by exact lt_ok rfl) (by kernel_rfl) (A.g 7 rfl) (by exact (A.row 7 (by kernel_rfl)).trans rfl) (by first | exact hl_ | rfl) rfl (lt_ok rfl) (A.g 115 rfl) (by first | omega | (simp; omega) | (simp [w16_len, wN_len]; omega)) (by first | omega | (simp; omega) | (simp [w16_len, wN_len]; omega)))) ?_
          refine .cons (fun E A => OpStep.plain rfl (Step.load_row (c := cI ((wI b i).getD ((16 + (i : Int)) - 16).toNat 0)) (t := 117) rfl rfl (by exact lt_ok rfl) (by kernel_rfl) (A.g 116 rfl) (by exact (A.row 7 (by kernel_rfl)).trans rfl) rfl)) ?_
          refine .cons (fun E A => A.mv 14 118) ?_
          refine .cons (fun E A => OpStep.plain rfl (Step.bd (r := .int .i64 (wadd ((wI b i).getD ((16 + (i : Int)) - 16).toNat 0) (bxor (bxor (turnW ((wI b i).getD ((16 + (i : Int)) - 15).toNat 0) 7) (turnW ((wI b i).getD ((16 + (i : Int)) - 15).toNat 0) 18)) (bshr ((wI b i).getD ((16 + (i : Int)) - 15).toNat 0) 3)))) 119 (A.g 117 rfl) (A.g 118 rfl) (Bin.add (k := .i64) (a := ((wI b i).getD ((16 + (i : Int)) - 16).toNat 0)) (b := (bxor (bxor (turnW ((wI b i).getD ((16 + (i : Int)) - 15).toNat 0) 7) (turnW ((wI b i).getD ((16 + (i : Int)) - 15).toNat 0) 18)) (bshr ((wI b i).getD ((16 + (i : Int)) - 15).toNat 0) 3))) (rfl)))) ?_
          refine .cons (fun E A => A.mv 11 120) ?_
          refine .cons (fun E A => OpStep.plain rfl (Step.bd (r := .int .i64 ((16 + (i : Int)) - 7)) 121 (A.g 120 rfl) rfl (Bin.sub (a := (16 + (i : Int))) (b := 7) (by first | exact wrap_ok (by first | omega | (simp; omega) | (simp [w16_len, wN_len]; omega)) (by first | omega | (simp; omega) | (simp [w16_len, wN_len]; omega)) | rfl)))) ?_
          refine .cons (fun E A => OpStep.plain rfl (Step.index_arr (d := (.ints .i64 (wI b i))) (e := 3) (n := 64) (z := 1) (i := ((16 + (i : Int)) - 7)) (t := 122) rfl rfl (by exact lt_ok rfl) (by kernel_rfl) (A.g 7 rfl) (by exact (A.row 7 (by kernel_rfl)).trans rfl) (by first | exact hl_ | rfl) rfl (lt_ok rfl) (A.g 121 rfl) (by first | omega | (simp; omega) | (simp [w16_len, wN_len]; omega)) (by first | omega | (simp; omega) | (simp [w16_len, wN_len]; omega)))) ?_
          refine .cons (fun E A => OpStep.plain rfl (Step.load_row (c := cI ((wI b i).getD ((16 + (i : Int)) - 7).toNat 0)) (t := 123) rfl rfl (by exact lt_ok rfl) (by kernel_rfl) (A.g 122 rfl) (by exact (A.row 7 (by kernel_rfl)).trans rfl) rfl)) ?_
          refine .cons (fun E A => OpStep.plain rfl (Step.bd (r := .int .i64 (wadd (wadd ((wI b i).getD ((16 + (i : Int)) - 16).toNat 0) (bxor (bxor (turnW ((wI b i).getD ((16 + (i : Int)) - 15).toNat 0) 7) (turnW ((wI b i).getD ((16 + (i : Int)) - 15).toNat 0) 18)) (bshr ((wI b i).getD ((16 + (i : Int)) - 15).toNat 0) 3))) ((wI b i).getD ((16 + (i : Int)) - 7).toNat 0))) 124 (A.g 119 rfl) (A.g 123 rfl) (Bin.add (k := .i64) (a := (wadd ((wI b i).getD ((16 + (i : Int)) - 16).toNat 0) (bxor (bxor (turnW ((wI b i).getD ((16 + (i : Int)) - 15).toNat 0) 7) (turnW ((wI b i).getD ((16 + (i : Int)) - 15).toNat 0) 18)) (bshr ((wI b i).getD ((16 + (i : Int)) - 15).toNat 0) 3)))) (b := ((wI b i).getD ((16 + (i : Int)) - 7).toNat 0)) (rfl)))) ?_
          refine .cons (fun E A => A.mv 15 125) ?_
          refine .cons (fun E A => OpStep.plain rfl (Step.bd (r := .int .i64 (wadd (wadd (wadd ((wI b i).getD ((16 + (i : Int)) - 16).toNat 0) (bxor (bxor (turnW ((wI b i).getD ((16 + (i : Int)) - 15).toNat 0) 7) (turnW ((wI b i).getD ((16 + (i : Int)) - 15).toNat 0) 18)) (bshr ((wI b i).getD ((16 + (i : Int)) - 15).toNat 0) 3))) ((wI b i).getD ((16 + (i : Int)) - 7).toNat 0)) (bxor (bxor (turnW ((wI b i).getD ((16 + (i : Int)) - 2).toNat 0) 17) (turnW ((wI b i).getD ((16 + (i : Int)) - 2).toNat 0) 19)) (bshr ((wI b i).getD ((16 + (i : Int)) - 2).toNat 0) 10)))) 126 (A.g 124 rfl) (A.g 125 rfl) (Bin.add (k := .i64) (a := (wadd (wadd ((wI b i).getD ((16 + (i : Int)) - 16).toNat 0) (bxor (bxor (turnW ((wI b i).getD ((16 + (i : Int)) - 15).toNat 0) 7) (turnW ((wI b i).getD ((16 + (i : Int)) - 15).toNat 0) 18)) (bshr ((wI b i).getD ((16 + (i : Int)) - 15).toNat 0) 3))) ((wI b i).getD ((16 + (i : Int)) - 7).toNat 0))) (b := (bxor (bxor (turnW ((wI b i).getD ((16 + (i : Int)) - 2).toNat 0) 17) (turnW ((wI b i).getD ((16 + (i : Int)) - 2).toNat 0) 19)) (bshr ((wI b i).getD ((16 + (i : Int)) - 2).toNat 0) 10))) (rfl)))) ?_
          refine .cons (fun E A => OpStep.plain rfl (Step.bd (r := .int .i64 (band (wadd (wadd (wadd ((wI b i).getD ((16 + (i : Int)) - 16).toNat 0) (bxor (bxor (turnW ((wI b i).getD ((16 + (i : Int)) - 15).toNat 0) 7) (turnW ((wI b i).getD ((16 + (i : Int)) - 15).toNat 0) 18)) (bshr ((wI b i).getD ((16 + (i : Int)) - 15).toNat 0) 3))) ((wI b i).getD ((16 + (i : Int)) - 7).toNat 0)) (bxor (bxor (turnW ((wI b i).getD ((16 + (i : Int)) - 2).toNat 0) 17) (turnW ((wI b i).getD ((16 + (i : Int)) - 2).toNat 0) 19)) (bshr ((wI b i).getD ((16 + (i : Int)) - 2).toNat 0) 10))) 4294967295)) 127 (A.g 126 rfl) rfl (Bin.and (k := .i64) (a := (wadd (wadd (wadd ((wI b i).getD ((16 + (i : Int)) - 16).toNat 0) (bxor (bxor (turnW ((wI b i).getD ((16 + (i : Int)) - 15).toNat 0) 7) (turnW ((wI b i).getD ((16 + (i : Int)) - 15).toNat 0) 18)) (bshr ((wI b i).getD ((16 + (i : Int)) - 15).toNat 0) 3))) ((wI b i).getD ((16 + (i : Int)) - 7).toNat 0)) (bxor (bxor (turnW ((wI b i).getD ((16 + (i : Int)) - 2).toNat 0) 17) (turnW ((wI b i).getD ((16 + (i : Int)) - 2).toNat 0) 19)) (bshr ((wI b i).getD ((16 + (i : Int)) - 2).toNat 0) 10)))) (b := 4294967295) (rfl)))) ?_
          refine .cons (fun E A => OpStep.plain rfl (Step.index_arr (d := (.ints .i64 (wI b i))) (e := 3) (n := 64) (z := 1) (i := (16 + (i : Int))) (t := 128) rfl rfl (by exact lt_ok rfl) (by kernel_rfl) (A.g 7 rfl) (by exact (A.row 7 (by kernel_rfl)).trans rfl) (by first | exact hl_ | rfl) rfl (lt_ok rfl) (A.g 113 rfl) (by first | omega | (simp; omega) | (simp [w16_len, wN_len]; omega)) (by first | omega | (simp; omega) | (simp [w16_len, wN_len]; omega)))) ?_
          exact .nil _ _
         refine TL.c (Step.store_row (n := 1) (p := (pI (band (wadd (wadd (wadd ((wI b i).getD ((16 + (i : Int)) - 16).toNat 0) (bxor (bxor (turnW ((wI b i).getD ((16 + (i : Int)) - 15).toNat 0) 7) (turnW ((wI b i).getD ((16 + (i : Int)) - 15).toNat 0) 18)) (bshr ((wI b i).getD ((16 + (i : Int)) - 15).toNat 0) 3))) ((wI b i).getD ((16 + (i : Int)) - 7).toNat 0)) (bxor (bxor (turnW ((wI b i).getD ((16 + (i : Int)) - 2).toNat 0) 17) (turnW ((wI b i).getD ((16 + (i : Int)) - 2).toNat 0) 19)) (bshr ((wI b i).getD ((16 + (i : Int)) - 2).toNat 0) 10))) 4294967295))) (ps := [cI (band (wadd (wadd (wadd ((wI b i).getD ((16 + (i : Int)) - 16).toNat 0) (bxor (bxor (turnW ((wI b i).getD ((16 + (i : Int)) - 15).toNat 0) 7) (turnW ((wI b i).getD ((16 + (i : Int)) - 15).toNat 0) 18)) (bshr ((wI b i).getD ((16 + (i : Int)) - 15).toNat 0) 3))) ((wI b i).getD ((16 + (i : Int)) - 7).toNat 0)) (bxor (bxor (turnW ((wI b i).getD ((16 + (i : Int)) - 2).toNat 0) 17) (turnW ((wI b i).getD ((16 + (i : Int)) - 2).toNat 0) 19)) (bshr ((wI b i).getD ((16 + (i : Int)) - 2).toNat 0) 10))) 4294967295)]) (es := [(.int .i64 (band (wadd (wadd (wadd ((wI b i).getD ((16 + (i : Int)) - 16).toNat 0) (bxor (bxor (turnW ((wI b i).getD ((16 + (i : Int)) - 15).toNat 0) 7) (turnW ((wI b i).getD ((16 + (i : Int)) - 15).toNat 0) 18)) (bshr ((wI b i).getD ((16 + (i : Int)) - 15).toNat 0) 3))) ((wI b i).getD ((16 + (i : Int)) - 7).toNat 0)) (bxor (bxor (turnW ((wI b i).getD ((16 + (i : Int)) - 2).toNat 0) 17) (turnW ((wI b i).getD ((16 + (i : Int)) - 2).toNat 0) 19)) (bshr ((wI b i).getD ((16 + (i : Int)) - 2).toNat 0) 10))) 4294967295))]) (ss := []) (d1 := (.ints .i64 ((wI b i).set (16 + (i : Int)).toNat (band (wadd (wadd (wadd ((wI b i).getD ((16 + (i : Int)) - 16).toNat 0) (bxor (bxor (turnW ((wI b i).getD ((16 + (i : Int)) - 15).toNat 0) 7) (turnW ((wI b i).getD ((16 + (i : Int)) - 15).toNat 0) 18)) (bshr ((wI b i).getD ((16 + (i : Int)) - 15).toNat 0) 3))) ((wI b i).getD ((16 + (i : Int)) - 7).toNat 0)) (bxor (bxor (turnW ((wI b i).getD ((16 + (i : Int)) - 2).toNat 0) 17) (turnW ((wI b i).getD ((16 + (i : Int)) - 2).toNat 0) 19)) (bshr ((wI b i).getD ((16 + (i : Int)) - 2).toNat 0) 10))) 4294967295)))) (d' := (.ints .i64 ((wI b i).set (16 + (i : Int)).toNat (band (wadd (wadd (wadd ((wI b i).getD ((16 + (i : Int)) - 16).toNat 0) (bxor (bxor (turnW ((wI b i).getD ((16 + (i : Int)) - 15).toNat 0) 7) (turnW ((wI b i).getD ((16 + (i : Int)) - 15).toNat 0) 18)) (bshr ((wI b i).getD ((16 + (i : Int)) - 15).toNat 0) 3))) ((wI b i).getD ((16 + (i : Int)) - 7).toNat 0)) (bxor (bxor (turnW ((wI b i).getD ((16 + (i : Int)) - 2).toNat 0) 17) (turnW ((wI b i).getD ((16 + (i : Int)) - 2).toNat 0) 19)) (bshr ((wI b i).getD ((16 + (i : Int)) - 2).toNat 0) 10))) 4294967295)))) rfl rfl (by kernel_rfl) rfl rfl rfl rfl rfl rfl (.val rfl .nil) (by simp) (Putd.one rfl trivial rfl (by simp only [D.at_, D.size, List.length_set, upTo_length]; first | omega | (simp; omega) | (simp [w16_len, wN_len]; omega)) (lt_ok rfl)) rfl) ?_
         refine TL.nil ?_
         refine T.region ?_
         refine TL.mv (pI (16 + (i : Int))) ?_
         refine TL.c (Step.bin (r := .int .i64 ((16 + (i : Int)) + 1)) rfl rfl (lt_ok rfl) rfl rfl (Bin.add (a := (16 + (i : Int))) (b := 1) (by first | exact wrap_ok (by first | omega | (simp; omega) | (simp [w16_len, wN_len]; omega)) (by first | omega | (simp; omega) | (simp [w16_len, wN_len]; omega)) | rfl))) ?_
         refine TL.as (pI ((16 + (i : Int)) + 1)) ?_
         refine TL.nil ?_
         refine ⟨i + 1, by omega, by first | omega | (dsimp only; omega), Env.le_mk ⟨rfl, rfl, rfl, rfl, ?_, trivial⟩ ⟨rfl, ?_, rfl, trivial⟩ trivial⟩ <;> (first | exact congrArg (fun x => some (_, D.ints .i64 x)) ((congrArg (aI b) (show i = 16 by omega)).trans (wI_zero b)) | exact congrArg (fun x => some (_, D.ints .i64 x)) (wI_set b (by omega)) | rfl | (refine congrArg (fun x => some (_, D.ints .i64 x)) ?_; first | rfl | fail) | (refine congrArg (fun n => PV.one (.d (.int .i64 n))) ?_; first | rfl | omega | (simp; done)))
        ·
         replace h7 := of_decide_eq_false h7
         refine T.exit ?_
         refine T.seq ?_
         refine T.region ?_
         refine TL.copyArr (e := 3) (n := 8) (t1 := 129) (t2 := 130) (t3 := 131) (r := 9) (xs := [0, 0, 0, 0, 0, 0, 0, 0]) (ys := h) rfl rfl rfl rfl rfl (lt_ok rfl) rfl rfl (lt_ok rfl) rfl rfl (lt_ok rfl) (by kernel_rfl) (by kernel_rfl) (by decide) rfl rfl (by first | exact hvl_ | exact hvl_.symm | rfl | (simp; done)) rfl (by first | omega | (simp; omega) | (simp [w16_len, wN_len]; omega)) (by decide) ?_
         refine TL.nil ?_
         refine T.seq ?_
         refine T.seq ?_
         refine T.region ?_
         refine TL.mv (pI 0) ?_
         refine TL.nil ?_
         refine T.block ?_
         refine T.loop (ι := Nat) (fun xx_ => { tm := [(0, (.one (.d (.ints .i64 h)))), (7, (.one (.rptr 7 [] 0 0))), (9, (.one (.rptr 9 [] 0 0))), (8, (.one (.row 1044 []))), (132, (pI (xx_ : Int)))], rows := [(1044, (3, (.ints .i64 shaK))), (7, (170, (.ints .i64 (wI b 48)))), (9, (171, (.ints .i64 (vN h (wN b 48) xx_))))], boxes := [] }) (fun xx_ => xx_ ≤ 64) (fun xx_ => 64 - xx_) 0 ?_ ?_ ?_
         · refine Env.le_mk ⟨rfl, rfl, rfl, rfl, ?_, trivial⟩ ⟨rfl, ?_, ?_, trivial⟩ trivial <;> (first | exact congrArg (fun x => some (_, D.ints .i64 (wI b x))) (show i = 48 by omega) | exact congrArg (fun x => some (_, D.ints .i64 x)) ((stepI_eq (hV_ 4)).trans (congrArg (stepV _ _) (hwq_ _))) | rfl | (refine congrArg (fun x => some (_, D.ints .i64 x)) ?_; first | rfl | fail) | (refine congrArg (fun n => PV.one (.d (.int .i64 n))) ?_; first | rfl | omega | (simp; done)))
         · exact Nat.zero_le _
         ·
          intro i hx
          try dsimp only at hx ⊢
          have hl_ := wI_len b (i := 48) (by omega)
          have hvl_ := vN_len (h := h) (w := wN b 48) (by omega) i
          have hkl_ : shaK.length = 64 := rfl
          have hV_ := vN_W (h := h) (w := wN b 48) hwo_ i
          have hwq_ : ∀ q, (wI b 48).getD q 0 = (wN b 48).getD q 0 := fun q => by rw [wI_all]
          refine T.seq ?_
          refine T.region ?_
          refine TL.c (Step.bin rfl rfl (lt_ok rfl) rfl rfl (Bin.lss (k := .i64) (a := (i : Int)) (b := 64))) ?_
          refine TL.nil ?_
          refine T.seq ?_
          refine T.cond (b := decide ((i : Int) < 64)) rfl (fun h8 => ?_) (fun h8 => ?_)
          ·
           replace h8 := of_decide_eq_true h8
           refine T.skip ?_
           refine T.seq ?_
           refine T.block ?_
           refine T.seq ?_
           refine T.region ?_
           refine TL.mv (pI (i : Int)) ?_
           refine TL.as (pI (i : Int)) ?_
           refine TL.nil ?_
           refine T.seq ?_
           refine T.draw [⟨135, (.one (.rptr 9 [] 4 0)), []⟩, ⟨136, (pI ((vN h (wN b 48) i).getD 4 0)), []⟩, ⟨137, (.one (.rptr 9 [] 0 0)), []⟩, ⟨138, (pI ((vN h (wN b 48) i).getD 0 0)), []⟩, ⟨17, (pI ((vN h (wN b 48) i).getD 4 0)), []⟩, ⟨18, (pI ((vN h (wN b 48) i).getD 0 0)), []⟩] (by kernel_rfl) (by kernel_rfl) ?_ ?_
           ·
            refine .cons (fun E A => OpStep.plain rfl (Step.index_arr (d := (.ints .i64 (vN h (wN b 48) i))) (e := 3) (n := 8) (z := 1) (i := 4) (t := 135) rfl rfl (by exact lt_ok rfl) (by kernel_rfl) (A.g 9 rfl) (by exact (A.row 9 (by kernel_rfl)).trans rfl) (by first | exact hvl_ | exact hvl_.symm | rfl | (simp; done)) rfl (lt_ok rfl) rfl (by first | omega | (simp; omega) | (simp [w16_len, wN_len]; omega)) (by first | omega | (simp; omega) | (simp [w16_len, wN_len]; omega)))) ?_
            refine .cons (fun E A => OpStep.plain rfl (Step.load_row (c := cI ((vN h (wN b 48) i).getD 4 0)) (t := 136) rfl rfl (by exact lt_ok rfl) (by kernel_rfl) (A.g 135 rfl) (by exact (A.row 9 (by kernel_rfl)).trans rfl) rfl)) ?_
            refine .cons (fun E A => OpStep.plain rfl (Step.index_arr (d := (.ints .i64 (vN h (wN b 48) i))) (e := 3) (n := 8) (z := 1) (i := 0) (t := 137) rfl rfl (by exact lt_ok rfl) (by kernel_rfl) (A.g 9 rfl) (by exact (A.row 9 (by kernel_rfl)).trans rfl) (by first | exact hvl_ | exact hvl_.symm | rfl | (simp; done)) rfl (lt_ok rfl) rfl (by first | omega | (simp; omega) | (simp [w16_len, wN_len]; omega)) (by first | omega | (simp; omega) | (simp [w16_len, wN_len]; omega)))) ?_
            refine .cons (fun E A => OpStep.plain rfl (Step.load_row (c := cI ((vN h (wN b 48) i).getD 0 0)) (t := 138) rfl rfl (by exact lt_ok rfl) (by kernel_rfl) (A.g 137 rfl) (by exact (A.row 9 (by kernel_rfl)).trans rfl) rfl)) ?_
            refine .cons (fun E A => A.as 136 17) ?_
            refine .cons (fun E A => A.as 138 18) ?_
            exact .nil _ _
           refine TL.nil ?_
           refine T.seq ?_
           refine T.region ?_
           refine TL.mv (pI ((vN h (wN b 48) i).getD 4 0)) ?_
           refine TL.c (Step.index_arr (d := (.ints .i64 (vN h (wN b 48) i))) (e := 3) (n := 8) (z := 1) (i := 5) rfl rfl (lt_ok rfl) (by kernel_rfl) rfl rfl (by first | exact hvl_ | exact hvl_.symm | rfl | (simp; done)) rfl (lt_ok rfl) rfl (by first | omega | (simp; omega) | (simp [w16_len, wN_len]; omega)) (by first | omega | (simp; omega) | (simp [w16_len, wN_len]; omega))) ?_
           refine TL.c (Step.load_row (c := cI ((vN h (wN b 48) i).getD 5 0)) rfl rfl (lt_ok rfl) (by kernel_rfl) rfl rfl rfl) ?_
           refine TL.c (Step.bin (r := .int .i64 (band ((vN h (wN b 48) i).getD 4 0) ((vN h (wN b 48) i).getD 5 0))) rfl rfl (lt_ok rfl) rfl rfl (Bin.and (k := .i64) (a := ((vN h (wN b 48) i).getD 4 0)) (b := ((vN h (wN b 48) i).getD 5 0)) (rfl))) ?_
           refine TL.mv (pI ((vN h (wN b 48) i).getD 4 0)) ?_
           refine TL.c (Step.bin (r := .int .i64 (bxor ((vN h (wN b 48) i).getD 4 0) 4294967295)) rfl rfl (lt_ok rfl) rfl rfl (Bin.xor (k := .i64) (a := ((vN h (wN b 48) i).getD 4 0)) (b := 4294967295) (rfl))) ?_
           refine TL.c (Step.index_arr (d := (.ints .i64 (vN h (wN b 48) i))) (e := 3) (n := 8) (z := 1) (i := 6) rfl rfl (lt_ok rfl) (by kernel_rfl) rfl rfl (by first | exact hvl_ | exact hvl_.symm | rfl | (simp; done)) rfl (lt_ok rfl) rfl (by first | omega | (simp; omega) | (simp [w16_len, wN_len]; omega)) (by first | omega | (simp; omega) | (simp [w16_len, wN_len]; omega))) ?_
           refine TL.c (Step.load_row (c := cI ((vN h (wN b 48) i).getD 6 0)) rfl rfl (lt_ok rfl) (by kernel_rfl) rfl rfl rfl) ?_
           refine TL.c (Step.bin (r := .int .i64 (band (bxor ((vN h (wN b 48) i).getD 4 0) 4294967295) ((vN h (wN b 48) i).getD 6 0))) rfl rfl (lt_ok rfl) rfl rfl (Bin.and (k := .i64) (a := (bxor ((vN h (wN b 48) i).getD 4 0) 4294967295)) (b := ((vN h (wN b 48) i).getD 6 0)) (rfl))) ?_
           refine TL.c (Step.bin (r := .int .i64 (bor (band ((vN h (wN b 48) i).getD 4 0) ((vN h (wN b 48) i).getD 5 0)) (band (bxor ((vN h (wN b 48) i).getD 4 0) 4294967295) ((vN h (wN b 48) i).getD 6 0)))) rfl rfl (lt_ok rfl) rfl rfl (Bin.or (k := .i64) (a := (band ((vN h (wN b 48) i).getD 4 0) ((vN h (wN b 48) i).getD 5 0))) (b := (band (bxor ((vN h (wN b 48) i).getD 4 0) 4294967295) ((vN h (wN b 48) i).getD 6 0))) (rfl))) ?_
           refine TL.as (pI (bor (band ((vN h (wN b 48) i).getD 4 0) ((vN h (wN b 48) i).getD 5 0)) (band (bxor ((vN h (wN b 48) i).getD 4 0) 4294967295) ((vN h (wN b 48) i).getD 6 0)))) ?_
           refine TL.nil ?_
           refine T.seq ?_
           refine T.region ?_
           refine TL.mv (pI ((vN h (wN b 48) i).getD 0 0)) ?_
           refine TL.c (Step.index_arr (d := (.ints .i64 (vN h (wN b 48) i))) (e := 3) (n := 8) (z := 1) (i := 1) rfl rfl (lt_ok rfl) (by kernel_rfl) rfl rfl (by first | exact hvl_ | exact hvl_.symm | rfl | (simp; done)) rfl (lt_ok rfl) rfl (by first | omega | (simp; omega) | (simp [w16_len, wN_len]; omega)) (by first | omega | (simp; omega) | (simp [w16_len, wN_len]; omega))) ?_
           refine TL.c (Step.load_row (c := cI ((vN h (wN b 48) i).getD 1 0)) rfl rfl (lt_ok rfl) (by kernel_rfl) rfl rfl rfl) ?_
           refine TL.c (Step.bin (r := .int .i64 (band ((vN h (wN b 48) i).getD 0 0) ((vN h (wN b 48) i).getD 1 0))) rfl rfl (lt_ok rfl) rfl rfl (Bin.and (k := .i64) (a := ((vN h (wN b 48) i).getD 0 0)) (b := ((vN h (wN b 48) i).getD 1 0)) (rfl))) ?_
           refine TL.mv (pI ((vN h (wN b 48) i).getD 0 0)) ?_
           refine TL.c (Step.index_arr (d := (.ints .i64 (vN h (wN b 48) i))) (e := 3) (n := 8) (z := 1) (i := 2) rfl rfl (lt_ok rfl) (by kernel_rfl) rfl rfl (by first | exact hvl_ | exact hvl_.symm | rfl | (simp; done)) rfl (lt_ok rfl) rfl (by first | omega | (simp; omega) | (simp [w16_len, wN_len]; omega)) (by first | omega | (simp; omega) | (simp [w16_len, wN_len]; omega))) ?_
           refine TL.c (Step.load_row (c := cI ((vN h (wN b 48) i).getD 2 0)) rfl rfl (lt_ok rfl) (by kernel_rfl) rfl rfl rfl) ?_
           refine TL.c (Step.bin (r := .int .i64 (band ((vN h (wN b 48) i).getD 0 0) ((vN h (wN b 48) i).getD 2 0))) rfl rfl (lt_ok rfl) rfl rfl (Bin.and (k := .i64) (a := ((vN h (wN b 48) i).getD 0 0)) (b := ((vN h (wN b 48) i).getD 2 0)) (rfl))) ?_
           refine TL.c (Step.bin (r := .int .i64 (bor (band ((vN h (wN b 48) i).getD 0 0) ((vN h (wN b 48) i).getD 1 0)) (band ((vN h (wN b 48) i).getD 0 0) ((vN h (wN b 48) i).getD 2 0)))) rfl rfl (lt_ok rfl) rfl rfl (Bin.or (k := .i64) (a := (band ((vN h (wN b 48) i).getD 0 0) ((vN h (wN b 48) i).getD 1 0))) (b := (band ((vN h (wN b 48) i).getD 0 0) ((vN h (wN b 48) i).getD 2 0))) (rfl))) ?_
           refine TL.c (Step.index_arr (d := (.ints .i64 (vN h (wN b 48) i))) (e := 3) (n := 8) (z := 1) (i := 1) rfl rfl (lt_ok rfl) (by kernel_rfl) rfl rfl (by first | exact hvl_ | exact hvl_.symm | rfl | (simp; done)) rfl (lt_ok rfl) rfl (by first | omega | (simp; omega) | (simp [w16_len, wN_len]; omega)) (by first | omega | (simp; omega) | (simp [w16_len, wN_len]; omega))) ?_
           refine TL.c (Step.load_row (c := cI ((vN h (wN b 48) i).getD 1 0)) rfl rfl (lt_ok rfl) (by kernel_rfl) rfl rfl rfl) ?_
           refine TL.c (Step.index_arr (d := (.ints .i64 (vN h (wN b 48) i))) (e := 3) (n := 8) (z := 1) (i := 2) rfl rfl (lt_ok rfl) (by kernel_rfl) rfl rfl (by first | exact hvl_ | exact hvl_.symm | rfl | (simp; done)) rfl (lt_ok rfl) rfl (by first | omega | (simp; omega) | (simp [w16_len, wN_len]; omega)) (by first | omega | (simp; omega) | (simp [w16_len, wN_len]; omega))) ?_
           refine TL.c (Step.load_row (c := cI ((vN h (wN b 48) i).getD 2 0)) rfl rfl (lt_ok rfl) (by kernel_rfl) rfl rfl rfl) ?_
           refine TL.c (Step.bin (r := .int .i64 (band ((vN h (wN b 48) i).getD 1 0) ((vN h (wN b 48) i).getD 2 0))) rfl rfl (lt_ok rfl) rfl rfl (Bin.and (k := .i64) (a := ((vN h (wN b 48) i).getD 1 0)) (b := ((vN h (wN b 48) i).getD 2 0)) (rfl))) ?_
           refine TL.c (Step.bin (r := .int .i64 (bor (bor (band ((vN h (wN b 48) i).getD 0 0) ((vN h (wN b 48) i).getD 1 0)) (band ((vN h (wN b 48) i).getD 0 0) ((vN h (wN b 48) i).getD 2 0))) (band ((vN h (wN b 48) i).getD 1 0) ((vN h (wN b 48) i).getD 2 0)))) rfl rfl (lt_ok rfl) rfl rfl (Bin.or (k := .i64) (a := (bor (band ((vN h (wN b 48) i).getD 0 0) ((vN h (wN b 48) i).getD 1 0)) (band ((vN h (wN b 48) i).getD 0 0) ((vN h (wN b 48) i).getD 2 0)))) (b := (band ((vN h (wN b 48) i).getD 1 0) ((vN h (wN b 48) i).getD 2 0))) (rfl))) ?_
           refine TL.as (pI (bor (bor (band ((vN h (wN b 48) i).getD 0 0) ((vN h (wN b 48) i).getD 1 0)) (band ((vN h (wN b 48) i).getD 0 0) ((vN h (wN b 48) i).getD 2 0))) (band ((vN h (wN b 48) i).getD 1 0) ((vN h (wN b 48) i).getD 2 0)))) ?_
           refine TL.nil ?_
           refine T.seq ?_
           refine T.draw [⟨164, (.one (.rptr 9 [] 7 0)), []⟩, ⟨165, (pI ((vN h (wN b 48) i).getD 7 0)), []⟩, ⟨166, (pI ((vN h (wN b 48) i).getD 4 0)), []⟩, ⟨167, (pI (turnW ((vN h (wN b 48) i).getD 4 0) 6)), []⟩, ⟨168, (pI ((vN h (wN b 48) i).getD 4 0)), []⟩, ⟨169, (pI (turnW ((vN h (wN b 48) i).getD 4 0) 11)), []⟩, ⟨170, (pI (bxor (turnW ((vN h (wN b 48) i).getD 4 0) 6) (turnW ((vN h (wN b 48) i).getD 4 0) 11))), []⟩, ⟨171, (pI ((vN h (wN b 48) i).getD 4 0)), []⟩, ⟨172, (pI (turnW ((vN h (wN b 48) i).getD 4 0) 25)), []⟩, ⟨173, (pI (bxor (bxor (turnW ((vN h (wN b 48) i).getD 4 0) 6) (turnW ((vN h (wN b 48) i).getD 4 0) 11)) (turnW ((vN h (wN b 48) i).getD 4 0) 25))), []⟩, ⟨174, (pI (wadd ((vN h (wN b 48) i).getD 7 0) (bxor (bxor (turnW ((vN h (wN b 48) i).getD 4 0) 6) (turnW ((vN h (wN b 48) i).getD 4 0) 11)) (turnW ((vN h (wN b 48) i).getD 4 0) 25)))), []⟩, ⟨175, (pI (bor (band ((vN h (wN b 48) i).getD 4 0) ((vN h (wN b 48) i).getD 5 0)) (band (bxor ((vN h (wN b 48) i).getD 4 0) 4294967295) ((vN h (wN b 48) i).getD 6 0)))), []⟩, ⟨176, (pI (wadd (wadd ((vN h (wN b 48) i).getD 7 0) (bxor (bxor (turnW ((vN h (wN b 48) i).getD 4 0) 6) (turnW ((vN h (wN b 48) i).getD 4 0) 11)) (turnW ((vN h (wN b 48) i).getD 4 0) 25))) (bor (band ((vN h (wN b 48) i).getD 4 0) ((vN h (wN b 48) i).getD 5 0)) (band (bxor ((vN h (wN b 48) i).getD 4 0) 4294967295) ((vN h (wN b 48) i).getD 6 0))))), []⟩, ⟨177, (.one (.row 1044 [])), []⟩, ⟨178, (pI (i : Int)), []⟩, ⟨179, (.one (.rptr 1044 [] i 0)), []⟩, ⟨180, (pI (shaK.getD i 0)), []⟩, ⟨181, (pI (wadd (wadd (wadd ((vN h (wN b 48) i).getD 7 0) (bxor (bxor (turnW ((vN h (wN b 48) i).getD 4 0) 6) (turnW ((vN h (wN b 48) i).getD 4 0) 11)) (turnW ((vN h (wN b 48) i).getD 4 0) 25))) (bor (band ((vN h (wN b 48) i).getD 4 0) ((vN h (wN b 48) i).getD 5 0)) (band (bxor ((vN h (wN b 48) i).getD 4 0) 4294967295) ((vN h (wN b 48) i).getD 6 0)))) (shaK.getD i 0))), []⟩, ⟨182, (pI (i : Int)), []⟩, ⟨183, (.one (.rptr 7 [] i 0)), []⟩, ⟨184, (pI ((wI b 48).getD i 0)), []⟩, ⟨185, (pI (wadd (wadd (wadd (wadd ((vN h (wN b 48) i).getD 7 0) (bxor (bxor (turnW ((vN h (wN b 48) i).getD 4 0) 6) (turnW ((vN h (wN b 48) i).getD 4 0) 11)) (turnW ((vN h (wN b 48) i).getD 4 0) 25))) (bor (band ((vN h (wN b 48) i).getD 4 0) ((vN h (wN b 48) i).getD 5 0)) (band (bxor ((vN h (wN b 48) i).getD 4 0) 4294967295) ((vN h (wN b 48) i).getD 6 0)))) (shaK.getD i 0)) ((wI b 48).getD i 0))), []⟩, ⟨21, (pI (wadd (wadd (wadd (wadd ((vN h (wN b 48) i).getD 7 0) (bxor (bxor (turnW ((vN h (wN b 48) i).getD 4 0) 6) (turnW ((vN h (wN b 48) i).getD 4 0) 11)) (turnW ((vN h (wN b 48) i).getD 4 0) 25))) (bor (band ((vN h (wN b 48) i).getD 4 0) ((vN h (wN b 48) i).getD 5 0)) (band (bxor ((vN h (wN b 48) i).getD 4 0) 4294967295) ((vN h (wN b 48) i).getD 6 0)))) (shaK.getD i 0)) ((wI b 48).getD i 0))), []⟩] (by kernel_rfl) (by kernel_rfl) ?_ ?_
           ·
            refine .cons (fun E A => OpStep.plain rfl (Step.index_arr (d := (.ints .i64 (vN h (wN b 48) i))) (e := 3) (n := 8) (z := 1) (i := 7) (t := 164) rfl rfl (by exact lt_ok rfl) (by kernel_rfl) (A.g 9 rfl) (by exact (A.row 9 (by kernel_rfl)).trans rfl) (by first | exact hvl_ | exact hvl_.symm | rfl | (simp; done)) rfl (lt_ok rfl) rfl (by first | omega | (simp; omega) | (simp [w16_len, wN_len]; omega)) (by first | omega | (simp; omega) | (simp [w16_len, wN_len]; omega)))) ?_
            refine .cons (fun E A => OpStep.plain rfl (Step.load_row (c := cI ((vN h (wN b 48) i).getD 7 0)) (t := 165) rfl rfl (by exact lt_ok rfl) (by kernel_rfl) (A.g 164 rfl) (by exact (A.row 9 (by kernel_rfl)).trans rfl) rfl)) ?_
            refine .cons (fun E A => A.mv 17 166) ?_
            refine .cons (fun E A => OpStep.plain rfl (Step.cd (xs := [.tmp 166, .const (.int .i64 6)]) (ps := [(pI ((vN h (wN b 48) i).getD 4 0)), (pI 6)]) (g := .func 191) false 167 (evs_cons (A.g 166 rfl) (evs_cons rfl (rfl))) (.cons (.one (.d _)) (.cons (.one (.d _)) .nil)) (ok_impl_TurnRight ((vN h (wN b 48) i).getD 4 0) 6 (by first | assumption | exact hW_ _ | exact hV_ _ | omega) (by first | omega | decide)) (At.freshRows A rfl))) ?_
            refine .cons (fun E A => A.mv 17 168) ?_
            refine .cons (fun E A => OpStep.plain rfl (Step.cd (xs := [.tmp 168, .const (.int .i64 11)]) (ps := [(pI ((vN h (wN b 48) i).getD 4 0)), (pI 11)]) (g := .func 191) false 169 (evs_cons (A.g 168 rfl) (evs_cons rfl (rfl))) (.cons (.one (.d _)) (.cons (.one (.d _)) .nil)) (ok_impl_TurnRight ((vN h (wN b 48) i).getD 4 0) 11 (by first | assumption | exact hW_ _ | exact hV_ _ | omega) (by first | omega | decide)) (At.freshRows A rfl))) ?_
            refine .cons (fun E A => OpStep.plain rfl (Step.bd (r := .int .i64 (bxor (turnW ((vN h (wN b 48) i).getD 4 0) 6) (turnW ((vN h (wN b 48) i).getD 4 0) 11))) 170 (A.g 167 rfl) (A.g 169 rfl) (Bin.xor (k := .i64) (a := (turnW ((vN h (wN b 48) i).getD 4 0) 6)) (b := (turnW ((vN h (wN b 48) i).getD 4 0) 11)) (rfl)))) ?_
            refine .cons (fun E A => A.mv 17 171) ?_
            refine .cons (fun E A => OpStep.plain rfl (Step.cd (xs := [.tmp 171, .const (.int .i64 25)]) (ps := [(pI ((vN h (wN b 48) i).getD 4 0)), (pI 25)]) (g := .func 191) false 172 (evs_cons (A.g 171 rfl) (evs_cons rfl (rfl))) (.cons (.one (.d _)) (.cons (.one (.d _)) .nil)) (ok_impl_TurnRight ((vN h (wN b 48) i).getD 4 0) 25 (by first | assumption | exact hW_ _ | exact hV_ _ | omega) (by first | omega | decide)) (At.freshRows A rfl))) ?_
            refine .cons (fun E A => OpStep.plain rfl (Step.bd (r := .int .i64 (bxor (bxor (turnW ((vN h (wN b 48) i).getD 4 0) 6) (turnW ((vN h (wN b 48) i).getD 4 0) 11)) (turnW ((vN h (wN b 48) i).getD 4 0) 25))) 173 (A.g 170 rfl) (A.g 172 rfl) (Bin.xor (k := .i64) (a := (bxor (turnW ((vN h (wN b 48) i).getD 4 0) 6) (turnW ((vN h (wN b 48) i).getD 4 0) 11))) (b := (turnW ((vN h (wN b 48) i).getD 4 0) 25)) (rfl)))) ?_
            refine .cons (fun E A => OpStep.plain rfl (Step.bd (r := .int .i64 (wadd ((vN h (wN b 48) i).getD 7 0) (bxor (bxor (turnW ((vN h (wN b 48) i).getD 4 0) 6) (turnW ((vN h (wN b 48) i).getD 4 0) 11)) (turnW ((vN h (wN b 48) i).getD 4 0) 25)))) 174 (A.g 165 rfl) (A.g 173 rfl) (Bin.add (k := .i64) (a := ((vN h (wN b 48) i).getD 7 0)) (b := (bxor (bxor (turnW ((vN h (wN b 48) i).getD 4 0) 6) (turnW ((vN h (wN b 48) i).getD 4 0) 11)) (turnW ((vN h (wN b 48) i).getD 4 0) 25))) (rfl)))) ?_
            refine .cons (fun E A => A.mv 19 175) ?_
            refine .cons (fun E A => OpStep.plain rfl (Step.bd (r := .int .i64 (wadd (wadd ((vN h (wN b 48) i).getD 7 0) (bxor (bxor (turnW ((vN h (wN b 48) i).getD 4 0) 6) (turnW ((vN h (wN b 48) i).getD 4 0) 11)) (turnW ((vN h (wN b 48) i).getD 4 0) 25))) (bor (band ((vN h (wN b 48) i).getD 4 0) ((vN h (wN b 48) i).getD 5 0)) (band (bxor ((vN h (wN b 48) i).getD 4 0) 4294967295) ((vN h (wN b 48) i).getD 6 0))))) 176 (A.g 174 rfl) (A.g 175 rfl) (Bin.add (k := .i64) (a := (wadd ((vN h (wN b 48) i).getD 7 0) (bxor (bxor (turnW ((vN h (wN b 48) i).getD 4 0) 6) (turnW ((vN h (wN b 48) i).getD 4 0) 11)) (turnW ((vN h (wN b 48) i).getD 4 0) 25)))) (b := (bor (band ((vN h (wN b 48) i).getD 4 0) ((vN h (wN b 48) i).getD 5 0)) (band (bxor ((vN h (wN b 48) i).getD 4 0) 4294967295) ((vN h (wN b 48) i).getD 6 0)))) (rfl)))) ?_
            refine .cons (fun E A => A.mv 8 177) ?_
            refine .cons (fun E A => A.mv 16 178) ?_
            refine .cons (fun E A => OpStep.plain rfl (Step.index_row (e := 3) (z := 1) (i := (i : Int)) (t := 179) rfl rfl (by exact lt_ok rfl) (by kernel_rfl) (A.g 177 rfl) (by exact (A.row 1044 (by kernel_rfl)).trans rfl) rfl rfl (lt_ok rfl) (A.g 178 rfl) (by first | omega | (simp; omega) | (simp [w16_len, wN_len]; omega)) (by simp only [D.at_, D.cell, D.size]; first | omega | (simp; omega) | (simp [w16_len, wN_len]; omega)))) ?_
            refine .cons (fun E A => OpStep.plain rfl (Step.load_row (c := cI (shaK.getD i 0)) (t := 180) rfl rfl (by exact lt_ok rfl) (by kernel_rfl) (A.g 179 rfl) (by exact (A.row 1044 (by kernel_rfl)).trans rfl) rfl)) ?_
            refine .cons (fun E A => OpStep.plain rfl (Step.bd (r := .int .i64 (wadd (wadd (wadd ((vN h (wN b 48) i).getD 7 0) (bxor (bxor (turnW ((vN h (wN b 48) i).getD 4 0) 6) (turnW ((vN h (wN b 48) i).getD 4 0) 11)) (turnW ((vN h (wN b 48) i).getD 4 0) 25))) (bor (band ((vN h (wN b 48) i).getD 4 0) ((vN h (wN b 48) i).getD 5 0)) (band (bxor ((vN h (wN b 48) i).getD 4 0) 4294967295) ((vN h (wN b 48) i).getD 6 0)))) (shaK.getD i 0))) 181 (A.g 176 rfl) (A.g 180 rfl) (Bin.add (k := .i64) (a := (wadd (wadd ((vN h (wN b 48) i).getD 7 0) (bxor (bxor (turnW ((vN h (wN b 48) i).getD 4 0) 6) (turnW ((vN h (wN b 48) i).getD 4 0) 11)) (turnW ((vN h (wN b 48) i).getD 4 0) 25))) (bor (band ((vN h (wN b 48) i).getD 4 0) ((vN h (wN b 48) i).getD 5 0)) (band (bxor ((vN h (wN b 48) i).getD 4 0) 4294967295) ((vN h (wN b 48) i).getD 6 0))))) (b := (shaK.getD i 0)) (rfl)))) ?_
            refine .cons (fun E A => A.mv 16 182) ?_
            refine .cons (fun E A => OpStep.plain rfl (Step.index_arr (d := (.ints .i64 (wI b 48))) (e := 3) (n := 64) (z := 1) (i := (i : Int)) (t := 183) rfl rfl (by exact lt_ok rfl) (by kernel_rfl) (A.g 7 rfl) (by exact (A.row 7 (by kernel_rfl)).trans rfl) (by first | exact hl_ | rfl) rfl (lt_ok rfl) (A.g 182 rfl) (by first | omega | (simp; omega) | (simp [w16_len, wN_len]; omega)) (by first | omega | (simp; omega) | (simp [w16_len, wN_len]; omega)))) ?_
            refine .cons (fun E A => OpStep.plain rfl (Step.load_row (c := cI ((wI b 48).getD i 0)) (t := 184) rfl rfl (by exact lt_ok rfl) (by kernel_rfl) (A.g 183 rfl) (by exact (A.row 7 (by kernel_rfl)).trans rfl) rfl)) ?_
            refine .cons (fun E A => OpStep.plain rfl (Step.bd (r := .int .i64 (wadd (wadd (wadd (wadd ((vN h (wN b 48) i).getD 7 0) (bxor (bxor (turnW ((vN h (wN b 48) i).getD 4 0) 6) (turnW ((vN h (wN b 48) i).getD 4 0) 11)) (turnW ((vN h (wN b 48) i).getD 4 0) 25))) (bor (band ((vN h (wN b 48) i).getD 4 0) ((vN h (wN b 48) i).getD 5 0)) (band (bxor ((vN h (wN b 48) i).getD 4 0) 4294967295) ((vN h (wN b 48) i).getD 6 0)))) (shaK.getD i 0)) ((wI b 48).getD i 0))) 185 (A.g 181 rfl) (A.g 184 rfl) (Bin.add (k := .i64) (a := (wadd (wadd (wadd ((vN h (wN b 48) i).getD 7 0) (bxor (bxor (turnW ((vN h (wN b 48) i).getD 4 0) 6) (turnW ((vN h (wN b 48) i).getD 4 0) 11)) (turnW ((vN h (wN b 48) i).getD 4 0) 25))) (bor (band ((vN h (wN b 48) i).getD 4 0) ((vN h (wN b 48) i).getD 5 0)) (band (bxor ((vN h (wN b 48) i).getD 4 0) 4294967295) ((vN h (wN b 48) i).getD 6 0)))) (shaK.getD i 0))) (b := ((wI b 48).getD i 0)) (rfl)))) ?_
            refine .cons (fun E A => A.as 185 21) ?_
            exact .nil _ _
           refine TL.nil ?_
           refine T.seq ?_
           refine T.region ?_
           refine TL.mv (pI ((vN h (wN b 48) i).getD 0 0)) ?_
           refine TL.c (Step.cl (xs := [.tmp 186, .const (.int .i64 2)]) (ps := [(pI ((vN h (wN b 48) i).getD 0 0)), (pI 2)]) (g := .func 191) false (.cons (.one (.d _)) (.cons (.one (.d _)) .nil)) (ok_impl_TurnRight ((vN h (wN b 48) i).getD 0 0) 2 (by first | assumption | exact hW_ _ | exact hV_ _ | omega) (by first | omega | decide))) ?_
           refine TL.mv (pI ((vN h (wN b 48) i).getD 0 0)) ?_
           refine TL.c (Step.cl (xs := [.tmp 188, .const (.int .i64 13)]) (ps := [(pI ((vN h (wN b 48) i).getD 0 0)), (pI 13)]) (g := .func 191) false (.cons (.one (.d _)) (.cons (.one (.d _)) .nil)) (ok_impl_TurnRight ((vN h (wN b 48) i).getD 0 0) 13 (by first | assumption | exact hW_ _ | exact hV_ _ | omega) (by first | omega | decide))) ?_
           refine TL.c (Step.bin (r := .int .i64 (bxor (turnW ((vN h (wN b 48) i).getD 0 0) 2) (turnW ((vN h (wN b 48) i).getD 0 0) 13))) rfl rfl (lt_ok rfl) rfl rfl (Bin.xor (k := .i64) (a := (turnW ((vN h (wN b 48) i).getD 0 0) 2)) (b := (turnW ((vN h (wN b 48) i).getD 0 0) 13)) (rfl))) ?_
           refine TL.mv (pI ((vN h (wN b 48) i).getD 0 0)) ?_
           refine TL.c (Step.cl (xs := [.tmp 191, .const (.int .i64 22)]) (ps := [(pI ((vN h (wN b 48) i).getD 0 0)), (pI 22)]) (g := .func 191) false (.cons (.one (.d _)) (.cons (.one (.d _)) .nil)) (ok_impl_TurnRight ((vN h (wN b 48) i).getD 0 0) 22 (by first | assumption | exact hW_ _ | exact hV_ _ | omega) (by first | omega | decide))) ?_
           refine TL.c (Step.bin (r := .int .i64 (bxor (bxor (turnW ((vN h (wN b 48) i).getD 0 0) 2) (turnW ((vN h (wN b 48) i).getD 0 0) 13)) (turnW ((vN h (wN b 48) i).getD 0 0) 22))) rfl rfl (lt_ok rfl) rfl rfl (Bin.xor (k := .i64) (a := (bxor (turnW ((vN h (wN b 48) i).getD 0 0) 2) (turnW ((vN h (wN b 48) i).getD 0 0) 13))) (b := (turnW ((vN h (wN b 48) i).getD 0 0) 22)) (rfl))) ?_
           refine TL.mv (pI (bor (bor (band ((vN h (wN b 48) i).getD 0 0) ((vN h (wN b 48) i).getD 1 0)) (band ((vN h (wN b 48) i).getD 0 0) ((vN h (wN b 48) i).getD 2 0))) (band ((vN h (wN b 48) i).getD 1 0) ((vN h (wN b 48) i).getD 2 0)))) ?_
           refine TL.c (Step.bin (r := .int .i64 (wadd (bxor (bxor (turnW ((vN h (wN b 48) i).getD 0 0) 2) (turnW ((vN h (wN b 48) i).getD 0 0) 13)) (turnW ((vN h (wN b 48) i).getD 0 0) 22)) (bor (bor (band ((vN h (wN b 48) i).getD 0 0) ((vN h (wN b 48) i).getD 1 0)) (band ((vN h (wN b 48) i).getD 0 0) ((vN h (wN b 48) i).getD 2 0))) (band ((vN h (wN b 48) i).getD 1 0) ((vN h (wN b 48) i).getD 2 0))))) rfl rfl (lt_ok rfl) rfl rfl (Bin.add (k := .i64) (a := (bxor (bxor (turnW ((vN h (wN b 48) i).getD 0 0) 2) (turnW ((vN h (wN b 48) i).getD 0 0) 13)) (turnW ((vN h (wN b 48) i).getD 0 0) 22))) (b := (bor (bor (band ((vN h (wN b 48) i).getD 0 0) ((vN h (wN b 48) i).getD 1 0)) (band ((vN h (wN b 48) i).getD 0 0) ((vN h (wN b 48) i).getD 2 0))) (band ((vN h (wN b 48) i).getD 1 0) ((vN h (wN b 48) i).getD 2 0)))) (rfl))) ?_
           refine TL.as (pI (wadd (bxor (bxor (turnW ((vN h (wN b 48) i).getD 0 0) 2) (turnW ((vN h (wN b 48) i).getD 0 0) 13)) (turnW ((vN h (wN b 48) i).getD 0 0) 22)) (bor (bor (band ((vN h (wN b 48) i).getD 0 0) ((vN h (wN b 48) i).getD 1 0)) (band ((vN h (wN b 48) i).getD 0 0) ((vN h (wN b 48) i).getD 2 0))) (band ((vN h (wN b 48) i).getD 1 0) ((vN h (wN b 48) i).getD 2 0))))) ?_
           refine TL.nil ?_
           refine T.weaken (E' := { tm := [(0, (.one (.d (.ints .i64 h)))), (7, (.one (.rptr 7 [] 0 0))), (9, (.one (.rptr 9 [] 0 0))), (8, (.one (.row 1044 []))), (132, (pI (i : Int))), (17, (pI ((vN h (wN b 48) i).getD 4 0))), (18, (pI ((vN h (wN b 48) i).getD 0 0))), (21, (pI (wadd (wadd (wadd (wadd ((vN h (wN b 48) i).getD 7 0) (bxor (bxor (turnW ((vN h (wN b 48) i).getD 4 0) 6) (turnW ((vN h (wN b 48) i).getD 4 0) 11)) (turnW ((vN h (wN b 48) i).getD 4 0) 25))) (bor (band ((vN h (wN b 48) i).getD 4 0) ((vN h (wN b 48) i).getD 5 0)) (band (bxor ((vN h (wN b 48) i).getD 4 0) 4294967295) ((vN h (wN b 48) i).getD 6 0)))) (shaK.getD i 0)) ((wI b 48).getD i 0)))), (22, (pI (wadd (bxor (bxor (turnW ((vN h (wN b 48) i).getD 0 0) 2) (turnW ((vN h (wN b 48) i).getD 0 0) 13)) (turnW ((vN h (wN b 48) i).getD 0 0) 22)) (bor (bor (band ((vN h (wN b 48) i).getD 0 0) ((vN h (wN b 48) i).getD 1 0)) (band ((vN h (wN b 48) i).getD 0 0) ((vN h (wN b 48) i).getD 2 0))) (band ((vN h (wN b 48) i).getD 1 0) ((vN h (wN b 48) i).getD 2 0))))))], rows := [(1044, (3, (.ints .i64 shaK))), (7, (170, (.ints .i64 (wI b 48)))), (9, (171, (.ints .i64 (vN h (wN b 48) i))))], boxes := [] }) (Env.le_mk ⟨by kernel_rfl, by kernel_rfl, by kernel_rfl, by kernel_rfl, by kernel_rfl, by kernel_rfl, by kernel_rfl, by kernel_rfl, by kernel_rfl, trivial⟩ ⟨by kernel_rfl, by kernel_rfl, by kernel_rfl, trivial⟩ trivial) ?_
           refine T.region ?_
           refine TL.mv (pI (wadd (wadd (wadd (wadd ((vN h (wN b 48) i).getD 7 0) (bxor (bxor (turnW ((vN h (wN b 48) i).getD 4 0) 6) (turnW ((vN h (wN b 48) i).getD 4 0) 11)) (turnW ((vN h (wN b 48) i).getD 4 0) 25))) (bor (band ((vN h (wN b 48) i).getD 4 0) ((vN h (wN b 48) i).getD 5 0)) (band (bxor ((vN h (wN b 48) i).getD 4 0) 4294967295) ((vN h (wN b 48) i).getD 6 0)))) (shaK.getD i 0)) ((wI b 48).getD i 0))) ?_
           refine TL.mv (pI (wadd (bxor (bxor (turnW ((vN h (wN b 48) i).getD 0 0) 2) (turnW ((vN h (wN b 48) i).getD 0 0) 13)) (turnW ((vN h (wN b 48) i).getD 0 0) 22)) (bor (bor (band ((vN h (wN b 48) i).getD 0 0) ((vN h (wN b 48) i).getD 1 0)) (band ((vN h (wN b 48) i).getD 0 0) ((vN h (wN b 48) i).getD 2 0))) (band ((vN h (wN b 48) i).getD 1 0) ((vN h (wN b 48) i).getD 2 0))))) ?_
           refine TL.c (Step.bin (r := .int .i64 (wadd (wadd (wadd (wadd (wadd ((vN h (wN b 48) i).getD 7 0) (bxor (bxor (turnW ((vN h (wN b 48) i).getD 4 0) 6) (turnW ((vN h (wN b 48) i).getD 4 0) 11)) (turnW ((vN h (wN b 48) i).getD 4 0) 25))) (bor (band ((vN h (wN b 48) i).getD 4 0) ((vN h (wN b 48) i).getD 5 0)) (band (bxor ((vN h (wN b 48) i).getD 4 0) 4294967295) ((vN h (wN b 48) i).getD 6 0)))) (shaK.getD i 0)) ((wI b 48).getD i 0)) (wadd (bxor (bxor (turnW ((vN h (wN b 48) i).getD 0 0) 2) (turnW ((vN h (wN b 48) i).getD 0 0) 13)) (turnW ((vN h (wN b 48) i).getD 0 0) 22)) (bor (bor (band ((vN h (wN b 48) i).getD 0 0) ((vN h (wN b 48) i).getD 1 0)) (band ((vN h (wN b 48) i).getD 0 0) ((vN h (wN b 48) i).getD 2 0))) (band ((vN h (wN b 48) i).getD 1 0) ((vN h (wN b 48) i).getD 2 0)))))) rfl rfl (lt_ok rfl) rfl rfl (Bin.add (k := .i64) (a := (wadd (wadd (wadd (wadd ((vN h (wN b 48) i).getD 7 0) (bxor (bxor (turnW ((vN h (wN b 48) i).getD 4 0) 6) (turnW ((vN h (wN b 48) i).getD 4 0) 11)) (turnW ((vN h (wN b 48) i).getD 4 0) 25))) (bor (band ((vN h (wN b 48) i).getD 4 0) ((vN h (wN b 48) i).getD 5 0)) (band (bxor ((vN h (wN b 48) i).getD 4 0) 4294967295) ((vN h (wN b 48) i).getD 6 0)))) (shaK.getD i 0)) ((wI b 48).getD i 0))) (b := (wadd (bxor (bxor (turnW ((vN h (wN b 48) i).getD 0 0) 2) (turnW ((vN h (wN b 48) i).getD 0 0) 13)) (turnW ((vN h (wN b 48) i).getD 0 0) 22)) (bor (bor (band ((vN h (wN b 48) i).getD 0 0) ((vN h (wN b 48) i).getD 1 0)) (band ((vN h (wN b 48) i).getD 0 0) ((vN h (wN b 48) i).getD 2 0))) (band ((vN h (wN b 48) i).getD 1 0) ((vN h (wN b 48) i).getD 2 0))))) (rfl))) ?_
           refine TL.c (Step.bin (r := .int .i64 (band (wadd (wadd (wadd (wadd (wadd ((vN h (wN b 48) i).getD 7 0) (bxor (bxor (turnW ((vN h (wN b 48) i).getD 4 0) 6) (turnW ((vN h (wN b 48) i).getD 4 0) 11)) (turnW ((vN h (wN b 48) i).getD 4 0) 25))) (bor (band ((vN h (wN b 48) i).getD 4 0) ((vN h (wN b 48) i).getD 5 0)) (band (bxor ((vN h (wN b 48) i).getD 4 0) 4294967295) ((vN h (wN b 48) i).getD 6 0)))) (shaK.getD i 0)) ((wI b 48).getD i 0)) (wadd (bxor (bxor (turnW ((vN h (wN b 48) i).getD 0 0) 2) (turnW ((vN h (wN b 48) i).getD 0 0) 13)) (turnW ((vN h (wN b 48) i).getD 0 0) 22)) (bor (bor (band ((vN h (wN b 48) i).getD 0 0) ((vN h (wN b 48) i).getD 1 0)) (band ((vN h (wN b 48) i).getD 0 0) ((vN h (wN b 48) i).getD 2 0))) (band ((vN h (wN b 48) i).getD 1 0) ((vN h (wN b 48) i).getD 2 0))))) 4294967295)) rfl rfl (lt_ok rfl) rfl rfl (Bin.and (k := .i64) (a := (wadd (wadd (wadd (wadd (wadd ((vN h (wN b 48) i).getD 7 0) (bxor (bxor (turnW ((vN h (wN b 48) i).getD 4 0) 6) (turnW ((vN h (wN b 48) i).getD 4 0) 11)) (turnW ((vN h (wN b 48) i).getD 4 0) 25))) (bor (band ((vN h (wN b 48) i).getD 4 0) ((vN h (wN b 48) i).getD 5 0)) (band (bxor ((vN h (wN b 48) i).getD 4 0) 4294967295) ((vN h (wN b 48) i).getD 6 0)))) (shaK.getD i 0)) ((wI b 48).getD i 0)) (wadd (bxor (bxor (turnW ((vN h (wN b 48) i).getD 0 0) 2) (turnW ((vN h (wN b 48) i).getD 0 0) 13)) (turnW ((vN h (wN b 48) i).getD 0 0) 22)) (bor (bor (band ((vN h (wN b 48) i).getD 0 0) ((vN h (wN b 48) i).getD 1 0)) (band ((vN h (wN b 48) i).getD 0 0) ((vN h (wN b 48) i).getD 2 0))) (band ((vN h (wN b 48) i).getD 1 0) ((vN h (wN b 48) i).getD 2 0)))))) (b := 4294967295) (rfl))) ?_
           refine TL.mv (pI ((vN h (wN b 48) i).getD 0 0)) ?_
           refine TL.c (Step.index_arr (d := (.ints .i64 (vN h (wN b 48) i))) (e := 3) (n := 8) (z := 1) (i := 1) rfl rfl (lt_ok rfl) (by kernel_rfl) rfl rfl (by first | exact hvl_ | exact hvl_.symm | rfl | (simp; done)) rfl (lt_ok rfl) rfl (by first | omega | (simp; omega) | (simp [w16_len, wN_len]; omega)) (by first | omega | (simp; omega) | (simp [w16_len, wN_len]; omega))) ?_
           refine TL.c (Step.load_row (c := cI ((vN h (wN b 48) i).getD 1 0)) rfl rfl (lt_ok rfl) (by kernel_rfl) rfl rfl rfl) ?_
           refine TL.c (Step.index_arr (d := (.ints .i64 (vN h (wN b 48) i))) (e := 3) (n := 8) (z := 1) (i := 2) rfl rfl (lt_ok rfl) (by kernel_rfl) rfl rfl (by first | exact hvl_ | exact hvl_.symm | rfl | (simp; done)) rfl (lt_ok rfl) rfl (by first | omega | (simp; omega) | (simp [w16_len, wN_len]; omega)) (by first | omega | (simp; omega) | (simp [w16_len, wN_len]; omega))) ?_
           refine TL.c (Step.load_row (c := cI ((vN h (wN b 48) i).getD 2 0)) rfl rfl (lt_ok rfl) (by kernel_rfl) rfl rfl rfl) ?_
           refine TL.c (Step.index_arr (d := (.ints .i64 (vN h (wN b 48) i))) (e := 3) (n := 8) (z := 1) (i := 3) rfl rfl (lt_ok rfl) (by kernel_rfl) rfl rfl (by first | exact hvl_ | exact hvl_.symm | rfl | (simp; done)) rfl (lt_ok rfl) rfl (by first | omega | (simp; omega) | (simp [w16_len, wN_len]; omega)) (by first | omega | (simp; omega) | (simp [w16_len, wN_len]; omega))) ?_
           refine TL.c (Step.load_row (c := cI ((vN h (wN b 48) i).getD 3 0)) rfl rfl (lt_ok rfl) (by kernel_rfl) rfl rfl rfl) ?_
           refine TL.mv (pI (wadd (wadd (wadd (wadd ((vN h (wN b 48) i).getD 7 0) (bxor (bxor (turnW ((vN h (wN b 48) i).getD 4 0) 6) (turnW ((vN h (wN b 48) i).getD 4 0) 11)) (turnW ((vN h (wN b 48) i).getD 4 0) 25))) (bor (band ((vN h (wN b 48) i).getD 4 0) ((vN h (wN b 48) i).getD 5 0)) (band (bxor ((vN h (wN b 48) i).getD 4 0) 4294967295) ((vN h (wN b 48) i).getD 6 0)))) (shaK.getD i 0)) ((wI b 48).getD i 0))) ?_
           refine TL.c (Step.bin (r := .int .i64 (wadd ((vN h (wN b 48) i).getD 3 0) (wadd (wadd (wadd (wadd ((vN h (wN b 48) i).getD 7 0) (bxor (bxor (turnW ((vN h (wN b 48) i).getD 4 0) 6) (turnW ((vN h (wN b 48) i).getD 4 0) 11)) (turnW ((vN h (wN b 48) i).getD 4 0) 25))) (bor (band ((vN h (wN b 48) i).getD 4 0) ((vN h (wN b 48) i).getD 5 0)) (band (bxor ((vN h (wN b 48) i).getD 4 0) 4294967295) ((vN h (wN b 48) i).getD 6 0)))) (shaK.getD i 0)) ((wI b 48).getD i 0)))) rfl rfl (lt_ok rfl) rfl rfl (Bin.add (k := .i64) (a := ((vN h (wN b 48) i).getD 3 0)) (b := (wadd (wadd (wadd (wadd ((vN h (wN b 48) i).getD 7 0) (bxor (bxor (turnW ((vN h (wN b 48) i).getD 4 0) 6) (turnW ((vN h (wN b 48) i).getD 4 0) 11)) (turnW ((vN h (wN b 48) i).getD 4 0) 25))) (bor (band ((vN h (wN b 48) i).getD 4 0) ((vN h (wN b 48) i).getD 5 0)) (band (bxor ((vN h (wN b 48) i).getD 4 0) 4294967295) ((vN h (wN b 48) i).getD 6 0)))) (shaK.getD i 0)) ((wI b 48).getD i 0))) (rfl))) ?_
           refine TL.c (Step.bin (r := .int .i64 (band (wadd ((vN h (wN b 48) i).getD 3 0) (wadd (wadd (wadd (wadd ((vN h (wN b 48) i).getD 7 0) (bxor (bxor (turnW ((vN h (wN b 48) i).getD 4 0) 6) (turnW ((vN h (wN b 48) i).getD 4 0) 11)) (turnW ((vN h (wN b 48) i).getD 4 0) 25))) (bor (band ((vN h (wN b 48) i).getD 4 0) ((vN h (wN b 48) i).getD 5 0)) (band (bxor ((vN h (wN b 48) i).getD 4 0) 4294967295) ((vN h (wN b 48) i).getD 6 0)))) (shaK.getD i 0)) ((wI b 48).getD i 0))) 4294967295)) rfl rfl (lt_ok rfl) rfl rfl (Bin.and (k := .i64) (a := (wadd ((vN h (wN b 48) i).getD 3 0) (wadd (wadd (wadd (wadd ((vN h (wN b 48) i).getD 7 0) (bxor (bxor (turnW ((vN h (wN b 48) i).getD 4 0) 6) (turnW ((vN h (wN b 48) i).getD 4 0) 11)) (turnW ((vN h (wN b 48) i).getD 4 0) 25))) (bor (band ((vN h (wN b 48) i).getD 4 0) ((vN h (wN b 48) i).getD 5 0)) (band (bxor ((vN h (wN b 48) i).getD 4 0) 4294967295) ((vN h (wN b 48) i).getD 6 0)))) (shaK.getD i 0)) ((wI b 48).getD i 0)))) (b := 4294967295) (rfl))) ?_
           refine TL.mv (pI ((vN h (wN b 48) i).getD 4 0)) ?_
           refine TL.c (Step.index_arr (d := (.ints .i64 (vN h (wN b 48) i))) (e := 3) (n := 8) (z := 1) (i := 5) rfl rfl (lt_ok rfl) (by kernel_rfl) rfl rfl (by first | exact hvl_ | exact hvl_.symm | rfl | (simp; done)) rfl (lt_ok rfl) rfl (by first | omega | (simp; omega) | (simp [w16_len, wN_len]; omega)) (by first | omega | (simp; omega) | (simp [w16_len, wN_len]; omega))) ?_
           refine TL.c (Step.load_row (c := cI ((vN h (wN b 48) i).getD 5 0)) rfl rfl (lt_ok rfl) (by kernel_rfl) rfl rfl rfl) ?_
           refine TL.c (Step.index_arr (d := (.ints .i64 (vN h (wN b 48) i))) (e := 3) (n := 8) (z := 1) (i := 6) rfl rfl (lt_ok rfl) (by kernel_rfl) rfl rfl (by first | exact hvl_ | exact hvl_.symm | rfl | (simp; done)) rfl (lt_ok rfl) rfl (by first | omega | (simp; omega) | (simp [w16_len, wN_len]; omega)) (by first | omega | (simp; omega) | (simp [w16_len, wN_len]; omega))) ?_
           refine TL.c (Step.load_row (c := cI ((vN h (wN b 48) i).getD 6 0)) rfl rfl (lt_ok rfl) (by kernel_rfl) rfl rfl rfl) ?_
           refine TL.c (Step.buildArr (zs := List.replicate 8 (.int .i64 0)) (size := 1) (pss := [(0, [cI (band (wadd (wadd (wadd (wadd (wadd ((vN h (wN b 48) i).getD 7 0) (bxor (bxor (turnW ((vN h (wN b 48) i).getD 4 0) 6) (turnW ((vN h (wN b 48) i).getD 4 0) 11)) (turnW ((vN h (wN b 48) i).getD 4 0) 25))) (bor (band ((vN h (wN b 48) i).getD 4 0) ((vN h (wN b 48) i).getD 5 0)) (band (bxor ((vN h (wN b 48) i).getD 4 0) 4294967295) ((vN h (wN b 48) i).getD 6 0)))) (shaK.getD i 0)) ((wI b 48).getD i 0)) (wadd (bxor (bxor (turnW ((vN h (wN b 48) i).getD 0 0) 2) (turnW ((vN h (wN b 48) i).getD 0 0) 13)) (turnW ((vN h (wN b 48) i).getD 0 0) 22)) (bor (bor (band ((vN h (wN b 48) i).getD 0 0) ((vN h (wN b 48) i).getD 1 0)) (band ((vN h (wN b 48) i).getD 0 0) ((vN h (wN b 48) i).getD 2 0))) (band ((vN h (wN b 48) i).getD 1 0) ((vN h (wN b 48) i).getD 2 0))))) 4294967295)]), (1, [cI ((vN h (wN b 48) i).getD 0 0)]), (2, [cI ((vN h (wN b 48) i).getD 1 0)]), (3, [cI ((vN h (wN b 48) i).getD 2 0)]), (4, [cI (band (wadd ((vN h (wN b 48) i).getD 3 0) (wadd (wadd (wadd (wadd ((vN h (wN b 48) i).getD 7 0) (bxor (bxor (turnW ((vN h (wN b 48) i).getD 4 0) 6) (turnW ((vN h (wN b 48) i).getD 4 0) 11)) (turnW ((vN h (wN b 48) i).getD 4 0) 25))) (bor (band ((vN h (wN b 48) i).getD 4 0) ((vN h (wN b 48) i).getD 5 0)) (band (bxor ((vN h (wN b 48) i).getD 4 0) 4294967295) ((vN h (wN b 48) i).getD 6 0)))) (shaK.getD i 0)) ((wI b 48).getD i 0))) 4294967295)]), (5, [cI ((vN h (wN b 48) i).getD 4 0)]), (6, [cI ((vN h (wN b 48) i).getD 5 0)]), (7, [cI ((vN h (wN b 48) i).getD 6 0)])]) (ps' := [cI (band (wadd (wadd (wadd (wadd (wadd ((vN h (wN b 48) i).getD 7 0) (bxor (bxor (turnW ((vN h (wN b 48) i).getD 4 0) 6) (turnW ((vN h (wN b 48) i).getD 4 0) 11)) (turnW ((vN h (wN b 48) i).getD 4 0) 25))) (bor (band ((vN h (wN b 48) i).getD 4 0) ((vN h (wN b 48) i).getD 5 0)) (band (bxor ((vN h (wN b 48) i).getD 4 0) 4294967295) ((vN h (wN b 48) i).getD 6 0)))) (shaK.getD i 0)) ((wI b 48).getD i 0)) (wadd (bxor (bxor (turnW ((vN h (wN b 48) i).getD 0 0) 2) (turnW ((vN h (wN b 48) i).getD 0 0) 13)) (turnW ((vN h (wN b 48) i).getD 0 0) 22)) (bor (bor (band ((vN h (wN b 48) i).getD 0 0) ((vN h (wN b 48) i).getD 1 0)) (band ((vN h (wN b 48) i).getD 0 0) ((vN h (wN b 48) i).getD 2 0))) (band ((vN h (wN b 48) i).getD 1 0) ((vN h (wN b 48) i).getD 2 0))))) 4294967295), cI ((vN h (wN b 48) i).getD 0 0), cI ((vN h (wN b 48) i).getD 1 0), cI ((vN h (wN b 48) i).getD 2 0), cI (band (wadd ((vN h (wN b 48) i).getD 3 0) (wadd (wadd (wadd (wadd ((vN h (wN b 48) i).getD 7 0) (bxor (bxor (turnW ((vN h (wN b 48) i).getD 4 0) 6) (turnW ((vN h (wN b 48) i).getD 4 0) 11)) (turnW ((vN h (wN b 48) i).getD 4 0) 25))) (bor (band ((vN h (wN b 48) i).getD 4 0) ((vN h (wN b 48) i).getD 5 0)) (band (bxor ((vN h (wN b 48) i).getD 4 0) 4294967295) ((vN h (wN b 48) i).getD 6 0)))) (shaK.getD i 0)) ((wI b 48).getD i 0))) 4294967295), cI ((vN h (wN b 48) i).getD 4 0), cI ((vN h (wN b 48) i).getD 5 0), cI ((vN h (wN b 48) i).getD 6 0)]) rfl rfl (lt_ok rfl) (by kernel_rfl) (.cons ⟨rfl, rfl⟩ (.cons ⟨rfl, rfl⟩ (.cons ⟨rfl, rfl⟩ (.cons ⟨rfl, rfl⟩ (.cons ⟨rfl, rfl⟩ (.cons ⟨rfl, rfl⟩ (.cons ⟨rfl, rfl⟩ (.cons ⟨rfl, rfl⟩ .nil)))))))) rfl (by kernel_rfl) (by kernel_rfl)) ?_
           refine TL.c (Step.store_row (n := 8) (p := (.agg [cI (band (wadd (wadd (wadd (wadd (wadd ((vN h (wN b 48) i).getD 7 0) (bxor (bxor (turnW ((vN h (wN b 48) i).getD 4 0) 6) (turnW ((vN h (wN b 48) i).getD 4 0) 11)) (turnW ((vN h (wN b 48) i).getD 4 0) 25))) (bor (band ((vN h (wN b 48) i).getD 4 0) ((vN h (wN b 48) i).getD 5 0)) (band (bxor ((vN h (wN b 48) i).getD 4 0) 4294967295) ((vN h (wN b 48) i).getD 6 0)))) (shaK.getD i 0)) ((wI b 48).getD i 0)) (wadd (bxor (bxor (turnW ((vN h (wN b 48) i).getD 0 0) 2) (turnW ((vN h (wN b 48) i).getD 0 0) 13)) (turnW ((vN h (wN b 48) i).getD 0 0) 22)) (bor (bor (band ((vN h (wN b 48) i).getD 0 0) ((vN h (wN b 48) i).getD 1 0)) (band ((vN h (wN b 48) i).getD 0 0) ((vN h (wN b 48) i).getD 2 0))) (band ((vN h (wN b 48) i).getD 1 0) ((vN h (wN b 48) i).getD 2 0))))) 4294967295), cI ((vN h (wN b 48) i).getD 0 0), cI ((vN h (wN b 48) i).getD 1 0), cI ((vN h (wN b 48) i).getD 2 0), cI (band (wadd ((vN h (wN b 48) i).getD 3 0) (wadd (wadd (wadd (wadd ((vN h (wN b 48) i).getD 7 0) (bxor (bxor (turnW ((vN h (wN b 48) i).getD 4 0) 6) (turnW ((vN h (wN b 48) i).getD 4 0) 11)) (turnW ((vN h (wN b 48) i).getD 4 0) 25))) (bor (band ((vN h (wN b 48) i).getD 4 0) ((vN h (wN b 48) i).getD 5 0)) (band (bxor ((vN h (wN b 48) i).getD 4 0) 4294967295) ((vN h (wN b 48) i).getD 6 0)))) (shaK.getD i 0)) ((wI b 48).getD i 0))) 4294967295), cI ((vN h (wN b 48) i).getD 4 0), cI ((vN h (wN b 48) i).getD 5 0), cI ((vN h (wN b 48) i).getD 6 0)])) (ps := [cI (band (wadd (wadd (wadd (wadd (wadd ((vN h (wN b 48) i).getD 7 0) (bxor (bxor (turnW ((vN h (wN b 48) i).getD 4 0) 6) (turnW ((vN h (wN b 48) i).getD 4 0) 11)) (turnW ((vN h (wN b 48) i).getD 4 0) 25))) (bor (band ((vN h (wN b 48) i).getD 4 0) ((vN h (wN b 48) i).getD 5 0)) (band (bxor ((vN h (wN b 48) i).getD 4 0) 4294967295) ((vN h (wN b 48) i).getD 6 0)))) (shaK.getD i 0)) ((wI b 48).getD i 0)) (wadd (bxor (bxor (turnW ((vN h (wN b 48) i).getD 0 0) 2) (turnW ((vN h (wN b 48) i).getD 0 0) 13)) (turnW ((vN h (wN b 48) i).getD 0 0) 22)) (bor (bor (band ((vN h (wN b 48) i).getD 0 0) ((vN h (wN b 48) i).getD 1 0)) (band ((vN h (wN b 48) i).getD 0 0) ((vN h (wN b 48) i).getD 2 0))) (band ((vN h (wN b 48) i).getD 1 0) ((vN h (wN b 48) i).getD 2 0))))) 4294967295), cI ((vN h (wN b 48) i).getD 0 0), cI ((vN h (wN b 48) i).getD 1 0), cI ((vN h (wN b 48) i).getD 2 0), cI (band (wadd ((vN h (wN b 48) i).getD 3 0) (wadd (wadd (wadd (wadd ((vN h (wN b 48) i).getD 7 0) (bxor (bxor (turnW ((vN h (wN b 48) i).getD 4 0) 6) (turnW ((vN h (wN b 48) i).getD 4 0) 11)) (turnW ((vN h (wN b 48) i).getD 4 0) 25))) (bor (band ((vN h (wN b 48) i).getD 4 0) ((vN h (wN b 48) i).getD 5 0)) (band (bxor ((vN h (wN b 48) i).getD 4 0) 4294967295) ((vN h (wN b 48) i).getD 6 0)))) (shaK.getD i 0)) ((wI b 48).getD i 0))) 4294967295), cI ((vN h (wN b 48) i).getD 4 0), cI ((vN h (wN b 48) i).getD 5 0), cI ((vN h (wN b 48) i).getD 6 0)]) (es := [(.int .i64 (band (wadd (wadd (wadd (wadd (wadd ((vN h (wN b 48) i).getD 7 0) (bxor (bxor (turnW ((vN h (wN b 48) i).getD 4 0) 6) (turnW ((vN h (wN b 48) i).getD 4 0) 11)) (turnW ((vN h (wN b 48) i).getD 4 0) 25))) (bor (band ((vN h (wN b 48) i).getD 4 0) ((vN h (wN b 48) i).getD 5 0)) (band (bxor ((vN h (wN b 48) i).getD 4 0) 4294967295) ((vN h (wN b 48) i).getD 6 0)))) (shaK.getD i 0)) ((wI b 48).getD i 0)) (wadd (bxor (bxor (turnW ((vN h (wN b 48) i).getD 0 0) 2) (turnW ((vN h (wN b 48) i).getD 0 0) 13)) (turnW ((vN h (wN b 48) i).getD 0 0) 22)) (bor (bor (band ((vN h (wN b 48) i).getD 0 0) ((vN h (wN b 48) i).getD 1 0)) (band ((vN h (wN b 48) i).getD 0 0) ((vN h (wN b 48) i).getD 2 0))) (band ((vN h (wN b 48) i).getD 1 0) ((vN h (wN b 48) i).getD 2 0))))) 4294967295)), (.int .i64 ((vN h (wN b 48) i).getD 0 0)), (.int .i64 ((vN h (wN b 48) i).getD 1 0)), (.int .i64 ((vN h (wN b 48) i).getD 2 0)), (.int .i64 (band (wadd ((vN h (wN b 48) i).getD 3 0) (wadd (wadd (wadd (wadd ((vN h (wN b 48) i).getD 7 0) (bxor (bxor (turnW ((vN h (wN b 48) i).getD 4 0) 6) (turnW ((vN h (wN b 48) i).getD 4 0) 11)) (turnW ((vN h (wN b 48) i).getD 4 0) 25))) (bor (band ((vN h (wN b 48) i).getD 4 0) ((vN h (wN b 48) i).getD 5 0)) (band (bxor ((vN h (wN b 48) i).getD 4 0) 4294967295) ((vN h (wN b 48) i).getD 6 0)))) (shaK.getD i 0)) ((wI b 48).getD i 0))) 4294967295)), (.int .i64 ((vN h (wN b 48) i).getD 4 0)), (.int .i64 ((vN h (wN b 48) i).getD 5 0)), (.int .i64 ((vN h (wN b 48) i).getD 6 0))]) (ss := []) (d1 := (.ints .i64 [band (wadd (wadd (wadd (wadd (wadd ((vN h (wN b 48) i).getD 7 0) (bxor (bxor (turnW ((vN h (wN b 48) i).getD 4 0) 6) (turnW ((vN h (wN b 48) i).getD 4 0) 11)) (turnW ((vN h (wN b 48) i).getD 4 0) 25))) (bor (band ((vN h (wN b 48) i).getD 4 0) ((vN h (wN b 48) i).getD 5 0)) (band (bxor ((vN h (wN b 48) i).getD 4 0) 4294967295) ((vN h (wN b 48) i).getD 6 0)))) (shaK.getD i 0)) ((wI b 48).getD i 0)) (wadd (bxor (bxor (turnW ((vN h (wN b 48) i).getD 0 0) 2) (turnW ((vN h (wN b 48) i).getD 0 0) 13)) (turnW ((vN h (wN b 48) i).getD 0 0) 22)) (bor (bor (band ((vN h (wN b 48) i).getD 0 0) ((vN h (wN b 48) i).getD 1 0)) (band ((vN h (wN b 48) i).getD 0 0) ((vN h (wN b 48) i).getD 2 0))) (band ((vN h (wN b 48) i).getD 1 0) ((vN h (wN b 48) i).getD 2 0))))) 4294967295, (vN h (wN b 48) i).getD 0 0, (vN h (wN b 48) i).getD 1 0, (vN h (wN b 48) i).getD 2 0, band (wadd ((vN h (wN b 48) i).getD 3 0) (wadd (wadd (wadd (wadd ((vN h (wN b 48) i).getD 7 0) (bxor (bxor (turnW ((vN h (wN b 48) i).getD 4 0) 6) (turnW ((vN h (wN b 48) i).getD 4 0) 11)) (turnW ((vN h (wN b 48) i).getD 4 0) 25))) (bor (band ((vN h (wN b 48) i).getD 4 0) ((vN h (wN b 48) i).getD 5 0)) (band (bxor ((vN h (wN b 48) i).getD 4 0) 4294967295) ((vN h (wN b 48) i).getD 6 0)))) (shaK.getD i 0)) ((wI b 48).getD i 0))) 4294967295, (vN h (wN b 48) i).getD 4 0, (vN h (wN b 48) i).getD 5 0, (vN h (wN b 48) i).getD 6 0])) (d' := (.ints .i64 [band (wadd (wadd (wadd (wadd (wadd ((vN h (wN b 48) i).getD 7 0) (bxor (bxor (turnW ((vN h (wN b 48) i).getD 4 0) 6) (turnW ((vN h (wN b 48) i).getD 4 0) 11)) (turnW ((vN h (wN b 48) i).getD 4 0) 25))) (bor (band ((vN h (wN b 48) i).getD 4 0) ((vN h (wN b 48) i).getD 5 0)) (band (bxor ((vN h (wN b 48) i).getD 4 0) 4294967295) ((vN h (wN b 48) i).getD 6 0)))) (shaK.getD i 0)) ((wI b 48).getD i 0)) (wadd (bxor (bxor (turnW ((vN h (wN b 48) i).getD 0 0) 2) (turnW ((vN h (wN b 48) i).getD 0 0) 13)) (turnW ((vN h (wN b 48) i).getD 0 0) 22)) (bor (bor (band ((vN h (wN b 48) i).getD 0 0) ((vN h (wN b 48) i).getD 1 0)) (band ((vN h (wN b 48) i).getD 0 0) ((vN h (wN b 48) i).getD 2 0))) (band ((vN h (wN b 48) i).getD 1 0) ((vN h (wN b 48) i).getD 2 0))))) 4294967295, (vN h (wN b 48) i).getD 0 0, (vN h (wN b 48) i).getD 1 0, (vN h (wN b 48) i).getD 2 0, band (wadd ((vN h (wN b 48) i).getD 3 0) (wadd (wadd (wadd (wadd ((vN h (wN b 48) i).getD 7 0) (bxor (bxor (turnW ((vN h (wN b 48) i).getD 4 0) 6) (turnW ((vN h (wN b 48) i).getD 4 0) 11)) (turnW ((vN h (wN b 48) i).getD 4 0) 25))) (bor (band ((vN h (wN b 48) i).getD 4 0) ((vN h (wN b 48) i).getD 5 0)) (band (bxor ((vN h (wN b 48) i).getD 4 0) 4294967295) ((vN h (wN b 48) i).getD 6 0)))) (shaK.getD i 0)) ((wI b 48).getD i 0))) 4294967295, (vN h (wN b 48) i).getD 4 0, (vN h (wN b 48) i).getD 5 0, (vN h (wN b 48) i).getD 6 0])) rfl rfl (by kernel_rfl) rfl rfl rfl rfl rfl rfl (.val rfl (.val rfl (.val rfl (.val rfl (.val rfl (.val rfl (.val rfl (.val rfl .nil)))))))) (by simp) (by have h_ := Putd.all (k := .i64) (xs := vN h (wN b 48) i) (ys := [band (wadd (wadd (wadd (wadd (wadd ((vN h (wN b 48) i).getD 7 0) (bxor (bxor (turnW ((vN h (wN b 48) i).getD 4 0) 6) (turnW ((vN h (wN b 48) i).getD 4 0) 11)) (turnW ((vN h (wN b 48) i).getD 4 0) 25))) (bor (band ((vN h (wN b 48) i).getD 4 0) ((vN h (wN b 48) i).getD 5 0)) (band (bxor ((vN h (wN b 48) i).getD 4 0) 4294967295) ((vN h (wN b 48) i).getD 6 0)))) (shaK.getD i 0)) ((wI b 48).getD i 0)) (wadd (bxor (bxor (turnW ((vN h (wN b 48) i).getD 0 0) 2) (turnW ((vN h (wN b 48) i).getD 0 0) 13)) (turnW ((vN h (wN b 48) i).getD 0 0) 22)) (bor (bor (band ((vN h (wN b 48) i).getD 0 0) ((vN h (wN b 48) i).getD 1 0)) (band ((vN h (wN b 48) i).getD 0 0) ((vN h (wN b 48) i).getD 2 0))) (band ((vN h (wN b 48) i).getD 1 0) ((vN h (wN b 48) i).getD 2 0))))) 4294967295, (vN h (wN b 48) i).getD 0 0, (vN h (wN b 48) i).getD 1 0, (vN h (wN b 48) i).getD 2 0, band (wadd ((vN h (wN b 48) i).getD 3 0) (wadd (wadd (wadd (wadd ((vN h (wN b 48) i).getD 7 0) (bxor (bxor (turnW ((vN h (wN b 48) i).getD 4 0) 6) (turnW ((vN h (wN b 48) i).getD 4 0) 11)) (turnW ((vN h (wN b 48) i).getD 4 0) 25))) (bor (band ((vN h (wN b 48) i).getD 4 0) ((vN h (wN b 48) i).getD 5 0)) (band (bxor ((vN h (wN b 48) i).getD 4 0) 4294967295) ((vN h (wN b 48) i).getD 6 0)))) (shaK.getD i 0)) ((wI b 48).getD i 0))) 4294967295, (vN h (wN b 48) i).getD 4 0, (vN h (wN b 48) i).getD 5 0, (vN h (wN b 48) i).getD 6 0]) (by first | exact hvl_ | exact hvl_.symm | rfl | (simp; done)); exact h_) rfl) ?_
           refine TL.nil ?_
           refine T.region ?_
           refine TL.c (Step.bin (r := .int .i64 ((i : Int) + 1)) rfl rfl (lt_ok rfl) rfl rfl (Bin.add (a := (i : Int)) (b := 1) (by first | exact wrap_ok (by first | omega | (simp; omega) | (simp [w16_len, wN_len]; omega)) (by first | omega | (simp; omega) | (simp [w16_len, wN_len]; omega)) | rfl))) ?_
           refine TL.mv (pI ((i : Int) + 1)) ?_
           refine TL.nil ?_
           refine ⟨i + 1, by omega, by first | omega | (dsimp only; omega), Env.le_mk ⟨rfl, rfl, rfl, rfl, ?_, trivial⟩ ⟨rfl, rfl, ?_, trivial⟩ trivial⟩ <;> (first | exact congrArg (fun x => some (_, D.ints .i64 (wI b x))) (show i = 48 by omega) | exact congrArg (fun x => some (_, D.ints .i64 x)) ((stepI_eq (hV_ 4)).trans (congrArg (stepV _ _) (hwq_ _))) | rfl | (refine congrArg (fun x => some (_, D.ints .i64 x)) ?_; first | rfl | fail) | (refine congrArg (fun n => PV.one (.d (.int .i64 n))) ?_; first | rfl | omega | (simp; done)))
          ·
           replace h8 := of_decide_eq_false h8
           refine T.exit ?_
           refine T.seq ?_
           refine T.region ?_
           refine TL.c (Step.lit (e := 3) (z := 1) (by_ := 8) (xs := []) (pss := []) (es := []) (ss := []) (d := (.ints .i64 [])) rfl rfl (lt_ok rfl) (by kernel_rfl) rfl rfl .nil (by simp) (le_ok rfl) (le_ok rfl) rfl .nil rfl (by simp) (by simp) rfl trivial rfl rfl) ?_
           refine TL.as (.one (.row 217 [])) ?_
           refine TL.nil ?_
           refine T.seq ?_
           refine T.seq ?_
           refine T.region ?_
           refine TL.mv (pI 0) ?_
           refine TL.nil ?_
           refine T.block ?_
           refine T.loop (ι := Nat) (fun xx_ => { tm := [(0, (.one (.d (.ints .i64 h)))), (9, (.one (.rptr 9 [] 0 0))), (218, (pI (xx_ : Int))), (23, (.one (.row 217 [])))], rows := [(1044, (3, (.ints .i64 shaK))), (9, (171, (.ints .i64 (vN h (wN b 48) 64)))), (217, (3, (.ints .i64 (outs h (vN h (wN b 48) 64) xx_))))], boxes := [] }) (fun xx_ => xx_ ≤ 8) (fun xx_ => 8 - xx_) 0 ?_ ?_ ?_
           · refine Env.le_mk ⟨rfl, rfl, ?_, rfl, trivial⟩ ⟨rfl, ?_, ?_, trivial⟩ trivial <;> (first | (exact congrArg (fun x => some (_, D.ints .i64 (vN h (wN b 48) x))) (show i = 64 by omega)) | (exact congrArg (fun x => PV.one (.d (.ints .i64 (vN h (wN b 48) x)))) (show i = 64 by omega)) | rfl | (refine congrArg (fun x => some (_, D.ints .i64 x)) ?_; first | rfl | (rw [show i = 64 from by omega]; first | done | rfl)) | (refine congrArg (fun n => PV.one (.d (.int .i64 n))) ?_; first | rfl | omega | (simp; done)))
           · exact Nat.zero_le _
           ·
            intro i hx
            try dsimp only at hx ⊢
            have hvl_ := vN_len (h := h) (w := wN b 48) (by omega) 64
            have hol_ := outs_len h (vN h (wN b 48) 64) i
            refine T.seq ?_
            refine T.region ?_
            refine TL.c (Step.bin rfl rfl (lt_ok rfl) rfl rfl (Bin.lss (k := .i64) (a := (i : Int)) (b := 8))) ?_
            refine TL.nil ?_
            refine T.seq ?_
            refine T.cond (b := decide ((i : Int) < 8)) rfl (fun h9 => ?_) (fun h9 => ?_)
            ·
             replace h9 := of_decide_eq_true h9
             refine T.skip ?_
             refine T.seq ?_
             refine T.block ?_
             refine T.seq ?_
             refine T.region ?_
             refine TL.mv (pI (i : Int)) ?_
             refine TL.as (pI (i : Int)) ?_
             refine TL.nil ?_
             refine T.draw [⟨221, (.one (.row 217 [])), []⟩, ⟨222, (.one (.d (.ints .i64 h))), []⟩, ⟨223, (pI (i : Int)), []⟩, ⟨224, (.one (.eptr (.ints .i64 h) i 0)), []⟩, ⟨225, (pI (h.getD i 0)), []⟩, ⟨226, (pI (i : Int)), []⟩, ⟨227, (.one (.rptr 9 [] i 0)), []⟩, ⟨228, (pI ((vN h (wN b 48) 64).getD i 0)), []⟩, ⟨229, (pI (wadd (h.getD i 0) ((vN h (wN b 48) 64).getD i 0))), []⟩, ⟨230, (pI (band (wadd (h.getD i 0) ((vN h (wN b 48) 64).getD i 0)) 4294967295)), []⟩, ⟨231, (.one (.d (.ints .i64 [band (wadd (h.getD i 0) ((vN h (wN b 48) 64).getD i 0)) 4294967295]))), []⟩] (by kernel_rfl) (by kernel_rfl) ?_ ?_
             ·
              refine .cons (fun E A => A.mv 23 221) ?_
              refine .cons (fun E A => A.mv 0 222) ?_
              refine .cons (fun E A => A.mv 24 223) ?_
              refine .cons (fun E A => OpStep.plain rfl (Step.index (e := 3) (z := 1) (i := (i : Int)) (t := 224) rfl rfl (by exact lt_ok rfl) (by kernel_rfl) (A.g 222 rfl) rfl rfl (lt_ok rfl) (A.g 223 rfl) (by first | omega | (simp; omega) | (simp [w16_len, wN_len]; omega)) (by simp only [D.size]; first | omega | (simp; omega) | (simp [w16_len, wN_len]; omega)))) ?_
              refine .cons (fun E A => OpStep.plain rfl (Step.load (e := (.int .i64 (h.getD i 0))) (t := 225) rfl rfl (by exact lt_ok rfl) (by kernel_rfl) (A.g 224 rfl) rfl)) ?_
              refine .cons (fun E A => A.mv 24 226) ?_
              refine .cons (fun E A => OpStep.plain rfl (Step.index_arr (d := (.ints .i64 (vN h (wN b 48) 64))) (e := 3) (n := 8) (z := 1) (i := (i : Int)) (t := 227) rfl rfl (by exact lt_ok rfl) (by kernel_rfl) (A.g 9 rfl) (by exact (A.row 9 (by kernel_rfl)).trans rfl) (by first | exact hvl_ | exact hvl_.symm | rfl | (simp; done)) rfl (lt_ok rfl) (A.g 226 rfl) (by first | omega | (simp; omega) | (simp [w16_len, wN_len]; omega)) (by first | omega | (simp; omega) | (simp [w16_len, wN_len]; omega)))) ?_
              refine .cons (fun E A => OpStep.plain rfl (Step.load_row (c := cI ((vN h (wN b 48) 64).getD i 0)) (t := 228) rfl rfl (by exact lt_ok rfl) (by kernel_rfl) (A.g 227 rfl) (by exact (A.row 9 (by kernel_rfl)).trans rfl) rfl)) ?_
              refine .cons (fun E A => OpStep.plain rfl (Step.bd (r := .int .i64 (wadd (h.getD i 0) ((vN h (wN b 48) 64).getD i 0))) 229 (A.g 225 rfl) (A.g 228 rfl) (Bin.add (k := .i64) (a := (h.getD i 0)) (b := ((vN h (wN b 48) 64).getD i 0)) (rfl)))) ?_
              refine .cons (fun E A => OpStep.plain rfl (Step.bd (r := .int .i64 (band (wadd (h.getD i 0) ((vN h (wN b 48) 64).getD i 0)) 4294967295)) 230 (A.g 229 rfl) rfl (Bin.and (k := .i64) (a := (wadd (h.getD i 0) ((vN h (wN b 48) 64).getD i 0))) (b := 4294967295) (rfl)))) ?_
              refine .cons (fun E A => OpStep.plain rfl (Step.lit_d (e := 3) (z := 1) (by_ := 8) (xs := [.tmp 230]) (pss := [[cI (band (wadd (h.getD i 0) ((vN h (wN b 48) 64).getD i 0)) 4294967295)]]) (ds := [(.int .i64 (band (wadd (h.getD i 0) ((vN h (wN b 48) 64).getD i 0)) 4294967295))]) (d := (.ints .i64 [band (wadd (h.getD i 0) ((vN h (wN b 48) 64).getD i 0)) 4294967295])) (t := 231) rfl rfl (by exact lt_ok rfl) (by kernel_rfl) rfl rfl (.cons (by exact (congrArg PV.flat (A.g 230 rfl)).trans rfl) .nil) (by simp) (le_ok rfl) (le_ok rfl) rfl rfl trivial rfl rfl)) ?_
              exact .nil _ _
             refine TL.c (Step.append (e := 3) (z := 1) (by_ := 8) (d := (.ints .i64 (outs h (vN h (wN b 48) 64) i))) (dy := (.ints .i64 [band (wadd (h.getD i 0) ((vN h (wN b 48) 64).getD i 0)) 4294967295])) (d' := (.ints .i64 ((outs h (vN h (wN b 48) 64) i) ++ [band (wadd (h.getD i 0) ((vN h (wN b 48) 64).getD i 0)) 4294967295]))) (ss := []) rfl rfl (lt_ok rfl) (by kernel_rfl) rfl rfl rfl (lt_ok rfl) rfl (.froz rfl (by simp [D.flat, D.val])) (by simp) rfl (by simp only [D.size, List.length_map]; first | omega | (simp only [List.length_append, List.length_cons, List.length_nil]; omega) | (simp; omega) | (simp only [List.length_append] at *; omega)) (by simp only [D.size, List.length_map]; first | omega | (simp only [List.length_append, List.length_cons, List.length_nil]; omega) | (simp; omega) | (simp only [List.length_append] at *; omega)) (by simp)) ?_
             refine TL.as (.one (.row 217 [])) ?_
             refine TL.nil ?_
             refine T.region ?_
             refine TL.c (Step.bin (r := .int .i64 ((i : Int) + 1)) rfl rfl (lt_ok rfl) rfl rfl (Bin.add (a := (i : Int)) (b := 1) (by first | exact wrap_ok (by first | omega | (simp; omega) | (simp [w16_len, wN_len]; omega)) (by first | omega | (simp; omega) | (simp [w16_len, wN_len]; omega)) | rfl))) ?_
             refine TL.mv (pI ((i : Int) + 1)) ?_
             refine TL.nil ?_
             refine ⟨i + 1, by omega, by first | omega | (dsimp only; omega), Env.le_mk ⟨rfl, rfl, ?_, rfl, trivial⟩ ⟨rfl, rfl, ?_, trivial⟩ trivial⟩ <;> (first | (exact congrArg (fun x => some (_, D.ints .i64 (vN h (wN b 48) x))) (show i = 64 by omega)) | (exact congrArg (fun x => PV.one (.d (.ints .i64 (vN h (wN b 48) x)))) (show i = 64 by omega)) | rfl | (refine congrArg (fun x => some (_, D.ints .i64 x)) ?_; first | rfl | (rw [show i = 64 from by omega]; first | done | rfl)) | (refine congrArg (fun n => PV.one (.d (.int .i64 n))) ?_; first | rfl | omega | (simp; done)))
            ·
             replace h9 := of_decide_eq_false h9
             refine T.exit ?_
             refine T.seq ?_
             refine T.region ?_
             refine TL.mv (.one (.row 217 [])) ?_
             refine TL.as (.one (.row 217 [])) ?_
             refine TL.nil ?_
             refine T.ret ?_
             refine ⟨[(false, [.row 217 []])], (.cons rfl .nil), rfl, [217], (RetC.own' rfl ?_ rfl .nil)⟩ <;> (first | (rw [shaBlock_yes (h := h) (b := b) ⟨by omega, by omega, hwo_⟩, show i = 8 from by omega]; done) | (simp only [D.size]; first | (rw [shaBlock_no (fun h_ => by have := h_.1; have := h_.2.1; omega)]; rfl) | (rw [shaBlock_no (fun h_ => by have := h_.2.2; rw [words_no (i := i) (by omega) (by omega)] at this; cases this)]; rfl)))
theorem ok_impl_Sha (b : List Int) (h0_ : U8s b) (h1_ : b.length ≤ 17592186040000) : RO Try.prog 103 [.one (.ints .u8 b)] [(false, [.own 5 (.ints .u8 (sha b))])] := by
 refine RO.intro Try.func103 rfl 48 rfl (le_ok rfl) fun w Z => ?_
 refine T.bnd 0 0 rfl rfl fun hb_0_0 => ?_
 simp only [D.size, List.length_map] at hb_0_0
 refine T.seq ?_
 refine T.region ?_
 refine TL.as (.one (.nil)) ?_
 refine TL.nil ?_
 refine T.seq ?_
 refine T.region ?_
 refine TL.c (Step.cl (xs := []) (ps := []) (g := .func 150) false .nil (ok_impl_ShaInit )) ?_
 refine TL.mv (pS b) ?_
 have nn1 := shaPad_mod b
 refine TL.c (Step.cl (xs := [.tmp 10]) (ps := [(pS b)]) (g := .func 151) false (.cons (.one (.d _)) .nil) (ok_impl_ShaPad b (by first | omega | assumption | (simp only [List.length_append] at *; omega)))) ?_
 refine TL.as (.one (.row 1009 [])) ?_
 refine TL.freeze (r := 1011) rfl (fun _ h => h) ?_
 refine TL.as (pS (shaPad b)) ?_
 refine TL.ren 1009 600003 rfl (by simp) ?_
 refine TL.nil ?_
 refine T.seq ?_
 refine T.seq ?_
 refine T.region ?_
 refine TL.as (pI 0) ?_
 refine TL.nil ?_
 refine T.block ?_
 refine T.loop (ι := Nat) (fun xx_ => { tm := [(2, (.one (.nil))), (4, (pS (shaPad b))), (5, (pI (64 * (xx_ : Int)))), (3, (.one (.row 600003 [])))], rows := [(600003, (3, (.ints .i64 (hN (shaPad b) xx_))))], boxes := [] }) (fun xx_ => 64 * xx_ ≤ (shaPad b).length) (fun xx_ => (shaPad b).length - 64 * xx_) 0 ?_ ?_ ?_
 · refine Env.le_mk ⟨rfl, rfl, ?_, rfl, trivial⟩ ⟨?_, trivial⟩ trivial <;> (first | rfl | (refine congrArg (fun n => PV.one (.d (.int .i64 n))) ?_; first | rfl | omega | (simp; done)))
 · exact Nat.zero_le _
 ·
  intro i hx
  try dsimp only at hx ⊢
  have hu_ := u8_sub (shaPad_u8 h0_)
  refine T.seq ?_
  refine T.seq ?_
  refine T.region ?_
  refine TL.mv (pI (64 * (i : Int))) ?_
  refine TL.mv (pS (shaPad b)) ?_
  refine TL.c (Step.len (e := 5) (z := 1) (d := (.ints .u8 (shaPad b))) rfl rfl (lt_ok rfl) (by kernel_rfl) rfl rfl) ?_
  refine TL.c (Step.bin rfl rfl (lt_ok rfl) rfl rfl (Bin.lss (k := .i64) (a := (64 * (i : Int))) (b := ((shaPad b).length : Int)))) ?_
  refine TL.nil ?_
  refine T.cond (b := decide ((64 * (i : Int)) < ((shaPad b).length : Int))) rfl (fun h2 => ?_) (fun h2 => ?_)
  ·
   replace h2 := of_decide_eq_true h2
   refine T.skip ?_
   refine T.seq ?_
   refine T.block ?_
   refine T.region ?_
   refine TL.mv (.one (.row 600003 [])) ?_
   refine TL.mv (pS (shaPad b)) ?_
   refine TL.mv (pI (64 * (i : Int))) ?_
   refine TL.mv (pI (64 * (i : Int))) ?_
   refine TL.c (Step.bin (r := .int .i64 ((64 * (i : Int)) + 64)) rfl rfl (lt_ok rfl) rfl rfl (Bin.add (a := (64 * (i : Int))) (b := 64) (by first | exact wrap_ok (by first | omega | (simp; omega)) (by first | omega | (simp; omega)) | rfl))) ?_
   refine TL.c (Step.slice (e := 5) (z := 1) (l := (64 * (i : Int)).toNat) (h := ((64 * (i : Int)) + 64).toNat) rfl rfl (lt_ok rfl) (by kernel_rfl) rfl rfl rfl ((.some (i := (64 * (i : Int))) rfl (by first | omega | (simp; omega)))) ((.some (i := ((64 * (i : Int)) + 64)) rfl (by first | omega | (simp; omega)))) (by first | omega | (simp; omega)) (by simp only [D.size]; first | omega | (simp; omega)) rfl) ?_
   have nn3 := shaBlock_len (hN (shaPad b) i) (((shaPad b).drop (64 * (i : Int)).toNat).take (((64 * (i : Int)) + 64).toNat - (64 * (i : Int)).toNat))
   refine TL.c (Step.cl (xs := [.tmp 18, .tmp 23]) (ps := [(.one (.row 600003 [])), (pS (((shaPad b).drop (64 * (i : Int)).toNat).take (((64 * (i : Int)) + 64).toNat - (64 * (i : Int)).toNat)))]) (g := .func 152) false (.cons (.one (.row rfl rfl rfl rfl)) (.cons (.one (.d _)) .nil)) (ok_impl_ShaBlock (hN (shaPad b) i) (((shaPad b).drop (64 * (i : Int)).toNat).take (((64 * (i : Int)) + 64).toNat - (64 * (i : Int)).toNat)) (by first | assumption | exact hu_ _ _))) ?_
   refine TL.as (.one (.row 1024 [])) ?_
   refine TL.weaken (Env.drops_le [600003] _) ?_
   refine TL.ren 1024 600003 rfl (by simp) ?_
   refine TL.nil ?_
   refine T.region ?_
   refine TL.mv (pI (64 * (i : Int))) ?_
   refine TL.c (Step.bin (r := .int .i64 ((64 * (i : Int)) + 64)) rfl rfl (lt_ok rfl) rfl rfl (Bin.add (a := (64 * (i : Int))) (b := 64) (by first | exact wrap_ok (by first | omega | (simp; omega)) (by first | omega | (simp; omega)) | rfl))) ?_
   refine TL.as (pI ((64 * (i : Int)) + 64)) ?_
   refine TL.nil ?_
   refine ⟨i + 1, by omega, by first | omega | (dsimp only; omega), Env.le_mk ⟨rfl, rfl, ?_, rfl, trivial⟩ ⟨?_, trivial⟩ trivial⟩ <;> (first | rfl | (refine congrArg (fun n => PV.one (.d (.int .i64 n))) ?_; first | rfl | omega | (simp; done)))
  ·
   replace h2 := of_decide_eq_false h2
   refine T.exit ?_
   refine T.seq ?_
   refine T.region ?_
   refine TL.c (Step.lit (e := 5) (z := 1) (by_ := 1) (xs := []) (pss := []) (es := []) (ss := []) (d := (.ints .u8 [])) rfl rfl (lt_ok rfl) (by kernel_rfl) rfl rfl .nil (by simp) (le_ok rfl) (le_ok rfl) rfl .nil rfl (by simp) (by simp) rfl trivial rfl rfl) ?_
   refine TL.as (.one (.row 25 [])) ?_
   refine TL.nil ?_
   refine T.seq ?_
   refine T.seq ?_
   refine T.region ?_
   refine TL.mv (.one (.row 600003 [])) ?_
   refine TL.c (Step.len (e := 3) (z := 1) (d := (.ints .i64 (hN (shaPad b) i))) rfl rfl (lt_ok rfl) (by kernel_rfl) rfl rfl) ?_
   refine TL.mv (pI 0) ?_
   refine TL.nil ?_
   refine T.block ?_
   refine T.loop (ι := Nat) (fun xx_ => { tm := [(2, (.one (.nil))), (26, (.one (.row 600003 []))), (27, (pI ((shaH b).length : Int))), (28, (pI (xx_ : Int))), (6, (.one (.row 25 [])))], rows := [(600003, (3, (.ints .i64 (shaH b)))), (25, (5, (.ints .u8 (outB (shaH b) xx_))))], boxes := [] }) (fun xx_ => xx_ ≤ (shaH b).length) (fun xx_ => (shaH b).length - xx_) 0 ?_ ?_ ?_
   · refine Env.le_mk ⟨rfl, rfl, ?_, ?_, rfl, trivial⟩ ⟨?_, ?_, trivial⟩ trivial <;> (first | rfl | (refine congrArg (fun x => some (_, D.ints .i64 x)) ?_; unfold shaH; rw [show i = (shaPad b).length / 64 from by omega]) | (refine congrArg (fun n => PV.one (.d (.int .i64 n))) ?_; first | rfl | omega | (unfold shaH; rw [show i = (shaPad b).length / 64 from by omega]; first | done | rfl) | (simp; done)))
   · exact Nat.zero_le _
   ·
    intro i hx
    try dsimp only at hx ⊢
    have hl_ := outB_len (shaH b) i
    have hh_ : (shaH b).length ≤ 8 := hN_len _ _
    refine T.seq ?_
    refine T.region ?_
    refine TL.c (Step.bin rfl rfl (lt_ok rfl) rfl rfl (Bin.lss (k := .i64) (a := (i : Int)) (b := ((shaH b).length : Int)))) ?_
    refine TL.nil ?_
    refine T.seq ?_
    refine T.cond (b := decide ((i : Int) < ((shaH b).length : Int))) rfl (fun h4 => ?_) (fun h4 => ?_)
    ·
     replace h4 := of_decide_eq_true h4
     refine T.skip ?_
     refine T.seq ?_
     refine T.block ?_
     refine T.seq ?_
     refine T.region ?_
     refine TL.c (Step.index_row (e := 3) (z := 1) (i := (i : Int)) rfl rfl (lt_ok rfl) (by kernel_rfl) rfl rfl rfl rfl (lt_ok rfl) rfl (by first | omega | (simp; omega)) (by simp only [D.at_, D.cell, D.size]; first | omega | (simp; omega))) ?_
     refine TL.c (Step.load_row (c := cI ((shaH b).getD i 0)) rfl rfl (lt_ok rfl) (by kernel_rfl) rfl rfl rfl) ?_
     refine TL.as (pI ((shaH b).getD i 0)) ?_
     refine TL.nil ?_
     refine T.region ?_
     refine TL.mv (.one (.row 25 [])) ?_
     refine TL.mv (pI ((shaH b).getD i 0)) ?_
     refine TL.c (Step.bin (r := .int .i64 (bshr ((shaH b).getD i 0) 24)) rfl rfl (lt_ok rfl) rfl rfl (Bin.shr (k := .i64) (k' := .u64) (a := ((shaH b).getD i 0)) (b := 24) (by first | omega | (simp; omega)) (rfl))) ?_
     refine TL.c (Step.conv (c := ((bshr ((shaH b).getD i 0) 24) % 256)) rfl rfl (lt_ok rfl) (by kernel_rfl) (by kernel_rfl) rfl (wrap_byte _)) ?_
     refine TL.mv (pI ((shaH b).getD i 0)) ?_
     refine TL.c (Step.bin (r := .int .i64 (bshr ((shaH b).getD i 0) 16)) rfl rfl (lt_ok rfl) rfl rfl (Bin.shr (k := .i64) (k' := .u64) (a := ((shaH b).getD i 0)) (b := 16) (by first | omega | (simp; omega)) (rfl))) ?_
     refine TL.c (Step.conv (c := ((bshr ((shaH b).getD i 0) 16) % 256)) rfl rfl (lt_ok rfl) (by kernel_rfl) (by kernel_rfl) rfl (wrap_byte _)) ?_
     refine TL.mv (pI ((shaH b).getD i 0)) ?_
     refine TL.c (Step.bin (r := .int .i64 (bshr ((shaH b).getD i 0) 8)) rfl rfl (lt_ok rfl) rfl rfl (Bin.shr (k := .i64) (k' := .u64) (a := ((shaH b).getD i 0)) (b := 8) (by first | omega | (simp; omega)) (rfl))) ?_
     refine TL.c (Step.conv (c := ((bshr ((shaH b).getD i 0) 8) % 256)) rfl rfl (lt_ok rfl) (by kernel_rfl) (by kernel_rfl) rfl (wrap_byte _)) ?_
     refine TL.mv (pI ((shaH b).getD i 0)) ?_
     refine TL.c (Step.conv (c := (((shaH b).getD i 0) % 256)) rfl rfl (lt_ok rfl) (by kernel_rfl) (by kernel_rfl) rfl (wrap_byte _)) ?_
     refine TL.c (Step.lit (e := 5) (z := 1) (by_ := 1) (xs := [.tmp 35, .tmp 38, .tmp 41, .tmp 43]) (pss := [[.d (.int .u8 ((bshr ((shaH b).getD i 0) 24) % 256))], [.d (.int .u8 ((bshr ((shaH b).getD i 0) 16) % 256))], [.d (.int .u8 ((bshr ((shaH b).getD i 0) 8) % 256))], [.d (.int .u8 (((shaH b).getD i 0) % 256))]]) (es := [(.int .u8 ((bshr ((shaH b).getD i 0) 24) % 256)), (.int .u8 ((bshr ((shaH b).getD i 0) 16) % 256)), (.int .u8 ((bshr ((shaH b).getD i 0) 8) % 256)), (.int .u8 (((shaH b).getD i 0) % 256))]) (ss := []) (d := (.ints .u8 [(bshr ((shaH b).getD i 0) 24) % 256, (bshr ((shaH b).getD i 0) 16) % 256, (bshr ((shaH b).getD i 0) 8) % 256, ((shaH b).getD i 0) % 256])) rfl rfl (lt_ok rfl) (by kernel_rfl) rfl rfl (.cons rfl (.cons rfl (.cons rfl (.cons rfl .nil)))) (by simp) (le_ok rfl) (le_ok rfl) rfl (.val rfl (.val rfl (.val rfl (.val rfl .nil)))) rfl (by simp) (by simp) rfl trivial rfl rfl) ?_
     refine TL.c (Step.append (e := 5) (z := 1) (by_ := 1) (d := (.ints .u8 (outB (shaH b) i))) (dy := (.ints .u8 [(bshr ((shaH b).getD i 0) 24) % 256, (bshr ((shaH b).getD i 0) 16) % 256, (bshr ((shaH b).getD i 0) 8) % 256, ((shaH b).getD i 0) % 256])) (d' := (.ints .u8 ((outB (shaH b) i) ++ [(bshr ((shaH b).getD i 0) 24) % 256, (bshr ((shaH b).getD i 0) 16) % 256, (bshr ((shaH b).getD i 0) 8) % 256, ((shaH b).getD i 0) % 256]))) (ss := []) rfl rfl (lt_ok rfl) (by kernel_rfl) rfl rfl rfl (lt_ok rfl) rfl (.copy rfl rfl rfl (by simp [D.flat, D.val])) (by simp) rfl (by simp only [D.size, List.length_map]; first | omega | (simp only [List.length_append, List.length_cons, List.length_nil]; omega) | (simp; omega) | (simp only [List.length_append] at *; omega)) (by simp only [D.size, List.length_map]; first | omega | (simp only [List.length_append, List.length_cons, List.length_nil]; omega) | (simp; omega) | (simp only [List.length_append] at *; omega)) (by simp)) ?_
     refine TL.as (.one (.row 25 [])) ?_
     refine TL.nil ?_
     refine T.region ?_
     refine TL.c (Step.bin (r := .int .i64 ((i : Int) + 1)) rfl rfl (lt_ok rfl) rfl rfl (Bin.add (a := (i : Int)) (b := 1) (by first | exact wrap_ok (by first | omega | (simp; omega)) (by first | omega | (simp; omega)) | rfl))) ?_
     refine TL.mv (pI ((i : Int) + 1)) ?_
     refine TL.nil ?_
     refine ⟨i + 1, by omega, by first | omega | (dsimp only; omega), Env.le_mk ⟨rfl, rfl, rfl, ?_, rfl, trivial⟩ ⟨rfl, ?_, trivial⟩ trivial⟩ <;> (first | rfl | (refine congrArg (fun x => some (_, D.ints .i64 x)) ?_; unfold shaH; rw [show i = (shaPad b).length / 64 from by omega]) | (refine congrArg (fun n => PV.one (.d (.int .i64 n))) ?_; first | rfl | omega | (unfold shaH; rw [show i = (shaPad b).length / 64 from by omega]; first | done | rfl) | (simp; done)))
    ·
     replace h4 := of_decide_eq_false h4
     refine T.exit ?_
     refine T.seq ?_
     refine T.region ?_
     refine TL.mv (.one (.row 25 [])) ?_
     refine TL.as (.one (.row 25 [])) ?_
     refine TL.nil ?_
     refine T.ret ?_
     refine ⟨[(false, [.row 25 []])], (.cons rfl .nil), rfl, [25], (RetC.own' rfl ?_ rfl .nil)⟩ <;> ((congr 1; unfold sha; rw [show i = (shaH b).length from by omega]))
theorem ok_impl_LeafHash (x : List Int) (h0_ : U8s x) (h1_ : x.length ≤ 17592186030000) : RO Try.prog 111 [.one (.ints .u8 x)] [(false, [.own 5 (.ints .u8 (leafHash x))])] := by
 refine RO.intro Try.func111 rfl 7 rfl (le_ok rfl) fun w Z => ?_
 refine T.bnd 0 0 rfl rfl fun hb_0_0 => ?_
 simp only [D.size, List.length_map] at hb_0_0
 refine T.seq ?_
 refine T.region ?_
 refine TL.as (.one (.nil)) ?_
 refine TL.nil ?_
 refine T.seq ?_
 refine T.region ?_
 refine TL.c (Step.lit (e := 5) (z := 1) (by_ := 1) (xs := [.const (.int .u8 0)]) (pss := [[.d (.int .u8 0)]]) (es := [(.int .u8 0)]) (ss := []) (d := (.ints .u8 [0])) rfl rfl (lt_ok rfl) (by kernel_rfl) rfl rfl (.cons rfl .nil) (by simp) (le_ok rfl) (le_ok rfl) rfl (.val rfl .nil) rfl (by simp) (by simp) rfl trivial rfl rfl) ?_
 refine TL.mv (pS x) ?_
 refine TL.c (Step.append (e := 5) (z := 1) (by_ := 1) (d := (.ints .u8 [0])) (dy := (.ints .u8 x)) (d' := (.ints .u8 ([0] ++ x))) (ss := []) rfl rfl (lt_ok rfl) (by kernel_rfl) rfl rfl rfl (lt_ok rfl) rfl (.froz rfl (by simp [D.flat, D.val])) (by simp) rfl (by simp only [D.size, List.length_map]; first | omega | (simp only [List.length_append, List.length_cons, List.length_nil]; omega) | (simp; omega) | (simp only [List.length_append] at *; omega)) (by simp only [D.size, List.length_map]; first | omega | (simp only [List.length_append, List.length_cons, List.length_nil]; omega) | (simp; omega) | (simp only [List.length_append] at *; omega)) (by simp)) ?_
 have nn1 := sha_len ([0] ++ x)
 have nn2 := sha_u8 ([0] ++ x)
 refine TL.c (Step.cl (xs := [.tmp 5]) (ps := [(.one (.row 3 []))]) (g := .func 103) false (.cons (.one (.row rfl rfl rfl rfl)) .nil) (ok_impl_Sha ([0] ++ x) (by first | assumption | exact sha_u8 _ | exact treeRoot_u8 _ | exact nodeHash_u8 _ _ | exact leafHash_u8 _ | exact u8_cons (by decide) (by assumption) | exact mem_getD (p := U8s) (by assumption) (by omega) | exact u8_app (u8_cons (by decide) (by assumption)) (by assumption) | exact fun x hx => by cases hx | exact putHead_u8 u8_72 (by assumption)) (by first | omega | assumption | (simp only [List.length_append] at *; omega) | (simp; done) | (simp; omega)))) ?_
 refine TL.as (.one (.row 1006 [])) ?_
 refine TL.nil ?_
 refine T.ret ?_
 refine ⟨[(false, [.row 1006 []])], (.cons rfl .nil), rfl, [1006], (RetC.own' rfl ?_ rfl .nil)⟩ <;> (rfl)
theorem ok_impl_SplitAt (n : Int) (h0_ : n ≤ 9223372036854775807) : RO Try.prog 118 [.one (.int .i64 n)] [(false, [.rd (.int .i64 (splitAtT n))])] := by
 refine RO.intro Try.func118 rfl 14 rfl (le_ok rfl) fun w Z => ?_
 refine T.seq ?_
 refine T.region ?_
 refine TL.as (pI 0) ?_
 refine TL.nil ?_
 refine T.seq ?_
 refine T.seq ?_
 refine T.region ?_
 refine TL.mv (pI n) ?_
 refine TL.c (Step.bin rfl rfl (lt_ok rfl) rfl rfl (Bin.lss (k := .i64) (a := n) (b := 2))) ?_
 refine TL.nil ?_
 refine T.cond (b := decide (n < 2)) rfl (fun h1 => ?_) (fun h1 => ?_)
 ·
  replace h1 := of_decide_eq_true h1
  refine T.seq ?_
  refine T.region ?_
  refine TL.as (pI 0) ?_
  refine TL.nil ?_
  refine T.ret ?_
  refine ⟨[(false, [cI 0])], (.cons rfl .nil), rfl, [], (RetC.rd' ?_ .nil)⟩ <;> ((congr 1; unfold splitAtT; first | (rw [if_pos (by omega)]; done) | (rw [if_neg (by omega)]; rw [if_neg (by omega)] at hx4; exact hx4) | (rw [if_neg (by omega)]; omega)))
 ·
  replace h1 := of_decide_eq_false h1
  refine T.skip ?_
  refine T.seq ?_
  refine T.region ?_
  refine TL.as (pI 1) ?_
  refine TL.nil ?_
  refine T.seq ?_
  refine T.block ?_
  refine T.loop (ι := Nat × Int) (fun xx_ => { tm := [(0, (pI n)), (2, (pI 0)), (3, (pI (xx_.2)))], rows := [], boxes := [] }) (fun xx_ => 1 ≤ (xx_.2) ∧ (xx_.2) < n ∧ n ≤ (xx_.2) + (xx_.1) ∧ splitGo (xx_.1) n (xx_.2) = splitAt n) (fun xx_ => (xx_.1)) (n.toNat, 1) ?_ ?_ ?_
  · refine Env.le_mk ⟨rfl, rfl, ?_, trivial⟩ trivial trivial <;> (first | rfl | (refine congrArg (fun n => PV.one (.d (.int .i64 n))) ?_; rfl))
  · (dsimp only; refine ⟨by omega, by omega, by omega, rfl⟩)
  ·
   intro xx_ hx
   obtain ⟨d, x⟩ := xx_
   try dsimp only at hx ⊢
   obtain ⟨hx1, hx2, hx3, hx4⟩ := hx
   obtain ⟨d', rfl⟩ : ∃ d', d = d' + 1 := ⟨d - 1, by omega⟩
   unfold splitGo at hx4
   refine T.seq ?_
   refine T.seq ?_
   refine T.region ?_
   refine TL.mv (pI x) ?_
   refine TL.mv (pI n) ?_
   refine TL.mv (pI x) ?_
   refine TL.c (Step.bin (r := .int .i64 (n - x)) rfl rfl (lt_ok rfl) rfl rfl (Bin.sub (a := n) (b := x) (by first | exact wrap_ok (by first | omega | (simp; omega)) (by first | omega | (simp; omega)) | rfl))) ?_
   refine TL.c (Step.bin rfl rfl (lt_ok rfl) rfl rfl (Bin.lss (k := .i64) (a := x) (b := (n - x)))) ?_
   refine TL.nil ?_
   refine T.cond (b := decide (x < (n - x))) rfl (fun h2 => ?_) (fun h2 => ?_)
   ·
    replace h2 := of_decide_eq_true h2
    refine T.skip ?_
    refine T.block ?_
    refine T.region ?_
    refine TL.mv (pI x) ?_
    refine TL.c (Step.bin (r := .int .i64 (x * 2)) rfl rfl (lt_ok rfl) rfl rfl (Bin.mul (a := x) (b := 2) (by first | exact wrap_ok (by first | omega | (simp; omega)) (by first | omega | (simp; omega)) | rfl))) ?_
    refine TL.as (pI (x * 2)) ?_
    refine TL.nil ?_
    refine ⟨(d', x * 2), by (try dsimp only); (rw [if_pos (by omega)] at hx4; refine ⟨by omega, by omega, by omega, ?_⟩; first | exact hx4 | (rw [Int.mul_comm]; exact hx4)), by (dsimp only; omega), Env.le_mk ⟨rfl, rfl, ?_, trivial⟩ trivial trivial⟩ <;> (first | rfl | (refine congrArg (fun n => PV.one (.d (.int .i64 n))) ?_; rfl))
   ·
    replace h2 := of_decide_eq_false h2
    refine T.exit ?_
    refine T.seq ?_
    refine T.region ?_
    refine TL.mv (pI x) ?_
    refine TL.as (pI x) ?_
    refine TL.nil ?_
    refine T.ret ?_
    refine ⟨[(false, [cI x])], (.cons rfl .nil), rfl, [], (RetC.rd' ?_ .nil)⟩ <;> ((congr 1; unfold splitAtT; first | (rw [if_pos (by omega)]; done) | (rw [if_neg (by omega)]; rw [if_neg (by omega)] at hx4; exact hx4) | (rw [if_neg (by omega)]; omega)))
theorem ok_impl_NodeHash (a : List Int) (b : List Int) (h0_ : U8s a) (h1_ : U8s b) (h2_ : a.length ≤ 1048576) (h3_ : b.length ≤ 1048576) : RO Try.prog 171 [.one (.ints .u8 a), .one (.ints .u8 b)] [(false, [.own 5 (.ints .u8 (nodeHash a b))])] := by
 refine RO.intro Try.func171 rfl 11 rfl (le_ok rfl) fun w Z => ?_
 refine T.bnd 0 0 rfl rfl fun hb_0_0 => ?_
 simp only [D.size, List.length_map] at hb_0_0
 refine T.bnd 1 0 rfl rfl fun hb_1_0 => ?_
 simp only [D.size, List.length_map] at hb_1_0
 refine T.seq ?_
 refine T.region ?_
 refine TL.as (.one (.nil)) ?_
 refine TL.nil ?_
 refine T.seq ?_
 refine T.region ?_
 refine TL.c (Step.lit (e := 5) (z := 1) (by_ := 1) (xs := [.const (.int .u8 1)]) (pss := [[.d (.int .u8 1)]]) (es := [(.int .u8 1)]) (ss := []) (d := (.ints .u8 [1])) rfl rfl (lt_ok rfl) (by kernel_rfl) rfl rfl (.cons rfl .nil) (by simp) (le_ok rfl) (le_ok rfl) rfl (.val rfl .nil) rfl (by simp) (by simp) rfl trivial rfl rfl) ?_
 refine TL.mv (pS a) ?_
 refine TL.c (Step.append (e := 5) (z := 1) (by_ := 1) (d := (.ints .u8 [1])) (dy := (.ints .u8 a)) (d' := (.ints .u8 ([1] ++ a))) (ss := []) rfl rfl (lt_ok rfl) (by kernel_rfl) rfl rfl rfl (lt_ok rfl) rfl (.froz rfl (by simp [D.flat, D.val])) (by simp) rfl (by simp only [D.size, List.length_map]; first | omega | (simp only [List.length_append, List.length_cons, List.length_nil]; omega) | (simp; omega) | (simp only [List.length_append] at *; omega)) (by simp only [D.size, List.length_map]; first | omega | (simp only [List.length_append, List.length_cons, List.length_nil]; omega) | (simp; omega) | (simp only [List.length_append] at *; omega)) (by simp)) ?_
 refine TL.mv (pS b) ?_
 refine TL.c (Step.append (e := 5) (z := 1) (by_ := 1) (d := (.ints .u8 ([1] ++ a))) (dy := (.ints .u8 b)) (d' := (.ints .u8 (([1] ++ a) ++ b))) (ss := []) rfl rfl (lt_ok rfl) (by kernel_rfl) rfl rfl rfl (lt_ok rfl) rfl (.froz rfl (by simp [D.flat, D.val])) (by simp) rfl (by simp only [D.size, List.length_map]; first | omega | (simp only [List.length_append, List.length_cons, List.length_nil]; omega) | (simp; omega) | (simp only [List.length_append] at *; omega)) (by simp only [D.size, List.length_map]; first | omega | (simp only [List.length_append, List.length_cons, List.length_nil]; omega) | (simp; omega) | (simp only [List.length_append] at *; omega)) (by simp)) ?_
 have nn1 := sha_len (([1] ++ a) ++ b)
 have nn2 := sha_u8 (([1] ++ a) ++ b)
 refine TL.c (Step.cl (xs := [.tmp 9]) (ps := [(.one (.row 5 []))]) (g := .func 103) false (.cons (.one (.row rfl rfl rfl rfl)) .nil) (ok_impl_Sha (([1] ++ a) ++ b) (by first | assumption | exact sha_u8 _ | exact treeRoot_u8 _ | exact nodeHash_u8 _ _ | exact leafHash_u8 _ | exact u8_cons (by decide) (by assumption) | exact mem_getD (p := U8s) (by assumption) (by omega) | exact u8_app (u8_cons (by decide) (by assumption)) (by assumption) | exact fun x hx => by cases hx | exact putHead_u8 u8_72 (by assumption)) (by first | omega | assumption | (simp only [List.length_append] at *; omega) | (simp; done) | (simp; omega)))) ?_
 refine TL.as (.one (.row 1010 [])) ?_
 refine TL.nil ?_
 refine T.ret ?_
 refine ⟨[(false, [.row 1010 []])], (.cons rfl .nil), rfl, [1010], (RetC.own' rfl ?_ rfl .nil)⟩ <;> (rfl)
theorem ok_impl_TreeRoot_r (d_ : Nat) : ∀ (l : List (List Int)) (hd_ : l.length = d_) (h0_ : ∀ y ∈ l, U8s y) (h1_ : ∀ y ∈ l, y.length ≤ 1048576), RO Try.prog 119 [.one (.bss l)] [(false, [.own 5 (.ints .u8 (treeRoot l))])] := by
 refine Nat.strongRecOn d_ ?_
 intro d_ ih l hd_ h0_ h1_
 subst hd_
 refine RO.intro Try.func119 rfl 27 rfl (le_ok rfl) fun w Z => ?_
 refine T.bnd 0 0 rfl rfl fun hb_0_0 => ?_
 simp only [D.size, List.length_map] at hb_0_0
 have hsb_ := splitAtT_bd (l.length : Int)
 have hsl_ := splitAtT_le (l.length : Int)
 have hpt_ := part_len l
 have hy_ := mem_len h1_ 0
 refine T.seq ?_
 refine T.region ?_
 refine TL.as (.one (.nil)) ?_
 refine TL.nil ?_
 refine T.seq ?_
 refine T.seq ?_
 refine T.region ?_
 refine TL.mv (.one (.d (.bss l))) ?_
 refine TL.c (Step.len (e := 24) (z := 1) (d := (.bss l)) rfl rfl (lt_ok rfl) (by kernel_rfl) rfl rfl) ?_
 refine TL.nil ?_
 refine T.block ?_
 refine T.seq ?_
 refine T.region ?_
 refine TL.c (Step.bin rfl rfl (lt_ok rfl) rfl rfl (Bin.eql (k := .i64) (a := (l.length : Int)) (b := 0))) ?_
 refine TL.as (pB (decide ((l.length : Int) = 0))) ?_
 refine TL.nil ?_
 refine T.cond (b := decide ((l.length : Int) = 0)) rfl (fun h1 => ?_) (fun h1 => ?_)
 ·
  replace h1 := of_decide_eq_true h1
  refine T.seq ?_
  refine T.region ?_
  have nn2 := sha_len []
  have nn3 := sha_u8 []
  refine TL.c (Step.cl (xs := [.const (.slice none 0 0)]) (ps := [(.one (.nil))]) (g := .func 103) false (.cons (.one (.nil rfl rfl (by first | exact trivial | exact D.wf_nil _))) .nil) (ok_impl_Sha [] (by first | assumption | exact sha_u8 _ | exact treeRoot_u8 _ | exact nodeHash_u8 _ _ | exact leafHash_u8 _ | exact u8_cons (by decide) (by assumption) | exact mem_getD (p := U8s) (by assumption) (by omega) | exact u8_app (u8_cons (by decide) (by assumption)) (by assumption) | exact fun x hx => by cases hx | exact putHead_u8 u8_72 (by assumption)) (by first | omega | assumption | (simp only [List.length_append] at *; omega) | (simp; done) | (simp; omega)))) ?_
  refine TL.as (.one (.row 1008 [])) ?_
  refine TL.nil ?_
  refine T.ret ?_
  refine ⟨[(false, [.row 1008 []])], (.cons rfl .nil), rfl, [1008], (RetC.own' rfl ?_ rfl .nil)⟩ <;> ((congr 1; first | (rw [treeRoot_nil (l := l) (by omega)]; done) | (rw [treeRoot_one (l := l) (by omega)]; done) | (rw [treeRoot_two (l := l) (by omega) (by omega)]; done)))
 ·
  replace h1 := of_decide_eq_false h1
  refine T.seq ?_
  refine T.region ?_
  refine TL.c (Step.bin rfl rfl (lt_ok rfl) rfl rfl (Bin.eql (k := .i64) (a := (l.length : Int)) (b := 1))) ?_
  refine TL.as (pB (decide ((l.length : Int) = 1))) ?_
  refine TL.nil ?_
  refine T.cond (b := decide ((l.length : Int) = 1)) rfl (fun h4 => ?_) (fun h4 => ?_)
  ·
   replace h4 := of_decide_eq_true h4
   refine T.seq ?_
   refine T.region ?_
   refine TL.mv (.one (.d (.bss l))) ?_
   refine TL.c (Step.index (e := 24) (z := 1) (i := 0) rfl rfl (lt_ok rfl) (by kernel_rfl) rfl rfl rfl (lt_ok rfl) rfl (by first | omega | (simp; omega)) (by simp only [D.size]; first | omega | (simp; omega))) ?_
   refine TL.c (Step.load (e := (.ints .u8 (l.getD 0 []))) rfl rfl (lt_ok rfl) (by kernel_rfl) rfl rfl) ?_
   have nn5 := leafHash_len (l.getD 0 [])
   have nn6 := leafHash_u8 (l.getD 0 [])
   refine TL.c (Step.cl (xs := [.tmp 13]) (ps := [(pS (l.getD 0 []))]) (g := .func 111) false (.cons (.one (.d _)) .nil) (ok_impl_LeafHash (l.getD 0 []) (by first | assumption | exact sha_u8 _ | exact treeRoot_u8 _ | exact nodeHash_u8 _ _ | exact leafHash_u8 _ | exact u8_cons (by decide) (by assumption) | exact mem_getD (p := U8s) (by assumption) (by omega) | exact u8_app (u8_cons (by decide) (by assumption)) (by assumption) | exact fun x hx => by cases hx) (by first | omega | assumption | (simp only [List.length_append] at *; omega)))) ?_
   refine TL.as (.one (.row 1014 [])) ?_
   refine TL.nil ?_
   refine T.ret ?_
   refine ⟨[(false, [.row 1014 []])], (.cons rfl .nil), rfl, [1014], (RetC.own' rfl ?_ rfl .nil)⟩ <;> ((congr 1; first | (rw [treeRoot_nil (l := l) (by omega)]; done) | (rw [treeRoot_one (l := l) (by omega)]; done) | (rw [treeRoot_two (l := l) (by omega) (by omega)]; done)))
  ·
   replace h4 := of_decide_eq_false h4
   refine T.skip ?_
   refine T.seq ?_
   refine T.region ?_
   refine TL.mv (.one (.d (.bss l))) ?_
   refine TL.c (Step.len (e := 24) (z := 1) (d := (.bss l)) rfl rfl (lt_ok rfl) (by kernel_rfl) rfl rfl) ?_
   have nn7 := splitAtT_bd (l.length : Int)
   refine TL.c (Step.cl (xs := [.tmp 16]) (ps := [(pI (l.length : Int))]) (g := .func 118) false (.cons (.one (.d _)) .nil) (ok_impl_SplitAt (l.length : Int) (by first | omega | assumption | (simp only [List.length_append] at *; omega)))) ?_
   refine TL.as (pI (splitAtT (l.length : Int))) ?_
   refine TL.nil ?_
   refine T.seq ?_
   have nn8 := treeRoot_len ((l.drop 0).take ((splitAtT (l.length : Int)).toNat - 0))
   have nn9 := treeRoot_u8 ((l.drop 0).take ((splitAtT (l.length : Int)).toNat - 0))
   have nn10 := treeRoot_len ((l.drop (splitAtT (l.length : Int)).toNat).take (l.length - (splitAtT (l.length : Int)).toNat))
   have nn11 := treeRoot_u8 ((l.drop (splitAtT (l.length : Int)).toNat).take (l.length - (splitAtT (l.length : Int)).toNat))
   have nn12 := nodeHash_len (treeRoot ((l.drop 0).take ((splitAtT (l.length : Int)).toNat - 0))) (treeRoot ((l.drop (splitAtT (l.length : Int)).toNat).take (l.length - (splitAtT (l.length : Int)).toNat)))
   have nn13 := nodeHash_u8 (treeRoot ((l.drop 0).take ((splitAtT (l.length : Int)).toNat - 0))) (treeRoot ((l.drop (splitAtT (l.length : Int)).toNat).take (l.length - (splitAtT (l.length : Int)).toNat)))
   refine T.draw [⟨18, (.one (.d (.bss l))), []⟩, ⟨19, (pI (splitAtT (l.length : Int))), []⟩, ⟨20, (.one (.d (.bss ((l.drop 0).take ((splitAtT (l.length : Int)).toNat - 0))))), []⟩, ⟨21, (.one (.row 1021 [])), [(1021, (5, (.ints .u8 (treeRoot ((l.drop 0).take ((splitAtT (l.length : Int)).toNat - 0))))))]⟩, ⟨22, (.one (.d (.bss l))), []⟩, ⟨23, (pI (splitAtT (l.length : Int))), []⟩, ⟨24, (.one (.d (.bss ((l.drop (splitAtT (l.length : Int)).toNat).take (l.length - (splitAtT (l.length : Int)).toNat))))), []⟩, ⟨25, (.one (.row 1025 [])), [(1025, (5, (.ints .u8 (treeRoot ((l.drop (splitAtT (l.length : Int)).toNat).take (l.length - (splitAtT (l.length : Int)).toNat))))))]⟩, ⟨26, (.one (.row 1026 [])), [(1026, (5, (.ints .u8 (nodeHash (treeRoot ((l.drop 0).take ((splitAtT (l.length : Int)).toNat - 0))) (treeRoot ((l.drop (splitAtT (l.length : Int)).toNat).take (l.length - (splitAtT (l.length : Int)).toNat)))))))]⟩, ⟨2, (.one (.row 1026 [])), []⟩] (by kernel_rfl) (by kernel_rfl) ?_ ?_
   ·
    refine .cons (fun E A => A.mv 0 18) ?_
    refine .cons (fun E A => A.mv 3 19) ?_
    refine .cons (fun E A => OpStep.plain rfl (Step.slice (e := 24) (z := 1) (l := 0) (h := (splitAtT (l.length : Int)).toNat) (t := 20) rfl rfl (by exact lt_ok rfl) (by kernel_rfl) (A.g 18 rfl) rfl rfl (.none _) ((.some (i := (splitAtT (l.length : Int))) (A.g 19 rfl) (by first | omega | (simp; omega)))) (by first | omega | (simp; omega)) (by simp only [D.size]; first | omega | (simp; omega)) rfl)) ?_
    refine .cons (fun E A => OpStep.plain rfl (Step.call (f := 119) (xs := [.tmp 20]) (ps := [(.one (.d (.bss ((l.drop 0).take ((splitAtT (l.length : Int)).toNat - 0)))))]) false (g := .func 119) (t := 21) rfl rfl (by exact lt_ok rfl) rfl (by kernel_rfl) (evs_cons (A.g 20 rfl) (rfl)) (.cons (.one (.d _)) .nil) (ih ((l.drop 0).take ((splitAtT (l.length : Int)).toNat - 0)).length (by omega) ((l.drop 0).take ((splitAtT (l.length : Int)).toNat - 0)) rfl (by first | assumption | exact mem_sub (by assumption) _ _ | exact s0.2 | exact o1) (by first | assumption | exact mem_sub (by assumption) _ _ | exact s0.2 | exact s1.2)) (.inr rfl) (At.freshRows A rfl) (by simp) rfl)) ?_
    refine .cons (fun E A => A.mv 0 22) ?_
    refine .cons (fun E A => A.mv 3 23) ?_
    refine .cons (fun E A => OpStep.plain rfl (Step.slice (e := 24) (z := 1) (l := (splitAtT (l.length : Int)).toNat) (h := l.length) (t := 24) rfl rfl (by exact lt_ok rfl) (by kernel_rfl) (A.g 22 rfl) rfl rfl ((.some (i := (splitAtT (l.length : Int))) (A.g 23 rfl) (by first | omega | (simp; omega)))) (.none _) (by first | omega | (simp; omega)) (by simp only [D.size]; first | omega | (simp; omega)) rfl)) ?_
    refine .cons (fun E A => OpStep.plain rfl (Step.call (f := 119) (xs := [.tmp 24]) (ps := [(.one (.d (.bss ((l.drop (splitAtT (l.length : Int)).toNat).take (l.length - (splitAtT (l.length : Int)).toNat)))))]) false (g := .func 119) (t := 25) rfl rfl (by exact lt_ok rfl) rfl (by kernel_rfl) (evs_cons (A.g 24 rfl) (rfl)) (.cons (.one (.d _)) .nil) (ih ((l.drop (splitAtT (l.length : Int)).toNat).take (l.length - (splitAtT (l.length : Int)).toNat)).length (by omega) ((l.drop (splitAtT (l.length : Int)).toNat).take (l.length - (splitAtT (l.length : Int)).toNat)) rfl (by first | assumption | exact mem_sub (by assumption) _ _ | exact s0.2 | exact o1) (by first | assumption | exact mem_sub (by assumption) _ _ | exact s0.2 | exact s1.2)) (.inr rfl) (At.freshRows A rfl) (by simp) rfl)) ?_
    refine .cons (fun E A => OpStep.plain rfl (Step.cd (xs := [.tmp 21, .tmp 25]) (ps := [(.one (.row 1021 [])), (.one (.row 1025 []))]) (g := .func 171) false 26 (evs_cons (A.g 21 rfl) (evs_cons (A.g 25 rfl) (rfl))) (.cons (.one (.row rfl (by exact (A.row 1021 (by kernel_rfl)).trans rfl) rfl rfl)) (.cons (.one (.row rfl (by exact (A.row 1025 (by kernel_rfl)).trans rfl) rfl rfl)) .nil)) (ok_impl_NodeHash (treeRoot ((l.drop 0).take ((splitAtT (l.length : Int)).toNat - 0))) (treeRoot ((l.drop (splitAtT (l.length : Int)).toNat).take (l.length - (splitAtT (l.length : Int)).toNat))) (by first | assumption | exact sha_u8 _ | exact treeRoot_u8 _ | exact nodeHash_u8 _ _ | exact leafHash_u8 _ | exact u8_cons (by decide) (by assumption) | exact mem_getD (p := U8s) (by assumption) (by omega) | exact u8_app (u8_cons (by decide) (by assumption)) (by assumption) | exact fun x hx => by cases hx) (by first | assumption | exact sha_u8 _ | exact treeRoot_u8 _ | exact nodeHash_u8 _ _ | exact leafHash_u8 _ | exact u8_cons (by decide) (by assumption) | exact mem_getD (p := U8s) (by assumption) (by omega) | exact u8_app (u8_cons (by decide) (by assumption)) (by assumption) | exact fun x hx => by cases hx) (by first | omega | assumption | (simp only [List.length_append] at *; omega)) (by first | omega | assumption | (simp only [List.length_append] at *; omega))) (At.freshRows A rfl))) ?_
    refine .cons (fun E A => A.as 26 2) ?_
    exact .nil _ _
   refine TL.nil ?_
   refine T.ret ?_
   refine ⟨[(false, [.row 1026 []])], (.cons rfl .nil), rfl, [1026], (RetC.own' rfl ?_ rfl .nil)⟩ <;> ((congr 1; first | (rw [treeRoot_nil (l := l) (by omega)]; done) | (rw [treeRoot_one (l := l) (by omega)]; done) | (rw [treeRoot_two (l := l) (by omega) (by omega)]; done)))
theorem ok_impl_TreeRoot (l : List (List Int)) (h0_ : ∀ y ∈ l, U8s y) (h1_ : ∀ y ∈ l, y.length ≤ 1048576) : RO Try.prog 119 [.one (.bss l)] [(false, [.own 5 (.ints .u8 (treeRoot l))])] := ok_impl_TreeRoot_r _ l rfl h0_ h1_
theorem ok_impl_BlockOk (l : SLimits) (x : SBlock) (h0_ : x.ok) (h1_ : x.sm) : RO Try.prog 84 [.agg l.cells, .agg x.cells] [(false, [.rd (.bool (blockOk l x))])] := by
 refine RO.intro Try.func84 rfl 41 rfl (le_ok rfl) fun w Z => ?_
 refine T.bnd 1 3 rfl rfl fun hb_1_3 => ?_
 simp only [D.size, List.length_map] at hb_1_3
 refine T.bnd 1 4 rfl rfl fun hb_1_4 => ?_
 simp only [D.size, List.length_map] at hb_1_4
 refine T.bnd 1 7 rfl rfl fun hb_1_7 => ?_
 simp only [D.size, List.length_map] at hb_1_7
 refine T.bnd 1 8 rfl rfl fun hb_1_8 => ?_
 simp only [D.size, List.length_map] at hb_1_8
 refine T.bnd 1 9 rfl rfl fun hb_1_9 => ?_
 simp only [D.size, List.length_map] at hb_1_9
 refine T.bnd 1 10 rfl rfl fun hb_1_10 => ?_
 simp only [D.size, List.length_map] at hb_1_10
 have hok_ := h0_
 have hsm_ := h1_
 obtain ⟨o0, o1⟩ := h0_
 obtain ⟨s0, s1⟩ := h1_
 have hrt_ := treeRoot_u8 x.f1
 have ho4_ := o0.2.2.2.2.1
 refine T.seq ?_
 refine T.region ?_
 refine TL.c (Step.box (p := (.agg [cI l.f0, cI l.f1, cI l.f2, cI l.f3, cI l.f4])) (ps := [cI l.f0, cI l.f1, cI l.f2, cI l.f3, cI l.f4]) rfl rfl (lt_ok rfl) rfl rfl rfl rfl rfl) ?_
 refine TL.c (Step.box (p := (.agg [cI x.f0.f0, cI x.f0.f1, cI x.f0.f2, cS x.f0.f3, cS x.f0.f4, cI x.f0.f5.f0, cI x.f0.f5.f1, cS x.f0.f5.f2, cS x.f0.f5.f3, .d (.bss x.f0.f5.f4), .d (.bss x.f1)])) (ps := [cI x.f0.f0, cI x.f0.f1, cI x.f0.f2, cS x.f0.f3, cS x.f0.f4, cI x.f0.f5.f0, cI x.f0.f5.f1, cS x.f0.f5.f2, cS x.f0.f5.f3, .d (.bss x.f0.f5.f4), .d (.bss x.f1)]) rfl rfl (lt_ok rfl) rfl rfl rfl rfl rfl) ?_
 refine TL.as (pB false) ?_
 refine TL.nil ?_
 refine T.seq ?_
 refine T.seq ?_
 refine T.region ?_
 refine TL.c (Step.fieldAddr (q := 0) (off := 10) (n := 1) (one := true) rfl rfl (lt_ok rfl) (by kernel_rfl) (Nat.succ_ne_zero _) rfl) ?_
 refine TL.c (Step.load_box (c := .d (.bss x.f1)) rfl rfl (lt_ok rfl) (by kernel_rfl) rfl rfl rfl) ?_
 refine TL.c (Step.len (e := 24) (z := 1) (d := (.bss x.f1)) rfl rfl (lt_ok rfl) (by kernel_rfl) rfl rfl) ?_
 refine TL.mv (pI 0) ?_
 refine TL.nil ?_
 refine T.block ?_
 refine T.loop (ι := Nat) (fun xx_ => { tm := [(2, (.one (.ptr 2 0))), (3, (.one (.ptr 3 0))), (8, (.one (.d (.bss x.f1)))), (9, (pI (x.f1.length : Int))), (10, (pI (xx_ : Int)))], rows := [], boxes := [(2, (34, [cI l.f0, cI l.f1, cI l.f2, cI l.f3, cI l.f4])), (3, (56, [cI x.f0.f0, cI x.f0.f1, cI x.f0.f2, cS x.f0.f3, cS x.f0.f4, cI x.f0.f5.f0, cI x.f0.f5.f1, cS x.f0.f5.f2, cS x.f0.f5.f3, .d (.bss x.f0.f5.f4), .d (.bss x.f1)]))] }) (fun xx_ => xx_ ≤ x.f1.length ∧ txsOk l (x.f1.take xx_) = true) (fun xx_ => x.f1.length - xx_) 0 ?_ ?_ ?_
 · refine Env.le_mk ⟨rfl, rfl, rfl, rfl, ?_, trivial⟩ trivial ⟨rfl, rfl, trivial⟩ <;> (first | rfl | (simp; done) | (congr 3; omega))
 · exact ⟨Nat.zero_le _, by rw [List.take_zero]; rfl⟩
 ·
  intro i hx
  try dsimp only at hx ⊢
  obtain ⟨hx1, hx2⟩ := hx
  refine T.seq ?_
  refine T.region ?_
  refine TL.c (Step.bin rfl rfl (lt_ok rfl) rfl rfl (Bin.lss (k := .i64) (a := (i : Int)) (b := (x.f1.length : Int)))) ?_
  refine TL.nil ?_
  refine T.seq ?_
  refine T.cond (b := decide ((i : Int) < (x.f1.length : Int))) rfl (fun h1 => ?_) (fun h1 => ?_)
  ·
   replace h1 := of_decide_eq_true h1
   refine T.skip ?_
   refine T.seq ?_
   refine T.block ?_
   refine T.seq ?_
   refine T.region ?_
   refine TL.c (Step.index (e := 24) (z := 1) (i := (i : Int)) rfl rfl (lt_ok rfl) (by kernel_rfl) rfl rfl rfl (lt_ok rfl) rfl (by first | omega | (simp; omega)) (by simp only [D.size]; first | omega | (simp; omega))) ?_
   refine TL.c (Step.load (e := (.ints .u8 (x.f1.getD i []))) rfl rfl (lt_ok rfl) (by kernel_rfl) rfl rfl) ?_
   refine TL.as (pS (x.f1.getD i [])) ?_
   refine TL.nil ?_
   refine T.seq ?_
   refine T.region ?_
   refine TL.mv (pS (x.f1.getD i [])) ?_
   refine TL.c (Step.len (e := 5) (z := 1) (d := (.ints .u8 (x.f1.getD i []))) rfl rfl (lt_ok rfl) (by kernel_rfl) rfl rfl) ?_
   refine TL.c (Step.fieldAddr (q := 0) (off := 1) (n := 1) (one := true) rfl rfl (lt_ok rfl) (by kernel_rfl) (Nat.succ_ne_zero _) rfl) ?_
   refine TL.c (Step.load_box (c := cI l.f1) rfl rfl (lt_ok rfl) (by kernel_rfl) rfl rfl rfl) ?_
   refine TL.c (Step.bin rfl rfl (lt_ok rfl) rfl rfl (Bin.gtr (k := .i64) (a := ((x.f1.getD i []).length : Int)) (b := l.f1))) ?_
   refine TL.nil ?_
   refine T.cond (b := decide (l.f1 < ((x.f1.getD i []).length : Int))) rfl (fun h2 => ?_) (fun h2 => ?_)
   ·
    replace h2 := of_decide_eq_true h2
    refine T.seq ?_
    refine T.region ?_
    refine TL.as (pB false) ?_
    refine TL.nil ?_
    refine T.ret ?_
    refine ⟨[(false, [.d (.bool false)])], (.cons rfl .nil), rfl, [], (RetC.rd' ?_ .nil)⟩ <;> ((congr 1; symm; first | (unfold blockOk; rw [txsOk_no (i := i) (by omega) (by omega)]; simp; done) | (rw [List.take_of_length_le (by omega)] at hx2; rw [blockOk_mk (by assumption) (by omega) hx2]; first | done | rfl | assumption | exact decide_eq_true ‹_› | exact decide_eq_false ‹_›) | (rw [List.take_of_length_le (by omega)] at hx2; simp_all [blockOk]; done) | (simp_all [blockOk]; done) | (rw [List.take_of_length_le (by omega)] at hx2; simp_all [blockOk]; omega) | (simp_all [blockOk]; omega)))
   ·
    replace h2 := of_decide_eq_false h2
    refine T.skip ?_
    refine T.region ?_
    refine TL.c (Step.bin (r := .int .i64 ((i : Int) + 1)) rfl rfl (lt_ok rfl) rfl rfl (Bin.add (a := (i : Int)) (b := 1) (by first | exact wrap_ok (by first | omega | (simp; omega)) (by first | omega | (simp; omega)) | rfl))) ?_
    refine TL.mv (pI ((i : Int) + 1)) ?_
    refine TL.nil ?_
    refine ⟨i + 1, by (refine ⟨by omega, txsOk_step (by omega) hx2 (by omega)⟩), by first | omega | (dsimp only; omega), Env.le_mk ⟨rfl, rfl, rfl, rfl, ?_, trivial⟩ trivial ⟨rfl, rfl, trivial⟩⟩ <;> (first | rfl | (simp; done) | (congr 3; omega))
  ·
   replace h1 := of_decide_eq_false h1
   refine T.exit ?_
   refine T.seq ?_
   rcases Bool.eq_false_or_eq_true (headOk l x.f0) with hb3 | hb3
   ·
    rcases Bool.eq_false_or_eq_true (decide ((x.f1.length : Int) ≤ l.f2)) with hb4 | hb4
    ·
     have hb4' := hb4
     replace hb4' := of_decide_eq_true hb4'
     have nn5 := treeRoot_len x.f1
     have nn6 := treeRoot_u8 x.f1
     refine T.draw [⟨20, (.agg [cI l.f0, cI l.f1, cI l.f2, cI l.f3, cI l.f4]), []⟩, ⟨21, (.one (.ptr 3 0)), []⟩, ⟨22, (.agg [cI x.f0.f0, cI x.f0.f1, cI x.f0.f2, cS x.f0.f3, cS x.f0.f4, cI x.f0.f5.f0, cI x.f0.f5.f1, cS x.f0.f5.f2, cS x.f0.f5.f3, .d (.bss x.f0.f5.f4)]), []⟩, ⟨23, (pB true), []⟩, ⟨24, (pB true), []⟩, ⟨25, (.one (.ptr 3 10)), []⟩, ⟨26, (.one (.d (.bss x.f1))), []⟩, ⟨27, (pI (x.f1.length : Int)), []⟩, ⟨28, (.one (.ptr 2 2)), []⟩, ⟨29, (pI l.f2), []⟩, ⟨30, (pB true), []⟩, ⟨31, (pB true), []⟩, ⟨32, (pB true), []⟩, ⟨33, (.one (.ptr 3 0)), []⟩, ⟨34, (.one (.ptr 3 4)), []⟩, ⟨35, (pS x.f0.f4), []⟩, ⟨36, (.one (.ptr 3 10)), []⟩, ⟨37, (.one (.d (.bss x.f1))), []⟩, ⟨38, (.one (.row 1038 [])), [(1038, (5, (.ints .u8 (treeRoot x.f1))))]⟩, ⟨39, (pB (decide (x.f0.f4 = (treeRoot x.f1)))), []⟩, ⟨40, (pB (decide (x.f0.f4 = (treeRoot x.f1)))), []⟩, ⟨4, (pB (decide (x.f0.f4 = (treeRoot x.f1)))), []⟩] (by kernel_rfl) (by kernel_rfl) ?_ ?_
     ·
      refine .cons (fun E A => OpStep.plain rfl (Step.load_box_agg (n := 5) (qs := [cI l.f0, cI l.f1, cI l.f2, cI l.f3, cI l.f4]) (t := 20) rfl rfl (by exact lt_ok rfl) (by kernel_rfl) (A.g 2 rfl) (by exact A.box rfl) rfl rfl)) ?_
      refine .cons (fun E A => OpStep.plain rfl (Step.fa (off := 0) (n := 10) (one := false) 0 21 (A.g 3 rfl))) ?_
      refine .cons (fun E A => OpStep.plain rfl (Step.load_box_agg (n := 10) (qs := [cI x.f0.f0, cI x.f0.f1, cI x.f0.f2, cS x.f0.f3, cS x.f0.f4, cI x.f0.f5.f0, cI x.f0.f5.f1, cS x.f0.f5.f2, cS x.f0.f5.f3, .d (.bss x.f0.f5.f4)]) (t := 22) rfl rfl (by exact lt_ok rfl) (by kernel_rfl) (A.g 21 rfl) (by exact A.box rfl) rfl rfl)) ?_
      refine .cons (fun E A => OpStep.plain rfl (Step.tb 23 (headOk l x.f0) hb3 (Step.cd (xs := [.tmp 20, .tmp 22]) (ps := [(.agg [cI l.f0, cI l.f1, cI l.f2, cI l.f3, cI l.f4]), (.agg [cI x.f0.f0, cI x.f0.f1, cI x.f0.f2, cS x.f0.f3, cS x.f0.f4, cI x.f0.f5.f0, cI x.f0.f5.f1, cS x.f0.f5.f2, cS x.f0.f5.f3, .d (.bss x.f0.f5.f4)])]) (g := .func 106) false 23 (evs_cons (A.g 20 rfl) (evs_cons (A.g 22 rfl) (rfl))) (.cons (.agg (.cons (.d _) (.cons (.d _) (.cons (.d _) (.cons (.d _) (.cons (.d _) .nil)))))) (.cons (.agg (.cons (.d _) (.cons (.d _) (.cons (.d _) (.cons (.d _) (.cons (.d _) (.cons (.d _) (.cons (.d _) (.cons (.d _) (.cons (.d _) (.cons (.d _) .nil))))))))))) .nil)) (ok_impl_HeadOk l x.f0 (by first | assumption | exact mem_getD o0 (by omega) | exact mem_getD h0_ (by omega)) (by first | assumption | exact mem_getD s0.2 (by omega) | exact mem_getD h1_ (by omega))) (At.freshRows A rfl)))) ?_
      refine .cons (fun E A => A.mv 23 24) ?_
      refine .cons (fun E A => A.y 24 (Step.fa (off := 10) (n := 1) (one := true) 0 25 (A.g 3 rfl))) ?_
      refine .cons (fun E A => A.y 24 (Step.load_box (c := .d (.bss x.f1)) (t := 26) rfl rfl (by exact lt_ok rfl) (by kernel_rfl) (A.g 25 rfl) (by exact A.box rfl) rfl)) ?_
      refine .cons (fun E A => A.y 24 (Step.len (e := 24) (z := 1) (d := (.bss x.f1)) (t := 27) rfl rfl (by exact lt_ok rfl) (by kernel_rfl) (A.g 26 rfl) rfl)) ?_
      refine .cons (fun E A => A.y 24 (Step.fa (off := 2) (n := 1) (one := true) 0 28 (A.g 2 rfl))) ?_
      refine .cons (fun E A => A.y 24 (Step.load_box (c := cI l.f2) (t := 29) rfl rfl (by exact lt_ok rfl) (by kernel_rfl) (A.g 28 rfl) (by exact A.box rfl) rfl)) ?_
      refine .cons (fun E A => A.y 24 (Step.tb 30 (decide ((x.f1.length : Int) ≤ l.f2)) hb4 (Step.bd 30 (A.g 27 rfl) (A.g 29 rfl) (Bin.leq (k := .i64) (a := (x.f1.length : Int)) (b := l.f2))))) ?_
      refine .cons (fun E A => OpStep.plain rfl (Step.pick (b := true) (p := (pB true)) (t := 31) rfl rfl (by exact lt_ok rfl) (A.g 24 rfl) (A.g 30 rfl))) ?_
      refine .cons (fun E A => A.mv 31 32) ?_
      refine .cons (fun E A => A.y 32 (Step.fa (off := 0) (n := 10) (one := false) 0 33 (A.g 3 rfl))) ?_
      refine .cons (fun E A => A.y 32 (Step.fa (off := 4) (n := 1) (one := true) 0 34 (A.g 33 rfl))) ?_
      refine .cons (fun E A => A.y 32 (Step.load_box (c := cS x.f0.f4) (t := 35) rfl rfl (by exact lt_ok rfl) (by kernel_rfl) (A.g 34 rfl) (by exact A.box rfl) rfl)) ?_
      refine .cons (fun E A => A.y 32 (Step.fa (off := 10) (n := 1) (one := true) 0 36 (A.g 3 rfl))) ?_
      refine .cons (fun E A => A.y 32 (Step.load_box (c := .d (.bss x.f1)) (t := 37) rfl rfl (by exact lt_ok rfl) (by kernel_rfl) (A.g 36 rfl) (by exact A.box rfl) rfl)) ?_
      refine .cons (fun E A => A.y 32 (Step.cd (xs := [.tmp 37]) (ps := [(.one (.d (.bss x.f1)))]) (g := .func 119) false 38 (evs_cons (A.g 37 rfl) (rfl)) (.cons (.one (.d _)) .nil) (ok_impl_TreeRoot x.f1 (by first | assumption | exact mem_sub (by assumption) _ _ | exact s0.2 | exact o1) (by first | assumption | exact mem_sub (by assumption) _ _ | exact s0.2 | exact s1.2)) (At.freshRows A rfl))) ?_
      refine .cons (fun E A => A.y 32 (Step.cd (xs := [.tmp 35, .tmp 38]) (ps := [(pS x.f0.f4), (.one (.row 1038 []))]) (g := .func 107) false 39 (evs_cons (A.g 35 rfl) (evs_cons (A.g 38 rfl) (rfl))) (.cons (.one (.d _)) (.cons (.one (.row rfl (by exact (A.row 1038 (by kernel_rfl)).trans rfl) rfl rfl)) .nil)) (ok_impl_SameBytes x.f0.f4 (treeRoot x.f1) (by first | assumption | exact s1.2 | exact o1 | omega) (by first | assumption | exact s1.2 | exact o1 | omega)) (At.freshRows A rfl))) ?_
      refine .cons (fun E A => OpStep.plain rfl (Step.pick (b := true) (p := (pB (decide (x.f0.f4 = (treeRoot x.f1))))) (t := 40) rfl rfl (by exact lt_ok rfl) (A.g 32 rfl) (A.g 39 rfl))) ?_
      refine .cons (fun E A => A.as 40 4) ?_
      exact .nil _ _
     refine TL.nil ?_
     refine T.ret ?_
     refine ⟨[(false, [.d (.bool (decide (x.f0.f4 = (treeRoot x.f1))))])], (.cons rfl .nil), rfl, [], (RetC.rd' ?_ .nil)⟩ <;> ((congr 1; symm; first | (unfold blockOk; rw [txsOk_no (i := i) (by omega) (by omega)]; simp; done) | (rw [List.take_of_length_le (by omega)] at hx2; rw [blockOk_mk (by assumption) (by omega) hx2]; first | done | rfl | assumption | exact decide_eq_true ‹_› | exact decide_eq_false ‹_›) | (rw [List.take_of_length_le (by omega)] at hx2; simp_all [blockOk]; done) | (simp_all [blockOk]; done) | (rw [List.take_of_length_le (by omega)] at hx2; simp_all [blockOk]; omega) | (simp_all [blockOk]; omega)))
    ·
     have hb4' := hb4
     replace hb4' := of_decide_eq_false hb4'
     refine T.draw [⟨20, (.agg [cI l.f0, cI l.f1, cI l.f2, cI l.f3, cI l.f4]), []⟩, ⟨21, (.one (.ptr 3 0)), []⟩, ⟨22, (.agg [cI x.f0.f0, cI x.f0.f1, cI x.f0.f2, cS x.f0.f3, cS x.f0.f4, cI x.f0.f5.f0, cI x.f0.f5.f1, cS x.f0.f5.f2, cS x.f0.f5.f3, .d (.bss x.f0.f5.f4)]), []⟩, ⟨23, (pB true), []⟩, ⟨24, (pB true), []⟩, ⟨25, (.one (.ptr 3 10)), []⟩, ⟨26, (.one (.d (.bss x.f1))), []⟩, ⟨27, (pI (x.f1.length : Int)), []⟩, ⟨28, (.one (.ptr 2 2)), []⟩, ⟨29, (pI l.f2), []⟩, ⟨30, (pB false), []⟩, ⟨31, (pB false), []⟩, ⟨32, (pB false), []⟩, ⟨33, (.tup []), []⟩, ⟨34, (.tup []), []⟩, ⟨35, (.tup []), []⟩, ⟨36, (.tup []), []⟩, ⟨37, (.tup []), []⟩, ⟨38, (.tup []), []⟩, ⟨39, (.tup []), []⟩, ⟨40, (pB false), []⟩, ⟨4, (pB false), []⟩] (by kernel_rfl) (by kernel_rfl) ?_ ?_
     ·
      refine .cons (fun E A => OpStep.plain rfl (Step.load_box_agg (n := 5) (qs := [cI l.f0, cI l.f1, cI l.f2, cI l.f3, cI l.f4]) (t := 20) rfl rfl (by exact lt_ok rfl) (by kernel_rfl) (A.g 2 rfl) (by exact A.box rfl) rfl rfl)) ?_
      refine .cons (fun E A => OpStep.plain rfl (Step.fa (off := 0) (n := 10) (one := false) 0 21 (A.g 3 rfl))) ?_
      refine .cons (fun E A => OpStep.plain rfl (Step.load_box_agg (n := 10) (qs := [cI x.f0.f0, cI x.f0.f1, cI x.f0.f2, cS x.f0.f3, cS x.f0.f4, cI x.f0.f5.f0, cI x.f0.f5.f1, cS x.f0.f5.f2, cS x.f0.f5.f3, .d (.bss x.f0.f5.f4)]) (t := 22) rfl rfl (by exact lt_ok rfl) (by kernel_rfl) (A.g 21 rfl) (by exact A.box rfl) rfl rfl)) ?_
      refine .cons (fun E A => OpStep.plain rfl (Step.tb 23 (headOk l x.f0) hb3 (Step.cd (xs := [.tmp 20, .tmp 22]) (ps := [(.agg [cI l.f0, cI l.f1, cI l.f2, cI l.f3, cI l.f4]), (.agg [cI x.f0.f0, cI x.f0.f1, cI x.f0.f2, cS x.f0.f3, cS x.f0.f4, cI x.f0.f5.f0, cI x.f0.f5.f1, cS x.f0.f5.f2, cS x.f0.f5.f3, .d (.bss x.f0.f5.f4)])]) (g := .func 106) false 23 (evs_cons (A.g 20 rfl) (evs_cons (A.g 22 rfl) (rfl))) (.cons (.agg (.cons (.d _) (.cons (.d _) (.cons (.d _) (.cons (.d _) (.cons (.d _) .nil)))))) (.cons (.agg (.cons (.d _) (.cons (.d _) (.cons (.d _) (.cons (.d _) (.cons (.d _) (.cons (.d _) (.cons (.d _) (.cons (.d _) (.cons (.d _) (.cons (.d _) .nil))))))))))) .nil)) (ok_impl_HeadOk l x.f0 (by first | assumption | exact mem_getD o0 (by omega) | exact mem_getD h0_ (by omega)) (by first | assumption | exact mem_getD s0.2 (by omega) | exact mem_getD h1_ (by omega))) (At.freshRows A rfl)))) ?_
      refine .cons (fun E A => A.mv 23 24) ?_
      refine .cons (fun E A => A.y 24 (Step.fa (off := 10) (n := 1) (one := true) 0 25 (A.g 3 rfl))) ?_
      refine .cons (fun E A => A.y 24 (Step.load_box (c := .d (.bss x.f1)) (t := 26) rfl rfl (by exact lt_ok rfl) (by kernel_rfl) (A.g 25 rfl) (by exact A.box rfl) rfl)) ?_
      refine .cons (fun E A => A.y 24 (Step.len (e := 24) (z := 1) (d := (.bss x.f1)) (t := 27) rfl rfl (by exact lt_ok rfl) (by kernel_rfl) (A.g 26 rfl) rfl)) ?_
      refine .cons (fun E A => A.y 24 (Step.fa (off := 2) (n := 1) (one := true) 0 28 (A.g 2 rfl))) ?_
      refine .cons (fun E A => A.y 24 (Step.load_box (c := cI l.f2) (t := 29) rfl rfl (by exact lt_ok rfl) (by kernel_rfl) (A.g 28 rfl) (by exact A.box rfl) rfl)) ?_
      refine .cons (fun E A => A.y 24 (Step.tb 30 (decide ((x.f1.length : Int) ≤ l.f2)) hb4 (Step.bd 30 (A.g 27 rfl) (A.g 29 rfl) (Bin.leq (k := .i64) (a := (x.f1.length : Int)) (b := l.f2))))) ?_
      refine .cons (fun E A => OpStep.plain rfl (Step.pick (b := true) (p := (pB false)) (t := 31) rfl rfl (by exact lt_ok rfl) (A.g 24 rfl) (A.g 30 rfl))) ?_
      refine .cons (fun E A => A.mv 31 32) ?_
      refine .cons (fun E A => A.of 32) ?_
      refine .cons (fun E A => A.of 32) ?_
      refine .cons (fun E A => A.of 32) ?_
      refine .cons (fun E A => A.of 32) ?_
      refine .cons (fun E A => A.of 32) ?_
      refine .cons (fun E A => A.of 32) ?_
      refine .cons (fun E A => A.of 32) ?_
      refine .cons (fun E A => OpStep.plain rfl (Step.pick (b := false) (p := (pB false)) (t := 40) rfl rfl (by exact lt_ok rfl) (A.g 32 rfl) rfl)) ?_
      refine .cons (fun E A => A.as 40 4) ?_
      exact .nil _ _
     refine TL.nil ?_
     refine T.ret ?_
     refine ⟨[(false, [.d (.bool false)])], (.cons rfl .nil), rfl, [], (RetC.rd' ?_ .nil)⟩ <;> ((congr 1; symm; first | (unfold blockOk; rw [txsOk_no (i := i) (by omega) (by omega)]; simp; done) | (rw [List.take_of_length_le (by omega)] at hx2; rw [blockOk_mk (by assumption) (by omega) hx2]; first | done | rfl | assumption | exact decide_eq_true ‹_› | exact decide_eq_false ‹_›) | (rw [List.take_of_length_le (by omega)] at hx2; simp_all [blockOk]; done) | (simp_all [blockOk]; done) | (rw [List.take_of_length_le (by omega)] at hx2; simp_all [blockOk]; omega) | (simp_all [blockOk]; omega)))
   ·
    refine T.draw [⟨20, (.agg [cI l.f0, cI l.f1, cI l.f2, cI l.f3, cI l.f4]), []⟩, ⟨21, (.one (.ptr 3 0)), []⟩, ⟨22, (.agg [cI x.f0.f0, cI x.f0.f1, cI x.f0.f2, cS x.f0.f3, cS x.f0.f4, cI x.f0.f5.f0, cI x.f0.f5.f1, cS x.f0.f5.f2, cS x.f0.f5.f3, .d (.bss x.f0.f5.f4)]), []⟩, ⟨23, (pB false), []⟩, ⟨24, (pB false), []⟩, ⟨25, (.tup []), []⟩, ⟨26, (.tup []), []⟩, ⟨27, (.tup []), []⟩, ⟨28, (.tup []), []⟩, ⟨29, (.tup []), []⟩, ⟨30, (.tup []), []⟩, ⟨31, (pB false), []⟩, ⟨32, (pB false), []⟩, ⟨33, (.tup []), []⟩, ⟨34, (.tup []), []⟩, ⟨35, (.tup []), []⟩, ⟨36, (.tup []), []⟩, ⟨37, (.tup []), []⟩, ⟨38, (.tup []), []⟩, ⟨39, (.tup []), []⟩, ⟨40, (pB false), []⟩, ⟨4, (pB false), []⟩] (by kernel_rfl) (by kernel_rfl) ?_ ?_
    ·
     refine .cons (fun E A => OpStep.plain rfl (Step.load_box_agg (n := 5) (qs := [cI l.f0, cI l.f1, cI l.f2, cI l.f3, cI l.f4]) (t := 20) rfl rfl (by exact lt_ok rfl) (by kernel_rfl) (A.g 2 rfl) (by exact A.box rfl) rfl rfl)) ?_
     refine .cons (fun E A => OpStep.plain rfl (Step.fa (off := 0) (n := 10) (one := false) 0 21 (A.g 3 rfl))) ?_
     refine .cons (fun E A => OpStep.plain rfl (Step.load_box_agg (n := 10) (qs := [cI x.f0.f0, cI x.f0.f1, cI x.f0.f2, cS x.f0.f3, cS x.f0.f4, cI x.f0.f5.f0, cI x.f0.f5.f1, cS x.f0.f5.f2, cS x.f0.f5.f3, .d (.bss x.f0.f5.f4)]) (t := 22) rfl rfl (by exact lt_ok rfl) (by kernel_rfl) (A.g 21 rfl) (by exact A.box rfl) rfl rfl)) ?_
     refine .cons (fun E A => OpStep.plain rfl (Step.tb 23 (headOk l x.f0) hb3 (Step.cd (xs := [.tmp 20, .tmp 22]) (ps := [(.agg [cI l.f0, cI l.f1, cI l.f2, cI l.f3, cI l.f4]), (.agg [cI x.f0.f0, cI x.f0.f1, cI x.f0.f2, cS x.f0.f3, cS x.f0.f4, cI x.f0.f5.f0, cI x.f0.f5.f1, cS x.f0.f5.f2, cS x.f0.f5.f3, .d (.bss x.f0.f5.f4)])]) (g := .func 106) false 23 (evs_cons (A.g 20 rfl) (evs_cons (A.g 22 rfl) (rfl))) (.cons (.agg (.cons (.d _) (.cons (.d _) (.cons (.d _) (.cons (.d _) (.cons (.d _) .nil)))))) (.cons (.agg (.cons (.d _) (.cons (.d _) (.cons (.d _) (.cons (.d _) (.cons (.d _) (.cons (.d _) (.cons (.d _) (.cons (.d _) (.cons (.d _) (.cons (.d _) .nil))))))))))) .nil)) (ok_impl_HeadOk l x.f0 (by first | assumption | exact mem_getD o0 (by omega) | exact mem_getD h0_ (by omega)) (by first | assumption | exact mem_getD s0.2 (by omega) | exact mem_getD h1_ (by omega))) (At.freshRows A rfl)))) ?_
     refine .cons (fun E A => A.mv 23 24) ?_
     refine .cons (fun E A => A.of 24) ?_
     refine .cons (fun E A => A.of 24) ?_
     refine .cons (fun E A => A.of 24) ?_
     refine .cons (fun E A => A.of 24) ?_
     refine .cons (fun E A => A.of 24) ?_
     refine .cons (fun E A => A.of 24) ?_
     refine .cons (fun E A => OpStep.plain rfl (Step.pick (b := false) (p := (pB false)) (t := 31) rfl rfl (by exact lt_ok rfl) (A.g 24 rfl) rfl)) ?_
     refine .cons (fun E A => A.mv 31 32) ?_
     refine .cons (fun E A => A.of 32) ?_
     refine .cons (fun E A => A.of 32) ?_
     refine .cons (fun E A => A.of 32) ?_
     refine .cons (fun E A => A.of 32) ?_
     refine .cons (fun E A => A.of 32) ?_
     refine .cons (fun E A => A.of 32) ?_
     refine .cons (fun E A => A.of 32) ?_
     refine .cons (fun E A => OpStep.plain rfl (Step.pick (b := false) (p := (pB false)) (t := 40) rfl rfl (by exact lt_ok rfl) (A.g 32 rfl) rfl)) ?_
     refine .cons (fun E A => A.as 40 4) ?_
     exact .nil _ _
    refine TL.nil ?_
    refine T.ret ?_
    refine ⟨[(false, [.d (.bool false)])], (.cons rfl .nil), rfl, [], (RetC.rd' ?_ .nil)⟩ <;> ((congr 1; symm; first | (unfold blockOk; rw [txsOk_no (i := i) (by omega) (by omega)]; simp; done) | (rw [List.take_of_length_le (by omega)] at hx2; rw [blockOk_mk (by assumption) (by omega) hx2]; first | done | rfl | assumption | exact decide_eq_true ‹_› | exact decide_eq_false ‹_›) | (rw [List.take_of_length_le (by omega)] at hx2; simp_all [blockOk]; done) | (simp_all [blockOk]; done) | (rw [List.take_of_length_le (by omega)] at hx2; simp_all [blockOk]; omega) | (simp_all [blockOk]; omega)))
theorem ok_impl_PutText (b : List Int) (x : List Int) (h0_ : b.length ≤ 8796093022208) (h1_ : x.length ≤ 1099511627776) : RO Try.prog 85 [.one (.ints .u8 b), .one (.ints .u8 x)] [(false, [.own 5 (.ints .u8 (putVar b (x.length : Int) ++ x))])] := by
 refine RO.intro Try.func85 rfl 17 rfl (le_ok rfl) fun w Z => ?_
 refine T.bnd 0 0 rfl rfl fun hb_0_0 => ?_
 simp only [D.size, List.length_map] at hb_0_0
 refine T.bnd 1 0 rfl rfl fun hb_1_0 => ?_
 simp only [D.size, List.length_map] at hb_1_0
 refine T.seq ?_
 refine T.region ?_
 refine TL.as (.one (.nil)) ?_
 refine TL.nil ?_
 refine T.seq ?_
 refine T.region ?_
 refine TL.mv (pS b) ?_
 refine TL.mv (pS x) ?_
 refine TL.c (Step.len (e := 5) (z := 1) (d := (.ints .u8 x)) rfl rfl (lt_ok rfl) (by kernel_rfl) rfl rfl) ?_
 have nn1 := putVar_len b (x.length : Int)
 refine TL.c (Step.cl (xs := [.tmp 8, .tmp 10]) (ps := [(pS b), (pI (x.length : Int))]) (g := .func 129) false (.cons (.one (.d _)) (.cons (.one (.d _)) .nil)) (ok_impl_PutVar b (x.length : Int) (by first | omega | assumption | (simp only [List.length_append] at *; omega)))) ?_
 refine TL.mv (.tup [(false, [.row 1011 []]), (false, [.d (.bool (decide (0 ≤ (x.length : Int) ∧ (x.length : Int) ≤ 1152921504606846975)))])]) ?_
 refine TL.c (Step.extract (p := (.one (.row 1011 []))) rfl rfl (lt_ok rfl) rfl rfl) ?_
 refine TL.c (Step.extract (p := (pB (decide (0 ≤ (x.length : Int) ∧ (x.length : Int) ≤ 1152921504606846975)))) rfl rfl (lt_ok rfl) rfl rfl) ?_
 refine TL.as (.one (.row 1011 [])) ?_
 refine TL.as (pB (decide (0 ≤ (x.length : Int) ∧ (x.length : Int) ≤ 1152921504606846975))) ?_
 refine TL.nil ?_
 refine T.seq ?_
 refine T.region ?_
 refine TL.mv (.one (.row 1011 [])) ?_
 refine TL.mv (pS x) ?_
 refine TL.c (Step.append (e := 5) (z := 1) (by_ := 1) (d := (.ints .u8 (putVar b (x.length : Int)))) (dy := (.ints .u8 x)) (d' := (.ints .u8 ((putVar b (x.length : Int)) ++ x))) (ss := []) rfl rfl (lt_ok rfl) (by kernel_rfl) rfl rfl rfl (lt_ok rfl) rfl (.froz rfl (by simp [D.flat, D.val])) (by simp) rfl (by simp only [D.size, List.length_map]; first | omega | (simp only [List.length_append, List.length_cons, List.length_nil]; omega) | (simp; omega) | (simp only [List.length_append] at *; omega)) (by simp only [D.size, List.length_map]; first | omega | (simp only [List.length_append, List.length_cons, List.length_nil]; omega) | (simp; omega) | (simp only [List.length_append] at *; omega)) (by simp)) ?_
 refine TL.as (.one (.row 1011 [])) ?_
 refine TL.nil ?_
 refine T.ret ?_
 refine ⟨[(false, [.row 1011 []])], (.cons rfl .nil), rfl, [1011], (RetC.own' rfl ?_ rfl .nil)⟩ <;> (rfl)
theorem ok_impl_PutBlock (l : SLimits) (b : List Int) (x : SBlock) (h0_ : b.length ≤ 549755813888) (h1_ : x.ok) (h2_ : x.sm) : RO Try.prog 29 [.agg l.cells, .one (.ints .u8 b), .agg x.cells] [(false, [.own 5 (.ints .u8 (putBlock l b x))]), (false, [.rd (.bool (blockOk l x))])] := by
 refine RO.intro Try.func29 rfl 49 rfl (le_ok rfl) fun w Z => ?_
 refine T.bnd 1 0 rfl rfl fun hb_1_0 => ?_
 simp only [D.size, List.length_map] at hb_1_0
 refine T.bnd 2 3 rfl rfl fun hb_2_3 => ?_
 simp only [D.size, List.length_map] at hb_2_3
 refine T.bnd 2 4 rfl rfl fun hb_2_4 => ?_
 simp only [D.size, List.length_map] at hb_2_4
 refine T.bnd 2 7 rfl rfl fun hb_2_7 => ?_
 simp only [D.size, List.length_map] at hb_2_7
 refine T.bnd 2 8 rfl rfl fun hb_2_8 => ?_
 simp only [D.size, List.length_map] at hb_2_8
 refine T.bnd 2 9 rfl rfl fun hb_2_9 => ?_
 simp only [D.size, List.length_map] at hb_2_9
 refine T.bnd 2 10 rfl rfl fun hb_2_10 => ?_
 simp only [D.size, List.length_map] at hb_2_10
 have hok_ := h1_
 have hsm_ := h2_
 obtain ⟨o0, o1⟩ := h1_
 obtain ⟨s0, s1⟩ := h2_
 refine T.seq ?_
 refine T.region ?_
 refine TL.c (Step.box (p := (.agg [cI l.f0, cI l.f1, cI l.f2, cI l.f3, cI l.f4])) (ps := [cI l.f0, cI l.f1, cI l.f2, cI l.f3, cI l.f4]) rfl rfl (lt_ok rfl) rfl rfl rfl rfl rfl) ?_
 refine TL.c (Step.box (p := (.agg [cI x.f0.f0, cI x.f0.f1, cI x.f0.f2, cS x.f0.f3, cS x.f0.f4, cI x.f0.f5.f0, cI x.f0.f5.f1, cS x.f0.f5.f2, cS x.f0.f5.f3, .d (.bss x.f0.f5.f4), .d (.bss x.f1)])) (ps := [cI x.f0.f0, cI x.f0.f1, cI x.f0.f2, cS x.f0.f3, cS x.f0.f4, cI x.f0.f5.f0, cI x.f0.f5.f1, cS x.f0.f5.f2, cS x.f0.f5.f3, .d (.bss x.f0.f5.f4), .d (.bss x.f1)]) rfl rfl (lt_ok rfl) rfl rfl rfl rfl rfl) ?_
 refine TL.as (.one (.nil)) ?_
 refine TL.as (pB false) ?_
 refine TL.nil ?_
 refine T.seq ?_
 refine T.seq ?_
 refine T.region ?_
 refine TL.c (Step.load_box_agg (n := 5) (qs := [cI l.f0, cI l.f1, cI l.f2, cI l.f3, cI l.f4]) rfl rfl (lt_ok rfl) (by kernel_rfl) rfl rfl rfl rfl) ?_
 refine TL.c (Step.load_box_agg (n := 11) (qs := [cI x.f0.f0, cI x.f0.f1, cI x.f0.f2, cS x.f0.f3, cS x.f0.f4, cI x.f0.f5.f0, cI x.f0.f5.f1, cS x.f0.f5.f2, cS x.f0.f5.f3, .d (.bss x.f0.f5.f4), .d (.bss x.f1)]) rfl rfl (lt_ok rfl) (by kernel_rfl) rfl rfl rfl rfl) ?_
 refine TL.c (Step.cl (xs := [.tmp 11, .tmp 12]) (ps := [(.agg [cI l.f0, cI l.f1, cI l.f2, cI l.f3, cI l.f4]), (.agg [cI x.f0.f0, cI x.f0.f1, cI x.f0.f2, cS x.f0.f3, cS x.f0.f4, cI x.f0.f5.f0, cI x.f0.f5.f1, cS x.f0.f5.f2, cS x.f0.f5.f3, .d (.bss x.f0.f5.f4), .d (.bss x.f1)])]) (g := .func 84) false (.cons (.agg (.cons (.d _) (.cons (.d _) (.cons (.d _) (.cons (.d _) (.cons (.d _) .nil)))))) (.cons (.agg (.cons (.d _) (.cons (.d _) (.cons (.d _) (.cons (.d _) (.cons (.d _) (.cons (.d _) (.cons (.d _) (.cons (.d _) (.cons (.d _) (.cons (.d _) (.cons (.d _) .nil)))))))))))) .nil)) (ok_impl_BlockOk l x (by first | assumption | exact hok_) (by first | assumption | exact hsm_))) ?_
 refine TL.c (Step.not (b := (blockOk l x)) rfl rfl (lt_ok rfl) rfl) ?_
 refine TL.nil ?_
 refine T.cond (b := !(blockOk l x)) rfl (fun h1 => ?_) (fun h1 => ?_)
 ·
  replace h1 : (blockOk l x) = false := by simpa only [Bool.not_eq_true', Bool.not_eq_false'] using h1
  refine T.seq ?_
  refine T.region ?_
  refine TL.as (.one (.nil)) ?_
  refine TL.as (pB false) ?_
  refine TL.nil ?_
  refine T.ret ?_
  refine ⟨[(false, [.nil]), (false, [.d (.bool false)])], (.cons rfl (.cons rfl .nil)), rfl, [], (RetC.nilown' rfl ?_ (by first | exact trivial | exact D.wf_nil _) (RetC.rd' ?_ .nil))⟩ <;> (first | (congr 1; first | (rw [putBlock_yes hk_]; unfold putBlockB; rw [foldl_all putTextB _ x.f1 i (by omega)]; done) | (rw [putBlock_yes hk_]; unfold putBlockB putHead; rw [if_pos hp1_, foldl_all putTextB _ x.f1 i (by omega)]; done) | (symm; first | assumption | simpa using ‹(!(blockOk l x)) = true›)) | (simp only [D.size]; rw [putBlock_no (l := l) (x := x) (by first | assumption | simpa using ‹(!(blockOk l x)) = true›)]; rfl))
 ·
  replace h1 : (blockOk l x) = true := by simpa only [Bool.not_eq_true', Bool.not_eq_false'] using h1
  have hk_ : blockOk l x = true := by first | assumption | simpa using ‹(!(blockOk l x)) = false›
  obtain ⟨hp1_, hp2_, hp3_, hp4_⟩ := blockOk_all hk_
  have hn8_ := blockOk_n hk_
  refine T.skip ?_
  refine T.seq ?_
  refine T.region ?_
  refine TL.mv (pS b) ?_
  refine TL.c (Step.cl (xs := [.tmp 15]) (ps := [(pS b)]) (g := .func 76) false (.cons (.one (.d _)) .nil) (ok_impl_copyBytes b (by first | omega | assumption | (simp only [List.length_take, List.length_drop]; omega)))) ?_
  refine TL.c (Step.build (zs := [.slice none 0 0]) (places := [(0, 1)]) (pss := [(0, [.row 1016 []])]) (ps' := [.row 1016 []]) rfl rfl (lt_ok rfl) (by kernel_rfl) (.cons ⟨rfl, rfl⟩ .nil) rfl rfl rfl) ?_
  refine TL.c (Step.box (p := (.agg [.row 1016 []])) (ps := [.row 1016 []]) rfl rfl (lt_ok rfl) rfl rfl rfl rfl rfl) ?_
  refine TL.as (.one (.ptr 18 0)) ?_
  refine TL.ren 1016 101800 rfl (by simp) ?_
  refine TL.nil ?_
  refine T.seq ?_
  refine T.region ?_
  refine TL.mv (.one (.ptr 18 0)) ?_
  refine TL.c (Step.fieldAddr (q := 0) (off := 0) (n := 10) (one := false) rfl rfl (lt_ok rfl) (by kernel_rfl) (Nat.succ_ne_zero _) rfl) ?_
  refine TL.c (Step.load_box_agg (n := 10) (qs := [cI x.f0.f0, cI x.f0.f1, cI x.f0.f2, cS x.f0.f3, cS x.f0.f4, cI x.f0.f5.f0, cI x.f0.f5.f1, cS x.f0.f5.f2, cS x.f0.f5.f3, .d (.bss x.f0.f5.f4)]) rfl rfl (lt_ok rfl) (by kernel_rfl) rfl rfl rfl rfl) ?_
  have nn2 := @putHeadB_len b x.f0 (by first | assumption | exact mem_getD s0.2 (by omega))
  refine TL.c (Step.callX2 (b := 18) (xs := [.tmp 19, .tmp 21]) (ps := [(.one (.ptr 18 0)), (.agg [cI x.f0.f0, cI x.f0.f1, cI x.f0.f2, cS x.f0.f3, cS x.f0.f4, cI x.f0.f5.f0, cI x.f0.f5.f1, cS x.f0.f5.f2, cS x.f0.f5.f3, .d (.bss x.f0.f5.f4)])]) (bps := [.row 101800 []]) (ss := [101800]) (g := .func 78) (ok_impl_writer__head b x.f0 (by first | omega | assumption | (simp only [List.length_append] at *; omega)) (by first | assumption | exact mem_getD s0.2 (by omega))) rfl rfl (lt_ok rfl) rfl (by kernel_rfl) rfl (.cons (.bx) (.cons (.rd (.agg (.cons (.d _) (.cons (.d _) (.cons (.d _) (.cons (.d _) (.cons (.d _) (.cons (.d _) (.cons (.d _) (.cons (.d _) (.cons (.d _) (.cons (.d _) .nil)))))))))))) .nil)) rfl (.own rfl (by simp) .nil) rfl rfl (by simp) rfl) ?_
  refine TL.ren 1022 101800 rfl (by simp) ?_
  refine TL.nil ?_
  refine T.seq ?_
  refine T.region ?_
  refine TL.mv (.one (.ptr 18 0)) ?_
  refine TL.c (Step.fieldAddr (q := 0) (off := 10) (n := 1) (one := true) rfl rfl (lt_ok rfl) (by kernel_rfl) (Nat.succ_ne_zero _) rfl) ?_
  refine TL.c (Step.load_box (c := .d (.bss x.f1)) rfl rfl (lt_ok rfl) (by kernel_rfl) rfl rfl rfl) ?_
  refine TL.c (Step.len (e := 24) (z := 1) (d := (.bss x.f1)) rfl rfl (lt_ok rfl) (by kernel_rfl) rfl rfl) ?_
  have nn3 := putVar_len (putHeadB b x.f0) (x.f1.length : Int)
  refine TL.c (Step.callX2 (b := 18) (xs := [.tmp 23, .tmp 26]) (ps := [(.one (.ptr 18 0)), (pI (x.f1.length : Int))]) (bps := [.row 101800 []]) (ss := [101800]) (g := .func 77) (ok_impl_writer__num (putHeadB b x.f0) (x.f1.length : Int) (by first | omega | assumption | (simp only [List.length_append] at *; omega))) rfl rfl (lt_ok rfl) rfl (by kernel_rfl) rfl (.cons (.bx) (.cons (.rd (.one (.d _))) .nil)) rfl (.own rfl (by simp) .nil) rfl rfl (by simp) rfl) ?_
  refine TL.ren 1027 101800 rfl (by simp) ?_
  refine TL.nil ?_
  refine T.seq ?_
  refine T.seq ?_
  refine T.region ?_
  refine TL.c (Step.fieldAddr (q := 0) (off := 10) (n := 1) (one := true) rfl rfl (lt_ok rfl) (by kernel_rfl) (Nat.succ_ne_zero _) rfl) ?_
  refine TL.c (Step.load_box (c := .d (.bss x.f1)) rfl rfl (lt_ok rfl) (by kernel_rfl) rfl rfl rfl) ?_
  refine TL.c (Step.len (e := 24) (z := 1) (d := (.bss x.f1)) rfl rfl (lt_ok rfl) (by kernel_rfl) rfl rfl) ?_
  refine TL.mv (pI 0) ?_
  refine TL.nil ?_
  refine T.block ?_
  refine T.loop (ι := Nat) (fun xx_ => { tm := [(6, (.one (.nil))), (7, (pB false)), (8, (.one (.ptr 18 0))), (29, (.one (.d (.bss x.f1)))), (30, (pI (x.f1.length : Int))), (31, (pI (xx_ : Int)))], rows := [(101800, (5, (.ints .u8 ((x.f1.take xx_).foldl putTextB (putVar (putHeadB b x.f0) (x.f1.length : Int))))))], boxes := [(3, (34, [cI l.f0, cI l.f1, cI l.f2, cI l.f3, cI l.f4])), (5, (56, [cI x.f0.f0, cI x.f0.f1, cI x.f0.f2, cS x.f0.f3, cS x.f0.f4, cI x.f0.f5.f0, cI x.f0.f5.f1, cS x.f0.f5.f2, cS x.f0.f5.f3, .d (.bss x.f0.f5.f4), .d (.bss x.f1)])), (18, (98, [.row 101800 []]))] }) (fun xx_ => xx_ ≤ x.f1.length) (fun xx_ => x.f1.length - xx_) 0 ?_ ?_ ?_
  · refine Env.le_mk ⟨rfl, rfl, rfl, rfl, rfl, ?_, trivial⟩ ⟨?_, trivial⟩ ⟨rfl, rfl, rfl, trivial⟩ <;> (first | (refine congrArg (fun x => some (_, D.ints .u8 x)) ?_; first | (rw [foldl_take_succ putTextB _ _ i [] (by omega)]; first | done | rfl) | rfl) | rfl | (refine congrArg (fun n => PV.one (.d (.int .i64 n))) ?_; first | omega | (simp; done)))
  · exact Nat.zero_le _
  ·
   intro i hx
   try dsimp only at hx ⊢
   have hw_ := txs_len (b := putVar (putHeadB b x.f0) (x.f1.length : Int)) hn8_ s1.2 i
   have hy_ := mem_len s1.2 i
   refine T.seq ?_
   refine T.region ?_
   refine TL.c (Step.bin rfl rfl (lt_ok rfl) rfl rfl (Bin.lss (k := .i64) (a := (i : Int)) (b := (x.f1.length : Int)))) ?_
   refine TL.nil ?_
   refine T.seq ?_
   refine T.cond (b := decide ((i : Int) < (x.f1.length : Int))) rfl (fun h4 => ?_) (fun h4 => ?_)
   ·
    replace h4 := of_decide_eq_true h4
    refine T.skip ?_
    refine T.seq ?_
    refine T.block ?_
    refine T.seq ?_
    refine T.region ?_
    refine TL.c (Step.index (e := 24) (z := 1) (i := (i : Int)) rfl rfl (lt_ok rfl) (by kernel_rfl) rfl rfl rfl (lt_ok rfl) rfl (by first | omega | (simp only [List.length_append] at *; omega) | (simp; omega)) (by simp only [D.size]; first | omega | (simp only [List.length_append] at *; omega) | (simp; omega))) ?_
    refine TL.c (Step.load (e := (.ints .u8 (x.f1.getD i []))) rfl rfl (lt_ok rfl) (by kernel_rfl) rfl rfl) ?_
    refine TL.as (pS (x.f1.getD i [])) ?_
    refine TL.nil ?_
    refine T.region ?_
    refine TL.mv (.one (.ptr 18 0)) ?_
    refine TL.mv (.one (.ptr 18 0)) ?_
    refine TL.c (Step.nilCheck rfl rfl (lt_ok rfl) rfl) ?_
    refine TL.c (Step.fieldAddr (q := 0) (off := 0) (n := 1) (one := true) rfl rfl (lt_ok rfl) (by kernel_rfl) (Nat.succ_ne_zero _) rfl) ?_
    refine TL.c (Step.load_box (c := .row 101800 []) rfl rfl (lt_ok rfl) (by kernel_rfl) rfl rfl rfl) ?_
    refine TL.mv (pS (x.f1.getD i [])) ?_
    have nn5 := putVar_len ((x.f1.take i).foldl putTextB (putVar (putHeadB b x.f0) (x.f1.length : Int))) (((x.f1.getD i [])).length : Int)
    refine TL.c (Step.cl (xs := [.tmp 39, .tmp 40]) (ps := [(.one (.row 101800 [])), (pS (x.f1.getD i []))]) (g := .func 85) false (.cons (.one (.row rfl rfl rfl rfl)) (.cons (.one (.d _)) .nil)) (ok_impl_PutText ((x.f1.take i).foldl putTextB (putVar (putHeadB b x.f0) (x.f1.length : Int))) (x.f1.getD i []) (by first | omega | assumption | (simp only [List.length_append] at *; omega)) (by first | omega | assumption | (simp only [List.length_append] at *; omega)))) ?_
    refine TL.c (Step.nilCheck rfl rfl (lt_ok rfl) rfl) ?_
    refine TL.c (Step.fieldAddr (q := 0) (off := 0) (n := 1) (one := true) rfl rfl (lt_ok rfl) (by kernel_rfl) (Nat.succ_ne_zero _) rfl) ?_
    refine TL.c (Step.store_box (n := 1) (p := (.one (.row 1041 []))) (qs := [.row 1041 []]) (ps' := [.row 1041 []]) rfl rfl (by kernel_rfl) rfl rfl rfl rfl rfl rfl (le_ok rfl) rfl) ?_
    refine TL.weaken (Env.drops_le [101800] _) ?_
    refine TL.ren 1041 101800 rfl (by simp) ?_
    refine TL.nil ?_
    refine T.region ?_
    refine TL.c (Step.bin (r := .int .i64 ((i : Int) + 1)) rfl rfl (lt_ok rfl) rfl rfl (Bin.add (a := (i : Int)) (b := 1) (by first | exact wrap_ok (by first | omega | (simp only [List.length_append] at *; omega) | (simp; omega)) (by first | omega | (simp only [List.length_append] at *; omega) | (simp; omega)) | rfl))) ?_
    refine TL.mv (pI ((i : Int) + 1)) ?_
    refine TL.nil ?_
    refine ⟨i + 1, by omega, by first | omega | (dsimp only; omega), Env.le_mk ⟨rfl, rfl, rfl, rfl, rfl, ?_, trivial⟩ ⟨?_, trivial⟩ ⟨rfl, rfl, rfl, trivial⟩⟩ <;> (first | (refine congrArg (fun x => some (_, D.ints .u8 x)) ?_; first | (rw [foldl_take_succ putTextB _ _ i [] (by omega)]; first | done | rfl) | rfl) | rfl | (refine congrArg (fun n => PV.one (.d (.int .i64 n))) ?_; first | omega | (simp; done)))
   ·
    replace h4 := of_decide_eq_false h4
    refine T.exit ?_
    refine T.seq ?_
    refine T.region ?_
    refine TL.mv (.one (.ptr 18 0)) ?_
    refine TL.c (Step.nilCheck rfl rfl (lt_ok rfl) rfl) ?_
    refine TL.c (Step.fieldAddr (q := 0) (off := 0) (n := 1) (one := true) rfl rfl (lt_ok rfl) (by kernel_rfl) (Nat.succ_ne_zero _) rfl) ?_
    refine TL.c (Step.load_box (c := .row 101800 []) rfl rfl (lt_ok rfl) (by kernel_rfl) rfl rfl rfl) ?_
    refine TL.as (.one (.row 101800 [])) ?_
    refine TL.as (pB true) ?_
    refine TL.nil ?_
    refine T.ret ?_
    refine ⟨[(false, [.row 101800 []]), (false, [.d (.bool true)])], (.cons rfl (.cons rfl .nil)), rfl, [101800], (RetC.own' rfl ?_ rfl (RetC.rd' ?_ .nil))⟩ <;> (first | (congr 1; first | (rw [putBlock_yes hk_]; unfold putBlockB; rw [foldl_all putTextB _ x.f1 i (by omega)]; done) | (rw [putBlock_yes hk_]; unfold putBlockB putHead; rw [if_pos hp1_, foldl_all putTextB _ x.f1 i (by omega)]; done) | (symm; first | assumption | simpa using ‹(!(blockOk l x)) = true›)) | (simp only [D.size]; rw [putBlock_no (l := l) (x := x) (by first | assumption | simpa using ‹(!(blockOk l x)) = true›)]; rfl))
theorem ok_laws_eqByteSS (a : List (List Int)) (b : List (List Int)) : RO Try.prog 58 [.one (.bss a), .one (.bss b)] [(false, [.rd (.bool (decide (a = b)))])] := by
 refine RO.intro Try.func58 rfl 27 rfl (le_ok rfl) fun w Z => ?_
 refine T.bnd 0 0 rfl rfl fun hb_0_0 => ?_
 simp only [D.size, List.length_map] at hb_0_0
 refine T.bnd 1 0 rfl rfl fun hb_1_0 => ?_
 simp only [D.size, List.length_map] at hb_1_0
 refine T.seq ?_
 refine T.region ?_
 refine TL.as (pB false) ?_
 refine TL.nil ?_
 refine T.seq ?_
 refine T.seq ?_
 refine T.region ?_
 refine TL.mv (.one (.d (.bss a))) ?_
 refine TL.c (Step.len (e := 24) (z := 1) (d := (.bss a)) rfl rfl (lt_ok rfl) (by kernel_rfl) rfl rfl) ?_
 refine TL.mv (.one (.d (.bss b))) ?_
 refine TL.c (Step.len (e := 24) (z := 1) (d := (.bss b)) rfl rfl (lt_ok rfl) (by kernel_rfl) rfl rfl) ?_
 refine TL.c (Step.bin rfl rfl (lt_ok rfl) rfl rfl (Bin.neq (k := .i64) (a := (a.length : Int)) (b := (b.length : Int)))) ?_
 refine TL.nil ?_
 refine T.cond (b := decide ((a.length : Int) ≠ (b.length : Int))) rfl (fun h1 => ?_) (fun h1 => ?_)
 ·
  replace h1 := of_decide_eq_true h1
  refine T.seq ?_
  refine T.region ?_
  refine TL.as (pB false) ?_
  refine TL.nil ?_
  refine T.ret ?_
  refine ⟨[(false, [.d (.bool false)])], (.cons rfl .nil), rfl, [], (RetC.rd' ?_ .nil)⟩ <;> ((congr 1; symm; first | (apply decide_eq_false; rintro rfl; first | exact absurd rfl ‹¬ _ = _› | exact absurd rfl (of_decide_eq_false (by assumption)) | contradiction | simp_all) | (apply decide_eq_true; exact take_all hx2 (by omega) hx3)))
 ·
  replace h1 := of_decide_eq_false h1
  refine T.skip ?_
  refine T.seq ?_
  refine T.seq ?_
  refine T.region ?_
  refine TL.as (pI 0) ?_
  refine TL.nil ?_
  refine T.block ?_
  refine T.loop (ι := Nat) (fun xx_ => { tm := [(0, (.one (.d (.bss a)))), (1, (.one (.d (.bss b)))), (5, (pI (xx_ : Int)))], rows := [], boxes := [] }) (fun xx_ => xx_ ≤ a.length ∧ a.length = b.length ∧ a.take xx_ = b.take xx_) (fun xx_ => a.length - xx_) 0 ?_ ?_ ?_
  · refine Env.le_mk ⟨rfl, rfl, ?_, trivial⟩ trivial trivial <;> (first | rfl | (simp; done) | (congr 3; omega))
  · (refine ⟨Nat.zero_le _, by omega, by simp⟩)
  ·
   intro i hx
   try dsimp only at hx ⊢
   obtain ⟨hx1, hx2, hx3⟩ := hx
   refine T.seq ?_
   refine T.seq ?_
   refine T.region ?_
   refine TL.mv (pI (i : Int)) ?_
   refine TL.mv (.one (.d (.bss a))) ?_
   refine TL.c (Step.len (e := 24) (z := 1) (d := (.bss a)) rfl rfl (lt_ok rfl) (by kernel_rfl) rfl rfl) ?_
   refine TL.c (Step.bin rfl rfl (lt_ok rfl) rfl rfl (Bin.lss (k := .i64) (a := (i : Int)) (b := (a.length : Int)))) ?_
   refine TL.nil ?_
   refine T.cond (b := decide ((i : Int) < (a.length : Int))) rfl (fun h2 => ?_) (fun h2 => ?_)
   ·
    replace h2 := of_decide_eq_true h2
    refine T.skip ?_
    refine T.seq ?_
    refine T.block ?_
    refine T.seq ?_
    refine T.draw [⟨17, (.one (.d (.bss a))), []⟩, ⟨18, (pI (i : Int)), []⟩, ⟨19, (.one (.eptr (.bss a) i 0)), []⟩, ⟨20, (pS (a.getD i [])), []⟩, ⟨21, (.one (.d (.bss b))), []⟩, ⟨22, (pI (i : Int)), []⟩, ⟨23, (.one (.eptr (.bss b) i 0)), []⟩, ⟨24, (pS (b.getD i [])), []⟩, ⟨25, (pB (decide ((a.getD i []) = (b.getD i [])))), []⟩, ⟨26, (pB (!(decide ((a.getD i []) = (b.getD i []))))), []⟩] (by kernel_rfl) (by kernel_rfl) ?_ ?_
    ·
     refine .cons (fun E A => A.mv 0 17) ?_
     refine .cons (fun E A => A.mv 5 18) ?_
     refine .cons (fun E A => OpStep.plain rfl (Step.index (e := 24) (z := 1) (i := (i : Int)) (t := 19) rfl rfl (by exact lt_ok rfl) (by kernel_rfl) (A.g 17 rfl) rfl rfl (lt_ok rfl) (A.g 18 rfl) (by first | omega | (simp; omega)) (by simp only [D.size]; first | omega | (simp; omega)))) ?_
     refine .cons (fun E A => OpStep.plain rfl (Step.load (e := (.ints .u8 (a.getD i []))) (t := 20) rfl rfl (by exact lt_ok rfl) (by kernel_rfl) (A.g 19 rfl) rfl)) ?_
     refine .cons (fun E A => A.mv 1 21) ?_
     refine .cons (fun E A => A.mv 5 22) ?_
     refine .cons (fun E A => OpStep.plain rfl (Step.index (e := 24) (z := 1) (i := (i : Int)) (t := 23) rfl rfl (by exact lt_ok rfl) (by kernel_rfl) (A.g 21 rfl) rfl rfl (lt_ok rfl) (A.g 22 rfl) (by first | omega | (simp; omega)) (by simp only [D.size]; first | omega | (simp; omega)))) ?_
     refine .cons (fun E A => OpStep.plain rfl (Step.load (e := (.ints .u8 (b.getD i []))) (t := 24) rfl rfl (by exact lt_ok rfl) (by kernel_rfl) (A.g 23 rfl) rfl)) ?_
     refine .cons (fun E A => OpStep.plain rfl (Step.cd (xs := [.tmp 20, .tmp 24]) (ps := [(pS (a.getD i [])), (pS (b.getD i []))]) (g := .func 21) false 25 (evs_cons (A.g 20 rfl) (evs_cons (A.g 24 rfl) (rfl))) (.cons (.one (.d _)) (.cons (.one (.d _)) .nil)) (ok_laws_eqByteS (a.getD i []) (b.getD i [])) (At.freshRows A rfl))) ?_
     refine .cons (fun E A => OpStep.plain rfl (Step.not (b := (decide ((a.getD i []) = (b.getD i [])))) (t := 26) rfl rfl (by exact lt_ok rfl) (A.g 25 rfl))) ?_
     exact .nil _ _
    refine TL.nil ?_
    refine T.cond (b := !(decide ((a.getD i []) = (b.getD i [])))) rfl (fun h3 => ?_) (fun h3 => ?_)
    ·
     replace h3 : (decide ((a.getD i []) = (b.getD i []))) = false := by simpa only [Bool.not_eq_true', Bool.not_eq_false'] using h3
     replace h3 := of_decide_eq_false h3
     refine T.seq ?_
     refine T.region ?_
     refine TL.as (pB false) ?_
     refine TL.nil ?_
     refine T.ret ?_
     refine ⟨[(false, [.d (.bool false)])], (.cons rfl .nil), rfl, [], (RetC.rd' ?_ .nil)⟩ <;> ((congr 1; symm; first | (apply decide_eq_false; rintro rfl; first | exact absurd rfl ‹¬ _ = _› | exact absurd rfl (of_decide_eq_false (by assumption)) | contradiction | simp_all) | (apply decide_eq_true; exact take_all hx2 (by omega) hx3)))
    ·
     replace h3 : (decide ((a.getD i []) = (b.getD i []))) = true := by simpa only [Bool.not_eq_true', Bool.not_eq_false'] using h3
     replace h3 := of_decide_eq_true h3
     refine T.skip ?_
     refine T.region ?_
     refine TL.mv (pI (i : Int)) ?_
     refine TL.c (Step.bin (r := .int .i64 ((i : Int) + 1)) rfl rfl (lt_ok rfl) rfl rfl (Bin.add (a := (i : Int)) (b := 1) (by first | exact wrap_ok (by first | omega | (simp; omega)) (by first | omega | (simp; omega)) | rfl))) ?_
     refine TL.as (pI ((i : Int) + 1)) ?_
     refine TL.nil ?_
     refine ⟨i + 1, by (refine ⟨by omega, hx2, take_step (d := []) hx2 (by omega) hx3 (by first | assumption | exact Decidable.not_not.1 (by assumption) | omega)⟩), by omega, Env.le_mk ⟨rfl, rfl, ?_, trivial⟩ trivial trivial⟩ <;> (first | rfl | (simp; done) | (congr 3; omega))
   ·
    replace h2 := of_decide_eq_false h2
    refine T.exit ?_
    refine T.seq ?_
    refine T.region ?_
    refine TL.as (pB true) ?_
    refine TL.nil ?_
    refine T.ret ?_
    refine ⟨[(false, [.d (.bool true)])], (.cons rfl .nil), rfl, [], (RetC.rd' ?_ .nil)⟩ <;> ((congr 1; symm; first | (apply decide_eq_false; rintro rfl; first | exact absurd rfl ‹¬ _ = _› | exact absurd rfl (of_decide_eq_false (by assumption)) | contradiction | simp_all) | (apply decide_eq_true; exact take_all hx2 (by omega) hx3)))
end Go.Proofs.Ytlcmflenbddliaa.Rf
