/- The functions that FnExactGetProof calls, each held to what it answers. Printed by a program of this session; Lean checks it. -/
import Derived.Test.YtlcmflenbddliaaProg
import Derived.Test.YtlcmflenbddliaaRFnExactGetProofx2
namespace Go.Proofs.Ytlcmflenbddliaa.Rf
open Go.RowKit
set_option linter.unusedVariables false
set_option linter.unnecessarySimpa false
set_option linter.unusedSimpArgs false
set_option maxRecDepth 100000
set_option maxHeartbeats 4000000
theorem ok_impl_LimitsOk (l : SLimits) : RO Try.prog 135 [.agg l.cells] [(false, [.rd (.bool (limOk l))])] := by
 refine RO.intro Try.func135 rfl 26 rfl (le_ok rfl) fun w Z => ?_
 refine T.seq ?_
 refine T.region ?_
 refine TL.cons rfl (Step.box (p := (.agg [.d (.int .i64 l.f0), .d (.int .i64 l.f1), .d (.int .i64 l.f2), .d (.int .i64 l.f3), .d (.int .i64 l.f4)])) (ps := [.d (.int .i64 l.f0), .d (.int .i64 l.f1), .d (.int .i64 l.f2), .d (.int .i64 l.f3), .d (.int .i64 l.f4)]) rfl rfl (lt_ok rfl) rfl rfl rfl rfl rfl) ?_
 refine TL.cons rfl (Step.assign (p := (.one (.d (.bool false)))) rfl rfl (lt_ok rfl) rfl) ?_
 refine TL.nil ?_
 refine T.seq ?_
 refine T.region ?_
 refine TL.cons rfl (Step.fieldAddr (q := 0) (off := 0) (n := 1) (one := true) rfl rfl (lt_ok rfl) (by kernel_rfl) (Nat.succ_ne_zero _) rfl) ?_
 refine TL.cons rfl (Step.load_box (c := .d (.int .i64 l.f0)) rfl rfl (lt_ok rfl) (by kernel_rfl) rfl rfl rfl) ?_
 refine TL.cons rfl (Step.call (f := 117) (xs := [.tmp 4, .const (.int .i64 1), .const (.int .i64 10)]) (ps := [(.one (.d (.int .i64 l.f0))), (.one (.d (.int .i64 1))), (.one (.d (.int .i64 10)))]) false (g := .func 117) rfl rfl (lt_ok rfl) rfl (by kernel_rfl) rfl (.cons (.one (.d _)) (.cons (.one (.d _)) (.cons (.one (.d _)) .nil))) (ok_impl_within l.f0 1 10) (.inr rfl) rfl (by simp) rfl) ?_
 refine TL.cons rfl (Step.move (p := (.one (.d (.bool (decide (1 ≤ l.f0 ∧ l.f0 ≤ 10)))))) rfl rfl (lt_ok rfl) rfl) ?_
 rcases Bool.eq_false_or_eq_true (decide (1 ≤ l.f0 ∧ l.f0 ≤ 10)) with hb1 | hb1
 ·
  refine TL.known 6 hb1 rfl ?_
  refine TL.gyes 6 rfl rfl (lt_ok rfl) rfl (Step.fieldAddr (q := 0) (off := 1) (n := 1) (one := true) rfl rfl (lt_ok rfl) (by kernel_rfl) (Nat.succ_ne_zero _) rfl) ?_
  refine TL.gyes 6 rfl rfl (lt_ok rfl) rfl (Step.load_box (c := .d (.int .i64 l.f1)) rfl rfl (lt_ok rfl) (by kernel_rfl) rfl rfl rfl) ?_
  refine TL.gyes 6 rfl rfl (lt_ok rfl) rfl (Step.call (f := 117) (xs := [.tmp 8, .const (.int .i64 0), .const (.int .i64 40)]) (ps := [(.one (.d (.int .i64 l.f1))), (.one (.d (.int .i64 0))), (.one (.d (.int .i64 40)))]) false (g := .func 117) rfl rfl (lt_ok rfl) rfl (by kernel_rfl) rfl (.cons (.one (.d _)) (.cons (.one (.d _)) (.cons (.one (.d _)) .nil))) (ok_impl_within l.f1 0 40) (.inr rfl) rfl (by simp) rfl) ?_
  refine TL.cons rfl (Step.pick (b := true) (p := (.one (.d (.bool (decide (0 ≤ l.f1 ∧ l.f1 ≤ 40)))))) rfl rfl (lt_ok rfl) rfl rfl) ?_
  refine TL.cons rfl (Step.move (p := (.one (.d (.bool (decide (0 ≤ l.f1 ∧ l.f1 ≤ 40)))))) rfl rfl (lt_ok rfl) rfl) ?_
  rcases Bool.eq_false_or_eq_true (decide (0 ≤ l.f1 ∧ l.f1 ≤ 40)) with hb2 | hb2
  ·
   refine TL.known 11 hb2 rfl ?_
   refine TL.gyes 11 rfl rfl (lt_ok rfl) rfl (Step.fieldAddr (q := 0) (off := 2) (n := 1) (one := true) rfl rfl (lt_ok rfl) (by kernel_rfl) (Nat.succ_ne_zero _) rfl) ?_
   refine TL.gyes 11 rfl rfl (lt_ok rfl) rfl (Step.load_box (c := .d (.int .i64 l.f2)) rfl rfl (lt_ok rfl) (by kernel_rfl) rfl rfl rfl) ?_
   refine TL.gyes 11 rfl rfl (lt_ok rfl) rfl (Step.call (f := 117) (xs := [.tmp 13, .const (.int .i64 0), .const (.int .i64 8)]) (ps := [(.one (.d (.int .i64 l.f2))), (.one (.d (.int .i64 0))), (.one (.d (.int .i64 8)))]) false (g := .func 117) rfl rfl (lt_ok rfl) rfl (by kernel_rfl) rfl (.cons (.one (.d _)) (.cons (.one (.d _)) (.cons (.one (.d _)) .nil))) (ok_impl_within l.f2 0 8) (.inr rfl) rfl (by simp) rfl) ?_
   refine TL.cons rfl (Step.pick (b := true) (p := (.one (.d (.bool (decide (0 ≤ l.f2 ∧ l.f2 ≤ 8)))))) rfl rfl (lt_ok rfl) rfl rfl) ?_
   refine TL.cons rfl (Step.move (p := (.one (.d (.bool (decide (0 ≤ l.f2 ∧ l.f2 ≤ 8)))))) rfl rfl (lt_ok rfl) rfl) ?_
   rcases Bool.eq_false_or_eq_true (decide (0 ≤ l.f2 ∧ l.f2 ≤ 8)) with hb3 | hb3
   ·
    refine TL.known 16 hb3 rfl ?_
    refine TL.gyes 16 rfl rfl (lt_ok rfl) rfl (Step.fieldAddr (q := 0) (off := 3) (n := 1) (one := true) rfl rfl (lt_ok rfl) (by kernel_rfl) (Nat.succ_ne_zero _) rfl) ?_
    refine TL.gyes 16 rfl rfl (lt_ok rfl) rfl (Step.load_box (c := .d (.int .i64 l.f3)) rfl rfl (lt_ok rfl) (by kernel_rfl) rfl rfl rfl) ?_
    refine TL.gyes 16 rfl rfl (lt_ok rfl) rfl (Step.call (f := 117) (xs := [.tmp 18, .const (.int .i64 1), .const (.int .i64 4000)]) (ps := [(.one (.d (.int .i64 l.f3))), (.one (.d (.int .i64 1))), (.one (.d (.int .i64 4000)))]) false (g := .func 117) rfl rfl (lt_ok rfl) rfl (by kernel_rfl) rfl (.cons (.one (.d _)) (.cons (.one (.d _)) (.cons (.one (.d _)) .nil))) (ok_impl_within l.f3 1 4000) (.inr rfl) rfl (by simp) rfl) ?_
    refine TL.cons rfl (Step.pick (b := true) (p := (.one (.d (.bool (decide (1 ≤ l.f3 ∧ l.f3 ≤ 4000)))))) rfl rfl (lt_ok rfl) rfl rfl) ?_
    refine TL.cons rfl (Step.move (p := (.one (.d (.bool (decide (1 ≤ l.f3 ∧ l.f3 ≤ 4000)))))) rfl rfl (lt_ok rfl) rfl) ?_
    rcases Bool.eq_false_or_eq_true (decide (1 ≤ l.f3 ∧ l.f3 ≤ 4000)) with hb4 | hb4
    ·
     refine TL.known 21 hb4 rfl ?_
     refine TL.gyes 21 rfl rfl (lt_ok rfl) rfl (Step.fieldAddr (q := 0) (off := 4) (n := 1) (one := true) rfl rfl (lt_ok rfl) (by kernel_rfl) (Nat.succ_ne_zero _) rfl) ?_
     refine TL.gyes 21 rfl rfl (lt_ok rfl) rfl (Step.load_box (c := .d (.int .i64 l.f4)) rfl rfl (lt_ok rfl) (by kernel_rfl) rfl rfl rfl) ?_
     refine TL.gyes 21 rfl rfl (lt_ok rfl) rfl (Step.call (f := 117) (xs := [.tmp 23, .const (.int .i64 3), .const (.int .i64 5)]) (ps := [(.one (.d (.int .i64 l.f4))), (.one (.d (.int .i64 3))), (.one (.d (.int .i64 5)))]) false (g := .func 117) rfl rfl (lt_ok rfl) rfl (by kernel_rfl) rfl (.cons (.one (.d _)) (.cons (.one (.d _)) (.cons (.one (.d _)) .nil))) (ok_impl_within l.f4 3 5) (.inr rfl) rfl (by simp) rfl) ?_
     refine TL.cons rfl (Step.pick (b := true) (p := (.one (.d (.bool (decide (3 ≤ l.f4 ∧ l.f4 ≤ 5)))))) rfl rfl (lt_ok rfl) rfl rfl) ?_
     refine TL.cons rfl (Step.assign (p := (.one (.d (.bool (decide (3 ≤ l.f4 ∧ l.f4 ≤ 5)))))) rfl rfl (lt_ok rfl) rfl) ?_
     refine TL.nil ?_
     refine T.ret ?_
     refine ⟨[(false, [.d (.bool (decide (3 ≤ l.f4 ∧ l.f4 ≤ 5)))])], (.cons rfl .nil), rfl, [], (RetC.rd' ?_ .nil)⟩ <;> (first | rfl | (congr 1; symm; simp only [limOk, *, Bool.and_true, Bool.true_and, Bool.and_false, Bool.false_and, decide_true, decide_false, and_true, true_and, and_self, and_false, false_and, Bool.and_self, not_true, not_false, Bool.not_true, Bool.not_false, ge_iff_le, gt_iff_lt, if_true, if_false, Bool.false_eq_true, ite_true, ite_false, reduceIte]; done) | (congr 1; symm; simp_all [limOk]; done) | (congr 1; symm; simp_all [limOk]; omega))
    ·
     refine TL.known 21 hb4 rfl ?_
     refine TL.goff 21 rfl rfl (lt_ok rfl) rfl rfl rfl (lt_ok rfl) ?_
     refine TL.goff 21 rfl rfl (lt_ok rfl) rfl rfl rfl (lt_ok rfl) ?_
     refine TL.goff 21 rfl rfl (lt_ok rfl) rfl rfl rfl (lt_ok rfl) ?_
     refine TL.cons rfl (Step.pick (b := false) (p := (.one (.d (.bool false)))) rfl rfl (lt_ok rfl) rfl rfl) ?_
     refine TL.cons rfl (Step.assign (p := (.one (.d (.bool false)))) rfl rfl (lt_ok rfl) rfl) ?_
     refine TL.nil ?_
     refine T.ret ?_
     refine ⟨[(false, [.d (.bool false)])], (.cons rfl .nil), rfl, [], (RetC.rd' ?_ .nil)⟩ <;> (first | rfl | (congr 1; symm; simp only [limOk, *, Bool.and_true, Bool.true_and, Bool.and_false, Bool.false_and, decide_true, decide_false, and_true, true_and, and_self, and_false, false_and, Bool.and_self, not_true, not_false, Bool.not_true, Bool.not_false, ge_iff_le, gt_iff_lt, if_true, if_false, Bool.false_eq_true, ite_true, ite_false, reduceIte]; done) | (congr 1; symm; simp_all [limOk]; done) | (congr 1; symm; simp_all [limOk]; omega))
   ·
    refine TL.known 16 hb3 rfl ?_
    refine TL.goff 16 rfl rfl (lt_ok rfl) rfl rfl rfl (lt_ok rfl) ?_
    refine TL.goff 16 rfl rfl (lt_ok rfl) rfl rfl rfl (lt_ok rfl) ?_
    refine TL.goff 16 rfl rfl (lt_ok rfl) rfl rfl rfl (lt_ok rfl) ?_
    refine TL.cons rfl (Step.pick (b := false) (p := (.one (.d (.bool false)))) rfl rfl (lt_ok rfl) rfl rfl) ?_
    refine TL.cons rfl (Step.move (p := (.one (.d (.bool false)))) rfl rfl (lt_ok rfl) rfl) ?_
    refine TL.goff 21 rfl rfl (lt_ok rfl) rfl rfl rfl (lt_ok rfl) ?_
    refine TL.goff 21 rfl rfl (lt_ok rfl) rfl rfl rfl (lt_ok rfl) ?_
    refine TL.goff 21 rfl rfl (lt_ok rfl) rfl rfl rfl (lt_ok rfl) ?_
    refine TL.cons rfl (Step.pick (b := false) (p := (.one (.d (.bool false)))) rfl rfl (lt_ok rfl) rfl rfl) ?_
    refine TL.cons rfl (Step.assign (p := (.one (.d (.bool false)))) rfl rfl (lt_ok rfl) rfl) ?_
    refine TL.nil ?_
    refine T.ret ?_
    refine ⟨[(false, [.d (.bool false)])], (.cons rfl .nil), rfl, [], (RetC.rd' ?_ .nil)⟩ <;> (first | rfl | (congr 1; symm; simp only [limOk, *, Bool.and_true, Bool.true_and, Bool.and_false, Bool.false_and, decide_true, decide_false, and_true, true_and, and_self, and_false, false_and, Bool.and_self, not_true, not_false, Bool.not_true, Bool.not_false, ge_iff_le, gt_iff_lt, if_true, if_false, Bool.false_eq_true, ite_true, ite_false, reduceIte]; done) | (congr 1; symm; simp_all [limOk]; done) | (congr 1; symm; simp_all [limOk]; omega))
  ·
   refine TL.known 11 hb2 rfl ?_
   refine TL.goff 11 rfl rfl (lt_ok rfl) rfl rfl rfl (lt_ok rfl) ?_
   refine TL.goff 11 rfl rfl (lt_ok rfl) rfl rfl rfl (lt_ok rfl) ?_
   refine TL.goff 11 rfl rfl (lt_ok rfl) rfl rfl rfl (lt_ok rfl) ?_
   refine TL.cons rfl (Step.pick (b := false) (p := (.one (.d (.bool false)))) rfl rfl (lt_ok rfl) rfl rfl) ?_
   refine TL.cons rfl (Step.move (p := (.one (.d (.bool false)))) rfl rfl (lt_ok rfl) rfl) ?_
   refine TL.goff 16 rfl rfl (lt_ok rfl) rfl rfl rfl (lt_ok rfl) ?_
   refine TL.goff 16 rfl rfl (lt_ok rfl) rfl rfl rfl (lt_ok rfl) ?_
   refine TL.goff 16 rfl rfl (lt_ok rfl) rfl rfl rfl (lt_ok rfl) ?_
   refine TL.cons rfl (Step.pick (b := false) (p := (.one (.d (.bool false)))) rfl rfl (lt_ok rfl) rfl rfl) ?_
   refine TL.cons rfl (Step.move (p := (.one (.d (.bool false)))) rfl rfl (lt_ok rfl) rfl) ?_
   refine TL.goff 21 rfl rfl (lt_ok rfl) rfl rfl rfl (lt_ok rfl) ?_
   refine TL.goff 21 rfl rfl (lt_ok rfl) rfl rfl rfl (lt_ok rfl) ?_
   refine TL.goff 21 rfl rfl (lt_ok rfl) rfl rfl rfl (lt_ok rfl) ?_
   refine TL.cons rfl (Step.pick (b := false) (p := (.one (.d (.bool false)))) rfl rfl (lt_ok rfl) rfl rfl) ?_
   refine TL.cons rfl (Step.assign (p := (.one (.d (.bool false)))) rfl rfl (lt_ok rfl) rfl) ?_
   refine TL.nil ?_
   refine T.ret ?_
   refine ⟨[(false, [.d (.bool false)])], (.cons rfl .nil), rfl, [], (RetC.rd' ?_ .nil)⟩ <;> (first | rfl | (congr 1; symm; simp only [limOk, *, Bool.and_true, Bool.true_and, Bool.and_false, Bool.false_and, decide_true, decide_false, and_true, true_and, and_self, and_false, false_and, Bool.and_self, not_true, not_false, Bool.not_true, Bool.not_false, ge_iff_le, gt_iff_lt, if_true, if_false, Bool.false_eq_true, ite_true, ite_false, reduceIte]; done) | (congr 1; symm; simp_all [limOk]; done) | (congr 1; symm; simp_all [limOk]; omega))
 ·
  refine TL.known 6 hb1 rfl ?_
  refine TL.goff 6 rfl rfl (lt_ok rfl) rfl rfl rfl (lt_ok rfl) ?_
  refine TL.goff 6 rfl rfl (lt_ok rfl) rfl rfl rfl (lt_ok rfl) ?_
  refine TL.goff 6 rfl rfl (lt_ok rfl) rfl rfl rfl (lt_ok rfl) ?_
  refine TL.cons rfl (Step.pick (b := false) (p := (.one (.d (.bool false)))) rfl rfl (lt_ok rfl) rfl rfl) ?_
  refine TL.cons rfl (Step.move (p := (.one (.d (.bool false)))) rfl rfl (lt_ok rfl) rfl) ?_
  refine TL.goff 11 rfl rfl (lt_ok rfl) rfl rfl rfl (lt_ok rfl) ?_
  refine TL.goff 11 rfl rfl (lt_ok rfl) rfl rfl rfl (lt_ok rfl) ?_
  refine TL.goff 11 rfl rfl (lt_ok rfl) rfl rfl rfl (lt_ok rfl) ?_
  refine TL.cons rfl (Step.pick (b := false) (p := (.one (.d (.bool false)))) rfl rfl (lt_ok rfl) rfl rfl) ?_
  refine TL.cons rfl (Step.move (p := (.one (.d (.bool false)))) rfl rfl (lt_ok rfl) rfl) ?_
  refine TL.goff 16 rfl rfl (lt_ok rfl) rfl rfl rfl (lt_ok rfl) ?_
  refine TL.goff 16 rfl rfl (lt_ok rfl) rfl rfl rfl (lt_ok rfl) ?_
  refine TL.goff 16 rfl rfl (lt_ok rfl) rfl rfl rfl (lt_ok rfl) ?_
  refine TL.cons rfl (Step.pick (b := false) (p := (.one (.d (.bool false)))) rfl rfl (lt_ok rfl) rfl rfl) ?_
  refine TL.cons rfl (Step.move (p := (.one (.d (.bool false)))) rfl rfl (lt_ok rfl) rfl) ?_
  refine TL.goff 21 rfl rfl (lt_ok rfl) rfl rfl rfl (lt_ok rfl) ?_
  refine TL.goff 21 rfl rfl (lt_ok rfl) rfl rfl rfl (lt_ok rfl) ?_
  refine TL.goff 21 rfl rfl (lt_ok rfl) rfl rfl rfl (lt_ok rfl) ?_
  refine TL.cons rfl (Step.pick (b := false) (p := (.one (.d (.bool false)))) rfl rfl (lt_ok rfl) rfl rfl) ?_
  refine TL.cons rfl (Step.assign (p := (.one (.d (.bool false)))) rfl rfl (lt_ok rfl) rfl) ?_
  refine TL.nil ?_
  refine T.ret ?_
  refine ⟨[(false, [.d (.bool false)])], (.cons rfl .nil), rfl, [], (RetC.rd' ?_ .nil)⟩ <;> (first | rfl | (congr 1; symm; simp only [limOk, *, Bool.and_true, Bool.true_and, Bool.and_false, Bool.false_and, decide_true, decide_false, and_true, true_and, and_self, and_false, false_and, Bool.and_self, not_true, not_false, Bool.not_true, Bool.not_false, ge_iff_le, gt_iff_lt, if_true, if_false, Bool.false_eq_true, ite_true, ite_false, reduceIte]; done) | (congr 1; symm; simp_all [limOk]; done) | (congr 1; symm; simp_all [limOk]; omega))
theorem ok_impl_Proof_ (l : SLimits) (b : List Int) (a : Int) (h0_ : U8s b) (h1_ : b.length ≤ 1048576) : RO Try.prog 94 [.agg l.cells, .one (.ints .u8 b), .one (.int .i64 a), .one (.fn 95)] [(true, [.own 54 (.sl 10 ((getProof l b a).1.f0.map SHead.cells)), .rd (.int .i64 (getProof l b a).1.f1.f0), .rd (.int .i64 (getProof l b a).1.f1.f1), .own 5 (.ints .u8 (getProof l b a).1.f1.f2), .own 5 (.ints .u8 (getProof l b a).1.f1.f3), .own 24 (.bss (getProof l b a).1.f1.f4)]), (false, [.rd (.int .i64 (getProof l b a).2.1)]), (false, [.rd (.int .i64 (getProof l b a).2.2)])] := by
 refine RO.intro Try.func94 rfl 41 rfl (le_ok rfl) fun w Z => ?_
 refine T.bnd 1 0 rfl rfl fun hb_1_0 => ?_
 simp only [D.size, List.length_map] at hb_1_0
 refine T.seq ?_
 refine T.region ?_
 refine TL.cons rfl (Step.box (p := (.agg [.d (.int .i64 l.f0), .d (.int .i64 l.f1), .d (.int .i64 l.f2), .d (.int .i64 l.f3), .d (.int .i64 l.f4)])) (ps := [.d (.int .i64 l.f0), .d (.int .i64 l.f1), .d (.int .i64 l.f2), .d (.int .i64 l.f3), .d (.int .i64 l.f4)]) rfl rfl (lt_ok rfl) rfl rfl rfl rfl rfl) ?_
 refine TL.cons rfl (Step.alloc (cs := [.slice none 0 0, .int .i64 0, .int .i64 0, .slice none 0 0, .slice none 0 0, .slice none 0 0]) (ps := [.nil, .d (.int .i64 0), .d (.int .i64 0), .nil, .nil, .nil]) rfl rfl (lt_ok rfl) (by kernel_rfl) rfl rfl rfl rfl) ?_
 refine TL.cons rfl (Step.assign (p := (.one (.d (.int .i64 0)))) rfl rfl (lt_ok rfl) rfl) ?_
 refine TL.cons rfl (Step.assign (p := (.one (.d (.int .i64 0)))) rfl rfl (lt_ok rfl) rfl) ?_
 refine TL.nil ?_
 refine T.seq ?_
 refine T.region ?_
 refine TL.cons rfl (Step.alloc (cs := [.slice none 0 0, .int .i64 0, .int .i64 0, .slice none 0 0, .slice none 0 0, .slice none 0 0]) (ps := [.nil, .d (.int .i64 0), .d (.int .i64 0), .nil, .nil, .nil]) rfl rfl (lt_ok rfl) (by kernel_rfl) rfl rfl rfl rfl) ?_
 refine TL.nil ?_
 refine T.seq ?_
 refine T.seq ?_
 refine T.region ?_
 refine TL.cons rfl (Step.load_box_agg (n := 5) (qs := [.d (.int .i64 l.f0), .d (.int .i64 l.f1), .d (.int .i64 l.f2), .d (.int .i64 l.f3), .d (.int .i64 l.f4)]) rfl rfl (lt_ok rfl) (by kernel_rfl) rfl rfl rfl rfl) ?_
 refine TL.cons rfl (Step.call (f := 135) (xs := [.tmp 14]) (ps := [(.agg [.d (.int .i64 l.f0), .d (.int .i64 l.f1), .d (.int .i64 l.f2), .d (.int .i64 l.f3), .d (.int .i64 l.f4)])]) false (g := .func 135) rfl rfl (lt_ok rfl) rfl (by kernel_rfl) rfl (.cons (.agg (.cons (.d _) (.cons (.d _) (.cons (.d _) (.cons (.d _) (.cons (.d _) .nil)))))) .nil) (ok_impl_LimitsOk l) (.inr rfl) rfl (by simp) rfl) ?_
 refine TL.cons rfl (Step.not (b := (limOk l)) rfl rfl (lt_ok rfl) rfl) ?_
 refine TL.nil ?_
 refine T.cond (b := !(limOk l)) rfl (fun h1 => ?_) (fun h1 => ?_)
 ·
  replace h1 : (limOk l) = false := by simpa only [Bool.not_eq_true', Bool.not_eq_false'] using h1
  refine T.seq ?_
  refine T.region ?_
  refine TL.cons rfl (Step.load_box_agg (n := 6) (qs := [.nil, .d (.int .i64 0), .d (.int .i64 0), .nil, .nil, .nil]) rfl rfl (lt_ok rfl) (by kernel_rfl) rfl rfl rfl rfl) ?_
  refine TL.cons rfl (Step.store_box (n := 6) (p := (.agg [.nil, .d (.int .i64 0), .d (.int .i64 0), .nil, .nil, .nil])) (qs := [.nil, .d (.int .i64 0), .d (.int .i64 0), .nil, .nil, .nil]) (ps' := [.nil, .d (.int .i64 0), .d (.int .i64 0), .nil, .nil, .nil]) rfl rfl (by kernel_rfl) rfl rfl rfl rfl rfl rfl (le_ok rfl) rfl) ?_
  refine TL.cons rfl (Step.assign (p := (.one (.d (.int .i64 0)))) rfl rfl (lt_ok rfl) rfl) ?_
  refine TL.cons rfl (Step.assign (p := (.one (.d (.int .i64 5)))) rfl rfl (lt_ok rfl) rfl) ?_
  refine TL.nil ?_
  refine T.ret ?_
  refine ⟨[(true, [.nil, .d (.int .i64 0), .d (.int .i64 0), .nil, .nil, .nil]), (false, [.d (.int .i64 0)]), (false, [.d (.int .i64 5)])], (.cons rfl (.cons rfl (.cons rfl .nil))), rfl, [], (RetC.nilown' rfl ?_ (by first | exact trivial | exact D.wf_nil _ | exact wf_map SHead.len _) (RetC.rd' ?_ (RetC.rd' ?_ (RetC.nilown' rfl ?_ (by first | exact trivial | exact D.wf_nil _) (RetC.nilown' rfl ?_ (by first | exact trivial | exact D.wf_nil _) (RetC.nilown' rfl ?_ (by first | exact trivial | exact D.wf_nil _) (RetC.rd' ?_ (RetC.rd' ?_ .nil))))))))⟩ <;> (first | rfl | (congr 1; unfold getProof; first | (rw [getOut_yes (by assumption)]; first | done | rfl) | (rw [getOut_no (by assumption)]; first | done | rfl) | (rw [rs0_ok (by assumption), getOut_yes (by assumption)]; first | done | rfl) | (rw [rs0_ok (by assumption), getOut_no (by assumption)]; first | done | rfl) | (rw [rs0_no (by assumption), getOut_nr (rdProof_er (show ¬ ((5 : Int) = 0) by decide)) rfl]; first | done | rfl)) | (simp only [D.size, List.length_map]; unfold getProof; first | (rw [getOut_yes (by assumption)]; first | done | rfl) | (rw [getOut_no (by assumption)]; first | done | rfl) | (rw [rs0_ok (by assumption), getOut_yes (by assumption)]; first | done | rfl) | (rw [rs0_ok (by assumption), getOut_no (by assumption)]; first | done | rfl) | (rw [rs0_no (by assumption), getOut_nr (rdProof_er (show ¬ ((5 : Int) = 0) by decide)) rfl]; first | done | rfl)))
 ·
  replace h1 : (limOk l) = true := by simpa only [Bool.not_eq_true', Bool.not_eq_false'] using h1
  refine T.skip ?_
  refine T.seq ?_
  refine T.region ?_
  refine TL.cons rfl (Step.move (p := (.one (.d (.ints .u8 b)))) rfl rfl (lt_ok rfl) rfl) ?_
  refine TL.cons rfl (Step.move (p := (.one (.d (.int .i64 a)))) rfl rfl (lt_ok rfl) rfl) ?_
  refine TL.cons rfl (Step.build (zs := [.slice none 0 0, .int .i64 0, .int .i64 0]) (places := [(0, 1), (1, 1), (2, 1)]) (pss := [(0, [.d (.ints .u8 b)]), (1, [.d (.int .i64 a)])]) (ps' := [.d (.ints .u8 b), .d (.int .i64 a), .d (.int .i64 0)]) rfl rfl (lt_ok rfl) (by kernel_rfl) (.cons ⟨rfl, rfl⟩ (.cons ⟨rfl, rfl⟩ .nil)) rfl rfl rfl) ?_
  refine TL.cons rfl (Step.box (p := (.agg [.d (.ints .u8 b), .d (.int .i64 a), .d (.int .i64 0)])) (ps := [.d (.ints .u8 b), .d (.int .i64 a), .d (.int .i64 0)]) rfl rfl (lt_ok rfl) rfl rfl rfl rfl rfl) ?_
  refine TL.cons rfl (Step.assign (p := (.one (.ptr 21 0))) rfl rfl (lt_ok rfl) rfl) ?_
  refine TL.nil ?_
  refine T.seq ?_
  refine T.region ?_
  refine TL.cons rfl (Step.move (p := (.one (.d (.fn 95)))) rfl rfl (lt_ok rfl) rfl) ?_
  refine TL.cons rfl (Step.load_box_agg (n := 5) (qs := [.d (.int .i64 l.f0), .d (.int .i64 l.f1), .d (.int .i64 l.f2), .d (.int .i64 l.f3), .d (.int .i64 l.f4)]) rfl rfl (lt_ok rfl) (by kernel_rfl) rfl rfl rfl rfl) ?_
  refine TL.cons rfl (Step.move (p := (.one (.ptr 21 0))) rfl rfl (lt_ok rfl) rfl) ?_
  have nn2 := @rdProof_sm l b (⟨a, 0⟩ : SRS) (by first | assumption | omega) (by first | assumption | exact rs0_z | exact fun _ => by assumption)
  refine TL.cons rfl (Step.callX2 (b := 21) (xs := [.tmp 23, .tmp 24]) (ps := [(.agg [.d (.int .i64 l.f0), .d (.int .i64 l.f1), .d (.int .i64 l.f2), .d (.int .i64 l.f3), .d (.int .i64 l.f4)]), (.one (.ptr 21 0))]) (bps := [.d (.ints .u8 b), .d (.int .i64 a), .d (.int .i64 0)]) (ss := []) (g := .tmp 22) (ok_impl_readProof b (⟨a, 0⟩ : SRS) l (by assumption) (by first | omega | assumption | (simp only [List.length_append] at *; omega)) (by first | assumption | exact rs0_z | exact fun _ => by assumption)) rfl rfl (lt_ok rfl) rfl (by kernel_rfl) rfl (.cons (.rd (.agg (.cons (.d _) (.cons (.d _) (.cons (.d _) (.cons (.d _) (.cons (.d _) .nil))))))) (.cons (.bx) .nil)) rfl (.rd (.rd (.rd .nil))) rfl rfl (by simp) rfl) ?_
  refine TL.cons rfl (Step.alloc (cs := [.slice none 0 0, .int .i64 0, .int .i64 0, .slice none 0 0, .slice none 0 0, .slice none 0 0]) (ps := [.nil, .d (.int .i64 0), .d (.int .i64 0), .nil, .nil, .nil]) rfl rfl (lt_ok rfl) (by kernel_rfl) rfl rfl rfl rfl) ?_
  refine TL.cons rfl (Step.store_box (n := 6) (p := (.agg [.row 4025 [], .d (.int .i64 (rdProof l b (⟨a, 0⟩ : SRS)).2.f1.f0), .d (.int .i64 (rdProof l b (⟨a, 0⟩ : SRS)).2.f1.f1), .row 7025 [], .row 8025 [], .row 9025 []])) (qs := [.row 4025 [], .d (.int .i64 (rdProof l b (⟨a, 0⟩ : SRS)).2.f1.f0), .d (.int .i64 (rdProof l b (⟨a, 0⟩ : SRS)).2.f1.f1), .row 7025 [], .row 8025 [], .row 9025 []]) (ps' := [.row 4025 [], .d (.int .i64 (rdProof l b (⟨a, 0⟩ : SRS)).2.f1.f0), .d (.int .i64 (rdProof l b (⟨a, 0⟩ : SRS)).2.f1.f1), .row 7025 [], .row 8025 [], .row 9025 []]) rfl rfl (by kernel_rfl) rfl rfl rfl rfl rfl rfl (le_ok rfl) rfl) ?_
  refine TL.nil ?_
  refine T.seq ?_
  refine T.seq ?_
  refine T.region ?_
  refine TL.cons rfl (Step.move (p := (.one (.ptr 21 0))) rfl rfl (lt_ok rfl) rfl) ?_
  refine TL.cons rfl (Step.nilCheck rfl rfl (lt_ok rfl) rfl) ?_
  refine TL.cons rfl (Step.fieldAddr (q := 0) (off := 2) (n := 1) (one := true) rfl rfl (lt_ok rfl) (by kernel_rfl) (Nat.succ_ne_zero _) rfl) ?_
  refine TL.cons rfl (Step.load_box (c := .d (.int .i64 (rdProof l b (⟨a, 0⟩ : SRS)).1.f1)) rfl rfl (lt_ok rfl) (by kernel_rfl) rfl rfl rfl) ?_
  refine TL.cons rfl (Step.bin rfl rfl (lt_ok rfl) rfl rfl (Bin.neq (k := .i64) (a := (rdProof l b (⟨a, 0⟩ : SRS)).1.f1) (b := 0))) ?_
  refine TL.nil ?_
  refine T.cond (b := decide ((rdProof l b (⟨a, 0⟩ : SRS)).1.f1 ≠ 0)) rfl (fun h3 => ?_) (fun h3 => ?_)
  ·
   replace h3 := of_decide_eq_true h3
   refine T.seq ?_
   refine T.drawX [{ dst := some 31, pv := (.agg [.nil, .d (.int .i64 0), .d (.int .i64 0), .nil, .nil, .nil]) }, { dst := some 32, pv := (.one (.ptr 21 0)) }, { dst := some 33, pv := (.one (.ptr 21 0)) }, { dst := some 34, pv := (.one (.ptr 21 2)) }, { dst := some 35, pv := (.one (.d (.int .i64 (rdProof l b (⟨a, 0⟩ : SRS)).1.f1))) }, { box := some (8, (40, [.nil, .d (.int .i64 0), .d (.int .i64 0), .nil, .nil, .nil])) }, { dst := some 9, pv := (.one (.d (.int .i64 0))) }, { dst := some 10, pv := (.one (.d (.int .i64 (rdProof l b (⟨a, 0⟩ : SRS)).1.f1))) }] (by kernel_rfl) (by kernel_rfl) ?_ ?_
   ·
    refine .cons (fun E hA_ => by have g11 : E.get 11 = (.one (.ptr 11 0)) := (hA_.get 11 (by kernel_rfl)).trans (by kernel_rfl); have b11 : E.box 11 = some (40, [.nil, .d (.int .i64 0), .d (.int .i64 0), .nil, .nil, .nil]) := (hA_.box 11 (by kernel_rfl)).trans (by kernel_rfl); exact OpStep.plain rfl (Step.load_box_agg (n := 6) (qs := [.nil, .d (.int .i64 0), .d (.int .i64 0), .nil, .nil, .nil]) (t := 31) rfl rfl (by exact lt_ok rfl) (by kernel_rfl) (show Env.ev E (.tmp 11) = _ from g11.trans rfl) b11 rfl rfl)) ?_
    refine .cons (fun E hA_ => by have g12 : E.get 12 = (.one (.ptr 21 0)) := (hA_.get 12 (by kernel_rfl)).trans (by kernel_rfl); exact OpStep.plain rfl (Step.move (p := (.one (.ptr 21 0))) (t := 32) rfl rfl (by exact lt_ok rfl) (show Env.ev E (.tmp 12) = _ from g12.trans rfl))) ?_
    refine .cons (fun E hA_ => by have g32 : E.get 32 = (.one (.ptr 21 0)) := (hA_.get 32 (by kernel_rfl)).trans (by kernel_rfl); exact OpStep.plain rfl (Step.nilCheck (t := 33) rfl rfl (by exact lt_ok rfl) (show Env.ev E (.tmp 32) = _ from g32.trans rfl))) ?_
    refine .cons (fun E hA_ => by have g33 : E.get 33 = (.one (.ptr 21 0)) := (hA_.get 33 (by kernel_rfl)).trans (by kernel_rfl); exact OpStep.plain rfl (Step.fieldAddr (q := 0) (off := 2) (n := 1) (one := true) (t := 34) rfl rfl (by exact lt_ok rfl) (by kernel_rfl) (Nat.succ_ne_zero _) (show Env.ev E (.tmp 33) = _ from g33.trans rfl))) ?_
    refine .cons (fun E hA_ => by have g34 : E.get 34 = (.one (.ptr 21 2)) := (hA_.get 34 (by kernel_rfl)).trans (by kernel_rfl); have b21 : E.box 21 = some (144, [.d (.ints .u8 b), .d (.int .i64 (rdProof l b (⟨a, 0⟩ : SRS)).1.f0), .d (.int .i64 (rdProof l b (⟨a, 0⟩ : SRS)).1.f1)]) := (hA_.box 21 (by kernel_rfl)).trans (by kernel_rfl); exact OpStep.plain rfl (Step.load_box (c := .d (.int .i64 (rdProof l b (⟨a, 0⟩ : SRS)).1.f1)) (t := 35) rfl rfl (by exact lt_ok rfl) (by kernel_rfl) (show Env.ev E (.tmp 34) = _ from g34.trans rfl) b21 rfl)) ?_
    refine .cons (fun E hA_ => by have g8 : E.get 8 = (.one (.ptr 8 0)) := (hA_.get 8 (by kernel_rfl)).trans (by kernel_rfl); have g31 : E.get 31 = (.agg [.nil, .d (.int .i64 0), .d (.int .i64 0), .nil, .nil, .nil]) := (hA_.get 31 (by kernel_rfl)).trans (by kernel_rfl); have b8 : E.box 8 = some (40, [.nil, .d (.int .i64 0), .d (.int .i64 0), .nil, .nil, .nil]) := (hA_.box 8 (by kernel_rfl)).trans (by kernel_rfl); exact OpStep.plain rfl (Step.store_box (n := 6) (p := (.agg [.nil, .d (.int .i64 0), .d (.int .i64 0), .nil, .nil, .nil])) (qs := [.nil, .d (.int .i64 0), .d (.int .i64 0), .nil, .nil, .nil]) (ps' := [.nil, .d (.int .i64 0), .d (.int .i64 0), .nil, .nil, .nil]) rfl rfl (by kernel_rfl) (show Env.ev E (.tmp 8) = _ from g8.trans rfl) b8 (show Env.ev E (.tmp 31) = _ from g31.trans rfl) rfl rfl rfl (le_ok rfl) rfl)) ?_
    refine .cons (fun E hA_ => by exact OpStep.plain rfl (Step.assign (p := (.one (.d (.int .i64 0)))) (t := 9) rfl rfl (by exact lt_ok rfl) rfl)) ?_
    refine .cons (fun E hA_ => by have g35 : E.get 35 = (.one (.d (.int .i64 (rdProof l b (⟨a, 0⟩ : SRS)).1.f1))) := (hA_.get 35 (by kernel_rfl)).trans (by kernel_rfl); exact OpStep.plain rfl (Step.assign (p := (.one (.d (.int .i64 (rdProof l b (⟨a, 0⟩ : SRS)).1.f1)))) (t := 10) rfl rfl (by exact lt_ok rfl) (show Env.ev E (.tmp 35) = _ from g35.trans rfl))) ?_
    exact .nil _ _
   refine TL.weaken (E' := { tm := [(0, (.agg [.d (.int .i64 l.f0), .d (.int .i64 l.f1), .d (.int .i64 l.f2), .d (.int .i64 l.f3), .d (.int .i64 l.f4)])), (1, (.one (.d (.ints .u8 b)))), (2, (.one (.d (.int .i64 a)))), (3, (.one (.d (.fn 95)))), (4, (.one (.ptr 4 0))), (8, (.one (.ptr 8 0))), (9, (.one (.d (.int .i64 0)))), (10, (.one (.d (.int .i64 (rdProof l b (⟨a, 0⟩ : SRS)).1.f1)))), (11, (.one (.ptr 11 0))), (14, (.agg [.d (.int .i64 l.f0), .d (.int .i64 l.f1), .d (.int .i64 l.f2), .d (.int .i64 l.f3), .d (.int .i64 l.f4)])), (15, (.one (.d (.bool (limOk l))))), (16, (.one (.d (.bool (!(limOk l)))))), (18, (.one (.d (.ints .u8 b)))), (19, (.one (.d (.int .i64 a)))), (20, (.agg [.d (.ints .u8 b), .d (.int .i64 a), .d (.int .i64 0)])), (21, (.one (.ptr 21 0))), (12, (.one (.ptr 21 0))), (22, (.one (.d (.fn 95)))), (23, (.agg [.d (.int .i64 l.f0), .d (.int .i64 l.f1), .d (.int .i64 l.f2), .d (.int .i64 l.f3), .d (.int .i64 l.f4)])), (24, (.one (.ptr 21 0))), (25, (.agg [.row 4025 [], .d (.int .i64 (rdProof l b (⟨a, 0⟩ : SRS)).2.f1.f0), .d (.int .i64 (rdProof l b (⟨a, 0⟩ : SRS)).2.f1.f1), .row 7025 [], .row 8025 [], .row 9025 []])), (13, (.one (.ptr 13 0))), (26, (.one (.ptr 21 0))), (27, (.one (.ptr 21 0))), (28, (.one (.ptr 21 2))), (29, (.one (.d (.int .i64 (rdProof l b (⟨a, 0⟩ : SRS)).1.f1)))), (30, (.one (.d (.bool (decide ((rdProof l b (⟨a, 0⟩ : SRS)).1.f1 ≠ 0)))))), (31, (.agg [.nil, .d (.int .i64 0), .d (.int .i64 0), .nil, .nil, .nil])), (32, (.one (.ptr 21 0))), (33, (.one (.ptr 21 0))), (34, (.one (.ptr 21 2))), (35, (.one (.d (.int .i64 (rdProof l b (⟨a, 0⟩ : SRS)).1.f1))))], rows := [(4025, (54, (.sl 10 ((rdProof l b (⟨a, 0⟩ : SRS)).2.f0.map SHead.cells)))), (7025, (5, (.ints .u8 (rdProof l b (⟨a, 0⟩ : SRS)).2.f1.f2))), (8025, (5, (.ints .u8 (rdProof l b (⟨a, 0⟩ : SRS)).2.f1.f3))), (9025, (24, (.bss (rdProof l b (⟨a, 0⟩ : SRS)).2.f1.f4)))], boxes := [(4, (34, [.d (.int .i64 l.f0), .d (.int .i64 l.f1), .d (.int .i64 l.f2), .d (.int .i64 l.f3), .d (.int .i64 l.f4)])), (8, (40, [.nil, .d (.int .i64 0), .d (.int .i64 0), .nil, .nil, .nil])), (11, (40, [.nil, .d (.int .i64 0), .d (.int .i64 0), .nil, .nil, .nil])), (21, (144, [.d (.ints .u8 b), .d (.int .i64 (rdProof l b (⟨a, 0⟩ : SRS)).1.f0), .d (.int .i64 (rdProof l b (⟨a, 0⟩ : SRS)).1.f1)])), (13, (40, [.row 4025 [], .d (.int .i64 (rdProof l b (⟨a, 0⟩ : SRS)).2.f1.f0), .d (.int .i64 (rdProof l b (⟨a, 0⟩ : SRS)).2.f1.f1), .row 7025 [], .row 8025 [], .row 9025 []]))] }) (Env.le_mk ⟨by kernel_rfl, by kernel_rfl, by kernel_rfl, by kernel_rfl, by kernel_rfl, by kernel_rfl, by kernel_rfl, by kernel_rfl, by kernel_rfl, by kernel_rfl, by kernel_rfl, by kernel_rfl, by kernel_rfl, by kernel_rfl, by kernel_rfl, by kernel_rfl, by kernel_rfl, by kernel_rfl, by kernel_rfl, by kernel_rfl, by kernel_rfl, by kernel_rfl, by kernel_rfl, by kernel_rfl, by kernel_rfl, by kernel_rfl, by kernel_rfl, by kernel_rfl, by kernel_rfl, by kernel_rfl, by kernel_rfl, by kernel_rfl, trivial⟩ ⟨by kernel_rfl, by kernel_rfl, by kernel_rfl, by kernel_rfl, trivial⟩ ⟨by kernel_rfl, by kernel_rfl, by kernel_rfl, by kernel_rfl, by kernel_rfl, trivial⟩) ?_
   refine TL.nil ?_
   refine T.ret ?_
   refine ⟨[(true, [.nil, .d (.int .i64 0), .d (.int .i64 0), .nil, .nil, .nil]), (false, [.d (.int .i64 0)]), (false, [.d (.int .i64 (rdProof l b (⟨a, 0⟩ : SRS)).1.f1)])], (.cons rfl (.cons rfl (.cons rfl .nil))), rfl, [], (RetC.nilown' rfl ?_ (by first | exact trivial | exact D.wf_nil _ | exact wf_map SHead.len _) (RetC.rd' ?_ (RetC.rd' ?_ (RetC.nilown' rfl ?_ (by first | exact trivial | exact D.wf_nil _) (RetC.nilown' rfl ?_ (by first | exact trivial | exact D.wf_nil _) (RetC.nilown' rfl ?_ (by first | exact trivial | exact D.wf_nil _) (RetC.rd' ?_ (RetC.rd' ?_ .nil))))))))⟩ <;> (first | rfl | (congr 1; unfold getProof; first | (rw [getOut_yes (by assumption)]; first | done | rfl) | (rw [getOut_no (by assumption)]; first | done | rfl) | (rw [rs0_ok (by assumption), getOut_yes (by assumption)]; first | done | rfl) | (rw [rs0_ok (by assumption), getOut_no (by assumption)]; first | done | rfl) | (rw [rs0_no (by assumption), getOut_nr (rdProof_er (show ¬ ((5 : Int) = 0) by decide)) rfl]; first | done | rfl)) | (simp only [D.size, List.length_map]; unfold getProof; first | (rw [getOut_yes (by assumption)]; first | done | rfl) | (rw [getOut_no (by assumption)]; first | done | rfl) | (rw [rs0_ok (by assumption), getOut_yes (by assumption)]; first | done | rfl) | (rw [rs0_ok (by assumption), getOut_no (by assumption)]; first | done | rfl) | (rw [rs0_no (by assumption), getOut_nr (rdProof_er (show ¬ ((5 : Int) = 0) by decide)) rfl]; first | done | rfl)))
  ·
   replace h3 := of_decide_eq_false h3
   refine T.skip ?_
   refine T.seq ?_
   refine T.drawX [{ dst := some 36, pv := (.agg [.row 4025 [], .d (.int .i64 (rdProof l b (⟨a, 0⟩ : SRS)).2.f1.f0), .d (.int .i64 (rdProof l b (⟨a, 0⟩ : SRS)).2.f1.f1), .row 7025 [], .row 8025 [], .row 9025 []]) }, { dst := some 37, pv := (.one (.ptr 21 0)) }, { dst := some 38, pv := (.one (.ptr 21 0)) }, { dst := some 39, pv := (.one (.ptr 21 1)) }, { dst := some 40, pv := (.one (.d (.int .i64 (rdProof l b (⟨a, 0⟩ : SRS)).1.f0))) }, { box := some (8, (40, [.row 4025 [], .d (.int .i64 (rdProof l b (⟨a, 0⟩ : SRS)).2.f1.f0), .d (.int .i64 (rdProof l b (⟨a, 0⟩ : SRS)).2.f1.f1), .row 7025 [], .row 8025 [], .row 9025 []])) }, { dst := some 9, pv := (.one (.d (.int .i64 (rdProof l b (⟨a, 0⟩ : SRS)).1.f0))) }, { dst := some 10, pv := (.one (.d (.int .i64 0))) }] (by kernel_rfl) (by kernel_rfl) ?_ ?_
   ·
    refine .cons (fun E hA_ => by have g13 : E.get 13 = (.one (.ptr 13 0)) := (hA_.get 13 (by kernel_rfl)).trans (by kernel_rfl); have b13 : E.box 13 = some (40, [.row 4025 [], .d (.int .i64 (rdProof l b (⟨a, 0⟩ : SRS)).2.f1.f0), .d (.int .i64 (rdProof l b (⟨a, 0⟩ : SRS)).2.f1.f1), .row 7025 [], .row 8025 [], .row 9025 []]) := (hA_.box 13 (by kernel_rfl)).trans (by kernel_rfl); exact OpStep.plain rfl (Step.load_box_agg (n := 6) (qs := [.row 4025 [], .d (.int .i64 (rdProof l b (⟨a, 0⟩ : SRS)).2.f1.f0), .d (.int .i64 (rdProof l b (⟨a, 0⟩ : SRS)).2.f1.f1), .row 7025 [], .row 8025 [], .row 9025 []]) (t := 36) rfl rfl (by exact lt_ok rfl) (by kernel_rfl) (show Env.ev E (.tmp 13) = _ from g13.trans rfl) b13 rfl rfl)) ?_
    refine .cons (fun E hA_ => by have g12 : E.get 12 = (.one (.ptr 21 0)) := (hA_.get 12 (by kernel_rfl)).trans (by kernel_rfl); exact OpStep.plain rfl (Step.move (p := (.one (.ptr 21 0))) (t := 37) rfl rfl (by exact lt_ok rfl) (show Env.ev E (.tmp 12) = _ from g12.trans rfl))) ?_
    refine .cons (fun E hA_ => by have g37 : E.get 37 = (.one (.ptr 21 0)) := (hA_.get 37 (by kernel_rfl)).trans (by kernel_rfl); exact OpStep.plain rfl (Step.nilCheck (t := 38) rfl rfl (by exact lt_ok rfl) (show Env.ev E (.tmp 37) = _ from g37.trans rfl))) ?_
    refine .cons (fun E hA_ => by have g38 : E.get 38 = (.one (.ptr 21 0)) := (hA_.get 38 (by kernel_rfl)).trans (by kernel_rfl); exact OpStep.plain rfl (Step.fieldAddr (q := 0) (off := 1) (n := 1) (one := true) (t := 39) rfl rfl (by exact lt_ok rfl) (by kernel_rfl) (Nat.succ_ne_zero _) (show Env.ev E (.tmp 38) = _ from g38.trans rfl))) ?_
    refine .cons (fun E hA_ => by have g39 : E.get 39 = (.one (.ptr 21 1)) := (hA_.get 39 (by kernel_rfl)).trans (by kernel_rfl); have b21 : E.box 21 = some (144, [.d (.ints .u8 b), .d (.int .i64 (rdProof l b (⟨a, 0⟩ : SRS)).1.f0), .d (.int .i64 (rdProof l b (⟨a, 0⟩ : SRS)).1.f1)]) := (hA_.box 21 (by kernel_rfl)).trans (by kernel_rfl); exact OpStep.plain rfl (Step.load_box (c := .d (.int .i64 (rdProof l b (⟨a, 0⟩ : SRS)).1.f0)) (t := 40) rfl rfl (by exact lt_ok rfl) (by kernel_rfl) (show Env.ev E (.tmp 39) = _ from g39.trans rfl) b21 rfl)) ?_
    refine .cons (fun E hA_ => by have g8 : E.get 8 = (.one (.ptr 8 0)) := (hA_.get 8 (by kernel_rfl)).trans (by kernel_rfl); have g36 : E.get 36 = (.agg [.row 4025 [], .d (.int .i64 (rdProof l b (⟨a, 0⟩ : SRS)).2.f1.f0), .d (.int .i64 (rdProof l b (⟨a, 0⟩ : SRS)).2.f1.f1), .row 7025 [], .row 8025 [], .row 9025 []]) := (hA_.get 36 (by kernel_rfl)).trans (by kernel_rfl); have q4025 : E.row 4025 = some (54, (.sl 10 ((rdProof l b (⟨a, 0⟩ : SRS)).2.f0.map SHead.cells))) := (hA_.row 4025 (by kernel_rfl)).trans (by kernel_rfl); have q7025 : E.row 7025 = some (5, (.ints .u8 (rdProof l b (⟨a, 0⟩ : SRS)).2.f1.f2)) := (hA_.row 7025 (by kernel_rfl)).trans (by kernel_rfl); have q8025 : E.row 8025 = some (5, (.ints .u8 (rdProof l b (⟨a, 0⟩ : SRS)).2.f1.f3)) := (hA_.row 8025 (by kernel_rfl)).trans (by kernel_rfl); have q9025 : E.row 9025 = some (24, (.bss (rdProof l b (⟨a, 0⟩ : SRS)).2.f1.f4)) := (hA_.row 9025 (by kernel_rfl)).trans (by kernel_rfl); have b8 : E.box 8 = some (40, [.nil, .d (.int .i64 0), .d (.int .i64 0), .nil, .nil, .nil]) := (hA_.box 8 (by kernel_rfl)).trans (by kernel_rfl); exact OpStep.plain rfl (Step.store_box (n := 6) (p := (.agg [.row 4025 [], .d (.int .i64 (rdProof l b (⟨a, 0⟩ : SRS)).2.f1.f0), .d (.int .i64 (rdProof l b (⟨a, 0⟩ : SRS)).2.f1.f1), .row 7025 [], .row 8025 [], .row 9025 []])) (qs := [.row 4025 [], .d (.int .i64 (rdProof l b (⟨a, 0⟩ : SRS)).2.f1.f0), .d (.int .i64 (rdProof l b (⟨a, 0⟩ : SRS)).2.f1.f1), .row 7025 [], .row 8025 [], .row 9025 []]) (ps' := [.row 4025 [], .d (.int .i64 (rdProof l b (⟨a, 0⟩ : SRS)).2.f1.f0), .d (.int .i64 (rdProof l b (⟨a, 0⟩ : SRS)).2.f1.f1), .row 7025 [], .row 8025 [], .row 9025 []]) rfl rfl (by kernel_rfl) (show Env.ev E (.tmp 8) = _ from g8.trans rfl) b8 (show Env.ev E (.tmp 36) = _ from g36.trans rfl) rfl rfl (by simp only [List.all_cons, List.all_nil, List.flatten_cons, List.flatten_nil, List.append_nil, List.cons_append, List.nil_append, Env.fine, q4025, q7025, q8025, q9025]; rfl) (le_ok rfl) rfl)) ?_
    refine .cons (fun E hA_ => by have g40 : E.get 40 = (.one (.d (.int .i64 (rdProof l b (⟨a, 0⟩ : SRS)).1.f0))) := (hA_.get 40 (by kernel_rfl)).trans (by kernel_rfl); exact OpStep.plain rfl (Step.assign (p := (.one (.d (.int .i64 (rdProof l b (⟨a, 0⟩ : SRS)).1.f0)))) (t := 9) rfl rfl (by exact lt_ok rfl) (show Env.ev E (.tmp 40) = _ from g40.trans rfl))) ?_
    refine .cons (fun E hA_ => by exact OpStep.plain rfl (Step.assign (p := (.one (.d (.int .i64 0)))) (t := 10) rfl rfl (by exact lt_ok rfl) rfl)) ?_
    exact .nil _ _
   refine TL.weaken (E' := { tm := [(0, (.agg [.d (.int .i64 l.f0), .d (.int .i64 l.f1), .d (.int .i64 l.f2), .d (.int .i64 l.f3), .d (.int .i64 l.f4)])), (1, (.one (.d (.ints .u8 b)))), (2, (.one (.d (.int .i64 a)))), (3, (.one (.d (.fn 95)))), (4, (.one (.ptr 4 0))), (8, (.one (.ptr 8 0))), (9, (.one (.d (.int .i64 (rdProof l b (⟨a, 0⟩ : SRS)).1.f0)))), (10, (.one (.d (.int .i64 0)))), (11, (.one (.ptr 11 0))), (14, (.agg [.d (.int .i64 l.f0), .d (.int .i64 l.f1), .d (.int .i64 l.f2), .d (.int .i64 l.f3), .d (.int .i64 l.f4)])), (15, (.one (.d (.bool (limOk l))))), (16, (.one (.d (.bool (!(limOk l)))))), (18, (.one (.d (.ints .u8 b)))), (19, (.one (.d (.int .i64 a)))), (20, (.agg [.d (.ints .u8 b), .d (.int .i64 a), .d (.int .i64 0)])), (21, (.one (.ptr 21 0))), (12, (.one (.ptr 21 0))), (22, (.one (.d (.fn 95)))), (23, (.agg [.d (.int .i64 l.f0), .d (.int .i64 l.f1), .d (.int .i64 l.f2), .d (.int .i64 l.f3), .d (.int .i64 l.f4)])), (24, (.one (.ptr 21 0))), (25, (.agg [.row 4025 [], .d (.int .i64 (rdProof l b (⟨a, 0⟩ : SRS)).2.f1.f0), .d (.int .i64 (rdProof l b (⟨a, 0⟩ : SRS)).2.f1.f1), .row 7025 [], .row 8025 [], .row 9025 []])), (13, (.one (.ptr 13 0))), (26, (.one (.ptr 21 0))), (27, (.one (.ptr 21 0))), (28, (.one (.ptr 21 2))), (29, (.one (.d (.int .i64 (rdProof l b (⟨a, 0⟩ : SRS)).1.f1)))), (30, (.one (.d (.bool (decide ((rdProof l b (⟨a, 0⟩ : SRS)).1.f1 ≠ 0)))))), (36, (.agg [.row 4025 [], .d (.int .i64 (rdProof l b (⟨a, 0⟩ : SRS)).2.f1.f0), .d (.int .i64 (rdProof l b (⟨a, 0⟩ : SRS)).2.f1.f1), .row 7025 [], .row 8025 [], .row 9025 []])), (37, (.one (.ptr 21 0))), (38, (.one (.ptr 21 0))), (39, (.one (.ptr 21 1))), (40, (.one (.d (.int .i64 (rdProof l b (⟨a, 0⟩ : SRS)).1.f0))))], rows := [(4025, (54, (.sl 10 ((rdProof l b (⟨a, 0⟩ : SRS)).2.f0.map SHead.cells)))), (7025, (5, (.ints .u8 (rdProof l b (⟨a, 0⟩ : SRS)).2.f1.f2))), (8025, (5, (.ints .u8 (rdProof l b (⟨a, 0⟩ : SRS)).2.f1.f3))), (9025, (24, (.bss (rdProof l b (⟨a, 0⟩ : SRS)).2.f1.f4)))], boxes := [(4, (34, [.d (.int .i64 l.f0), .d (.int .i64 l.f1), .d (.int .i64 l.f2), .d (.int .i64 l.f3), .d (.int .i64 l.f4)])), (8, (40, [.row 4025 [], .d (.int .i64 (rdProof l b (⟨a, 0⟩ : SRS)).2.f1.f0), .d (.int .i64 (rdProof l b (⟨a, 0⟩ : SRS)).2.f1.f1), .row 7025 [], .row 8025 [], .row 9025 []])), (11, (40, [.nil, .d (.int .i64 0), .d (.int .i64 0), .nil, .nil, .nil])), (21, (144, [.d (.ints .u8 b), .d (.int .i64 (rdProof l b (⟨a, 0⟩ : SRS)).1.f0), .d (.int .i64 (rdProof l b (⟨a, 0⟩ : SRS)).1.f1)])), (13, (40, [.row 4025 [], .d (.int .i64 (rdProof l b (⟨a, 0⟩ : SRS)).2.f1.f0), .d (.int .i64 (rdProof l b (⟨a, 0⟩ : SRS)).2.f1.f1), .row 7025 [], .row 8025 [], .row 9025 []]))] }) (Env.le_mk ⟨by kernel_rfl, by kernel_rfl, by kernel_rfl, by kernel_rfl, by kernel_rfl, by kernel_rfl, by kernel_rfl, by kernel_rfl, by kernel_rfl, by kernel_rfl, by kernel_rfl, by kernel_rfl, by kernel_rfl, by kernel_rfl, by kernel_rfl, by kernel_rfl, by kernel_rfl, by kernel_rfl, by kernel_rfl, by kernel_rfl, by kernel_rfl, by kernel_rfl, by kernel_rfl, by kernel_rfl, by kernel_rfl, by kernel_rfl, by kernel_rfl, by kernel_rfl, by kernel_rfl, by kernel_rfl, by kernel_rfl, by kernel_rfl, trivial⟩ ⟨by kernel_rfl, by kernel_rfl, by kernel_rfl, by kernel_rfl, trivial⟩ ⟨by kernel_rfl, by kernel_rfl, by kernel_rfl, by kernel_rfl, by kernel_rfl, trivial⟩) ?_
   refine TL.nil ?_
   refine T.ret ?_
   refine ⟨[(true, [.row 4025 [], .d (.int .i64 (rdProof l b (⟨a, 0⟩ : SRS)).2.f1.f0), .d (.int .i64 (rdProof l b (⟨a, 0⟩ : SRS)).2.f1.f1), .row 7025 [], .row 8025 [], .row 9025 []]), (false, [.d (.int .i64 (rdProof l b (⟨a, 0⟩ : SRS)).1.f0)]), (false, [.d (.int .i64 0)])], (.cons rfl (.cons rfl (.cons rfl .nil))), rfl, [4025, 7025, 8025, 9025], (RetC.own' rfl ?_ rfl (RetC.rd' ?_ (RetC.rd' ?_ (RetC.own' rfl ?_ rfl (RetC.own' rfl ?_ rfl (RetC.own' rfl ?_ rfl (RetC.rd' ?_ (RetC.rd' ?_ .nil))))))))⟩ <;> (first | rfl | (congr 1; unfold getProof; first | (rw [getOut_yes (by assumption)]; first | done | rfl) | (rw [getOut_no (by assumption)]; first | done | rfl) | (rw [rs0_ok (by assumption), getOut_yes (by assumption)]; first | done | rfl) | (rw [rs0_ok (by assumption), getOut_no (by assumption)]; first | done | rfl) | (rw [rs0_no (by assumption), getOut_nr (rdProof_er (show ¬ ((5 : Int) = 0) by decide)) rfl]; first | done | rfl)) | (simp only [D.size, List.length_map]; unfold getProof; first | (rw [getOut_yes (by assumption)]; first | done | rfl) | (rw [getOut_no (by assumption)]; first | done | rfl) | (rw [rs0_ok (by assumption), getOut_yes (by assumption)]; first | done | rfl) | (rw [rs0_ok (by assumption), getOut_no (by assumption)]; first | done | rfl) | (rw [rs0_no (by assumption), getOut_nr (rdProof_er (show ¬ ((5 : Int) = 0) by decide)) rfl]; first | done | rfl)))
theorem ok_impl_GetProof (l : SLimits) (b : List Int) (a : Int) (h0_ : U8s b) (h1_ : b.length ≤ 1048576) : RO Try.prog 43 [.agg l.cells, .one (.ints .u8 b), .one (.int .i64 a)] [(true, [.own 54 (.sl 10 ((getProof l b a).1.f0.map SHead.cells)), .rd (.int .i64 (getProof l b a).1.f1.f0), .rd (.int .i64 (getProof l b a).1.f1.f1), .own 5 (.ints .u8 (getProof l b a).1.f1.f2), .own 5 (.ints .u8 (getProof l b a).1.f1.f3), .own 24 (.bss (getProof l b a).1.f1.f4)]), (false, [.rd (.int .i64 (getProof l b a).2.1)]), (false, [.rd (.int .i64 (getProof l b a).2.2)])] := by
 refine RO.intro Try.func43 rfl 16 rfl (le_ok rfl) fun w Z => ?_
 refine T.bnd 1 0 rfl rfl fun hb_1_0 => ?_
 simp only [D.size, List.length_map] at hb_1_0
 refine T.seq ?_
 refine T.region ?_
 refine TL.cons rfl (Step.box (p := (.agg [.d (.int .i64 l.f0), .d (.int .i64 l.f1), .d (.int .i64 l.f2), .d (.int .i64 l.f3), .d (.int .i64 l.f4)])) (ps := [.d (.int .i64 l.f0), .d (.int .i64 l.f1), .d (.int .i64 l.f2), .d (.int .i64 l.f3), .d (.int .i64 l.f4)]) rfl rfl (lt_ok rfl) rfl rfl rfl rfl rfl) ?_
 refine TL.cons rfl (Step.alloc (cs := [.slice none 0 0, .int .i64 0, .int .i64 0, .slice none 0 0, .slice none 0 0, .slice none 0 0]) (ps := [.nil, .d (.int .i64 0), .d (.int .i64 0), .nil, .nil, .nil]) rfl rfl (lt_ok rfl) (by kernel_rfl) rfl rfl rfl rfl) ?_
 refine TL.cons rfl (Step.assign (p := (.one (.d (.int .i64 0)))) rfl rfl (lt_ok rfl) rfl) ?_
 refine TL.cons rfl (Step.assign (p := (.one (.d (.int .i64 0)))) rfl rfl (lt_ok rfl) rfl) ?_
 refine TL.nil ?_
 refine T.seq ?_
 refine T.region ?_
 refine TL.cons rfl (Step.load_box_agg (n := 5) (qs := [.d (.int .i64 l.f0), .d (.int .i64 l.f1), .d (.int .i64 l.f2), .d (.int .i64 l.f3), .d (.int .i64 l.f4)]) rfl rfl (lt_ok rfl) (by kernel_rfl) rfl rfl rfl rfl) ?_
 refine TL.cons rfl (Step.move (p := (.one (.d (.ints .u8 b)))) rfl rfl (lt_ok rfl) rfl) ?_
 refine TL.cons rfl (Step.move (p := (.one (.d (.int .i64 a)))) rfl rfl (lt_ok rfl) rfl) ?_
 have nn1 := @getProof_sm l b a (by first | assumption | omega)
 refine TL.cons rfl (Step.call (f := 94) (xs := [.tmp 9, .tmp 10, .tmp 11, .func 95]) (ps := [(.agg [.d (.int .i64 l.f0), .d (.int .i64 l.f1), .d (.int .i64 l.f2), .d (.int .i64 l.f3), .d (.int .i64 l.f4)]), (.one (.d (.ints .u8 b))), (.one (.d (.int .i64 a))), (.one (.d (.fn 95)))]) false (g := .func 94) rfl rfl (lt_ok rfl) rfl (by kernel_rfl) rfl (.cons (.agg (.cons (.d _) (.cons (.d _) (.cons (.d _) (.cons (.d _) (.cons (.d _) .nil)))))) (.cons (.one (.d _)) (.cons (.one (.d _)) (.cons (.one (.d _)) .nil)))) (ok_impl_Proof_ l b a (by assumption) (by first | omega | assumption | (simp only [List.length_append] at *; omega))) (.inr rfl) rfl (by simp) rfl) ?_
 refine TL.cons rfl (Step.extract (p := (.agg [.row 1012 [], .d (.int .i64 (getProof l b a).1.f1.f0), .d (.int .i64 (getProof l b a).1.f1.f1), .row 4012 [], .row 5012 [], .row 6012 []])) rfl rfl (lt_ok rfl) rfl rfl) ?_
 refine TL.cons rfl (Step.extract (p := (.one (.d (.int .i64 (getProof l b a).2.1)))) rfl rfl (lt_ok rfl) rfl rfl) ?_
 refine TL.cons rfl (Step.extract (p := (.one (.d (.int .i64 (getProof l b a).2.2)))) rfl rfl (lt_ok rfl) rfl rfl) ?_
 refine TL.cons rfl (Step.store_box (n := 6) (p := (.agg [.row 1012 [], .d (.int .i64 (getProof l b a).1.f1.f0), .d (.int .i64 (getProof l b a).1.f1.f1), .row 4012 [], .row 5012 [], .row 6012 []])) (qs := [.row 1012 [], .d (.int .i64 (getProof l b a).1.f1.f0), .d (.int .i64 (getProof l b a).1.f1.f1), .row 4012 [], .row 5012 [], .row 6012 []]) (ps' := [.row 1012 [], .d (.int .i64 (getProof l b a).1.f1.f0), .d (.int .i64 (getProof l b a).1.f1.f1), .row 4012 [], .row 5012 [], .row 6012 []]) rfl rfl (by kernel_rfl) rfl rfl rfl rfl rfl rfl (le_ok rfl) rfl) ?_
 refine TL.cons rfl (Step.assign (p := (.one (.d (.int .i64 (getProof l b a).2.1)))) rfl rfl (lt_ok rfl) rfl) ?_
 refine TL.cons rfl (Step.assign (p := (.one (.d (.int .i64 (getProof l b a).2.2)))) rfl rfl (lt_ok rfl) rfl) ?_
 refine TL.nil ?_
 refine T.ret ?_
 refine ⟨[(true, [.row 1012 [], .d (.int .i64 (getProof l b a).1.f1.f0), .d (.int .i64 (getProof l b a).1.f1.f1), .row 4012 [], .row 5012 [], .row 6012 []]), (false, [.d (.int .i64 (getProof l b a).2.1)]), (false, [.d (.int .i64 (getProof l b a).2.2)])], (.cons rfl (.cons rfl (.cons rfl .nil))), rfl, [1012, 4012, 5012, 6012], (RetC.own' rfl ?_ rfl (RetC.rd' rfl (RetC.rd' rfl (RetC.own' rfl ?_ rfl (RetC.own' rfl ?_ rfl (RetC.own' rfl ?_ rfl (RetC.rd' rfl (RetC.rd' rfl .nil))))))))⟩ <;> (rfl)
theorem ok_laws_heldByteS (a : List Int) (b : List Int) (k : Int) (h0_ : 0 ≤ k) (h1_ : k + (a.length : Int) ≤ 4611686018427387904) (h2_ : b = mkB a k) : RO Try.prog 25 [.one (.ints .u8 b), .one (.int .i64 k)] [(false, [.rd (.int .i64 (k + (a.length : Int)))])] := by
 refine RO.intro Try.func25 rfl 22 rfl (le_ok rfl) fun w Z => ?_
 refine T.bnd 0 0 rfl rfl fun hb_0_0 => ?_
 simp only [D.size, List.length_map] at hb_0_0
 have hl_ : b.length = a.length := by rw [h2_, mkL_length]
 have hg_ : ∀ i, i < a.length → b.getD i 0 = (k + (i : Int)) % 256 := fun i hi => by rw [h2_, mkL_getD _ _ _ _ hi]; simp only [cntL_one_take a i (by omega)]
 refine T.seq ?_
 refine T.region ?_
 refine TL.cons rfl (Step.assign (p := (.one (.d (.int .i64 0)))) rfl rfl (lt_ok rfl) rfl) ?_
 refine TL.nil ?_
 refine T.seq ?_
 refine T.seq ?_
 refine T.region ?_
 refine TL.cons rfl (Step.assign (p := (.one (.d (.int .i64 0)))) rfl rfl (lt_ok rfl) rfl) ?_
 refine TL.nil ?_
 refine T.block ?_
 refine T.loop (ι := Nat) (fun xx_ => { tm := [(0, (.one (.d (.ints .u8 b)))), (5, (.one (.d (.int .i64 (xx_ : Int))))), (1, (.one (.d (.int .i64 (k + (xx_ : Int))))))], rows := [], boxes := [] }) (fun xx_ => xx_ ≤ a.length) (fun xx_ => a.length - xx_) 0 ?_ ?_ ?_
 · refine Env.le_mk ⟨rfl, ?_, ?_, trivial⟩ trivial trivial <;> (first | rfl | (refine congrArg (fun n => PV.one (.d (.int .i64 n))) ?_; first | omega | (simp; done) | (simp [cntL]; done)))
 · exact Nat.zero_le _
 ·
  intro i hx
  try dsimp only at hx ⊢
  refine T.seq ?_
  refine T.seq ?_
  refine T.region ?_
  refine TL.cons rfl (Step.move (p := (.one (.d (.int .i64 (i : Int))))) rfl rfl (lt_ok rfl) rfl) ?_
  refine TL.cons rfl (Step.move (p := (.one (.d (.ints .u8 b)))) rfl rfl (lt_ok rfl) rfl) ?_
  refine TL.cons rfl (Step.len (e := 5) (z := 1) (d := (.ints .u8 b)) rfl rfl (lt_ok rfl) (by kernel_rfl) rfl rfl) ?_
  refine TL.cons rfl (Step.bin rfl rfl (lt_ok rfl) rfl rfl (Bin.lss (k := .i64) (a := (i : Int)) (b := (b.length : Int)))) ?_
  refine TL.nil ?_
  refine T.cond (b := decide ((i : Int) < (b.length : Int))) rfl (fun h1 => ?_) (fun h1 => ?_)
  ·
   replace h1 := of_decide_eq_true h1
   refine T.skip ?_
   refine T.seq ?_
   refine T.block ?_
   refine T.seq ?_
   refine T.seq ?_
   refine T.region ?_
   refine TL.cons rfl (Step.move (p := (.one (.d (.ints .u8 b)))) rfl rfl (lt_ok rfl) rfl) ?_
   refine TL.cons rfl (Step.move (p := (.one (.d (.int .i64 (i : Int))))) rfl rfl (lt_ok rfl) rfl) ?_
   refine TL.cons rfl (Step.index (e := 5) (z := 1) (i := (i : Int)) rfl rfl (lt_ok rfl) (by kernel_rfl) rfl rfl rfl (lt_ok rfl) rfl (by first | omega | (simp; omega)) (by simp only [D.size]; first | omega | (simp; omega))) ?_
   refine TL.cons rfl (Step.load (e := (.int .u8 (b.getD i 0))) rfl rfl (lt_ok rfl) (by kernel_rfl) rfl rfl) ?_
   refine TL.cons rfl (Step.move (p := (.one (.d (.int .i64 (k + (i : Int)))))) rfl rfl (lt_ok rfl) rfl) ?_
   refine TL.cons rfl (Step.conv (c := ((k + (i : Int)) % 256)) rfl rfl (lt_ok rfl) (by kernel_rfl) (by kernel_rfl) rfl (wrap_byte _)) ?_
   refine TL.cons rfl (Step.bin rfl rfl (lt_ok rfl) rfl rfl (Bin.neq (k := .u8) (a := (b.getD i 0)) (b := ((k + (i : Int)) % 256)))) ?_
   refine TL.nil ?_
   refine T.cond (b := decide ((b.getD i 0) ≠ ((k + (i : Int)) % 256))) rfl (fun h2 => ?_) (fun h2 => ?_)
   ·
    replace h2 := of_decide_eq_true h2
    refine T.seq ?_
    refine T.region ?_
    refine TL.cons rfl (Step.assign (p := (.one (.d (.int .i64 (-1))))) rfl rfl (lt_ok rfl) rfl) ?_
    refine TL.nil ?_
    refine T.ret ?_
    refine ⟨[(false, [.d (.int .i64 (-1))])], (.cons rfl .nil), rfl, [], (RetC.rd' ?_ .nil)⟩ <;> (first | (congr 1; omega) | (exfalso; have := hg_ i (by omega); omega))
   ·
    replace h2 := of_decide_eq_false h2
    refine T.skip ?_
    refine T.region ?_
    refine TL.cons rfl (Step.move (p := (.one (.d (.int .i64 (k + (i : Int)))))) rfl rfl (lt_ok rfl) rfl) ?_
    refine TL.cons rfl (Step.bin (r := .int .i64 ((k + (i : Int)) + 1)) rfl rfl (lt_ok rfl) rfl rfl (Bin.add (a := (k + (i : Int))) (b := 1) (by first | exact wrap_ok (by first | omega | (simp; omega)) (by first | omega | (simp; omega)) | rfl))) ?_
    refine TL.cons rfl (Step.assign (p := (.one (.d (.int .i64 ((k + (i : Int)) + 1))))) rfl rfl (lt_ok rfl) rfl) ?_
    refine TL.nil ?_
    refine T.region ?_
    refine TL.cons rfl (Step.move (p := (.one (.d (.int .i64 (i : Int))))) rfl rfl (lt_ok rfl) rfl) ?_
    refine TL.cons rfl (Step.bin (r := .int .i64 ((i : Int) + 1)) rfl rfl (lt_ok rfl) rfl rfl (Bin.add (a := (i : Int)) (b := 1) (by first | exact wrap_ok (by first | omega | (simp; omega)) (by first | omega | (simp; omega)) | rfl))) ?_
    refine TL.cons rfl (Step.assign (p := (.one (.d (.int .i64 ((i : Int) + 1))))) rfl rfl (lt_ok rfl) rfl) ?_
    refine TL.nil ?_
    refine ⟨i + 1, by omega, by first | omega | (dsimp only; omega), Env.le_mk ⟨rfl, ?_, ?_, trivial⟩ trivial trivial⟩ <;> (first | rfl | (refine congrArg (fun n => PV.one (.d (.int .i64 n))) ?_; first | omega | (simp; done) | (simp [cntL]; done)))
  ·
   replace h1 := of_decide_eq_false h1
   refine T.exit ?_
   refine T.seq ?_
   refine T.region ?_
   refine TL.cons rfl (Step.move (p := (.one (.d (.int .i64 (k + (i : Int)))))) rfl rfl (lt_ok rfl) rfl) ?_
   refine TL.cons rfl (Step.assign (p := (.one (.d (.int .i64 (k + (i : Int)))))) rfl rfl (lt_ok rfl) rfl) ?_
   refine TL.nil ?_
   refine T.ret ?_
   refine ⟨[(false, [.d (.int .i64 (k + (i : Int)))])], (.cons rfl .nil), rfl, [], (RetC.rd' ?_ .nil)⟩ <;> (first | (congr 1; omega) | (exfalso; have := hg_ i (by omega); omega))
theorem ok_laws_heldByteSS (a : List (List Int)) (b : List (List Int)) (k : Int) (h0_ : 0 ≤ k) (h1_ : k + cntL (fun x : List Int => (x.length : Int)) a ≤ 4611686018427387904) (h2_ : b = mkBs a k) : RO Try.prog 64 [.one (.bss b), .one (.int .i64 k)] [(false, [.rd (.int .i64 (k + cntL (fun x : List Int => (x.length : Int)) a))])] := by
 refine RO.intro Try.func64 rfl 21 rfl (le_ok rfl) fun w Z => ?_
 refine T.bnd 0 0 rfl rfl fun hb_0_0 => ?_
 simp only [D.size, List.length_map] at hb_0_0
 have hl_ : b.length = a.length := by rw [h2_, mkL_length]
 have hg_ : ∀ i, i < a.length → b.getD i [] = mkB (a.getD i []) (k + cntL (fun x : List Int => (x.length : Int)) (a.take i)) := fun i hi => by rw [h2_, mkL_getD _ _ _ _ hi]
 refine T.seq ?_
 refine T.region ?_
 refine TL.cons rfl (Step.assign (p := (.one (.d (.int .i64 0)))) rfl rfl (lt_ok rfl) rfl) ?_
 refine TL.nil ?_
 refine T.seq ?_
 refine T.seq ?_
 refine T.region ?_
 refine TL.cons rfl (Step.assign (p := (.one (.d (.int .i64 0)))) rfl rfl (lt_ok rfl) rfl) ?_
 refine TL.nil ?_
 refine T.block ?_
 refine T.loop (ι := Nat) (fun xx_ => { tm := [(0, (.one (.d (.bss b)))), (5, (.one (.d (.int .i64 (xx_ : Int))))), (1, (.one (.d (.int .i64 (k + cntL (fun x : List Int => (x.length : Int)) (a.take xx_))))))], rows := [], boxes := [] }) (fun xx_ => xx_ ≤ a.length) (fun xx_ => a.length - xx_) 0 ?_ ?_ ?_
 · refine Env.le_mk ⟨rfl, ?_, ?_, trivial⟩ trivial trivial <;> (first | rfl | (refine congrArg (fun n => PV.one (.d (.int .i64 n))) ?_; first | omega | (simp; done) | (simp [cntL]; done)))
 · exact Nat.zero_le _
 ·
  intro i hx
  try dsimp only at hx ⊢
  refine T.seq ?_
  refine T.seq ?_
  refine T.region ?_
  refine TL.cons rfl (Step.move (p := (.one (.d (.int .i64 (i : Int))))) rfl rfl (lt_ok rfl) rfl) ?_
  refine TL.cons rfl (Step.move (p := (.one (.d (.bss b)))) rfl rfl (lt_ok rfl) rfl) ?_
  refine TL.cons rfl (Step.len (e := 24) (z := 1) (d := (.bss b)) rfl rfl (lt_ok rfl) (by kernel_rfl) rfl rfl) ?_
  refine TL.cons rfl (Step.bin rfl rfl (lt_ok rfl) rfl rfl (Bin.lss (k := .i64) (a := (i : Int)) (b := (b.length : Int)))) ?_
  refine TL.nil ?_
  refine T.cond (b := decide ((i : Int) < (b.length : Int))) rfl (fun h1 => ?_) (fun h1 => ?_)
  ·
   replace h1 := of_decide_eq_true h1
   have hc1 := cntL_take_le (cnt := (fun x : List Int => (x.length : Int))) (fun x => by omega) a (i + 1)
   have hc2 := cntL_take_succ (cnt := (fun x : List Int => (x.length : Int))) (i := i) [] (show i < a.length by omega)
   have hc3 := cntL_nonneg (cnt := (fun x : List Int => (x.length : Int))) (fun x => by omega) (a.take i)
   have he_ := hg_ i (by omega)
   try dsimp only at hc2
   refine T.skip ?_
   refine T.seq ?_
   refine T.block ?_
   refine T.seq ?_
   refine T.region ?_
   refine TL.cons rfl (Step.move (p := (.one (.d (.bss b)))) rfl rfl (lt_ok rfl) rfl) ?_
   refine TL.cons rfl (Step.move (p := (.one (.d (.int .i64 (i : Int))))) rfl rfl (lt_ok rfl) rfl) ?_
   refine TL.cons rfl (Step.index (e := 24) (z := 1) (i := (i : Int)) rfl rfl (lt_ok rfl) (by kernel_rfl) rfl rfl rfl (lt_ok rfl) rfl (by first | omega | (simp; omega)) (by simp only [D.size]; first | omega | (simp; omega))) ?_
   refine TL.cons rfl (Step.load (e := (.ints .u8 (b.getD i []))) rfl rfl (lt_ok rfl) (by kernel_rfl) rfl rfl) ?_
   refine TL.cons rfl (Step.move (p := (.one (.d (.int .i64 (k + cntL (fun x : List Int => (x.length : Int)) (a.take i)))))) rfl rfl (lt_ok rfl) rfl) ?_
   refine TL.cons rfl (Step.call (f := 25) (xs := [.tmp 15, .tmp 16]) (ps := [(.one (.d (.ints .u8 (b.getD i [])))), (.one (.d (.int .i64 (k + cntL (fun x : List Int => (x.length : Int)) (a.take i)))))]) false (g := .func 25) rfl rfl (lt_ok rfl) rfl (by kernel_rfl) rfl (.cons (.one (.d _)) (.cons (.one (.d _)) .nil)) (ok_laws_heldByteS (a.getD i []) (b.getD i []) (k + cntL (fun x : List Int => (x.length : Int)) (a.take i)) (by omega) (by first | omega | (have := (by assumption); omega)) (by first | rfl | assumption | (repeat' (first | rfl | apply And.intro)))) (.inr rfl) rfl (by simp) rfl) ?_
   refine TL.cons rfl (Step.assign (p := (.one (.d (.int .i64 ((k + cntL (fun x : List Int => (x.length : Int)) (a.take i)) + ((a.getD i []).length : Int)))))) rfl rfl (lt_ok rfl) rfl) ?_
   refine TL.nil ?_
   refine T.seq ?_
   refine T.region ?_
   refine TL.cons rfl (Step.move (p := (.one (.d (.int .i64 ((k + cntL (fun x : List Int => (x.length : Int)) (a.take i)) + ((a.getD i []).length : Int)))))) rfl rfl (lt_ok rfl) rfl) ?_
   refine TL.cons rfl (Step.bin rfl rfl (lt_ok rfl) rfl rfl (Bin.lss (k := .i64) (a := ((k + cntL (fun x : List Int => (x.length : Int)) (a.take i)) + ((a.getD i []).length : Int))) (b := 0))) ?_
   refine TL.known 19 (c := false) (decide_eq_false (by omega)) rfl ?_
   refine TL.nil ?_
   refine T.cond (b := false) rfl (fun h2_ => absurd h2_ (by simp)) (fun h2_ => ?_)
   refine T.skip ?_
   refine T.region ?_
   refine TL.cons rfl (Step.move (p := (.one (.d (.int .i64 (i : Int))))) rfl rfl (lt_ok rfl) rfl) ?_
   refine TL.cons rfl (Step.bin (r := .int .i64 ((i : Int) + 1)) rfl rfl (lt_ok rfl) rfl rfl (Bin.add (a := (i : Int)) (b := 1) (by first | exact wrap_ok (by first | omega | (simp; omega)) (by first | omega | (simp; omega)) | rfl))) ?_
   refine TL.cons rfl (Step.assign (p := (.one (.d (.int .i64 ((i : Int) + 1))))) rfl rfl (lt_ok rfl) rfl) ?_
   refine TL.nil ?_
   refine ⟨i + 1, by omega, by first | omega | (dsimp only; omega), Env.le_mk ⟨rfl, ?_, ?_, trivial⟩ trivial trivial⟩ <;> (first | rfl | (refine congrArg (fun n => PV.one (.d (.int .i64 n))) ?_; first | omega | (simp; done) | (simp [cntL]; done)))
  ·
   replace h1 := of_decide_eq_false h1
   refine T.exit ?_
   refine T.seq ?_
   refine T.region ?_
   refine TL.cons rfl (Step.move (p := (.one (.d (.int .i64 (k + cntL (fun x : List Int => (x.length : Int)) (a.take i)))))) rfl rfl (lt_ok rfl) rfl) ?_
   refine TL.cons rfl (Step.assign (p := (.one (.d (.int .i64 (k + cntL (fun x : List Int => (x.length : Int)) (a.take i)))))) rfl rfl (lt_ok rfl) rfl) ?_
   refine TL.nil ?_
   refine T.ret ?_
   refine ⟨[(false, [.d (.int .i64 (k + cntL (fun x : List Int => (x.length : Int)) (a.take i)))])], (.cons rfl .nil), rfl, [], (RetC.rd' ?_ .nil)⟩ <;> (first | (congr 1; rw [cntL_all (by omega)]) | (exfalso; omega))
theorem ok_laws_heldQc (a : SQc) (b : SQc) (k : Int) (h0_ : 0 ≤ k) (h1_ : k + a.cm ≤ 4611686018427387904) (h2_ : SQc.hm a b k) : RO Try.prog 36 [.agg b.cells, .one (.int .i64 k)] [(false, [.rd (.int .i64 (k + a.cm))])] := by
 refine RO.intro Try.func36 rfl 24 rfl (le_ok rfl) fun w Z => ?_
 obtain ⟨p2, p3, p4⟩ := h2_
 have n4 := cntBs_nonneg a.f4
 simp only [SQc.cm] at h1_
 refine T.seq ?_
 refine T.region ?_
 refine TL.cons rfl (Step.box (p := (.agg [.d (.int .i64 b.f0), .d (.int .i64 b.f1), .d (.ints .u8 b.f2), .d (.ints .u8 b.f3), .d (.bss b.f4)])) (ps := [.d (.int .i64 b.f0), .d (.int .i64 b.f1), .d (.ints .u8 b.f2), .d (.ints .u8 b.f3), .d (.bss b.f4)]) rfl rfl (lt_ok rfl) rfl rfl rfl rfl rfl) ?_
 refine TL.cons rfl (Step.assign (p := (.one (.d (.int .i64 0)))) rfl rfl (lt_ok rfl) rfl) ?_
 refine TL.nil ?_
 refine T.seq ?_
 refine T.region ?_
 refine TL.cons rfl (Step.fieldAddr (q := 0) (off := 2) (n := 1) (one := true) rfl rfl (lt_ok rfl) (by kernel_rfl) (Nat.succ_ne_zero _) rfl) ?_
 refine TL.cons rfl (Step.load_box (c := .d (.ints .u8 b.f2)) rfl rfl (lt_ok rfl) (by kernel_rfl) rfl rfl rfl) ?_
 refine TL.cons rfl (Step.move (p := (.one (.d (.int .i64 k)))) rfl rfl (lt_ok rfl) rfl) ?_
 refine TL.cons rfl (Step.call (f := 25) (xs := [.tmp 6, .tmp 7]) (ps := [(.one (.d (.ints .u8 b.f2))), (.one (.d (.int .i64 k)))]) false (g := .func 25) rfl rfl (lt_ok rfl) rfl (by kernel_rfl) rfl (.cons (.one (.d _)) (.cons (.one (.d _)) .nil)) (ok_laws_heldByteS a.f2 b.f2 k (by omega) (by first | omega | (have := (by assumption); omega)) (by first | rfl | assumption | (repeat' (first | rfl | apply And.intro)))) (.inr rfl) rfl (by simp) rfl) ?_
 refine TL.cons rfl (Step.assign (p := (.one (.d (.int .i64 (k + (a.f2.length : Int)))))) rfl rfl (lt_ok rfl) rfl) ?_
 refine TL.nil ?_
 refine T.seq ?_
 refine T.seq ?_
 refine T.region ?_
 refine TL.cons rfl (Step.move (p := (.one (.d (.int .i64 (k + (a.f2.length : Int)))))) rfl rfl (lt_ok rfl) rfl) ?_
 refine TL.cons rfl (Step.bin rfl rfl (lt_ok rfl) rfl rfl (Bin.lss (k := .i64) (a := (k + (a.f2.length : Int))) (b := 0))) ?_
 refine TL.known 10 (c := false) (decide_eq_false (by omega)) rfl ?_
 refine TL.nil ?_
 refine T.cond (b := false) rfl (fun h1_ => absurd h1_ (by simp)) (fun h1_ => ?_)
 refine T.skip ?_
 refine T.seq ?_
 refine T.region ?_
 refine TL.cons rfl (Step.fieldAddr (q := 0) (off := 3) (n := 1) (one := true) rfl rfl (lt_ok rfl) (by kernel_rfl) (Nat.succ_ne_zero _) rfl) ?_
 refine TL.cons rfl (Step.load_box (c := .d (.ints .u8 b.f3)) rfl rfl (lt_ok rfl) (by kernel_rfl) rfl rfl rfl) ?_
 refine TL.cons rfl (Step.move (p := (.one (.d (.int .i64 (k + (a.f2.length : Int)))))) rfl rfl (lt_ok rfl) rfl) ?_
 refine TL.cons rfl (Step.call (f := 25) (xs := [.tmp 12, .tmp 13]) (ps := [(.one (.d (.ints .u8 b.f3))), (.one (.d (.int .i64 (k + (a.f2.length : Int)))))]) false (g := .func 25) rfl rfl (lt_ok rfl) rfl (by kernel_rfl) rfl (.cons (.one (.d _)) (.cons (.one (.d _)) .nil)) (ok_laws_heldByteS a.f3 b.f3 (k + (a.f2.length : Int)) (by omega) (by first | omega | (have := (by assumption); omega)) (by first | rfl | assumption | (repeat' (first | rfl | apply And.intro)))) (.inr rfl) rfl (by simp) rfl) ?_
 refine TL.cons rfl (Step.assign (p := (.one (.d (.int .i64 ((k + (a.f2.length : Int)) + (a.f3.length : Int)))))) rfl rfl (lt_ok rfl) rfl) ?_
 refine TL.nil ?_
 refine T.seq ?_
 refine T.seq ?_
 refine T.region ?_
 refine TL.cons rfl (Step.move (p := (.one (.d (.int .i64 ((k + (a.f2.length : Int)) + (a.f3.length : Int)))))) rfl rfl (lt_ok rfl) rfl) ?_
 refine TL.cons rfl (Step.bin rfl rfl (lt_ok rfl) rfl rfl (Bin.lss (k := .i64) (a := ((k + (a.f2.length : Int)) + (a.f3.length : Int))) (b := 0))) ?_
 refine TL.known 16 (c := false) (decide_eq_false (by omega)) rfl ?_
 refine TL.nil ?_
 refine T.cond (b := false) rfl (fun h2_ => absurd h2_ (by simp)) (fun h2_ => ?_)
 refine T.skip ?_
 refine T.seq ?_
 refine T.region ?_
 refine TL.cons rfl (Step.fieldAddr (q := 0) (off := 4) (n := 1) (one := true) rfl rfl (lt_ok rfl) (by kernel_rfl) (Nat.succ_ne_zero _) rfl) ?_
 refine TL.cons rfl (Step.load_box (c := .d (.bss b.f4)) rfl rfl (lt_ok rfl) (by kernel_rfl) rfl rfl rfl) ?_
 refine TL.cons rfl (Step.move (p := (.one (.d (.int .i64 ((k + (a.f2.length : Int)) + (a.f3.length : Int)))))) rfl rfl (lt_ok rfl) rfl) ?_
 have nn3 := cntBs_nonneg a.f4
 refine TL.cons rfl (Step.call (f := 64) (xs := [.tmp 18, .tmp 19]) (ps := [(.one (.d (.bss b.f4))), (.one (.d (.int .i64 ((k + (a.f2.length : Int)) + (a.f3.length : Int)))))]) false (g := .func 64) rfl rfl (lt_ok rfl) rfl (by kernel_rfl) rfl (.cons (.one (.d _)) (.cons (.one (.d _)) .nil)) (ok_laws_heldByteSS a.f4 b.f4 ((k + (a.f2.length : Int)) + (a.f3.length : Int)) (by omega) (by first | omega | (have := cntBs_le (xs := a.f4) (by assumption); omega)) (by first | rfl | assumption | (repeat' (first | rfl | apply And.intro)))) (.inr rfl) rfl (by simp) rfl) ?_
 refine TL.cons rfl (Step.assign (p := (.one (.d (.int .i64 (((k + (a.f2.length : Int)) + (a.f3.length : Int)) + cntL (fun x : List Int => (x.length : Int)) a.f4))))) rfl rfl (lt_ok rfl) rfl) ?_
 refine TL.nil ?_
 refine T.seq ?_
 refine T.seq ?_
 refine T.region ?_
 refine TL.cons rfl (Step.move (p := (.one (.d (.int .i64 (((k + (a.f2.length : Int)) + (a.f3.length : Int)) + cntL (fun x : List Int => (x.length : Int)) a.f4))))) rfl rfl (lt_ok rfl) rfl) ?_
 refine TL.cons rfl (Step.bin rfl rfl (lt_ok rfl) rfl rfl (Bin.lss (k := .i64) (a := (((k + (a.f2.length : Int)) + (a.f3.length : Int)) + cntL (fun x : List Int => (x.length : Int)) a.f4)) (b := 0))) ?_
 refine TL.known 22 (c := false) (decide_eq_false (by omega)) rfl ?_
 refine TL.nil ?_
 refine T.cond (b := false) rfl (fun h4_ => absurd h4_ (by simp)) (fun h4_ => ?_)
 refine T.skip ?_
 refine T.seq ?_
 refine T.region ?_
 refine TL.cons rfl (Step.move (p := (.one (.d (.int .i64 (((k + (a.f2.length : Int)) + (a.f3.length : Int)) + cntL (fun x : List Int => (x.length : Int)) a.f4))))) rfl rfl (lt_ok rfl) rfl) ?_
 refine TL.cons rfl (Step.assign (p := (.one (.d (.int .i64 (((k + (a.f2.length : Int)) + (a.f3.length : Int)) + cntL (fun x : List Int => (x.length : Int)) a.f4))))) rfl rfl (lt_ok rfl) rfl) ?_
 refine TL.nil ?_
 refine T.ret ?_
 refine ⟨[(false, [.d (.int .i64 (((k + (a.f2.length : Int)) + (a.f3.length : Int)) + cntL (fun x : List Int => (x.length : Int)) a.f4))])], (.cons rfl .nil), rfl, [], (RetC.rd' ?_ .nil)⟩ <;> (first | rfl | (congr 1; simp only [SQc.cm]; omega))
theorem ok_laws_heldHeadS (a : List SHead) (b : List SHead) (k : Int) (h0_ : 0 ≤ k) (h1_ : k + cntL SHead.ce a ≤ 4611686018427387904) (h2_ : b = mkL SHead.ce SHead.me a k) : RO Try.prog 96 [.one (.sl 10 (b.map SHead.cells)), .one (.int .i64 k)] [(false, [.rd (.int .i64 (k + cntL SHead.ce a))])] := by
 refine RO.intro Try.func96 rfl 108 rfl (le_ok rfl) fun w Z => ?_
 refine T.bnd 0 0 rfl rfl fun hb_0_0 => ?_
 simp only [D.size, List.length_map] at hb_0_0
 have hl_ : b.length = a.length := by rw [h2_, mkL_length]
 have hg_ : ∀ i, i < a.length → b.getD i default = SHead.me (a.getD i default) (k + cntL SHead.ce (a.take i)) := fun i hi => by rw [h2_, mkL_getD _ _ _ _ hi]
 refine T.seq ?_
 refine T.region ?_
 refine TL.cons rfl (Step.assign (p := (.one (.d (.int .i64 0)))) rfl rfl (lt_ok rfl) rfl) ?_
 refine TL.nil ?_
 refine T.seq ?_
 refine T.seq ?_
 refine T.region ?_
 refine TL.cons rfl (Step.assign (p := (.one (.d (.int .i64 0)))) rfl rfl (lt_ok rfl) rfl) ?_
 refine TL.nil ?_
 refine T.block ?_
 refine T.loop (ι := Nat) (fun xx_ => { tm := [(0, (.one (.d (.sl 10 (b.map SHead.cells))))), (5, (.one (.d (.int .i64 (xx_ : Int))))), (1, (.one (.d (.int .i64 (k + cntL SHead.ce (a.take xx_))))))], rows := [], boxes := [] }) (fun xx_ => xx_ ≤ a.length) (fun xx_ => a.length - xx_) 0 ?_ ?_ ?_
 · refine Env.le_mk ⟨rfl, ?_, ?_, trivial⟩ trivial trivial <;> (first | rfl | (refine congrArg (fun n => PV.one (.d (.int .i64 n))) ?_; first | omega | (simp; done) | (simp [cntL]; done)))
 · exact Nat.zero_le _
 ·
  intro i hx
  try dsimp only at hx ⊢
  refine T.seq ?_
  refine T.seq ?_
  refine T.region ?_
  refine TL.cons rfl (Step.move (p := (.one (.d (.int .i64 (i : Int))))) rfl rfl (lt_ok rfl) rfl) ?_
  refine TL.cons rfl (Step.move (p := (.one (.d (.sl 10 (b.map SHead.cells))))) rfl rfl (lt_ok rfl) rfl) ?_
  refine TL.cons rfl (Step.len' (e := 54) (z := 10) (d := (.sl 10 (b.map SHead.cells))) (n := b.length) rfl rfl (lt_ok rfl) (by kernel_rfl) rfl rfl (by simp [D.size])) ?_
  refine TL.cons rfl (Step.bin rfl rfl (lt_ok rfl) rfl rfl (Bin.lss (k := .i64) (a := (i : Int)) (b := (b.length : Int)))) ?_
  refine TL.nil ?_
  refine T.cond (b := decide ((i : Int) < (b.length : Int))) rfl (fun h1 => ?_) (fun h1 => ?_)
  ·
   replace h1 := of_decide_eq_true h1
   have hc1 := cntL_take_le (cnt := SHead.ce) SHead.ce_nn a (i + 1)
   have hc2 := cntL_take_succ (cnt := SHead.ce) (i := i) default (show i < a.length by omega)
   have hc3 := cntL_nonneg (cnt := SHead.ce) SHead.ce_nn (a.take i)
   have he_ := hg_ i (by omega)
   have hc4 : SHead.ce (a.getD i default) = 1 + 1 + 1 + ((a.getD i default).f3.length : Int) + ((a.getD i default).f4.length : Int) + (1 + 1 + ((a.getD i default).f5.f2.length : Int) + ((a.getD i default).f5.f3.length : Int) + cntL (fun x : List Int => (x.length : Int)) (a.getD i default).f5.f4) := rfl
   have hn0 := cntBs_nonneg (a.getD i default).f5.f4
   have he0 : (b.getD i default).f0 = k + cntL SHead.ce (a.take i) := by rw [he_]; rfl
   have he1 : (b.getD i default).f1 = (k + cntL SHead.ce (a.take i)) + 1 := by rw [he_]; rfl
   have he2 : (b.getD i default).f2 = ((k + cntL SHead.ce (a.take i)) + 1) + 1 := by rw [he_]; rfl
   have he3 : (b.getD i default).f3 = mkB (a.getD i default).f3 ((((k + cntL SHead.ce (a.take i)) + 1) + 1) + 1) := by rw [he_]; rfl
   have he4 : (b.getD i default).f4 = mkB (a.getD i default).f4 (((((k + cntL SHead.ce (a.take i)) + 1) + 1) + 1) + ((a.getD i default).f3.length : Int)) := by rw [he_]; rfl
   have he5 : (b.getD i default).f5.f0 = (((((k + cntL SHead.ce (a.take i)) + 1) + 1) + 1) + ((a.getD i default).f3.length : Int)) + ((a.getD i default).f4.length : Int) := by rw [he_]; rfl
   have he6 : (b.getD i default).f5.f1 = ((((((k + cntL SHead.ce (a.take i)) + 1) + 1) + 1) + ((a.getD i default).f3.length : Int)) + ((a.getD i default).f4.length : Int)) + 1 := by rw [he_]; rfl
   have he7 : (b.getD i default).f5.f2 = mkB (a.getD i default).f5.f2 ((((((((k + cntL SHead.ce (a.take i)) + 1) + 1) + 1) + ((a.getD i default).f3.length : Int)) + ((a.getD i default).f4.length : Int)) + 1) + 1) := by rw [he_]; rfl
   have he8 : (b.getD i default).f5.f3 = mkB (a.getD i default).f5.f3 (((((((((k + cntL SHead.ce (a.take i)) + 1) + 1) + 1) + ((a.getD i default).f3.length : Int)) + ((a.getD i default).f4.length : Int)) + 1) + 1) + ((a.getD i default).f5.f2.length : Int)) := by rw [he_]; rfl
   have he9 : (b.getD i default).f5.f4 = mkBs (a.getD i default).f5.f4 ((((((((((k + cntL SHead.ce (a.take i)) + 1) + 1) + 1) + ((a.getD i default).f3.length : Int)) + ((a.getD i default).f4.length : Int)) + 1) + 1) + ((a.getD i default).f5.f2.length : Int)) + ((a.getD i default).f5.f3.length : Int)) := by rw [he_]; rfl
   refine T.skip ?_
   refine T.seq ?_
   refine T.block ?_
   refine T.seq ?_
   refine T.seq ?_
   refine T.region ?_
   refine TL.cons rfl (Step.move (p := (.one (.d (.sl 10 (b.map SHead.cells))))) rfl rfl (lt_ok rfl) rfl) ?_
   refine TL.cons rfl (Step.move (p := (.one (.d (.int .i64 (i : Int))))) rfl rfl (lt_ok rfl) rfl) ?_
   refine TL.cons rfl (Step.index (e := 54) (z := 10) (i := (i : Int)) rfl rfl (lt_ok rfl) (by kernel_rfl) rfl rfl rfl (lt_ok rfl) rfl (by first | omega | (simp; omega)) (by simp only [D.size]; first | omega | (simp; omega))) ?_
   refine TL.cons rfl (Step.fieldAddr_e (j := 0) (off := 0) (n := 1) (one := true) rfl rfl (lt_ok rfl) (by kernel_rfl) (Nat.succ_ne_zero _) rfl (lt_ok rfl)) ?_
   refine TL.cons rfl (Step.load (e := (.int .i64 (b.getD i default).f0)) rfl rfl (lt_ok rfl) (by kernel_rfl) rfl ((cell_map default (by first | omega | (simp; omega))).trans rfl)) ?_
   refine TL.cons rfl (Step.move (p := (.one (.d (.int .i64 (k + cntL SHead.ce (a.take i)))))) rfl rfl (lt_ok rfl) rfl) ?_
   refine TL.cons rfl (Step.bin rfl rfl (lt_ok rfl) rfl rfl (Bin.neq (k := .i64) (a := (b.getD i default).f0) (b := (k + cntL SHead.ce (a.take i))))) ?_
   refine TL.nil ?_
   refine T.cond (b := decide ((b.getD i default).f0 ≠ (k + cntL SHead.ce (a.take i)))) rfl (fun h2 => ?_) (fun h2 => ?_)
   ·
    replace h2 := of_decide_eq_true h2
    refine T.seq ?_
    refine T.region ?_
    refine TL.cons rfl (Step.assign (p := (.one (.d (.int .i64 (-1))))) rfl rfl (lt_ok rfl) rfl) ?_
    refine TL.nil ?_
    refine T.ret ?_
    refine ⟨[(false, [.d (.int .i64 (-1))])], (.cons rfl .nil), rfl, [], (RetC.rd' ?_ .nil)⟩ <;> (first | (congr 1; rw [cntL_all (by omega)]) | (exfalso; omega))
   ·
    replace h2 := of_decide_eq_false h2
    refine T.skip ?_
    refine T.seq ?_
    refine T.region ?_
    refine TL.cons rfl (Step.move (p := (.one (.d (.int .i64 (k + cntL SHead.ce (a.take i)))))) rfl rfl (lt_ok rfl) rfl) ?_
    refine TL.cons rfl (Step.bin (r := .int .i64 ((k + cntL SHead.ce (a.take i)) + 1)) rfl rfl (lt_ok rfl) rfl rfl (Bin.add (a := (k + cntL SHead.ce (a.take i))) (b := 1) (by first | exact wrap_ok (by first | omega | (simp; omega)) (by first | omega | (simp; omega)) | rfl))) ?_
    refine TL.cons rfl (Step.assign (p := (.one (.d (.int .i64 ((k + cntL SHead.ce (a.take i)) + 1))))) rfl rfl (lt_ok rfl) rfl) ?_
    refine TL.nil ?_
    refine T.seq ?_
    refine T.seq ?_
    refine T.region ?_
    refine TL.cons rfl (Step.move (p := (.one (.d (.sl 10 (b.map SHead.cells))))) rfl rfl (lt_ok rfl) rfl) ?_
    refine TL.cons rfl (Step.move (p := (.one (.d (.int .i64 (i : Int))))) rfl rfl (lt_ok rfl) rfl) ?_
    refine TL.cons rfl (Step.index (e := 54) (z := 10) (i := (i : Int)) rfl rfl (lt_ok rfl) (by kernel_rfl) rfl rfl rfl (lt_ok rfl) rfl (by first | omega | (simp; omega)) (by simp only [D.size]; first | omega | (simp; omega))) ?_
    refine TL.cons rfl (Step.fieldAddr_e (j := 0) (off := 1) (n := 1) (one := true) rfl rfl (lt_ok rfl) (by kernel_rfl) (Nat.succ_ne_zero _) rfl (lt_ok rfl)) ?_
    refine TL.cons rfl (Step.load (e := (.int .i64 (b.getD i default).f1)) rfl rfl (lt_ok rfl) (by kernel_rfl) rfl ((cell_map default (by first | omega | (simp; omega))).trans rfl)) ?_
    refine TL.cons rfl (Step.move (p := (.one (.d (.int .i64 ((k + cntL SHead.ce (a.take i)) + 1))))) rfl rfl (lt_ok rfl) rfl) ?_
    refine TL.cons rfl (Step.bin rfl rfl (lt_ok rfl) rfl rfl (Bin.neq (k := .i64) (a := (b.getD i default).f1) (b := ((k + cntL SHead.ce (a.take i)) + 1)))) ?_
    refine TL.nil ?_
    refine T.cond (b := decide ((b.getD i default).f1 ≠ ((k + cntL SHead.ce (a.take i)) + 1))) rfl (fun h3 => ?_) (fun h3 => ?_)
    ·
     replace h3 := of_decide_eq_true h3
     refine T.seq ?_
     refine T.region ?_
     refine TL.cons rfl (Step.assign (p := (.one (.d (.int .i64 (-1))))) rfl rfl (lt_ok rfl) rfl) ?_
     refine TL.nil ?_
     refine T.ret ?_
     refine ⟨[(false, [.d (.int .i64 (-1))])], (.cons rfl .nil), rfl, [], (RetC.rd' ?_ .nil)⟩ <;> (first | (congr 1; rw [cntL_all (by omega)]) | (exfalso; omega))
    ·
     replace h3 := of_decide_eq_false h3
     refine T.skip ?_
     refine T.seq ?_
     refine T.region ?_
     refine TL.cons rfl (Step.move (p := (.one (.d (.int .i64 ((k + cntL SHead.ce (a.take i)) + 1))))) rfl rfl (lt_ok rfl) rfl) ?_
     refine TL.cons rfl (Step.bin (r := .int .i64 (((k + cntL SHead.ce (a.take i)) + 1) + 1)) rfl rfl (lt_ok rfl) rfl rfl (Bin.add (a := ((k + cntL SHead.ce (a.take i)) + 1)) (b := 1) (by first | exact wrap_ok (by first | omega | (simp; omega)) (by first | omega | (simp; omega)) | rfl))) ?_
     refine TL.cons rfl (Step.assign (p := (.one (.d (.int .i64 (((k + cntL SHead.ce (a.take i)) + 1) + 1))))) rfl rfl (lt_ok rfl) rfl) ?_
     refine TL.nil ?_
     refine T.seq ?_
     refine T.seq ?_
     refine T.region ?_
     refine TL.cons rfl (Step.move (p := (.one (.d (.sl 10 (b.map SHead.cells))))) rfl rfl (lt_ok rfl) rfl) ?_
     refine TL.cons rfl (Step.move (p := (.one (.d (.int .i64 (i : Int))))) rfl rfl (lt_ok rfl) rfl) ?_
     refine TL.cons rfl (Step.index (e := 54) (z := 10) (i := (i : Int)) rfl rfl (lt_ok rfl) (by kernel_rfl) rfl rfl rfl (lt_ok rfl) rfl (by first | omega | (simp; omega)) (by simp only [D.size]; first | omega | (simp; omega))) ?_
     refine TL.cons rfl (Step.fieldAddr_e (j := 0) (off := 2) (n := 1) (one := true) rfl rfl (lt_ok rfl) (by kernel_rfl) (Nat.succ_ne_zero _) rfl (lt_ok rfl)) ?_
     refine TL.cons rfl (Step.load (e := (.int .i64 (b.getD i default).f2)) rfl rfl (lt_ok rfl) (by kernel_rfl) rfl ((cell_map default (by first | omega | (simp; omega))).trans rfl)) ?_
     refine TL.cons rfl (Step.move (p := (.one (.d (.int .i64 (((k + cntL SHead.ce (a.take i)) + 1) + 1))))) rfl rfl (lt_ok rfl) rfl) ?_
     refine TL.cons rfl (Step.bin rfl rfl (lt_ok rfl) rfl rfl (Bin.neq (k := .i64) (a := (b.getD i default).f2) (b := (((k + cntL SHead.ce (a.take i)) + 1) + 1)))) ?_
     refine TL.nil ?_
     refine T.cond (b := decide ((b.getD i default).f2 ≠ (((k + cntL SHead.ce (a.take i)) + 1) + 1))) rfl (fun h4 => ?_) (fun h4 => ?_)
     ·
      replace h4 := of_decide_eq_true h4
      refine T.seq ?_
      refine T.region ?_
      refine TL.cons rfl (Step.assign (p := (.one (.d (.int .i64 (-1))))) rfl rfl (lt_ok rfl) rfl) ?_
      refine TL.nil ?_
      refine T.ret ?_
      refine ⟨[(false, [.d (.int .i64 (-1))])], (.cons rfl .nil), rfl, [], (RetC.rd' ?_ .nil)⟩ <;> (first | (congr 1; rw [cntL_all (by omega)]) | (exfalso; omega))
     ·
      replace h4 := of_decide_eq_false h4
      refine T.skip ?_
      refine T.seq ?_
      refine T.region ?_
      refine TL.cons rfl (Step.move (p := (.one (.d (.int .i64 (((k + cntL SHead.ce (a.take i)) + 1) + 1))))) rfl rfl (lt_ok rfl) rfl) ?_
      refine TL.cons rfl (Step.bin (r := .int .i64 ((((k + cntL SHead.ce (a.take i)) + 1) + 1) + 1)) rfl rfl (lt_ok rfl) rfl rfl (Bin.add (a := (((k + cntL SHead.ce (a.take i)) + 1) + 1)) (b := 1) (by first | exact wrap_ok (by first | omega | (simp; omega)) (by first | omega | (simp; omega)) | rfl))) ?_
      refine TL.cons rfl (Step.assign (p := (.one (.d (.int .i64 ((((k + cntL SHead.ce (a.take i)) + 1) + 1) + 1))))) rfl rfl (lt_ok rfl) rfl) ?_
      refine TL.nil ?_
      refine T.seq ?_
      refine T.region ?_
      refine TL.cons rfl (Step.move (p := (.one (.d (.sl 10 (b.map SHead.cells))))) rfl rfl (lt_ok rfl) rfl) ?_
      refine TL.cons rfl (Step.move (p := (.one (.d (.int .i64 (i : Int))))) rfl rfl (lt_ok rfl) rfl) ?_
      refine TL.cons rfl (Step.index (e := 54) (z := 10) (i := (i : Int)) rfl rfl (lt_ok rfl) (by kernel_rfl) rfl rfl rfl (lt_ok rfl) rfl (by first | omega | (simp; omega)) (by simp only [D.size]; first | omega | (simp; omega))) ?_
      refine TL.cons rfl (Step.fieldAddr_e (j := 0) (off := 3) (n := 1) (one := true) rfl rfl (lt_ok rfl) (by kernel_rfl) (Nat.succ_ne_zero _) rfl (lt_ok rfl)) ?_
      refine TL.cons rfl (Step.load (e := (.ints .u8 (b.getD i default).f3)) rfl rfl (lt_ok rfl) (by kernel_rfl) rfl ((cell_map default (by first | omega | (simp; omega))).trans rfl)) ?_
      refine TL.cons rfl (Step.move (p := (.one (.d (.int .i64 ((((k + cntL SHead.ce (a.take i)) + 1) + 1) + 1))))) rfl rfl (lt_ok rfl) rfl) ?_
      refine TL.cons rfl (Step.call (f := 25) (xs := [.tmp 43, .tmp 44]) (ps := [(.one (.d (.ints .u8 (b.getD i default).f3))), (.one (.d (.int .i64 ((((k + cntL SHead.ce (a.take i)) + 1) + 1) + 1))))]) false (g := .func 25) rfl rfl (lt_ok rfl) rfl (by kernel_rfl) rfl (.cons (.one (.d _)) (.cons (.one (.d _)) .nil)) (ok_laws_heldByteS (a.getD i default).f3 (b.getD i default).f3 ((((k + cntL SHead.ce (a.take i)) + 1) + 1) + 1) (by omega) (by first | omega | (have := (by assumption); omega)) (by first | rfl | assumption | (repeat' (first | rfl | apply And.intro)))) (.inr rfl) rfl (by simp) rfl) ?_
      refine TL.cons rfl (Step.assign (p := (.one (.d (.int .i64 (((((k + cntL SHead.ce (a.take i)) + 1) + 1) + 1) + ((a.getD i default).f3.length : Int)))))) rfl rfl (lt_ok rfl) rfl) ?_
      refine TL.nil ?_
      refine T.seq ?_
      refine T.seq ?_
      refine T.region ?_
      refine TL.cons rfl (Step.move (p := (.one (.d (.int .i64 (((((k + cntL SHead.ce (a.take i)) + 1) + 1) + 1) + ((a.getD i default).f3.length : Int)))))) rfl rfl (lt_ok rfl) rfl) ?_
      refine TL.cons rfl (Step.bin rfl rfl (lt_ok rfl) rfl rfl (Bin.lss (k := .i64) (a := (((((k + cntL SHead.ce (a.take i)) + 1) + 1) + 1) + ((a.getD i default).f3.length : Int))) (b := 0))) ?_
      refine TL.known 47 (c := false) (decide_eq_false (by omega)) rfl ?_
      refine TL.nil ?_
      refine T.cond (b := false) rfl (fun h5_ => absurd h5_ (by simp)) (fun h5_ => ?_)
      refine T.skip ?_
      refine T.seq ?_
      refine T.region ?_
      refine TL.cons rfl (Step.move (p := (.one (.d (.sl 10 (b.map SHead.cells))))) rfl rfl (lt_ok rfl) rfl) ?_
      refine TL.cons rfl (Step.move (p := (.one (.d (.int .i64 (i : Int))))) rfl rfl (lt_ok rfl) rfl) ?_
      refine TL.cons rfl (Step.index (e := 54) (z := 10) (i := (i : Int)) rfl rfl (lt_ok rfl) (by kernel_rfl) rfl rfl rfl (lt_ok rfl) rfl (by first | omega | (simp; omega)) (by simp only [D.size]; first | omega | (simp; omega))) ?_
      refine TL.cons rfl (Step.fieldAddr_e (j := 0) (off := 4) (n := 1) (one := true) rfl rfl (lt_ok rfl) (by kernel_rfl) (Nat.succ_ne_zero _) rfl (lt_ok rfl)) ?_
      refine TL.cons rfl (Step.load (e := (.ints .u8 (b.getD i default).f4)) rfl rfl (lt_ok rfl) (by kernel_rfl) rfl ((cell_map default (by first | omega | (simp; omega))).trans rfl)) ?_
      refine TL.cons rfl (Step.move (p := (.one (.d (.int .i64 (((((k + cntL SHead.ce (a.take i)) + 1) + 1) + 1) + ((a.getD i default).f3.length : Int)))))) rfl rfl (lt_ok rfl) rfl) ?_
      refine TL.cons rfl (Step.call (f := 25) (xs := [.tmp 52, .tmp 53]) (ps := [(.one (.d (.ints .u8 (b.getD i default).f4))), (.one (.d (.int .i64 (((((k + cntL SHead.ce (a.take i)) + 1) + 1) + 1) + ((a.getD i default).f3.length : Int)))))]) false (g := .func 25) rfl rfl (lt_ok rfl) rfl (by kernel_rfl) rfl (.cons (.one (.d _)) (.cons (.one (.d _)) .nil)) (ok_laws_heldByteS (a.getD i default).f4 (b.getD i default).f4 (((((k + cntL SHead.ce (a.take i)) + 1) + 1) + 1) + ((a.getD i default).f3.length : Int)) (by omega) (by first | omega | (have := (by assumption); omega)) (by first | rfl | assumption | (repeat' (first | rfl | apply And.intro)))) (.inr rfl) rfl (by simp) rfl) ?_
      refine TL.cons rfl (Step.assign (p := (.one (.d (.int .i64 ((((((k + cntL SHead.ce (a.take i)) + 1) + 1) + 1) + ((a.getD i default).f3.length : Int)) + ((a.getD i default).f4.length : Int)))))) rfl rfl (lt_ok rfl) rfl) ?_
      refine TL.nil ?_
      refine T.seq ?_
      refine T.seq ?_
      refine T.region ?_
      refine TL.cons rfl (Step.move (p := (.one (.d (.int .i64 ((((((k + cntL SHead.ce (a.take i)) + 1) + 1) + 1) + ((a.getD i default).f3.length : Int)) + ((a.getD i default).f4.length : Int)))))) rfl rfl (lt_ok rfl) rfl) ?_
      refine TL.cons rfl (Step.bin rfl rfl (lt_ok rfl) rfl rfl (Bin.lss (k := .i64) (a := ((((((k + cntL SHead.ce (a.take i)) + 1) + 1) + 1) + ((a.getD i default).f3.length : Int)) + ((a.getD i default).f4.length : Int))) (b := 0))) ?_
      refine TL.known 56 (c := false) (decide_eq_false (by omega)) rfl ?_
      refine TL.nil ?_
      refine T.cond (b := false) rfl (fun h6_ => absurd h6_ (by simp)) (fun h6_ => ?_)
      refine T.skip ?_
      refine T.seq ?_
      refine T.seq ?_
      refine T.region ?_
      refine TL.cons rfl (Step.move (p := (.one (.d (.sl 10 (b.map SHead.cells))))) rfl rfl (lt_ok rfl) rfl) ?_
      refine TL.cons rfl (Step.move (p := (.one (.d (.int .i64 (i : Int))))) rfl rfl (lt_ok rfl) rfl) ?_
      refine TL.cons rfl (Step.index (e := 54) (z := 10) (i := (i : Int)) rfl rfl (lt_ok rfl) (by kernel_rfl) rfl rfl rfl (lt_ok rfl) rfl (by first | omega | (simp; omega)) (by simp only [D.size]; first | omega | (simp; omega))) ?_
      refine TL.cons rfl (Step.fieldAddr_e (j := 0) (off := 5) (n := 5) (one := false) rfl rfl (lt_ok rfl) (by kernel_rfl) (Nat.succ_ne_zero _) rfl (lt_ok rfl)) ?_
      refine TL.cons rfl (Step.fieldAddr_e (j := 5) (off := 0) (n := 1) (one := true) rfl rfl (lt_ok rfl) (by kernel_rfl) (Nat.succ_ne_zero _) rfl (lt_ok rfl)) ?_
      refine TL.cons rfl (Step.load (e := (.int .i64 (b.getD i default).f5.f0)) rfl rfl (lt_ok rfl) (by kernel_rfl) rfl ((cell_map default (by first | omega | (simp; omega))).trans rfl)) ?_
      refine TL.cons rfl (Step.move (p := (.one (.d (.int .i64 ((((((k + cntL SHead.ce (a.take i)) + 1) + 1) + 1) + ((a.getD i default).f3.length : Int)) + ((a.getD i default).f4.length : Int)))))) rfl rfl (lt_ok rfl) rfl) ?_
      refine TL.cons rfl (Step.bin rfl rfl (lt_ok rfl) rfl rfl (Bin.neq (k := .i64) (a := (b.getD i default).f5.f0) (b := ((((((k + cntL SHead.ce (a.take i)) + 1) + 1) + 1) + ((a.getD i default).f3.length : Int)) + ((a.getD i default).f4.length : Int))))) ?_
      refine TL.nil ?_
      refine T.cond (b := decide ((b.getD i default).f5.f0 ≠ ((((((k + cntL SHead.ce (a.take i)) + 1) + 1) + 1) + ((a.getD i default).f3.length : Int)) + ((a.getD i default).f4.length : Int)))) rfl (fun h7 => ?_) (fun h7 => ?_)
      ·
       replace h7 := of_decide_eq_true h7
       refine T.seq ?_
       refine T.region ?_
       refine TL.cons rfl (Step.assign (p := (.one (.d (.int .i64 (-1))))) rfl rfl (lt_ok rfl) rfl) ?_
       refine TL.nil ?_
       refine T.ret ?_
       refine ⟨[(false, [.d (.int .i64 (-1))])], (.cons rfl .nil), rfl, [], (RetC.rd' ?_ .nil)⟩ <;> (first | (congr 1; rw [cntL_all (by omega)]) | (exfalso; omega))
      ·
       replace h7 := of_decide_eq_false h7
       refine T.skip ?_
       refine T.seq ?_
       refine T.region ?_
       refine TL.cons rfl (Step.move (p := (.one (.d (.int .i64 ((((((k + cntL SHead.ce (a.take i)) + 1) + 1) + 1) + ((a.getD i default).f3.length : Int)) + ((a.getD i default).f4.length : Int)))))) rfl rfl (lt_ok rfl) rfl) ?_
       refine TL.cons rfl (Step.bin (r := .int .i64 (((((((k + cntL SHead.ce (a.take i)) + 1) + 1) + 1) + ((a.getD i default).f3.length : Int)) + ((a.getD i default).f4.length : Int)) + 1)) rfl rfl (lt_ok rfl) rfl rfl (Bin.add (a := ((((((k + cntL SHead.ce (a.take i)) + 1) + 1) + 1) + ((a.getD i default).f3.length : Int)) + ((a.getD i default).f4.length : Int))) (b := 1) (by first | exact wrap_ok (by first | omega | (simp; omega)) (by first | omega | (simp; omega)) | rfl))) ?_
       refine TL.cons rfl (Step.assign (p := (.one (.d (.int .i64 (((((((k + cntL SHead.ce (a.take i)) + 1) + 1) + 1) + ((a.getD i default).f3.length : Int)) + ((a.getD i default).f4.length : Int)) + 1))))) rfl rfl (lt_ok rfl) rfl) ?_
       refine TL.nil ?_
       refine T.seq ?_
       refine T.seq ?_
       refine T.region ?_
       refine TL.cons rfl (Step.move (p := (.one (.d (.sl 10 (b.map SHead.cells))))) rfl rfl (lt_ok rfl) rfl) ?_
       refine TL.cons rfl (Step.move (p := (.one (.d (.int .i64 (i : Int))))) rfl rfl (lt_ok rfl) rfl) ?_
       refine TL.cons rfl (Step.index (e := 54) (z := 10) (i := (i : Int)) rfl rfl (lt_ok rfl) (by kernel_rfl) rfl rfl rfl (lt_ok rfl) rfl (by first | omega | (simp; omega)) (by simp only [D.size]; first | omega | (simp; omega))) ?_
       refine TL.cons rfl (Step.fieldAddr_e (j := 0) (off := 5) (n := 5) (one := false) rfl rfl (lt_ok rfl) (by kernel_rfl) (Nat.succ_ne_zero _) rfl (lt_ok rfl)) ?_
       refine TL.cons rfl (Step.fieldAddr_e (j := 5) (off := 1) (n := 1) (one := true) rfl rfl (lt_ok rfl) (by kernel_rfl) (Nat.succ_ne_zero _) rfl (lt_ok rfl)) ?_
       refine TL.cons rfl (Step.load (e := (.int .i64 (b.getD i default).f5.f1)) rfl rfl (lt_ok rfl) (by kernel_rfl) rfl ((cell_map default (by first | omega | (simp; omega))).trans rfl)) ?_
       refine TL.cons rfl (Step.move (p := (.one (.d (.int .i64 (((((((k + cntL SHead.ce (a.take i)) + 1) + 1) + 1) + ((a.getD i default).f3.length : Int)) + ((a.getD i default).f4.length : Int)) + 1))))) rfl rfl (lt_ok rfl) rfl) ?_
       refine TL.cons rfl (Step.bin rfl rfl (lt_ok rfl) rfl rfl (Bin.neq (k := .i64) (a := (b.getD i default).f5.f1) (b := (((((((k + cntL SHead.ce (a.take i)) + 1) + 1) + 1) + ((a.getD i default).f3.length : Int)) + ((a.getD i default).f4.length : Int)) + 1)))) ?_
       refine TL.nil ?_
       refine T.weaken (E' := { tm := [(0, (.one (.d (.sl 10 (b.map SHead.cells))))), (5, (.one (.d (.int .i64 (i : Int))))), (1, (.one (.d (.int .i64 (((((((k + cntL SHead.ce (a.take i)) + 1) + 1) + 1) + ((a.getD i default).f3.length : Int)) + ((a.getD i default).f4.length : Int)) + 1))))), (74, (.one (.d (.bool (decide ((b.getD i default).f5.f1 ≠ (((((((k + cntL SHead.ce (a.take i)) + 1) + 1) + 1) + ((a.getD i default).f3.length : Int)) + ((a.getD i default).f4.length : Int)) + 1)))))))], rows := [], boxes := [] }) (Env.le_mk ⟨by kernel_rfl, by kernel_rfl, by kernel_rfl, by kernel_rfl, trivial⟩ trivial trivial) ?_
       refine T.cond (b := decide ((b.getD i default).f5.f1 ≠ (((((((k + cntL SHead.ce (a.take i)) + 1) + 1) + 1) + ((a.getD i default).f3.length : Int)) + ((a.getD i default).f4.length : Int)) + 1))) rfl (fun h8 => ?_) (fun h8 => ?_)
       ·
        replace h8 := of_decide_eq_true h8
        refine T.seq ?_
        refine T.region ?_
        refine TL.cons rfl (Step.assign (p := (.one (.d (.int .i64 (-1))))) rfl rfl (lt_ok rfl) rfl) ?_
        refine TL.nil ?_
        refine T.ret ?_
        refine ⟨[(false, [.d (.int .i64 (-1))])], (.cons rfl .nil), rfl, [], (RetC.rd' ?_ .nil)⟩ <;> (first | (congr 1; rw [cntL_all (by omega)]) | (exfalso; omega))
       ·
        replace h8 := of_decide_eq_false h8
        refine T.skip ?_
        refine T.seq ?_
        refine T.region ?_
        refine TL.cons rfl (Step.move (p := (.one (.d (.int .i64 (((((((k + cntL SHead.ce (a.take i)) + 1) + 1) + 1) + ((a.getD i default).f3.length : Int)) + ((a.getD i default).f4.length : Int)) + 1))))) rfl rfl (lt_ok rfl) rfl) ?_
        refine TL.cons rfl (Step.bin (r := .int .i64 ((((((((k + cntL SHead.ce (a.take i)) + 1) + 1) + 1) + ((a.getD i default).f3.length : Int)) + ((a.getD i default).f4.length : Int)) + 1) + 1)) rfl rfl (lt_ok rfl) rfl rfl (Bin.add (a := (((((((k + cntL SHead.ce (a.take i)) + 1) + 1) + 1) + ((a.getD i default).f3.length : Int)) + ((a.getD i default).f4.length : Int)) + 1)) (b := 1) (by first | exact wrap_ok (by first | omega | (simp; omega)) (by first | omega | (simp; omega)) | rfl))) ?_
        refine TL.cons rfl (Step.assign (p := (.one (.d (.int .i64 ((((((((k + cntL SHead.ce (a.take i)) + 1) + 1) + 1) + ((a.getD i default).f3.length : Int)) + ((a.getD i default).f4.length : Int)) + 1) + 1))))) rfl rfl (lt_ok rfl) rfl) ?_
        refine TL.nil ?_
        refine T.seq ?_
        refine T.region ?_
        refine TL.cons rfl (Step.move (p := (.one (.d (.sl 10 (b.map SHead.cells))))) rfl rfl (lt_ok rfl) rfl) ?_
        refine TL.cons rfl (Step.move (p := (.one (.d (.int .i64 (i : Int))))) rfl rfl (lt_ok rfl) rfl) ?_
        refine TL.cons rfl (Step.index (e := 54) (z := 10) (i := (i : Int)) rfl rfl (lt_ok rfl) (by kernel_rfl) rfl rfl rfl (lt_ok rfl) rfl (by first | omega | (simp; omega)) (by simp only [D.size]; first | omega | (simp; omega))) ?_
        refine TL.cons rfl (Step.fieldAddr_e (j := 0) (off := 5) (n := 5) (one := false) rfl rfl (lt_ok rfl) (by kernel_rfl) (Nat.succ_ne_zero _) rfl (lt_ok rfl)) ?_
        refine TL.cons rfl (Step.fieldAddr_e (j := 5) (off := 2) (n := 1) (one := true) rfl rfl (lt_ok rfl) (by kernel_rfl) (Nat.succ_ne_zero _) rfl (lt_ok rfl)) ?_
        refine TL.cons rfl (Step.load (e := (.ints .u8 (b.getD i default).f5.f2)) rfl rfl (lt_ok rfl) (by kernel_rfl) rfl ((cell_map default (by first | omega | (simp; omega))).trans rfl)) ?_
        refine TL.cons rfl (Step.move (p := (.one (.d (.int .i64 ((((((((k + cntL SHead.ce (a.take i)) + 1) + 1) + 1) + ((a.getD i default).f3.length : Int)) + ((a.getD i default).f4.length : Int)) + 1) + 1))))) rfl rfl (lt_ok rfl) rfl) ?_
        refine TL.cons rfl (Step.call (f := 25) (xs := [.tmp 82, .tmp 83]) (ps := [(.one (.d (.ints .u8 (b.getD i default).f5.f2))), (.one (.d (.int .i64 ((((((((k + cntL SHead.ce (a.take i)) + 1) + 1) + 1) + ((a.getD i default).f3.length : Int)) + ((a.getD i default).f4.length : Int)) + 1) + 1))))]) false (g := .func 25) rfl rfl (lt_ok rfl) rfl (by kernel_rfl) rfl (.cons (.one (.d _)) (.cons (.one (.d _)) .nil)) (ok_laws_heldByteS (a.getD i default).f5.f2 (b.getD i default).f5.f2 ((((((((k + cntL SHead.ce (a.take i)) + 1) + 1) + 1) + ((a.getD i default).f3.length : Int)) + ((a.getD i default).f4.length : Int)) + 1) + 1) (by omega) (by first | omega | (have := (by assumption); omega)) (by first | rfl | assumption | (repeat' (first | rfl | apply And.intro)))) (.inr rfl) rfl (by simp) rfl) ?_
        refine TL.cons rfl (Step.assign (p := (.one (.d (.int .i64 (((((((((k + cntL SHead.ce (a.take i)) + 1) + 1) + 1) + ((a.getD i default).f3.length : Int)) + ((a.getD i default).f4.length : Int)) + 1) + 1) + ((a.getD i default).f5.f2.length : Int)))))) rfl rfl (lt_ok rfl) rfl) ?_
        refine TL.nil ?_
        refine T.seq ?_
        refine T.seq ?_
        refine T.region ?_
        refine TL.cons rfl (Step.move (p := (.one (.d (.int .i64 (((((((((k + cntL SHead.ce (a.take i)) + 1) + 1) + 1) + ((a.getD i default).f3.length : Int)) + ((a.getD i default).f4.length : Int)) + 1) + 1) + ((a.getD i default).f5.f2.length : Int)))))) rfl rfl (lt_ok rfl) rfl) ?_
        refine TL.cons rfl (Step.bin rfl rfl (lt_ok rfl) rfl rfl (Bin.lss (k := .i64) (a := (((((((((k + cntL SHead.ce (a.take i)) + 1) + 1) + 1) + ((a.getD i default).f3.length : Int)) + ((a.getD i default).f4.length : Int)) + 1) + 1) + ((a.getD i default).f5.f2.length : Int))) (b := 0))) ?_
        refine TL.known 86 (c := false) (decide_eq_false (by omega)) rfl ?_
        refine TL.nil ?_
        refine T.cond (b := false) rfl (fun h9_ => absurd h9_ (by simp)) (fun h9_ => ?_)
        refine T.skip ?_
        refine T.seq ?_
        refine T.region ?_
        refine TL.cons rfl (Step.move (p := (.one (.d (.sl 10 (b.map SHead.cells))))) rfl rfl (lt_ok rfl) rfl) ?_
        refine TL.cons rfl (Step.move (p := (.one (.d (.int .i64 (i : Int))))) rfl rfl (lt_ok rfl) rfl) ?_
        refine TL.cons rfl (Step.index (e := 54) (z := 10) (i := (i : Int)) rfl rfl (lt_ok rfl) (by kernel_rfl) rfl rfl rfl (lt_ok rfl) rfl (by first | omega | (simp; omega)) (by simp only [D.size]; first | omega | (simp; omega))) ?_
        refine TL.cons rfl (Step.fieldAddr_e (j := 0) (off := 5) (n := 5) (one := false) rfl rfl (lt_ok rfl) (by kernel_rfl) (Nat.succ_ne_zero _) rfl (lt_ok rfl)) ?_
        refine TL.cons rfl (Step.fieldAddr_e (j := 5) (off := 3) (n := 1) (one := true) rfl rfl (lt_ok rfl) (by kernel_rfl) (Nat.succ_ne_zero _) rfl (lt_ok rfl)) ?_
        refine TL.cons rfl (Step.load (e := (.ints .u8 (b.getD i default).f5.f3)) rfl rfl (lt_ok rfl) (by kernel_rfl) rfl ((cell_map default (by first | omega | (simp; omega))).trans rfl)) ?_
        refine TL.cons rfl (Step.move (p := (.one (.d (.int .i64 (((((((((k + cntL SHead.ce (a.take i)) + 1) + 1) + 1) + ((a.getD i default).f3.length : Int)) + ((a.getD i default).f4.length : Int)) + 1) + 1) + ((a.getD i default).f5.f2.length : Int)))))) rfl rfl (lt_ok rfl) rfl) ?_
        refine TL.cons rfl (Step.call (f := 25) (xs := [.tmp 92, .tmp 93]) (ps := [(.one (.d (.ints .u8 (b.getD i default).f5.f3))), (.one (.d (.int .i64 (((((((((k + cntL SHead.ce (a.take i)) + 1) + 1) + 1) + ((a.getD i default).f3.length : Int)) + ((a.getD i default).f4.length : Int)) + 1) + 1) + ((a.getD i default).f5.f2.length : Int)))))]) false (g := .func 25) rfl rfl (lt_ok rfl) rfl (by kernel_rfl) rfl (.cons (.one (.d _)) (.cons (.one (.d _)) .nil)) (ok_laws_heldByteS (a.getD i default).f5.f3 (b.getD i default).f5.f3 (((((((((k + cntL SHead.ce (a.take i)) + 1) + 1) + 1) + ((a.getD i default).f3.length : Int)) + ((a.getD i default).f4.length : Int)) + 1) + 1) + ((a.getD i default).f5.f2.length : Int)) (by omega) (by first | omega | (have := (by assumption); omega)) (by first | rfl | assumption | (repeat' (first | rfl | apply And.intro)))) (.inr rfl) rfl (by simp) rfl) ?_
        refine TL.cons rfl (Step.assign (p := (.one (.d (.int .i64 ((((((((((k + cntL SHead.ce (a.take i)) + 1) + 1) + 1) + ((a.getD i default).f3.length : Int)) + ((a.getD i default).f4.length : Int)) + 1) + 1) + ((a.getD i default).f5.f2.length : Int)) + ((a.getD i default).f5.f3.length : Int)))))) rfl rfl (lt_ok rfl) rfl) ?_
        refine TL.nil ?_
        refine T.seq ?_
        refine T.seq ?_
        refine T.region ?_
        refine TL.cons rfl (Step.move (p := (.one (.d (.int .i64 ((((((((((k + cntL SHead.ce (a.take i)) + 1) + 1) + 1) + ((a.getD i default).f3.length : Int)) + ((a.getD i default).f4.length : Int)) + 1) + 1) + ((a.getD i default).f5.f2.length : Int)) + ((a.getD i default).f5.f3.length : Int)))))) rfl rfl (lt_ok rfl) rfl) ?_
        refine TL.cons rfl (Step.bin rfl rfl (lt_ok rfl) rfl rfl (Bin.lss (k := .i64) (a := ((((((((((k + cntL SHead.ce (a.take i)) + 1) + 1) + 1) + ((a.getD i default).f3.length : Int)) + ((a.getD i default).f4.length : Int)) + 1) + 1) + ((a.getD i default).f5.f2.length : Int)) + ((a.getD i default).f5.f3.length : Int))) (b := 0))) ?_
        refine TL.known 96 (c := false) (decide_eq_false (by omega)) rfl ?_
        refine TL.nil ?_
        refine T.cond (b := false) rfl (fun h10_ => absurd h10_ (by simp)) (fun h10_ => ?_)
        refine T.skip ?_
        refine T.seq ?_
        refine T.region ?_
        refine TL.cons rfl (Step.move (p := (.one (.d (.sl 10 (b.map SHead.cells))))) rfl rfl (lt_ok rfl) rfl) ?_
        refine TL.cons rfl (Step.move (p := (.one (.d (.int .i64 (i : Int))))) rfl rfl (lt_ok rfl) rfl) ?_
        refine TL.cons rfl (Step.index (e := 54) (z := 10) (i := (i : Int)) rfl rfl (lt_ok rfl) (by kernel_rfl) rfl rfl rfl (lt_ok rfl) rfl (by first | omega | (simp; omega)) (by simp only [D.size]; first | omega | (simp; omega))) ?_
        refine TL.cons rfl (Step.fieldAddr_e (j := 0) (off := 5) (n := 5) (one := false) rfl rfl (lt_ok rfl) (by kernel_rfl) (Nat.succ_ne_zero _) rfl (lt_ok rfl)) ?_
        refine TL.cons rfl (Step.fieldAddr_e (j := 5) (off := 4) (n := 1) (one := true) rfl rfl (lt_ok rfl) (by kernel_rfl) (Nat.succ_ne_zero _) rfl (lt_ok rfl)) ?_
        refine TL.cons rfl (Step.load (e := (.bss (b.getD i default).f5.f4)) rfl rfl (lt_ok rfl) (by kernel_rfl) rfl ((cell_map default (by first | omega | (simp; omega))).trans rfl)) ?_
        refine TL.cons rfl (Step.move (p := (.one (.d (.int .i64 ((((((((((k + cntL SHead.ce (a.take i)) + 1) + 1) + 1) + ((a.getD i default).f3.length : Int)) + ((a.getD i default).f4.length : Int)) + 1) + 1) + ((a.getD i default).f5.f2.length : Int)) + ((a.getD i default).f5.f3.length : Int)))))) rfl rfl (lt_ok rfl) rfl) ?_
        have nn11 := cntBs_nonneg (a.getD i default).f5.f4
        refine TL.cons rfl (Step.call (f := 64) (xs := [.tmp 102, .tmp 103]) (ps := [(.one (.d (.bss (b.getD i default).f5.f4))), (.one (.d (.int .i64 ((((((((((k + cntL SHead.ce (a.take i)) + 1) + 1) + 1) + ((a.getD i default).f3.length : Int)) + ((a.getD i default).f4.length : Int)) + 1) + 1) + ((a.getD i default).f5.f2.length : Int)) + ((a.getD i default).f5.f3.length : Int)))))]) false (g := .func 64) rfl rfl (lt_ok rfl) rfl (by kernel_rfl) rfl (.cons (.one (.d _)) (.cons (.one (.d _)) .nil)) (ok_laws_heldByteSS (a.getD i default).f5.f4 (b.getD i default).f5.f4 ((((((((((k + cntL SHead.ce (a.take i)) + 1) + 1) + 1) + ((a.getD i default).f3.length : Int)) + ((a.getD i default).f4.length : Int)) + 1) + 1) + ((a.getD i default).f5.f2.length : Int)) + ((a.getD i default).f5.f3.length : Int)) (by omega) (by first | omega | (have := cntBs_le (xs := (a.getD i default).f5.f4) (by assumption); omega)) (by first | rfl | assumption | (repeat' (first | rfl | apply And.intro)))) (.inr rfl) rfl (by simp) rfl) ?_
        refine TL.cons rfl (Step.assign (p := (.one (.d (.int .i64 (((((((((((k + cntL SHead.ce (a.take i)) + 1) + 1) + 1) + ((a.getD i default).f3.length : Int)) + ((a.getD i default).f4.length : Int)) + 1) + 1) + ((a.getD i default).f5.f2.length : Int)) + ((a.getD i default).f5.f3.length : Int)) + cntL (fun x : List Int => (x.length : Int)) (a.getD i default).f5.f4))))) rfl rfl (lt_ok rfl) rfl) ?_
        refine TL.nil ?_
        refine T.seq ?_
        refine T.region ?_
        refine TL.cons rfl (Step.move (p := (.one (.d (.int .i64 (((((((((((k + cntL SHead.ce (a.take i)) + 1) + 1) + 1) + ((a.getD i default).f3.length : Int)) + ((a.getD i default).f4.length : Int)) + 1) + 1) + ((a.getD i default).f5.f2.length : Int)) + ((a.getD i default).f5.f3.length : Int)) + cntL (fun x : List Int => (x.length : Int)) (a.getD i default).f5.f4))))) rfl rfl (lt_ok rfl) rfl) ?_
        refine TL.cons rfl (Step.bin rfl rfl (lt_ok rfl) rfl rfl (Bin.lss (k := .i64) (a := (((((((((((k + cntL SHead.ce (a.take i)) + 1) + 1) + 1) + ((a.getD i default).f3.length : Int)) + ((a.getD i default).f4.length : Int)) + 1) + 1) + ((a.getD i default).f5.f2.length : Int)) + ((a.getD i default).f5.f3.length : Int)) + cntL (fun x : List Int => (x.length : Int)) (a.getD i default).f5.f4)) (b := 0))) ?_
        refine TL.known 106 (c := false) (decide_eq_false (by omega)) rfl ?_
        refine TL.nil ?_
        refine T.cond (b := false) rfl (fun h12_ => absurd h12_ (by simp)) (fun h12_ => ?_)
        refine T.skip ?_
        refine T.region ?_
        refine TL.cons rfl (Step.move (p := (.one (.d (.int .i64 (i : Int))))) rfl rfl (lt_ok rfl) rfl) ?_
        refine TL.cons rfl (Step.bin (r := .int .i64 ((i : Int) + 1)) rfl rfl (lt_ok rfl) rfl rfl (Bin.add (a := (i : Int)) (b := 1) (by first | exact wrap_ok (by first | omega | (simp; omega)) (by first | omega | (simp; omega)) | rfl))) ?_
        refine TL.cons rfl (Step.assign (p := (.one (.d (.int .i64 ((i : Int) + 1))))) rfl rfl (lt_ok rfl) rfl) ?_
        refine TL.nil ?_
        refine ⟨i + 1, by omega, by first | omega | (dsimp only; omega), Env.le_mk ⟨rfl, ?_, ?_, trivial⟩ trivial trivial⟩ <;> (first | rfl | (refine congrArg (fun n => PV.one (.d (.int .i64 n))) ?_; first | omega | (simp; done) | (simp [cntL]; done)))
  ·
   replace h1 := of_decide_eq_false h1
   refine T.exit ?_
   refine T.seq ?_
   refine T.region ?_
   refine TL.cons rfl (Step.move (p := (.one (.d (.int .i64 (k + cntL SHead.ce (a.take i)))))) rfl rfl (lt_ok rfl) rfl) ?_
   refine TL.cons rfl (Step.assign (p := (.one (.d (.int .i64 (k + cntL SHead.ce (a.take i)))))) rfl rfl (lt_ok rfl) rfl) ?_
   refine TL.nil ?_
   refine T.ret ?_
   refine ⟨[(false, [.d (.int .i64 (k + cntL SHead.ce (a.take i)))])], (.cons rfl .nil), rfl, [], (RetC.rd' ?_ .nil)⟩ <;> (first | (congr 1; rw [cntL_all (by omega)]) | (exfalso; omega))
theorem ok_laws_heldProof (a : SProof) (b : SProof) (k : Int) (h0_ : 0 ≤ k) (h1_ : k + a.cm ≤ 4611686018427387904) (h2_ : SProof.hm a b k) : RO Try.prog 44 [.agg b.cells, .one (.int .i64 k)] [(false, [.rd (.int .i64 (k + a.cm))])] := by
 refine RO.intro Try.func44 rfl 18 rfl (le_ok rfl) fun w Z => ?_
 obtain ⟨p0, p1⟩ := h2_
 have n0 := cntL_nonneg SHead.ce_nn a.f0
 have n1 := SQc.cm_nn a.f1
 simp only [SProof.cm] at h1_
 refine T.seq ?_
 refine T.region ?_
 refine TL.cons rfl (Step.box (p := (.agg [.d (.sl 10 (b.f0.map SHead.cells)), .d (.int .i64 b.f1.f0), .d (.int .i64 b.f1.f1), .d (.ints .u8 b.f1.f2), .d (.ints .u8 b.f1.f3), .d (.bss b.f1.f4)])) (ps := [.d (.sl 10 (b.f0.map SHead.cells)), .d (.int .i64 b.f1.f0), .d (.int .i64 b.f1.f1), .d (.ints .u8 b.f1.f2), .d (.ints .u8 b.f1.f3), .d (.bss b.f1.f4)]) rfl rfl (lt_ok rfl) rfl rfl rfl rfl rfl) ?_
 refine TL.cons rfl (Step.assign (p := (.one (.d (.int .i64 0)))) rfl rfl (lt_ok rfl) rfl) ?_
 refine TL.nil ?_
 refine T.seq ?_
 refine T.region ?_
 refine TL.cons rfl (Step.fieldAddr (q := 0) (off := 0) (n := 1) (one := true) rfl rfl (lt_ok rfl) (by kernel_rfl) (Nat.succ_ne_zero _) rfl) ?_
 refine TL.cons rfl (Step.load_box (c := .d (.sl 10 (b.f0.map SHead.cells))) rfl rfl (lt_ok rfl) (by kernel_rfl) rfl rfl rfl) ?_
 refine TL.cons rfl (Step.move (p := (.one (.d (.int .i64 k)))) rfl rfl (lt_ok rfl) rfl) ?_
 have nn1 := cntL_nonneg SHead.ce_nn a.f0
 refine TL.cons rfl (Step.call (f := 96) (xs := [.tmp 6, .tmp 7]) (ps := [(.one (.d (.sl 10 (b.f0.map SHead.cells)))), (.one (.d (.int .i64 k)))]) false (g := .func 96) rfl rfl (lt_ok rfl) rfl (by kernel_rfl) rfl (.cons (.one (.d _)) (.cons (.one (.d _)) .nil)) (ok_laws_heldHeadS a.f0 b.f0 k (by omega) (by first | omega | (have := SHead.cL_le (xs := a.f0) (by assumption); omega)) (by first | rfl | assumption | (repeat' (first | rfl | apply And.intro)))) (.inr rfl) rfl (by simp) rfl) ?_
 refine TL.cons rfl (Step.assign (p := (.one (.d (.int .i64 (k + cntL SHead.ce a.f0))))) rfl rfl (lt_ok rfl) rfl) ?_
 refine TL.nil ?_
 refine T.seq ?_
 refine T.seq ?_
 refine T.region ?_
 refine TL.cons rfl (Step.move (p := (.one (.d (.int .i64 (k + cntL SHead.ce a.f0))))) rfl rfl (lt_ok rfl) rfl) ?_
 refine TL.cons rfl (Step.bin rfl rfl (lt_ok rfl) rfl rfl (Bin.lss (k := .i64) (a := (k + cntL SHead.ce a.f0)) (b := 0))) ?_
 refine TL.known 10 (c := false) (decide_eq_false (by omega)) rfl ?_
 refine TL.nil ?_
 refine T.cond (b := false) rfl (fun h2_ => absurd h2_ (by simp)) (fun h2_ => ?_)
 refine T.skip ?_
 refine T.seq ?_
 refine T.region ?_
 refine TL.cons rfl (Step.fieldAddr (q := 0) (off := 1) (n := 5) (one := false) rfl rfl (lt_ok rfl) (by kernel_rfl) (Nat.succ_ne_zero _) rfl) ?_
 refine TL.cons rfl (Step.load_box_agg (n := 5) (qs := [.d (.int .i64 b.f1.f0), .d (.int .i64 b.f1.f1), .d (.ints .u8 b.f1.f2), .d (.ints .u8 b.f1.f3), .d (.bss b.f1.f4)]) rfl rfl (lt_ok rfl) (by kernel_rfl) rfl rfl rfl rfl) ?_
 refine TL.cons rfl (Step.move (p := (.one (.d (.int .i64 (k + cntL SHead.ce a.f0))))) rfl rfl (lt_ok rfl) rfl) ?_
 have nn3 := SQc.cm_nn a.f1
 refine TL.cons rfl (Step.call (f := 36) (xs := [.tmp 12, .tmp 13]) (ps := [(.agg [.d (.int .i64 b.f1.f0), .d (.int .i64 b.f1.f1), .d (.ints .u8 b.f1.f2), .d (.ints .u8 b.f1.f3), .d (.bss b.f1.f4)]), (.one (.d (.int .i64 (k + cntL SHead.ce a.f0))))]) false (g := .func 36) rfl rfl (lt_ok rfl) rfl (by kernel_rfl) rfl (.cons (.agg (.cons (.d _) (.cons (.d _) (.cons (.d _) (.cons (.d _) (.cons (.d _) .nil)))))) (.cons (.one (.d _)) .nil)) (ok_laws_heldQc a.f1 b.f1 (k + cntL SHead.ce a.f0) (by omega) (by first | omega | (have := SQc.cm_le (x := a.f1) (by assumption); omega)) (by first | rfl | assumption | (repeat' (first | rfl | apply And.intro)))) (.inr rfl) rfl (by simp) rfl) ?_
 refine TL.cons rfl (Step.assign (p := (.one (.d (.int .i64 ((k + cntL SHead.ce a.f0) + a.f1.cm))))) rfl rfl (lt_ok rfl) rfl) ?_
 refine TL.nil ?_
 refine T.seq ?_
 refine T.seq ?_
 refine T.region ?_
 refine TL.cons rfl (Step.move (p := (.one (.d (.int .i64 ((k + cntL SHead.ce a.f0) + a.f1.cm))))) rfl rfl (lt_ok rfl) rfl) ?_
 refine TL.cons rfl (Step.bin rfl rfl (lt_ok rfl) rfl rfl (Bin.lss (k := .i64) (a := ((k + cntL SHead.ce a.f0) + a.f1.cm)) (b := 0))) ?_
 refine TL.known 16 (c := false) (decide_eq_false (by omega)) rfl ?_
 refine TL.nil ?_
 refine T.cond (b := false) rfl (fun h4_ => absurd h4_ (by simp)) (fun h4_ => ?_)
 refine T.skip ?_
 refine T.seq ?_
 refine T.region ?_
 refine TL.cons rfl (Step.move (p := (.one (.d (.int .i64 ((k + cntL SHead.ce a.f0) + a.f1.cm))))) rfl rfl (lt_ok rfl) rfl) ?_
 refine TL.cons rfl (Step.assign (p := (.one (.d (.int .i64 ((k + cntL SHead.ce a.f0) + a.f1.cm))))) rfl rfl (lt_ok rfl) rfl) ?_
 refine TL.nil ?_
 refine T.ret ?_
 refine ⟨[(false, [.d (.int .i64 ((k + cntL SHead.ce a.f0) + a.f1.cm))])], (.cons rfl .nil), rfl, [], (RetC.rd' ?_ .nil)⟩ <;> (first | rfl | (congr 1; simp only [SProof.cm]; omega))
theorem ok_laws_FnExactGetProof (aL : SLimits) (aB : List Int) (aAt : Int) (h0_ : aL.ok) (h1_ : U8s aB) (h2_ : I64 aAt) : RO Try.prog 7 [.agg aL.cells, .one (.ints .u8 aB), .one (.int .i64 aAt)] [(false, [.rd (.bool true)])] := by
 refine RO.intro Try.func7 rfl 127 rfl (le_ok rfl) fun w Z => ?_
 refine T.bnd 1 0 rfl rfl fun hb_1_0 => ?_
 simp only [D.size, List.length_map] at hb_1_0
 refine T.seq ?_
 refine T.region ?_
 refine TL.cons rfl (Step.box (p := (.agg [.d (.int .i64 aL.f0), .d (.int .i64 aL.f1), .d (.int .i64 aL.f2), .d (.int .i64 aL.f3), .d (.int .i64 aL.f4)])) (ps := [.d (.int .i64 aL.f0), .d (.int .i64 aL.f1), .d (.int .i64 aL.f2), .d (.int .i64 aL.f3), .d (.int .i64 aL.f4)]) rfl rfl (lt_ok rfl) rfl rfl rfl rfl rfl) ?_
 refine TL.cons rfl (Step.assign (p := (.one (.d (.bool false)))) rfl rfl (lt_ok rfl) rfl) ?_
 refine TL.nil ?_
 refine T.seq ?_
 refine T.seq ?_
 refine T.region ?_
 refine TL.cons rfl (Step.move (p := (.one (.d (.ints .u8 aB)))) rfl rfl (lt_ok rfl) rfl) ?_
 refine TL.cons rfl (Step.len (e := 5) (z := 1) (d := (.ints .u8 aB)) rfl rfl (lt_ok rfl) (by kernel_rfl) rfl rfl) ?_
 refine TL.cons rfl (Step.bin rfl rfl (lt_ok rfl) rfl rfl (Bin.gtr (k := .i64) (a := (aB.length : Int)) (b := 1048576))) ?_
 refine TL.nil ?_
 refine T.cond (b := decide (1048576 < (aB.length : Int))) rfl (fun h1 => ?_) (fun h1 => ?_)
 ·
  replace h1 := of_decide_eq_true h1
  refine T.seq ?_
  refine T.region ?_
  refine TL.cons rfl (Step.assign (p := (.one (.d (.bool true)))) rfl rfl (lt_ok rfl) rfl) ?_
  refine TL.nil ?_
  refine T.ret ?_
  exact ⟨[(false, [.d (.bool true)])], (.cons rfl .nil), rfl, [], (RetC.rd' rfl .nil)⟩
 ·
  replace h1 := of_decide_eq_false h1
  refine T.skip ?_
  refine T.seq ?_
  refine T.region ?_
  refine TL.cons rfl (Step.load_box_agg (n := 5) (qs := [.d (.int .i64 aL.f0), .d (.int .i64 aL.f1), .d (.int .i64 aL.f2), .d (.int .i64 aL.f3), .d (.int .i64 aL.f4)]) rfl rfl (lt_ok rfl) (by kernel_rfl) rfl rfl rfl rfl) ?_
  refine TL.cons rfl (Step.call (f := 17) (xs := [.tmp 24]) (ps := [(.agg [.d (.int .i64 aL.f0), .d (.int .i64 aL.f1), .d (.int .i64 aL.f2), .d (.int .i64 aL.f3), .d (.int .i64 aL.f4)])]) false (g := .func 17) rfl rfl (lt_ok rfl) rfl (by kernel_rfl) rfl (.cons (.agg (.cons (.d _) (.cons (.d _) (.cons (.d _) (.cons (.d _) (.cons (.d _) .nil)))))) .nil) (ok_laws_toLimits aL) (.inr rfl) rfl (by simp) rfl) ?_
  refine TL.cons rfl (Step.move (p := (.one (.d (.ints .u8 aB)))) rfl rfl (lt_ok rfl) rfl) ?_
  refine TL.cons rfl (Step.call (f := 18) (xs := [.tmp 26]) (ps := [(.one (.d (.ints .u8 aB)))]) false (g := .func 18) rfl rfl (lt_ok rfl) rfl (by kernel_rfl) rfl (.cons (.one (.d _)) .nil) (ok_laws_toByteS aB (by first | omega | assumption | exact mem_getD h0_.2 (by omega))) (.inr rfl) rfl (by simp) rfl) ?_
  refine TL.cons rfl (Step.move (p := (.one (.d (.int .i64 aAt)))) rfl rfl (lt_ok rfl) rfl) ?_
  have nn2 := @getProof_sm aL aB aAt (by first | assumption | omega)
  refine TL.cons rfl (Step.call (f := 42) (xs := [.tmp 25, .tmp 27, .tmp 28]) (ps := [(.agg [.d (.int .i64 aL.f0), .d (.int .i64 aL.f1), .d (.int .i64 aL.f2), .d (.int .i64 aL.f3), .d (.int .i64 aL.f4)]), (.one (.row 1027 [])), (.one (.d (.int .i64 aAt)))]) false (g := .func 42) rfl rfl (lt_ok rfl) rfl (by kernel_rfl) rfl (.cons (.agg (.cons (.d _) (.cons (.d _) (.cons (.d _) (.cons (.d _) (.cons (.d _) .nil)))))) (.cons (.one (.row rfl rfl rfl rfl)) (.cons (.one (.d _)) .nil))) (ok_spec_GetProof aL aB aAt (by assumption) (by first | omega | assumption | (simp only [List.length_append] at *; omega))) (.inr rfl) rfl (by simp) rfl) ?_
  refine TL.cons rfl (Step.move (p := (.tup [(true, [.row 1029 [], .d (.int .i64 (getProof aL aB aAt).1.f1.f0), .d (.int .i64 (getProof aL aB aAt).1.f1.f1), .row 4029 [], .row 5029 [], .row 6029 []]), (false, [.d (.int .i64 (getProof aL aB aAt).2.1)]), (false, [.d (.int .i64 (getProof aL aB aAt).2.2)])])) rfl rfl (lt_ok rfl) rfl) ?_
  refine TL.cons rfl (Step.extract (p := (.agg [.row 1029 [], .d (.int .i64 (getProof aL aB aAt).1.f1.f0), .d (.int .i64 (getProof aL aB aAt).1.f1.f1), .row 4029 [], .row 5029 [], .row 6029 []])) rfl rfl (lt_ok rfl) rfl rfl) ?_
  refine TL.cons rfl (Step.extract (p := (.one (.d (.int .i64 (getProof aL aB aAt).2.1)))) rfl rfl (lt_ok rfl) rfl rfl) ?_
  refine TL.cons rfl (Step.extract (p := (.one (.d (.int .i64 (getProof aL aB aAt).2.2)))) rfl rfl (lt_ok rfl) rfl rfl) ?_
  refine TL.cons rfl (Step.alloc (cs := [.slice none 0 0, .int .i64 0, .int .i64 0, .slice none 0 0, .slice none 0 0, .slice none 0 0]) (ps := [.nil, .d (.int .i64 0), .d (.int .i64 0), .nil, .nil, .nil]) rfl rfl (lt_ok rfl) (by kernel_rfl) rfl rfl rfl rfl) ?_
  refine TL.cons rfl (Step.store_box (n := 6) (p := (.agg [.row 1029 [], .d (.int .i64 (getProof aL aB aAt).1.f1.f0), .d (.int .i64 (getProof aL aB aAt).1.f1.f1), .row 4029 [], .row 5029 [], .row 6029 []])) (qs := [.row 1029 [], .d (.int .i64 (getProof aL aB aAt).1.f1.f0), .d (.int .i64 (getProof aL aB aAt).1.f1.f1), .row 4029 [], .row 5029 [], .row 6029 []]) (ps' := [.row 1029 [], .d (.int .i64 (getProof aL aB aAt).1.f1.f0), .d (.int .i64 (getProof aL aB aAt).1.f1.f1), .row 4029 [], .row 5029 [], .row 6029 []]) rfl rfl (by kernel_rfl) rfl rfl rfl rfl rfl rfl (le_ok rfl) rfl) ?_
  refine TL.cons rfl (Step.assign (p := (.one (.d (.int .i64 (getProof aL aB aAt).2.1)))) rfl rfl (lt_ok rfl) rfl) ?_
  refine TL.cons rfl (Step.assign (p := (.one (.d (.int .i64 (getProof aL aB aAt).2.2)))) rfl rfl (lt_ok rfl) rfl) ?_
  refine TL.nil ?_
  refine T.seq ?_
  refine T.region ?_
  refine TL.cons rfl (Step.move (p := (.one (.d (.ints .u8 aB)))) rfl rfl (lt_ok rfl) rfl) ?_
  refine TL.cons rfl (Step.call (f := 18) (xs := [.tmp 33]) (ps := [(.one (.d (.ints .u8 aB)))]) false (g := .func 18) rfl rfl (lt_ok rfl) rfl (by kernel_rfl) rfl (.cons (.one (.d _)) .nil) (ok_laws_toByteS aB (by first | omega | assumption | exact mem_getD h0_.2 (by omega))) (.inr rfl) rfl (by simp) rfl) ?_
  refine TL.cons rfl (Step.assign (p := (.one (.row 1034 []))) rfl rfl (lt_ok rfl) rfl) ?_
  refine TL.nil ?_
  refine T.seq ?_
  refine T.region ?_
  refine TL.cons rfl (Step.load_box_agg (n := 5) (qs := [.d (.int .i64 aL.f0), .d (.int .i64 aL.f1), .d (.int .i64 aL.f2), .d (.int .i64 aL.f3), .d (.int .i64 aL.f4)]) rfl rfl (lt_ok rfl) (by kernel_rfl) rfl rfl rfl rfl) ?_
  refine TL.cons rfl (Step.call (f := 17) (xs := [.tmp 36]) (ps := [(.agg [.d (.int .i64 aL.f0), .d (.int .i64 aL.f1), .d (.int .i64 aL.f2), .d (.int .i64 aL.f3), .d (.int .i64 aL.f4)])]) false (g := .func 17) rfl rfl (lt_ok rfl) rfl (by kernel_rfl) rfl (.cons (.agg (.cons (.d _) (.cons (.d _) (.cons (.d _) (.cons (.d _) (.cons (.d _) .nil)))))) .nil) (ok_laws_toLimits aL) (.inr rfl) rfl (by simp) rfl) ?_
  refine TL.cons rfl (Step.move (p := (.one (.row 1034 []))) rfl rfl (lt_ok rfl) rfl) ?_
  refine TL.cons rfl (Step.move (p := (.one (.d (.int .i64 aAt)))) rfl rfl (lt_ok rfl) rfl) ?_
  have nn3 := @getProof_sm aL aB aAt (by first | assumption | omega)
  refine TL.cons rfl (Step.call (f := 43) (xs := [.tmp 37, .tmp 38, .tmp 39]) (ps := [(.agg [.d (.int .i64 aL.f0), .d (.int .i64 aL.f1), .d (.int .i64 aL.f2), .d (.int .i64 aL.f3), .d (.int .i64 aL.f4)]), (.one (.row 1034 [])), (.one (.d (.int .i64 aAt)))]) false (g := .func 43) rfl rfl (lt_ok rfl) rfl (by kernel_rfl) rfl (.cons (.agg (.cons (.d _) (.cons (.d _) (.cons (.d _) (.cons (.d _) (.cons (.d _) .nil)))))) (.cons (.one (.row rfl rfl rfl rfl)) (.cons (.one (.d _)) .nil))) (ok_impl_GetProof aL aB aAt (by assumption) (by first | omega | assumption | (simp only [List.length_append] at *; omega))) (.inr rfl) rfl (by simp) rfl) ?_
  refine TL.cons rfl (Step.move (p := (.tup [(true, [.row 1040 [], .d (.int .i64 (getProof aL aB aAt).1.f1.f0), .d (.int .i64 (getProof aL aB aAt).1.f1.f1), .row 4040 [], .row 5040 [], .row 6040 []]), (false, [.d (.int .i64 (getProof aL aB aAt).2.1)]), (false, [.d (.int .i64 (getProof aL aB aAt).2.2)])])) rfl rfl (lt_ok rfl) rfl) ?_
  refine TL.cons rfl (Step.extract (p := (.agg [.row 1040 [], .d (.int .i64 (getProof aL aB aAt).1.f1.f0), .d (.int .i64 (getProof aL aB aAt).1.f1.f1), .row 4040 [], .row 5040 [], .row 6040 []])) rfl rfl (lt_ok rfl) rfl rfl) ?_
  refine TL.cons rfl (Step.extract (p := (.one (.d (.int .i64 (getProof aL aB aAt).2.1)))) rfl rfl (lt_ok rfl) rfl rfl) ?_
  refine TL.cons rfl (Step.extract (p := (.one (.d (.int .i64 (getProof aL aB aAt).2.2)))) rfl rfl (lt_ok rfl) rfl rfl) ?_
  refine TL.cons rfl (Step.alloc (cs := [.slice none 0 0, .int .i64 0, .int .i64 0, .slice none 0 0, .slice none 0 0, .slice none 0 0]) (ps := [.nil, .d (.int .i64 0), .d (.int .i64 0), .nil, .nil, .nil]) rfl rfl (lt_ok rfl) (by kernel_rfl) rfl rfl rfl rfl) ?_
  refine TL.cons rfl (Step.store_box (n := 6) (p := (.agg [.row 1040 [], .d (.int .i64 (getProof aL aB aAt).1.f1.f0), .d (.int .i64 (getProof aL aB aAt).1.f1.f1), .row 4040 [], .row 5040 [], .row 6040 []])) (qs := [.row 1040 [], .d (.int .i64 (getProof aL aB aAt).1.f1.f0), .d (.int .i64 (getProof aL aB aAt).1.f1.f1), .row 4040 [], .row 5040 [], .row 6040 []]) (ps' := [.row 1040 [], .d (.int .i64 (getProof aL aB aAt).1.f1.f0), .d (.int .i64 (getProof aL aB aAt).1.f1.f1), .row 4040 [], .row 5040 [], .row 6040 []]) rfl rfl (by kernel_rfl) rfl rfl rfl rfl rfl rfl (le_ok rfl) rfl) ?_
  refine TL.cons rfl (Step.assign (p := (.one (.d (.int .i64 (getProof aL aB aAt).2.1)))) rfl rfl (lt_ok rfl) rfl) ?_
  refine TL.cons rfl (Step.assign (p := (.one (.d (.int .i64 (getProof aL aB aAt).2.2)))) rfl rfl (lt_ok rfl) rfl) ?_
  refine TL.nil ?_
  refine T.weaken (E' := { tm := [(1, (.one (.d (.ints .u8 aB)))), (2, (.one (.d (.int .i64 aAt)))), (3, (.one (.ptr 3 0))), (6, (.one (.d (.bool false)))), (7, (.one (.ptr 7 0))), (8, (.one (.d (.int .i64 (getProof aL aB aAt).2.1)))), (9, (.one (.d (.int .i64 (getProof aL aB aAt).2.2)))), (10, (.one (.row 1034 []))), (11, (.one (.ptr 11 0))), (12, (.one (.d (.int .i64 (getProof aL aB aAt).2.1)))), (13, (.one (.d (.int .i64 (getProof aL aB aAt).2.2))))], rows := [(1029, (54, (.sl 10 ((getProof aL aB aAt).1.f0.map SHead.cells)))), (4029, (5, (.ints .u8 (getProof aL aB aAt).1.f1.f2))), (5029, (5, (.ints .u8 (getProof aL aB aAt).1.f1.f3))), (6029, (24, (.bss (getProof aL aB aAt).1.f1.f4))), (1034, (5, (.ints .u8 aB))), (1040, (54, (.sl 10 ((getProof aL aB aAt).1.f0.map SHead.cells)))), (4040, (5, (.ints .u8 (getProof aL aB aAt).1.f1.f2))), (5040, (5, (.ints .u8 (getProof aL aB aAt).1.f1.f3))), (6040, (24, (.bss (getProof aL aB aAt).1.f1.f4)))], boxes := [(3, (23, [.d (.int .i64 aL.f0), .d (.int .i64 aL.f1), .d (.int .i64 aL.f2), .d (.int .i64 aL.f3), .d (.int .i64 aL.f4)])), (11, (40, [.row 1040 [], .d (.int .i64 (getProof aL aB aAt).1.f1.f0), .d (.int .i64 (getProof aL aB aAt).1.f1.f1), .row 4040 [], .row 5040 [], .row 6040 []])), (7, (40, [.row 1029 [], .d (.int .i64 (getProof aL aB aAt).1.f1.f0), .d (.int .i64 (getProof aL aB aAt).1.f1.f1), .row 4029 [], .row 5029 [], .row 6029 []]))] }) (Env.le_mk ⟨by kernel_rfl, by kernel_rfl, by kernel_rfl, by kernel_rfl, by kernel_rfl, by kernel_rfl, by kernel_rfl, by kernel_rfl, by kernel_rfl, by kernel_rfl, by kernel_rfl, trivial⟩ ⟨by kernel_rfl, by kernel_rfl, by kernel_rfl, by kernel_rfl, by kernel_rfl, by kernel_rfl, by kernel_rfl, by kernel_rfl, by kernel_rfl, trivial⟩ ⟨by kernel_rfl, by kernel_rfl, by kernel_rfl, trivial⟩) ?_
  refine T.seq ?_
  refine T.seq ?_
  refine T.region ?_
  refine TL.cons rfl (Step.load_box_agg (n := 6) (qs := [.row 1040 [], .d (.int .i64 (getProof aL aB aAt).1.f1.f0), .d (.int .i64 (getProof aL aB aAt).1.f1.f1), .row 4040 [], .row 5040 [], .row 6040 []]) rfl rfl (lt_ok rfl) (by kernel_rfl) rfl rfl rfl rfl) ?_
  refine TL.cons rfl (Step.load_box_agg (n := 6) (qs := [.row 1029 [], .d (.int .i64 (getProof aL aB aAt).1.f1.f0), .d (.int .i64 (getProof aL aB aAt).1.f1.f1), .row 4029 [], .row 5029 [], .row 6029 []]) rfl rfl (lt_ok rfl) (by kernel_rfl) rfl rfl rfl rfl) ?_
  refine TL.cons rfl (Step.call (f := 22) (xs := [.tmp 44, .tmp 45]) (ps := [(.agg [.row 1040 [], .d (.int .i64 (getProof aL aB aAt).1.f1.f0), .d (.int .i64 (getProof aL aB aAt).1.f1.f1), .row 4040 [], .row 5040 [], .row 6040 []]), (.agg [.row 1029 [], .d (.int .i64 (getProof aL aB aAt).1.f1.f0), .d (.int .i64 (getProof aL aB aAt).1.f1.f1), .row 4029 [], .row 5029 [], .row 6029 []])]) false (g := .func 22) rfl rfl (lt_ok rfl) rfl (by kernel_rfl) rfl (.cons (.agg (.cons (.row rfl rfl rfl rfl) (.cons (.d _) (.cons (.d _) (.cons (.row rfl rfl rfl rfl) (.cons (.row rfl rfl rfl rfl) (.cons (.row rfl rfl rfl rfl) .nil))))))) (.cons (.agg (.cons (.row rfl rfl rfl rfl) (.cons (.d _) (.cons (.d _) (.cons (.row rfl rfl rfl rfl) (.cons (.row rfl rfl rfl rfl) (.cons (.row rfl rfl rfl rfl) .nil))))))) .nil)) (ok_laws_eqProof (getProof aL aB aAt).1 (getProof aL aB aAt).1) (.inr rfl) rfl (by simp) rfl) ?_
  refine TL.known 46 (c := true) (by simp) rfl ?_
  refine TL.cons rfl (Step.not (b := true) rfl rfl (lt_ok rfl) rfl) ?_
  refine TL.cons rfl (Step.move (p := (.one (.d (.bool false)))) rfl rfl (lt_ok rfl) rfl) ?_
  refine TL.gyes 48 rfl rfl (lt_ok rfl) rfl (Step.move (p := (.one (.d (.int .i64 (getProof aL aB aAt).2.1)))) rfl rfl (lt_ok rfl) rfl) ?_
  refine TL.gyes 48 rfl rfl (lt_ok rfl) rfl (Step.move (p := (.one (.d (.int .i64 (getProof aL aB aAt).2.1)))) rfl rfl (lt_ok rfl) rfl) ?_
  refine TL.gyes 48 rfl rfl (lt_ok rfl) rfl (Step.bin rfl rfl (lt_ok rfl) rfl rfl (Bin.neq (k := .i64) (a := (getProof aL aB aAt).2.1) (b := (getProof aL aB aAt).2.1))) ?_
  refine TL.known 51 (c := false) (by simp) rfl ?_
  refine TL.cons rfl (Step.pick (b := false) (p := (.one (.d (.bool false)))) rfl rfl (lt_ok rfl) rfl rfl) ?_
  refine TL.cons rfl (Step.move (p := (.one (.d (.bool false)))) rfl rfl (lt_ok rfl) rfl) ?_
  refine TL.gyes 53 rfl rfl (lt_ok rfl) rfl (Step.move (p := (.one (.d (.int .i64 (getProof aL aB aAt).2.2)))) rfl rfl (lt_ok rfl) rfl) ?_
  refine TL.gyes 53 rfl rfl (lt_ok rfl) rfl (Step.move (p := (.one (.d (.int .i64 (getProof aL aB aAt).2.2)))) rfl rfl (lt_ok rfl) rfl) ?_
  refine TL.gyes 53 rfl rfl (lt_ok rfl) rfl (Step.bin rfl rfl (lt_ok rfl) rfl rfl (Bin.neq (k := .i64) (a := (getProof aL aB aAt).2.2) (b := (getProof aL aB aAt).2.2))) ?_
  refine TL.known 56 (c := false) (by simp) rfl ?_
  refine TL.cons rfl (Step.pick (b := false) (p := (.one (.d (.bool false)))) rfl rfl (lt_ok rfl) rfl rfl) ?_
  refine TL.nil ?_
  refine T.cond (b := false) rfl (fun h4_ => absurd h4_ (by simp)) (fun h4_ => ?_)
  refine T.skip ?_
  refine T.seq ?_
  refine T.seq ?_
  refine T.region ?_
  refine TL.cons rfl (Step.move (p := (.one (.row 1034 []))) rfl rfl (lt_ok rfl) rfl) ?_
  refine TL.cons rfl (Step.move (p := (.one (.d (.ints .u8 aB)))) rfl rfl (lt_ok rfl) rfl) ?_
  refine TL.cons rfl (Step.call (f := 18) (xs := [.tmp 59]) (ps := [(.one (.d (.ints .u8 aB)))]) false (g := .func 18) rfl rfl (lt_ok rfl) rfl (by kernel_rfl) rfl (.cons (.one (.d _)) .nil) (ok_laws_toByteS aB (by first | omega | assumption | exact mem_getD h0_.2 (by omega))) (.inr rfl) rfl (by simp) rfl) ?_
  refine TL.cons rfl (Step.call (f := 21) (xs := [.tmp 58, .tmp 60]) (ps := [(.one (.row 1034 [])), (.one (.row 1060 []))]) false (g := .func 21) rfl rfl (lt_ok rfl) rfl (by kernel_rfl) rfl (.cons (.one (.row rfl rfl rfl rfl)) (.cons (.one (.row rfl rfl rfl rfl)) .nil)) (ok_laws_eqByteS aB aB) (.inr rfl) rfl (by simp) rfl) ?_
  refine TL.known 61 (c := true) (by simp) rfl ?_
  refine TL.cons rfl (Step.not (b := true) rfl rfl (lt_ok rfl) rfl) ?_
  refine TL.nil ?_
  refine T.cond (b := false) rfl (fun h5_ => absurd h5_ (by simp)) (fun h5_ => ?_)
  refine T.skip ?_
  refine T.seq ?_
  refine T.region ?_
  refine TL.cons rfl (Step.assign (p := (.one (.d (.int .i64 1)))) rfl rfl (lt_ok rfl) rfl) ?_
  refine TL.nil ?_
  refine T.seq ?_
  refine T.region ?_
  refine TL.cons rfl (Step.move (p := (.one (.row 1034 []))) rfl rfl (lt_ok rfl) rfl) ?_
  refine TL.cons rfl (Step.move (p := (.one (.d (.int .i64 1)))) rfl rfl (lt_ok rfl) rfl) ?_
  refine TL.cons rfl (Step.callM2 (xs := [.tmp 63, .tmp 64]) (ps := [(.one (.row 1034 [])), (.one (.d (.int .i64 1)))]) (js := [(1034, (.ints .u8 (mkB aB 1)))]) (g := .func 23) (ok_laws_markByteS aB 1 (by omega) (by first | omega | (have := (by assumption); omega))) rfl rfl (lt_ok rfl) rfl (by kernel_rfl) rfl rfl (.row (T := 5) (d := (.ints .u8 aB)) (e' := (.ints .u8 (mkB aB 1))) (d' := (.ints .u8 (mkB aB 1))) rfl rfl rfl rfl rfl (by simp [D.size, mkL_length]) rfl rfl (.d .nil)) rfl) ?_
  refine TL.cons rfl (Step.assign (p := (.one (.d (.int .i64 (1 + (aB.length : Int)))))) rfl rfl (lt_ok rfl) rfl) ?_
  refine TL.nil ?_
  refine T.seq ?_
  refine T.seq ?_
  refine T.region ?_
  refine TL.cons rfl (Step.move (p := (.one (.d (.int .i64 (1 + (aB.length : Int)))))) rfl rfl (lt_ok rfl) rfl) ?_
  refine TL.cons rfl (Step.bin rfl rfl (lt_ok rfl) rfl rfl (Bin.lss (k := .i64) (a := (1 + (aB.length : Int))) (b := 0))) ?_
  refine TL.known 67 (c := false) (decide_eq_false (by omega)) rfl ?_
  refine TL.cons rfl (Step.move (p := (.one (.d (.bool false)))) rfl rfl (lt_ok rfl) rfl) ?_
  refine TL.gyes 68 rfl rfl (lt_ok rfl) rfl (Step.load_box_agg (n := 6) (qs := [.row 1040 [], .d (.int .i64 (getProof aL aB aAt).1.f1.f0), .d (.int .i64 (getProof aL aB aAt).1.f1.f1), .row 4040 [], .row 5040 [], .row 6040 []]) rfl rfl (lt_ok rfl) (by kernel_rfl) rfl rfl rfl rfl) ?_
  refine TL.gyes 68 rfl rfl (lt_ok rfl) rfl (Step.load_box_agg (n := 6) (qs := [.row 1029 [], .d (.int .i64 (getProof aL aB aAt).1.f1.f0), .d (.int .i64 (getProof aL aB aAt).1.f1.f1), .row 4029 [], .row 5029 [], .row 6029 []]) rfl rfl (lt_ok rfl) (by kernel_rfl) rfl rfl rfl rfl) ?_
  refine TL.gyes 68 rfl rfl (lt_ok rfl) rfl (Step.call (f := 22) (xs := [.tmp 69, .tmp 70]) (ps := [(.agg [.row 1040 [], .d (.int .i64 (getProof aL aB aAt).1.f1.f0), .d (.int .i64 (getProof aL aB aAt).1.f1.f1), .row 4040 [], .row 5040 [], .row 6040 []]), (.agg [.row 1029 [], .d (.int .i64 (getProof aL aB aAt).1.f1.f0), .d (.int .i64 (getProof aL aB aAt).1.f1.f1), .row 4029 [], .row 5029 [], .row 6029 []])]) false (g := .func 22) rfl rfl (lt_ok rfl) rfl (by kernel_rfl) rfl (.cons (.agg (.cons (.row rfl rfl rfl rfl) (.cons (.d _) (.cons (.d _) (.cons (.row rfl rfl rfl rfl) (.cons (.row rfl rfl rfl rfl) (.cons (.row rfl rfl rfl rfl) .nil))))))) (.cons (.agg (.cons (.row rfl rfl rfl rfl) (.cons (.d _) (.cons (.d _) (.cons (.row rfl rfl rfl rfl) (.cons (.row rfl rfl rfl rfl) (.cons (.row rfl rfl rfl rfl) .nil))))))) .nil)) (ok_laws_eqProof (getProof aL aB aAt).1 (getProof aL aB aAt).1) (.inr rfl) rfl (by simp) rfl) ?_
  refine TL.known 71 (c := true) (by simp) rfl ?_
  refine TL.gyes 68 rfl rfl (lt_ok rfl) rfl (Step.not (b := true) rfl rfl (lt_ok rfl) rfl) ?_
  refine TL.cons rfl (Step.pick (b := false) (p := (.one (.d (.bool false)))) rfl rfl (lt_ok rfl) rfl rfl) ?_
  refine TL.cons rfl (Step.move (p := (.one (.d (.bool false)))) rfl rfl (lt_ok rfl) rfl) ?_
  refine TL.gyes 74 rfl rfl (lt_ok rfl) rfl (Step.move (p := (.one (.d (.int .i64 (getProof aL aB aAt).2.1)))) rfl rfl (lt_ok rfl) rfl) ?_
  refine TL.gyes 74 rfl rfl (lt_ok rfl) rfl (Step.move (p := (.one (.d (.int .i64 (getProof aL aB aAt).2.1)))) rfl rfl (lt_ok rfl) rfl) ?_
  refine TL.gyes 74 rfl rfl (lt_ok rfl) rfl (Step.bin rfl rfl (lt_ok rfl) rfl rfl (Bin.neq (k := .i64) (a := (getProof aL aB aAt).2.1) (b := (getProof aL aB aAt).2.1))) ?_
  refine TL.known 77 (c := false) (by simp) rfl ?_
  refine TL.cons rfl (Step.pick (b := false) (p := (.one (.d (.bool false)))) rfl rfl (lt_ok rfl) rfl rfl) ?_
  refine TL.cons rfl (Step.move (p := (.one (.d (.bool false)))) rfl rfl (lt_ok rfl) rfl) ?_
  refine TL.gyes 79 rfl rfl (lt_ok rfl) rfl (Step.move (p := (.one (.d (.int .i64 (getProof aL aB aAt).2.2)))) rfl rfl (lt_ok rfl) rfl) ?_
  refine TL.gyes 79 rfl rfl (lt_ok rfl) rfl (Step.move (p := (.one (.d (.int .i64 (getProof aL aB aAt).2.2)))) rfl rfl (lt_ok rfl) rfl) ?_
  refine TL.gyes 79 rfl rfl (lt_ok rfl) rfl (Step.bin rfl rfl (lt_ok rfl) rfl rfl (Bin.neq (k := .i64) (a := (getProof aL aB aAt).2.2) (b := (getProof aL aB aAt).2.2))) ?_
  refine TL.known 82 (c := false) (by simp) rfl ?_
  refine TL.cons rfl (Step.pick (b := false) (p := (.one (.d (.bool false)))) rfl rfl (lt_ok rfl) rfl rfl) ?_
  refine TL.nil ?_
  refine T.weaken (E' := { tm := [(1, (.one (.d (.ints .u8 aB)))), (2, (.one (.d (.int .i64 aAt)))), (3, (.one (.ptr 3 0))), (6, (.one (.d (.bool false)))), (7, (.one (.ptr 7 0))), (8, (.one (.d (.int .i64 (getProof aL aB aAt).2.1)))), (9, (.one (.d (.int .i64 (getProof aL aB aAt).2.2)))), (11, (.one (.ptr 11 0))), (83, (.one (.d (.bool false))))], rows := [(1029, (54, (.sl 10 ((getProof aL aB aAt).1.f0.map SHead.cells)))), (4029, (5, (.ints .u8 (getProof aL aB aAt).1.f1.f2))), (5029, (5, (.ints .u8 (getProof aL aB aAt).1.f1.f3))), (6029, (24, (.bss (getProof aL aB aAt).1.f1.f4))), (1040, (54, (.sl 10 ((getProof aL aB aAt).1.f0.map SHead.cells)))), (4040, (5, (.ints .u8 (getProof aL aB aAt).1.f1.f2))), (5040, (5, (.ints .u8 (getProof aL aB aAt).1.f1.f3))), (6040, (24, (.bss (getProof aL aB aAt).1.f1.f4)))], boxes := [(3, (23, [.d (.int .i64 aL.f0), .d (.int .i64 aL.f1), .d (.int .i64 aL.f2), .d (.int .i64 aL.f3), .d (.int .i64 aL.f4)])), (11, (40, [.row 1040 [], .d (.int .i64 (getProof aL aB aAt).1.f1.f0), .d (.int .i64 (getProof aL aB aAt).1.f1.f1), .row 4040 [], .row 5040 [], .row 6040 []])), (7, (40, [.row 1029 [], .d (.int .i64 (getProof aL aB aAt).1.f1.f0), .d (.int .i64 (getProof aL aB aAt).1.f1.f1), .row 4029 [], .row 5029 [], .row 6029 []]))] }) (Env.le_mk ⟨by kernel_rfl, by kernel_rfl, by kernel_rfl, by kernel_rfl, by kernel_rfl, by kernel_rfl, by kernel_rfl, by kernel_rfl, by kernel_rfl, trivial⟩ ⟨by kernel_rfl, by kernel_rfl, by kernel_rfl, by kernel_rfl, by kernel_rfl, by kernel_rfl, by kernel_rfl, by kernel_rfl, trivial⟩ ⟨by kernel_rfl, by kernel_rfl, by kernel_rfl, trivial⟩) ?_
  refine T.cond (b := false) rfl (fun h6_ => absurd h6_ (by simp)) (fun h6_ => ?_)
  refine T.skip ?_
  refine T.seq ?_
  refine T.region ?_
  refine TL.cons rfl (Step.assign (p := (.one (.d (.int .i64 1)))) rfl rfl (lt_ok rfl) rfl) ?_
  refine TL.nil ?_
  refine T.seq ?_
  refine T.region ?_
  refine TL.cons rfl (Step.load_box_agg (n := 6) (qs := [.row 1040 [], .d (.int .i64 (getProof aL aB aAt).1.f1.f0), .d (.int .i64 (getProof aL aB aAt).1.f1.f1), .row 4040 [], .row 5040 [], .row 6040 []]) rfl rfl (lt_ok rfl) (by kernel_rfl) rfl rfl rfl rfl) ?_
  refine TL.cons rfl (Step.move (p := (.one (.d (.int .i64 1)))) rfl rfl (lt_ok rfl) rfl) ?_
  have nn7 := SProof.cm_nn (getProof aL aB aAt).1
  refine TL.cons rfl (Step.callM2 (xs := [.tmp 84, .tmp 85]) (ps := [(.agg [.row 1040 [], .d (.int .i64 (getProof aL aB aAt).1.f1.f0), .d (.int .i64 (getProof aL aB aAt).1.f1.f1), .row 4040 [], .row 5040 [], .row 6040 []]), (.one (.d (.int .i64 1)))]) (js := [(1040, (.sl 10 ((mkL SHead.ce SHead.me (getProof aL aB aAt).1.f0 1).map SHead.cells))), (4040, (.ints .u8 (mkB (getProof aL aB aAt).1.f1.f2 (1 + cntL SHead.ce (getProof aL aB aAt).1.f0)))), (5040, (.ints .u8 (mkB (getProof aL aB aAt).1.f1.f3 ((1 + cntL SHead.ce (getProof aL aB aAt).1.f0) + ((getProof aL aB aAt).1.f1.f2.length : Int))))), (6040, (.bss (mkBs (getProof aL aB aAt).1.f1.f4 (((1 + cntL SHead.ce (getProof aL aB aAt).1.f0) + ((getProof aL aB aAt).1.f1.f2.length : Int)) + ((getProof aL aB aAt).1.f1.f3.length : Int)))))]) (g := .func 24) (ok_laws_markProof (getProof aL aB aAt).1 1 (by omega) (by first | omega | (have := SProof.cm_le (x := (getProof aL aB aAt).1) (by assumption); omega))) rfl rfl (lt_ok rfl) rfl (by kernel_rfl) rfl rfl (.row (T := 54) (d := (.sl 10 ((getProof aL aB aAt).1.f0.map SHead.cells))) (e' := (.sl 10 ((mkL SHead.ce SHead.me (getProof aL aB aAt).1.f0 1).map SHead.cells))) (d' := (.sl 10 ((mkL SHead.ce SHead.me (getProof aL aB aAt).1.f0 1).map SHead.cells))) rfl rfl rfl rfl rfl (by simp [D.size, mkL_length]) rfl rfl (.d (.d (.row (T := 5) (d := (.ints .u8 (getProof aL aB aAt).1.f1.f2)) (e' := (.ints .u8 (mkB (getProof aL aB aAt).1.f1.f2 (1 + cntL SHead.ce (getProof aL aB aAt).1.f0)))) (d' := (.ints .u8 (mkB (getProof aL aB aAt).1.f1.f2 (1 + cntL SHead.ce (getProof aL aB aAt).1.f0)))) rfl rfl rfl rfl rfl (by simp [D.size, mkL_length]) rfl rfl (.row (T := 5) (d := (.ints .u8 (getProof aL aB aAt).1.f1.f3)) (e' := (.ints .u8 (mkB (getProof aL aB aAt).1.f1.f3 ((1 + cntL SHead.ce (getProof aL aB aAt).1.f0) + ((getProof aL aB aAt).1.f1.f2.length : Int))))) (d' := (.ints .u8 (mkB (getProof aL aB aAt).1.f1.f3 ((1 + cntL SHead.ce (getProof aL aB aAt).1.f0) + ((getProof aL aB aAt).1.f1.f2.length : Int))))) rfl rfl rfl rfl rfl (by simp [D.size, mkL_length]) rfl rfl (.row (T := 24) (d := (.bss (getProof aL aB aAt).1.f1.f4)) (e' := (.bss (mkBs (getProof aL aB aAt).1.f1.f4 (((1 + cntL SHead.ce (getProof aL aB aAt).1.f0) + ((getProof aL aB aAt).1.f1.f2.length : Int)) + ((getProof aL aB aAt).1.f1.f3.length : Int))))) (d' := (.bss (mkBs (getProof aL aB aAt).1.f1.f4 (((1 + cntL SHead.ce (getProof aL aB aAt).1.f0) + ((getProof aL aB aAt).1.f1.f2.length : Int)) + ((getProof aL aB aAt).1.f1.f3.length : Int))))) rfl rfl rfl rfl rfl (by simp [D.size, mkL_length]) rfl rfl (.d .nil))))))) rfl) ?_
  refine TL.cons rfl (Step.assign (p := (.one (.d (.int .i64 (1 + (getProof aL aB aAt).1.cm))))) rfl rfl (lt_ok rfl) rfl) ?_
  refine TL.nil ?_
  refine T.seq ?_
  refine T.region ?_
  refine TL.cons rfl (Step.assign (p := (.one (.d (.int .i64 1)))) rfl rfl (lt_ok rfl) rfl) ?_
  refine TL.nil ?_
  refine T.seq ?_
  refine T.region ?_
  refine TL.cons rfl (Step.load_box_agg (n := 6) (qs := [.row 1040 [], .d (.int .i64 (getProof aL aB aAt).1.f1.f0), .d (.int .i64 (getProof aL aB aAt).1.f1.f1), .row 4040 [], .row 5040 [], .row 6040 []]) rfl rfl (lt_ok rfl) (by kernel_rfl) rfl rfl rfl rfl) ?_
  refine TL.cons rfl (Step.move (p := (.one (.d (.int .i64 1)))) rfl rfl (lt_ok rfl) rfl) ?_
  have nn8 := SProof.cm_nn (getProof aL aB aAt).1
  refine TL.cons rfl (Step.call (f := 44) (xs := [.tmp 87, .tmp 88]) (ps := [(.agg [.row 1040 [], .d (.int .i64 (getProof aL aB aAt).1.f1.f0), .d (.int .i64 (getProof aL aB aAt).1.f1.f1), .row 4040 [], .row 5040 [], .row 6040 []]), (.one (.d (.int .i64 1)))]) false (g := .func 44) rfl rfl (lt_ok rfl) rfl (by kernel_rfl) rfl (.cons (.agg (.cons (.row rfl rfl rfl rfl) (.cons (.d _) (.cons (.d _) (.cons (.row rfl rfl rfl rfl) (.cons (.row rfl rfl rfl rfl) (.cons (.row rfl rfl rfl rfl) .nil))))))) (.cons (.one (.d _)) .nil)) (ok_laws_heldProof (getProof aL aB aAt).1 (⟨mkL SHead.ce SHead.me (getProof aL aB aAt).1.f0 1, (⟨(getProof aL aB aAt).1.f1.f0, (getProof aL aB aAt).1.f1.f1, mkB (getProof aL aB aAt).1.f1.f2 (1 + cntL SHead.ce (getProof aL aB aAt).1.f0), mkB (getProof aL aB aAt).1.f1.f3 ((1 + cntL SHead.ce (getProof aL aB aAt).1.f0) + ((getProof aL aB aAt).1.f1.f2.length : Int)), mkBs (getProof aL aB aAt).1.f1.f4 (((1 + cntL SHead.ce (getProof aL aB aAt).1.f0) + ((getProof aL aB aAt).1.f1.f2.length : Int)) + ((getProof aL aB aAt).1.f1.f3.length : Int))⟩ : SQc)⟩ : SProof) 1 (by omega) (by first | omega | (have := SProof.cm_le (x := (getProof aL aB aAt).1) (by assumption); omega)) (by first | rfl | assumption | (repeat' (first | rfl | apply And.intro)))) (.inr rfl) rfl (by simp) rfl) ?_
  refine TL.cons rfl (Step.assign (p := (.one (.d (.int .i64 (1 + (getProof aL aB aAt).1.cm))))) rfl rfl (lt_ok rfl) rfl) ?_
  refine TL.nil ?_
  refine T.seq ?_
  refine T.seq ?_
  refine T.region ?_
  refine TL.cons rfl (Step.move (p := (.one (.d (.int .i64 (1 + (getProof aL aB aAt).1.cm))))) rfl rfl (lt_ok rfl) rfl) ?_
  refine TL.cons rfl (Step.bin rfl rfl (lt_ok rfl) rfl rfl (Bin.lss (k := .i64) (a := (1 + (getProof aL aB aAt).1.cm)) (b := 0))) ?_
  refine TL.known 91 (c := false) (decide_eq_false (by omega)) rfl ?_
  refine TL.nil ?_
  refine T.cond (b := false) rfl (fun h9_ => absurd h9_ (by simp)) (fun h9_ => ?_)
  refine T.skip ?_
  refine T.seq ?_
  refine T.seq ?_
  refine T.region ?_
  refine TL.cons rfl (Step.move (p := (.one (.d (.int .i64 (1 + (getProof aL aB aAt).1.cm))))) rfl rfl (lt_ok rfl) rfl) ?_
  refine TL.cons rfl (Step.move (p := (.one (.d (.int .i64 (1 + (getProof aL aB aAt).1.cm))))) rfl rfl (lt_ok rfl) rfl) ?_
  refine TL.cons rfl (Step.bin rfl rfl (lt_ok rfl) rfl rfl (Bin.neq (k := .i64) (a := (1 + (getProof aL aB aAt).1.cm)) (b := (1 + (getProof aL aB aAt).1.cm)))) ?_
  refine TL.known 94 (c := false) (by simp) rfl ?_
  refine TL.nil ?_
  refine T.cond (b := false) rfl (fun h10_ => absurd h10_ (by simp)) (fun h10_ => ?_)
  refine T.skip ?_
  refine T.seq ?_
  refine T.region ?_
  refine TL.cons rfl (Step.load_box_agg (n := 5) (qs := [.d (.int .i64 aL.f0), .d (.int .i64 aL.f1), .d (.int .i64 aL.f2), .d (.int .i64 aL.f3), .d (.int .i64 aL.f4)]) rfl rfl (lt_ok rfl) (by kernel_rfl) rfl rfl rfl rfl) ?_
  refine TL.cons rfl (Step.call (f := 17) (xs := [.tmp 96]) (ps := [(.agg [.d (.int .i64 aL.f0), .d (.int .i64 aL.f1), .d (.int .i64 aL.f2), .d (.int .i64 aL.f3), .d (.int .i64 aL.f4)])]) false (g := .func 17) rfl rfl (lt_ok rfl) rfl (by kernel_rfl) rfl (.cons (.agg (.cons (.d _) (.cons (.d _) (.cons (.d _) (.cons (.d _) (.cons (.d _) .nil)))))) .nil) (ok_laws_toLimits aL) (.inr rfl) rfl (by simp) rfl) ?_
  refine TL.cons rfl (Step.move (p := (.one (.d (.ints .u8 aB)))) rfl rfl (lt_ok rfl) rfl) ?_
  refine TL.cons rfl (Step.call (f := 18) (xs := [.tmp 98]) (ps := [(.one (.d (.ints .u8 aB)))]) false (g := .func 18) rfl rfl (lt_ok rfl) rfl (by kernel_rfl) rfl (.cons (.one (.d _)) .nil) (ok_laws_toByteS aB (by first | omega | assumption | exact mem_getD h0_.2 (by omega))) (.inr rfl) rfl (by simp) rfl) ?_
  refine TL.cons rfl (Step.move (p := (.one (.d (.int .i64 aAt)))) rfl rfl (lt_ok rfl) rfl) ?_
  have nn11 := @getProof_sm aL aB aAt (by first | assumption | omega)
  refine TL.cons rfl (Step.call (f := 43) (xs := [.tmp 97, .tmp 99, .tmp 100]) (ps := [(.agg [.d (.int .i64 aL.f0), .d (.int .i64 aL.f1), .d (.int .i64 aL.f2), .d (.int .i64 aL.f3), .d (.int .i64 aL.f4)]), (.one (.row 1099 [])), (.one (.d (.int .i64 aAt)))]) false (g := .func 43) rfl rfl (lt_ok rfl) rfl (by kernel_rfl) rfl (.cons (.agg (.cons (.d _) (.cons (.d _) (.cons (.d _) (.cons (.d _) (.cons (.d _) .nil)))))) (.cons (.one (.row rfl rfl rfl rfl)) (.cons (.one (.d _)) .nil))) (ok_impl_GetProof aL aB aAt (by assumption) (by first | omega | assumption | (simp only [List.length_append] at *; omega))) (.inr rfl) rfl (by simp) rfl) ?_
  refine TL.cons rfl (Step.move (p := (.tup [(true, [.row 1101 [], .d (.int .i64 (getProof aL aB aAt).1.f1.f0), .d (.int .i64 (getProof aL aB aAt).1.f1.f1), .row 4101 [], .row 5101 [], .row 6101 []]), (false, [.d (.int .i64 (getProof aL aB aAt).2.1)]), (false, [.d (.int .i64 (getProof aL aB aAt).2.2)])])) rfl rfl (lt_ok rfl) rfl) ?_
  refine TL.cons rfl (Step.extract (p := (.agg [.row 1101 [], .d (.int .i64 (getProof aL aB aAt).1.f1.f0), .d (.int .i64 (getProof aL aB aAt).1.f1.f1), .row 4101 [], .row 5101 [], .row 6101 []])) rfl rfl (lt_ok rfl) rfl rfl) ?_
  refine TL.cons rfl (Step.extract (p := (.one (.d (.int .i64 (getProof aL aB aAt).2.1)))) rfl rfl (lt_ok rfl) rfl rfl) ?_
  refine TL.cons rfl (Step.extract (p := (.one (.d (.int .i64 (getProof aL aB aAt).2.2)))) rfl rfl (lt_ok rfl) rfl rfl) ?_
  refine TL.cons rfl (Step.alloc (cs := [.slice none 0 0, .int .i64 0, .int .i64 0, .slice none 0 0, .slice none 0 0, .slice none 0 0]) (ps := [.nil, .d (.int .i64 0), .d (.int .i64 0), .nil, .nil, .nil]) rfl rfl (lt_ok rfl) (by kernel_rfl) rfl rfl rfl rfl) ?_
  refine TL.cons rfl (Step.store_box (n := 6) (p := (.agg [.row 1101 [], .d (.int .i64 (getProof aL aB aAt).1.f1.f0), .d (.int .i64 (getProof aL aB aAt).1.f1.f1), .row 4101 [], .row 5101 [], .row 6101 []])) (qs := [.row 1101 [], .d (.int .i64 (getProof aL aB aAt).1.f1.f0), .d (.int .i64 (getProof aL aB aAt).1.f1.f1), .row 4101 [], .row 5101 [], .row 6101 []]) (ps' := [.row 1101 [], .d (.int .i64 (getProof aL aB aAt).1.f1.f0), .d (.int .i64 (getProof aL aB aAt).1.f1.f1), .row 4101 [], .row 5101 [], .row 6101 []]) rfl rfl (by kernel_rfl) rfl rfl rfl rfl rfl rfl (le_ok rfl) rfl) ?_
  refine TL.cons rfl (Step.assign (p := (.one (.d (.int .i64 (getProof aL aB aAt).2.1)))) rfl rfl (lt_ok rfl) rfl) ?_
  refine TL.cons rfl (Step.assign (p := (.one (.d (.int .i64 (getProof aL aB aAt).2.2)))) rfl rfl (lt_ok rfl) rfl) ?_
  refine TL.nil ?_
  refine T.weaken (E' := { tm := [(6, (.one (.d (.bool false)))), (7, (.one (.ptr 7 0))), (8, (.one (.d (.int .i64 (getProof aL aB aAt).2.1)))), (9, (.one (.d (.int .i64 (getProof aL aB aAt).2.2)))), (11, (.one (.ptr 11 0))), (15, (.one (.d (.int .i64 (1 + (getProof aL aB aAt).1.cm))))), (16, (.one (.d (.int .i64 (1 + (getProof aL aB aAt).1.cm))))), (17, (.one (.ptr 17 0))), (18, (.one (.d (.int .i64 (getProof aL aB aAt).2.1)))), (19, (.one (.d (.int .i64 (getProof aL aB aAt).2.2))))], rows := [(1029, (54, (.sl 10 ((getProof aL aB aAt).1.f0.map SHead.cells)))), (4029, (5, (.ints .u8 (getProof aL aB aAt).1.f1.f2))), (5029, (5, (.ints .u8 (getProof aL aB aAt).1.f1.f3))), (6029, (24, (.bss (getProof aL aB aAt).1.f1.f4))), (1040, (54, (.sl 10 ((mkL SHead.ce SHead.me (getProof aL aB aAt).1.f0 1).map SHead.cells)))), (4040, (5, (.ints .u8 (mkB (getProof aL aB aAt).1.f1.f2 (1 + cntL SHead.ce (getProof aL aB aAt).1.f0))))), (5040, (5, (.ints .u8 (mkB (getProof aL aB aAt).1.f1.f3 ((1 + cntL SHead.ce (getProof aL aB aAt).1.f0) + ((getProof aL aB aAt).1.f1.f2.length : Int)))))), (6040, (24, (.bss (mkBs (getProof aL aB aAt).1.f1.f4 (((1 + cntL SHead.ce (getProof aL aB aAt).1.f0) + ((getProof aL aB aAt).1.f1.f2.length : Int)) + ((getProof aL aB aAt).1.f1.f3.length : Int)))))), (1101, (54, (.sl 10 ((getProof aL aB aAt).1.f0.map SHead.cells)))), (4101, (5, (.ints .u8 (getProof aL aB aAt).1.f1.f2))), (5101, (5, (.ints .u8 (getProof aL aB aAt).1.f1.f3))), (6101, (24, (.bss (getProof aL aB aAt).1.f1.f4)))], boxes := [(17, (40, [.row 1101 [], .d (.int .i64 (getProof aL aB aAt).1.f1.f0), .d (.int .i64 (getProof aL aB aAt).1.f1.f1), .row 4101 [], .row 5101 [], .row 6101 []])), (11, (40, [.row 1040 [], .d (.int .i64 (getProof aL aB aAt).1.f1.f0), .d (.int .i64 (getProof aL aB aAt).1.f1.f1), .row 4040 [], .row 5040 [], .row 6040 []])), (7, (40, [.row 1029 [], .d (.int .i64 (getProof aL aB aAt).1.f1.f0), .d (.int .i64 (getProof aL aB aAt).1.f1.f1), .row 4029 [], .row 5029 [], .row 6029 []]))] }) (Env.le_mk ⟨by kernel_rfl, by kernel_rfl, by kernel_rfl, by kernel_rfl, by kernel_rfl, by kernel_rfl, by kernel_rfl, by kernel_rfl, by kernel_rfl, by kernel_rfl, trivial⟩ ⟨by kernel_rfl, by kernel_rfl, by kernel_rfl, by kernel_rfl, by kernel_rfl, by kernel_rfl, by kernel_rfl, by kernel_rfl, by kernel_rfl, by kernel_rfl, by kernel_rfl, by kernel_rfl, trivial⟩ ⟨by kernel_rfl, by kernel_rfl, by kernel_rfl, trivial⟩) ?_
  refine T.seq ?_
  refine T.seq ?_
  refine T.region ?_
  refine TL.cons rfl (Step.load_box_agg (n := 6) (qs := [.row 1101 [], .d (.int .i64 (getProof aL aB aAt).1.f1.f0), .d (.int .i64 (getProof aL aB aAt).1.f1.f1), .row 4101 [], .row 5101 [], .row 6101 []]) rfl rfl (lt_ok rfl) (by kernel_rfl) rfl rfl rfl rfl) ?_
  refine TL.cons rfl (Step.load_box_agg (n := 6) (qs := [.row 1029 [], .d (.int .i64 (getProof aL aB aAt).1.f1.f0), .d (.int .i64 (getProof aL aB aAt).1.f1.f1), .row 4029 [], .row 5029 [], .row 6029 []]) rfl rfl (lt_ok rfl) (by kernel_rfl) rfl rfl rfl rfl) ?_
  refine TL.cons rfl (Step.call (f := 22) (xs := [.tmp 105, .tmp 106]) (ps := [(.agg [.row 1101 [], .d (.int .i64 (getProof aL aB aAt).1.f1.f0), .d (.int .i64 (getProof aL aB aAt).1.f1.f1), .row 4101 [], .row 5101 [], .row 6101 []]), (.agg [.row 1029 [], .d (.int .i64 (getProof aL aB aAt).1.f1.f0), .d (.int .i64 (getProof aL aB aAt).1.f1.f1), .row 4029 [], .row 5029 [], .row 6029 []])]) false (g := .func 22) rfl rfl (lt_ok rfl) rfl (by kernel_rfl) rfl (.cons (.agg (.cons (.row rfl rfl rfl rfl) (.cons (.d _) (.cons (.d _) (.cons (.row rfl rfl rfl rfl) (.cons (.row rfl rfl rfl rfl) (.cons (.row rfl rfl rfl rfl) .nil))))))) (.cons (.agg (.cons (.row rfl rfl rfl rfl) (.cons (.d _) (.cons (.d _) (.cons (.row rfl rfl rfl rfl) (.cons (.row rfl rfl rfl rfl) (.cons (.row rfl rfl rfl rfl) .nil))))))) .nil)) (ok_laws_eqProof (getProof aL aB aAt).1 (getProof aL aB aAt).1) (.inr rfl) rfl (by simp) rfl) ?_
  refine TL.known 107 (c := true) (by simp) rfl ?_
  refine TL.cons rfl (Step.not (b := true) rfl rfl (lt_ok rfl) rfl) ?_
  refine TL.cons rfl (Step.move (p := (.one (.d (.bool false)))) rfl rfl (lt_ok rfl) rfl) ?_
  refine TL.gyes 109 rfl rfl (lt_ok rfl) rfl (Step.move (p := (.one (.d (.int .i64 (getProof aL aB aAt).2.1)))) rfl rfl (lt_ok rfl) rfl) ?_
  refine TL.gyes 109 rfl rfl (lt_ok rfl) rfl (Step.move (p := (.one (.d (.int .i64 (getProof aL aB aAt).2.1)))) rfl rfl (lt_ok rfl) rfl) ?_
  refine TL.gyes 109 rfl rfl (lt_ok rfl) rfl (Step.bin rfl rfl (lt_ok rfl) rfl rfl (Bin.neq (k := .i64) (a := (getProof aL aB aAt).2.1) (b := (getProof aL aB aAt).2.1))) ?_
  refine TL.known 112 (c := false) (by simp) rfl ?_
  refine TL.cons rfl (Step.pick (b := false) (p := (.one (.d (.bool false)))) rfl rfl (lt_ok rfl) rfl rfl) ?_
  refine TL.cons rfl (Step.move (p := (.one (.d (.bool false)))) rfl rfl (lt_ok rfl) rfl) ?_
  refine TL.gyes 114 rfl rfl (lt_ok rfl) rfl (Step.move (p := (.one (.d (.int .i64 (getProof aL aB aAt).2.2)))) rfl rfl (lt_ok rfl) rfl) ?_
  refine TL.gyes 114 rfl rfl (lt_ok rfl) rfl (Step.move (p := (.one (.d (.int .i64 (getProof aL aB aAt).2.2)))) rfl rfl (lt_ok rfl) rfl) ?_
  refine TL.gyes 114 rfl rfl (lt_ok rfl) rfl (Step.bin rfl rfl (lt_ok rfl) rfl rfl (Bin.neq (k := .i64) (a := (getProof aL aB aAt).2.2) (b := (getProof aL aB aAt).2.2))) ?_
  refine TL.known 117 (c := false) (by simp) rfl ?_
  refine TL.cons rfl (Step.pick (b := false) (p := (.one (.d (.bool false)))) rfl rfl (lt_ok rfl) rfl rfl) ?_
  refine TL.nil ?_
  refine T.cond (b := false) rfl (fun h12_ => absurd h12_ (by simp)) (fun h12_ => ?_)
  refine T.skip ?_
  refine T.seq ?_
  refine T.region ?_
  refine TL.cons rfl (Step.assign (p := (.one (.d (.int .i64 1)))) rfl rfl (lt_ok rfl) rfl) ?_
  refine TL.nil ?_
  refine T.seq ?_
  refine T.region ?_
  refine TL.cons rfl (Step.load_box_agg (n := 6) (qs := [.row 1040 [], .d (.int .i64 (getProof aL aB aAt).1.f1.f0), .d (.int .i64 (getProof aL aB aAt).1.f1.f1), .row 4040 [], .row 5040 [], .row 6040 []]) rfl rfl (lt_ok rfl) (by kernel_rfl) rfl rfl rfl rfl) ?_
  refine TL.cons rfl (Step.move (p := (.one (.d (.int .i64 1)))) rfl rfl (lt_ok rfl) rfl) ?_
  have nn13 := SProof.cm_nn (getProof aL aB aAt).1
  refine TL.cons rfl (Step.call (f := 44) (xs := [.tmp 119, .tmp 120]) (ps := [(.agg [.row 1040 [], .d (.int .i64 (getProof aL aB aAt).1.f1.f0), .d (.int .i64 (getProof aL aB aAt).1.f1.f1), .row 4040 [], .row 5040 [], .row 6040 []]), (.one (.d (.int .i64 1)))]) false (g := .func 44) rfl rfl (lt_ok rfl) rfl (by kernel_rfl) rfl (.cons (.agg (.cons (.row rfl rfl rfl rfl) (.cons (.d _) (.cons (.d _) (.cons (.row rfl rfl rfl rfl) (.cons (.row rfl rfl rfl rfl) (.cons (.row rfl rfl rfl rfl) .nil))))))) (.cons (.one (.d _)) .nil)) (ok_laws_heldProof (getProof aL aB aAt).1 (⟨mkL SHead.ce SHead.me (getProof aL aB aAt).1.f0 1, (⟨(getProof aL aB aAt).1.f1.f0, (getProof aL aB aAt).1.f1.f1, mkB (getProof aL aB aAt).1.f1.f2 (1 + cntL SHead.ce (getProof aL aB aAt).1.f0), mkB (getProof aL aB aAt).1.f1.f3 ((1 + cntL SHead.ce (getProof aL aB aAt).1.f0) + ((getProof aL aB aAt).1.f1.f2.length : Int)), mkBs (getProof aL aB aAt).1.f1.f4 (((1 + cntL SHead.ce (getProof aL aB aAt).1.f0) + ((getProof aL aB aAt).1.f1.f2.length : Int)) + ((getProof aL aB aAt).1.f1.f3.length : Int))⟩ : SQc)⟩ : SProof) 1 (by omega) (by first | omega | (have := SProof.cm_le (x := (getProof aL aB aAt).1) (by assumption); omega)) (by first | rfl | assumption | (repeat' (first | rfl | apply And.intro)))) (.inr rfl) rfl (by simp) rfl) ?_
  refine TL.cons rfl (Step.assign (p := (.one (.d (.int .i64 (1 + (getProof aL aB aAt).1.cm))))) rfl rfl (lt_ok rfl) rfl) ?_
  refine TL.nil ?_
  refine T.seq ?_
  refine T.seq ?_
  refine T.region ?_
  refine TL.cons rfl (Step.move (p := (.one (.d (.int .i64 (1 + (getProof aL aB aAt).1.cm))))) rfl rfl (lt_ok rfl) rfl) ?_
  refine TL.cons rfl (Step.bin rfl rfl (lt_ok rfl) rfl rfl (Bin.lss (k := .i64) (a := (1 + (getProof aL aB aAt).1.cm)) (b := 0))) ?_
  refine TL.known 123 (c := false) (decide_eq_false (by omega)) rfl ?_
  refine TL.nil ?_
  refine T.cond (b := false) rfl (fun h14_ => absurd h14_ (by simp)) (fun h14_ => ?_)
  refine T.skip ?_
  refine T.seq ?_
  refine T.seq ?_
  refine T.region ?_
  refine TL.cons rfl (Step.move (p := (.one (.d (.int .i64 (1 + (getProof aL aB aAt).1.cm))))) rfl rfl (lt_ok rfl) rfl) ?_
  refine TL.cons rfl (Step.move (p := (.one (.d (.int .i64 (1 + (getProof aL aB aAt).1.cm))))) rfl rfl (lt_ok rfl) rfl) ?_
  refine TL.cons rfl (Step.bin rfl rfl (lt_ok rfl) rfl rfl (Bin.neq (k := .i64) (a := (1 + (getProof aL aB aAt).1.cm)) (b := (1 + (getProof aL aB aAt).1.cm)))) ?_
  refine TL.known 126 (c := false) (by simp) rfl ?_
  refine TL.nil ?_
  refine T.cond (b := false) rfl (fun h15_ => absurd h15_ (by simp)) (fun h15_ => ?_)
  refine T.skip ?_
  refine T.seq ?_
  refine T.region ?_
  refine TL.cons rfl (Step.assign (p := (.one (.d (.bool true)))) rfl rfl (lt_ok rfl) rfl) ?_
  refine TL.nil ?_
  refine T.ret ?_
  exact ⟨[(false, [.d (.bool true)])], (.cons rfl .nil), rfl, [], (RetC.rd' rfl .nil)⟩
end Go.Proofs.Ytlcmflenbddliaa.Rf
