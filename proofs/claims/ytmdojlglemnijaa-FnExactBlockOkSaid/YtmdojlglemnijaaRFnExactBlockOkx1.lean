/- The functions that FnExactBlockOk calls, each held to what it answers. Printed by a program of this session; Lean checks it. -/
import Derived.Test.YtmdojlglemnijaaProg
import Derived.Test.YtmdojlglemnijaaRFnExactBlockOkx0
namespace Go.Proofs.Ytmdojlglemnijaa.Rf
open Go.RowKit
set_option linter.unusedVariables false
set_option linter.unnecessarySimpa false
set_option linter.unusedSimpArgs false
set_option maxRecDepth 100000
set_option maxHeartbeats 800000
theorem ok_spec_LimitsOk (l : SLimits) : RO Try.prog 93 [.agg l.cells] [(false, [.rd (.bool (limOk l))])] := by
 refine RO.intro Try.func93 rfl 26 rfl (le_ok rfl) fun w Z => ?_
 refine T.seq ?_
 refine T.region ?_
 refine TL.cons rfl (Step.box (p := (.agg [.d (.int .i64 l.f0), .d (.int .i64 l.f1), .d (.int .i64 l.f2), .d (.int .i64 l.f3), .d (.int .i64 l.f4)])) (ps := [.d (.int .i64 l.f0), .d (.int .i64 l.f1), .d (.int .i64 l.f2), .d (.int .i64 l.f3), .d (.int .i64 l.f4)]) rfl rfl (lt_ok rfl) rfl rfl rfl rfl rfl) ?_
 refine TL.cons rfl (Step.assign (p := (.one (.d (.bool false)))) rfl rfl (lt_ok rfl) rfl) ?_
 refine TL.nil ?_
 refine T.seq ?_
 refine T.region ?_
 refine TL.cons rfl (Step.fieldAddr (q := 0) (off := 0) (n := 1) (one := true) rfl rfl (lt_ok rfl) (by kernel_rfl) (Nat.succ_ne_zero _) rfl) ?_
 refine TL.cons rfl (Step.load_box (c := .d (.int .i64 l.f0)) rfl rfl (lt_ok rfl) (by kernel_rfl) rfl rfl rfl) ?_
 refine TL.cons rfl (Step.call (f := 111) (xs := [.tmp 4]) (ps := [(.one (.d (.int .i64 l.f0)))]) false (g := .func 111) rfl rfl (lt_ok rfl) rfl (by kernel_rfl) rfl (.cons (.one (.d _)) .nil) (ok_spec_l02Signers l.f0) (.inr rfl) rfl (by simp) rfl) ?_
 refine TL.cons rfl (Step.move (p := (.one (.d (.bool (decide (1 ≤ l.f0 ∧ l.f0 ≤ 10)))))) rfl rfl (lt_ok rfl) rfl) ?_
 rcases Bool.eq_false_or_eq_true (decide (1 ≤ l.f0 ∧ l.f0 ≤ 10)) with hb1 | hb1
 ·
  refine TL.known 6 hb1 rfl ?_
  refine TL.gyes 6 rfl rfl (lt_ok rfl) rfl (Step.fieldAddr (q := 0) (off := 1) (n := 1) (one := true) rfl rfl (lt_ok rfl) (by kernel_rfl) (Nat.succ_ne_zero _) rfl) ?_
  refine TL.gyes 6 rfl rfl (lt_ok rfl) rfl (Step.load_box (c := .d (.int .i64 l.f1)) rfl rfl (lt_ok rfl) (by kernel_rfl) rfl rfl rfl) ?_
  refine TL.gyes 6 rfl rfl (lt_ok rfl) rfl (Step.call (f := 59) (xs := [.tmp 8, .const (.int .i64 0), .const (.int .i64 40)]) (ps := [(.one (.d (.int .i64 l.f1))), (.one (.d (.int .i64 0))), (.one (.d (.int .i64 40)))]) false (g := .func 59) rfl rfl (lt_ok rfl) rfl (by kernel_rfl) rfl (.cons (.one (.d _)) (.cons (.one (.d _)) (.cons (.one (.d _)) .nil))) (ok_spec_l01In l.f1 0 40) (.inr rfl) rfl (by simp) rfl) ?_
  refine TL.cons rfl (Step.pick (b := true) (p := (.one (.d (.bool (decide (0 ≤ l.f1 ∧ l.f1 ≤ 40)))))) rfl rfl (lt_ok rfl) rfl rfl) ?_
  refine TL.cons rfl (Step.move (p := (.one (.d (.bool (decide (0 ≤ l.f1 ∧ l.f1 ≤ 40)))))) rfl rfl (lt_ok rfl) rfl) ?_
  rcases Bool.eq_false_or_eq_true (decide (0 ≤ l.f1 ∧ l.f1 ≤ 40)) with hb2 | hb2
  ·
   refine TL.known 11 hb2 rfl ?_
   refine TL.gyes 11 rfl rfl (lt_ok rfl) rfl (Step.fieldAddr (q := 0) (off := 2) (n := 1) (one := true) rfl rfl (lt_ok rfl) (by kernel_rfl) (Nat.succ_ne_zero _) rfl) ?_
   refine TL.gyes 11 rfl rfl (lt_ok rfl) rfl (Step.load_box (c := .d (.int .i64 l.f2)) rfl rfl (lt_ok rfl) (by kernel_rfl) rfl rfl rfl) ?_
   refine TL.gyes 11 rfl rfl (lt_ok rfl) rfl (Step.call (f := 59) (xs := [.tmp 13, .const (.int .i64 0), .const (.int .i64 8)]) (ps := [(.one (.d (.int .i64 l.f2))), (.one (.d (.int .i64 0))), (.one (.d (.int .i64 8)))]) false (g := .func 59) rfl rfl (lt_ok rfl) rfl (by kernel_rfl) rfl (.cons (.one (.d _)) (.cons (.one (.d _)) (.cons (.one (.d _)) .nil))) (ok_spec_l01In l.f2 0 8) (.inr rfl) rfl (by simp) rfl) ?_
   refine TL.cons rfl (Step.pick (b := true) (p := (.one (.d (.bool (decide (0 ≤ l.f2 ∧ l.f2 ≤ 8)))))) rfl rfl (lt_ok rfl) rfl rfl) ?_
   refine TL.cons rfl (Step.move (p := (.one (.d (.bool (decide (0 ≤ l.f2 ∧ l.f2 ≤ 8)))))) rfl rfl (lt_ok rfl) rfl) ?_
   rcases Bool.eq_false_or_eq_true (decide (0 ≤ l.f2 ∧ l.f2 ≤ 8)) with hb3 | hb3
   ·
    refine TL.known 16 hb3 rfl ?_
    refine TL.gyes 16 rfl rfl (lt_ok rfl) rfl (Step.fieldAddr (q := 0) (off := 3) (n := 1) (one := true) rfl rfl (lt_ok rfl) (by kernel_rfl) (Nat.succ_ne_zero _) rfl) ?_
    refine TL.gyes 16 rfl rfl (lt_ok rfl) rfl (Step.load_box (c := .d (.int .i64 l.f3)) rfl rfl (lt_ok rfl) (by kernel_rfl) rfl rfl rfl) ?_
    refine TL.gyes 16 rfl rfl (lt_ok rfl) rfl (Step.call (f := 59) (xs := [.tmp 18, .const (.int .i64 1), .const (.int .i64 4000)]) (ps := [(.one (.d (.int .i64 l.f3))), (.one (.d (.int .i64 1))), (.one (.d (.int .i64 4000)))]) false (g := .func 59) rfl rfl (lt_ok rfl) rfl (by kernel_rfl) rfl (.cons (.one (.d _)) (.cons (.one (.d _)) (.cons (.one (.d _)) .nil))) (ok_spec_l01In l.f3 1 4000) (.inr rfl) rfl (by simp) rfl) ?_
    refine TL.cons rfl (Step.pick (b := true) (p := (.one (.d (.bool (decide (1 ≤ l.f3 ∧ l.f3 ≤ 4000)))))) rfl rfl (lt_ok rfl) rfl rfl) ?_
    refine TL.cons rfl (Step.move (p := (.one (.d (.bool (decide (1 ≤ l.f3 ∧ l.f3 ≤ 4000)))))) rfl rfl (lt_ok rfl) rfl) ?_
    rcases Bool.eq_false_or_eq_true (decide (1 ≤ l.f3 ∧ l.f3 ≤ 4000)) with hb4 | hb4
    ·
     refine TL.known 21 hb4 rfl ?_
     refine TL.gyes 21 rfl rfl (lt_ok rfl) rfl (Step.fieldAddr (q := 0) (off := 4) (n := 1) (one := true) rfl rfl (lt_ok rfl) (by kernel_rfl) (Nat.succ_ne_zero _) rfl) ?_
     refine TL.gyes 21 rfl rfl (lt_ok rfl) rfl (Step.load_box (c := .d (.int .i64 l.f4)) rfl rfl (lt_ok rfl) (by kernel_rfl) rfl rfl rfl) ?_
     refine TL.gyes 21 rfl rfl (lt_ok rfl) rfl (Step.call (f := 59) (xs := [.tmp 23, .const (.int .i64 3), .const (.int .i64 5)]) (ps := [(.one (.d (.int .i64 l.f4))), (.one (.d (.int .i64 3))), (.one (.d (.int .i64 5)))]) false (g := .func 59) rfl rfl (lt_ok rfl) rfl (by kernel_rfl) rfl (.cons (.one (.d _)) (.cons (.one (.d _)) (.cons (.one (.d _)) .nil))) (ok_spec_l01In l.f4 3 5) (.inr rfl) rfl (by simp) rfl) ?_
     refine TL.cons rfl (Step.pick (b := true) (p := (.one (.d (.bool (decide (3 ≤ l.f4 ∧ l.f4 ≤ 5)))))) rfl rfl (lt_ok rfl) rfl rfl) ?_
     refine TL.cons rfl (Step.assign (p := (.one (.d (.bool (decide (3 ≤ l.f4 ∧ l.f4 ≤ 5)))))) rfl rfl (lt_ok rfl) rfl) ?_
     refine TL.nil ?_
     refine T.ret ?_
     refine ⟨[(false, [.d (.bool (decide (3 ≤ l.f4 ∧ l.f4 ≤ 5)))])], (.cons rfl .nil), rfl, [], (RetC.rd' ?_ .nil)⟩ <;> (first | rfl | (congr 1; symm; simp only [limOk, *, Bool.and_true, Bool.true_and, Bool.and_false, Bool.false_and, decide_true, decide_false, and_true, true_and, and_self, and_false, false_and, Bool.and_self, not_true, not_false, Bool.not_true, Bool.not_false, ge_iff_le, gt_iff_lt, if_true, if_false, Bool.false_eq_true, ite_true, ite_false, reduceIte]; done) | (congr 1; symm; simp_all [limOk]; done) | (congr 1; symm; simp_all [limOk]; omega))
    ·
     refine TL.known 21 hb4 rfl ?_
     refine TL.goff 21 rfl rfl (lt_ok rfl) rfl rfl rfl (lt_ok rfl) ?_
     refine TL.goff 21 rfl rfl (lt_ok rfl) rfl rfl rfl (lt_ok rfl) ?_
     refine TL.goff 21 rfl rfl (lt_ok rfl) rfl rfl rfl (lt_ok rfl) ?_
     refine TL.cons rfl (Step.pick (b := false) (p := (.one (.d (.bool false)))) rfl rfl (lt_ok rfl) rfl rfl) ?_
     refine TL.cons rfl (Step.assign (p := (.one (.d (.bool false)))) rfl rfl (lt_ok rfl) rfl) ?_
     refine TL.nil ?_
     refine T.ret ?_
     refine ⟨[(false, [.d (.bool false)])], (.cons rfl .nil), rfl, [], (RetC.rd' ?_ .nil)⟩ <;> (first | rfl | (congr 1; symm; simp only [limOk, *, Bool.and_true, Bool.true_and, Bool.and_false, Bool.false_and, decide_true, decide_false, and_true, true_and, and_self, and_false, false_and, Bool.and_self, not_true, not_false, Bool.not_true, Bool.not_false, ge_iff_le, gt_iff_lt, if_true, if_false, Bool.false_eq_true, ite_true, ite_false, reduceIte]; done) | (congr 1; symm; simp_all [limOk]; done) | (congr 1; symm; simp_all [limOk]; omega))
   ·
    refine TL.known 16 hb3 rfl ?_
    refine TL.goff 16 rfl rfl (lt_ok rfl) rfl rfl rfl (lt_ok rfl) ?_
    refine TL.goff 16 rfl rfl (lt_ok rfl) rfl rfl rfl (lt_ok rfl) ?_
    refine TL.goff 16 rfl rfl (lt_ok rfl) rfl rfl rfl (lt_ok rfl) ?_
    refine TL.cons rfl (Step.pick (b := false) (p := (.one (.d (.bool false)))) rfl rfl (lt_ok rfl) rfl rfl) ?_
    refine TL.cons rfl (Step.move (p := (.one (.d (.bool false)))) rfl rfl (lt_ok rfl) rfl) ?_
    refine TL.goff 21 rfl rfl (lt_ok rfl) rfl rfl rfl (lt_ok rfl) ?_
    refine TL.goff 21 rfl rfl (lt_ok rfl) rfl rfl rfl (lt_ok rfl) ?_
    refine TL.goff 21 rfl rfl (lt_ok rfl) rfl rfl rfl (lt_ok rfl) ?_
    refine TL.cons rfl (Step.pick (b := false) (p := (.one (.d (.bool false)))) rfl rfl (lt_ok rfl) rfl rfl) ?_
    refine TL.cons rfl (Step.assign (p := (.one (.d (.bool false)))) rfl rfl (lt_ok rfl) rfl) ?_
    refine TL.nil ?_
    refine T.ret ?_
    refine ⟨[(false, [.d (.bool false)])], (.cons rfl .nil), rfl, [], (RetC.rd' ?_ .nil)⟩ <;> (first | rfl | (congr 1; symm; simp only [limOk, *, Bool.and_true, Bool.true_and, Bool.and_false, Bool.false_and, decide_true, decide_false, and_true, true_and, and_self, and_false, false_and, Bool.and_self, not_true, not_false, Bool.not_true, Bool.not_false, ge_iff_le, gt_iff_lt, if_true, if_false, Bool.false_eq_true, ite_true, ite_false, reduceIte]; done) | (congr 1; symm; simp_all [limOk]; done) | (congr 1; symm; simp_all [limOk]; omega))
  ·
   refine TL.known 11 hb2 rfl ?_
   refine TL.goff 11 rfl rfl (lt_ok rfl) rfl rfl rfl (lt_ok rfl) ?_
   refine TL.goff 11 rfl rfl (lt_ok rfl) rfl rfl rfl (lt_ok rfl) ?_
   refine TL.goff 11 rfl rfl (lt_ok rfl) rfl rfl rfl (lt_ok rfl) ?_
   refine TL.cons rfl (Step.pick (b := false) (p := (.one (.d (.bool false)))) rfl rfl (lt_ok rfl) rfl rfl) ?_
   refine TL.cons rfl (Step.move (p := (.one (.d (.bool false)))) rfl rfl (lt_ok rfl) rfl) ?_
   refine TL.goff 16 rfl rfl (lt_ok rfl) rfl rfl rfl (lt_ok rfl) ?_
   refine TL.goff 16 rfl rfl (lt_ok rfl) rfl rfl rfl (lt_ok rfl) ?_
   refine TL.goff 16 rfl rfl (lt_ok rfl) rfl rfl rfl (lt_ok rfl) ?_
   refine TL.cons rfl (Step.pick (b := false) (p := (.one (.d (.bool false)))) rfl rfl (lt_ok rfl) rfl rfl) ?_
   refine TL.cons rfl (Step.move (p := (.one (.d (.bool false)))) rfl rfl (lt_ok rfl) rfl) ?_
   refine TL.goff 21 rfl rfl (lt_ok rfl) rfl rfl rfl (lt_ok rfl) ?_
   refine TL.goff 21 rfl rfl (lt_ok rfl) rfl rfl rfl (lt_ok rfl) ?_
   refine TL.goff 21 rfl rfl (lt_ok rfl) rfl rfl rfl (lt_ok rfl) ?_
   refine TL.cons rfl (Step.pick (b := false) (p := (.one (.d (.bool false)))) rfl rfl (lt_ok rfl) rfl rfl) ?_
   refine TL.cons rfl (Step.assign (p := (.one (.d (.bool false)))) rfl rfl (lt_ok rfl) rfl) ?_
   refine TL.nil ?_
   refine T.ret ?_
   refine ⟨[(false, [.d (.bool false)])], (.cons rfl .nil), rfl, [], (RetC.rd' ?_ .nil)⟩ <;> (first | rfl | (congr 1; symm; simp only [limOk, *, Bool.and_true, Bool.true_and, Bool.and_false, Bool.false_and, decide_true, decide_false, and_true, true_and, and_self, and_false, false_and, Bool.and_self, not_true, not_false, Bool.not_true, Bool.not_false, ge_iff_le, gt_iff_lt, if_true, if_false, Bool.false_eq_true, ite_true, ite_false, reduceIte]; done) | (congr 1; symm; simp_all [limOk]; done) | (congr 1; symm; simp_all [limOk]; omega))
 ·
  refine TL.known 6 hb1 rfl ?_
  refine TL.goff 6 rfl rfl (lt_ok rfl) rfl rfl rfl (lt_ok rfl) ?_
  refine TL.goff 6 rfl rfl (lt_ok rfl) rfl rfl rfl (lt_ok rfl) ?_
  refine TL.goff 6 rfl rfl (lt_ok rfl) rfl rfl rfl (lt_ok rfl) ?_
  refine TL.cons rfl (Step.pick (b := false) (p := (.one (.d (.bool false)))) rfl rfl (lt_ok rfl) rfl rfl) ?_
  refine TL.cons rfl (Step.move (p := (.one (.d (.bool false)))) rfl rfl (lt_ok rfl) rfl) ?_
  refine TL.goff 11 rfl rfl (lt_ok rfl) rfl rfl rfl (lt_ok rfl) ?_
  refine TL.goff 11 rfl rfl (lt_ok rfl) rfl rfl rfl (lt_ok rfl) ?_
  refine TL.goff 11 rfl rfl (lt_ok rfl) rfl rfl rfl (lt_ok rfl) ?_
  refine TL.cons rfl (Step.pick (b := false) (p := (.one (.d (.bool false)))) rfl rfl (lt_ok rfl) rfl rfl) ?_
  refine TL.cons rfl (Step.move (p := (.one (.d (.bool false)))) rfl rfl (lt_ok rfl) rfl) ?_
  refine TL.goff 16 rfl rfl (lt_ok rfl) rfl rfl rfl (lt_ok rfl) ?_
  refine TL.goff 16 rfl rfl (lt_ok rfl) rfl rfl rfl (lt_ok rfl) ?_
  refine TL.goff 16 rfl rfl (lt_ok rfl) rfl rfl rfl (lt_ok rfl) ?_
  refine TL.cons rfl (Step.pick (b := false) (p := (.one (.d (.bool false)))) rfl rfl (lt_ok rfl) rfl rfl) ?_
  refine TL.cons rfl (Step.move (p := (.one (.d (.bool false)))) rfl rfl (lt_ok rfl) rfl) ?_
  refine TL.goff 21 rfl rfl (lt_ok rfl) rfl rfl rfl (lt_ok rfl) ?_
  refine TL.goff 21 rfl rfl (lt_ok rfl) rfl rfl rfl (lt_ok rfl) ?_
  refine TL.goff 21 rfl rfl (lt_ok rfl) rfl rfl rfl (lt_ok rfl) ?_
  refine TL.cons rfl (Step.pick (b := false) (p := (.one (.d (.bool false)))) rfl rfl (lt_ok rfl) rfl rfl) ?_
  refine TL.cons rfl (Step.assign (p := (.one (.d (.bool false)))) rfl rfl (lt_ok rfl) rfl) ?_
  refine TL.nil ?_
  refine T.ret ?_
  refine ⟨[(false, [.d (.bool false)])], (.cons rfl .nil), rfl, [], (RetC.rd' ?_ .nil)⟩ <;> (first | rfl | (congr 1; symm; simp only [limOk, *, Bool.and_true, Bool.true_and, Bool.and_false, Bool.false_and, decide_true, decide_false, and_true, true_and, and_self, and_false, false_and, Bool.and_self, not_true, not_false, Bool.not_true, Bool.not_false, ge_iff_le, gt_iff_lt, if_true, if_false, Bool.false_eq_true, ite_true, ite_false, reduceIte]; done) | (congr 1; symm; simp_all [limOk]; done) | (congr 1; symm; simp_all [limOk]; omega))
theorem ok_spec_l01Num (n : Int) : RO Try.prog 94 [.one (.int .i64 n)] [(false, [.rd (.bool (decide (0 ≤ n ∧ n ≤ 1152921504606846975)))])] := by
 refine RO.intro Try.func94 rfl 5 rfl (le_ok rfl) fun w Z => ?_
 refine T.seq ?_
 refine T.region ?_
 refine TL.cons rfl (Step.assign (p := (.one (.d (.bool false)))) rfl rfl (lt_ok rfl) rfl) ?_
 refine TL.nil ?_
 refine T.seq ?_
 refine T.region ?_
 refine TL.cons rfl (Step.move (p := (.one (.d (.int .i64 n)))) rfl rfl (lt_ok rfl) rfl) ?_
 refine TL.cons rfl (Step.call (f := 59) (xs := [.tmp 3, .const (.int .i64 0), .const (.int .i64 1152921504606846975)]) (ps := [(.one (.d (.int .i64 n))), (.one (.d (.int .i64 0))), (.one (.d (.int .i64 1152921504606846975)))]) false (g := .func 59) rfl rfl (lt_ok rfl) rfl (by kernel_rfl) rfl (.cons (.one (.d _)) (.cons (.one (.d _)) (.cons (.one (.d _)) .nil))) (ok_spec_l01In n 0 1152921504606846975) (.inr rfl) rfl (by simp) rfl) ?_
 refine TL.cons rfl (Step.assign (p := (.one (.d (.bool (decide (0 ≤ n ∧ n ≤ 1152921504606846975)))))) rfl rfl (lt_ok rfl) rfl) ?_
 refine TL.nil ?_
 refine T.ret ?_
 exact ⟨[(false, [.d (.bool (decide (0 ≤ n ∧ n ≤ 1152921504606846975)))])], (.cons rfl .nil), rfl, [], (RetC.rd' rfl .nil)⟩
theorem ok_spec_l08Hashes (l : List (List Int)) : RO Try.prog 68 [.one (.bss l)] [(false, [.rd (.bool (hashes l))])] := by
 refine RO.intro Try.func68 rfl 15 rfl (le_ok rfl) fun w Z => ?_
 refine T.bnd 0 0 rfl rfl fun hb_0_0 => ?_
 simp only [D.size, List.length_map] at hb_0_0
 refine T.seq ?_
 refine T.region ?_
 refine TL.cons rfl (Step.assign (p := (.one (.d (.bool false)))) rfl rfl (lt_ok rfl) rfl) ?_
 refine TL.nil ?_
 refine T.seq ?_
 refine T.seq ?_
 refine T.region ?_
 refine TL.cons rfl (Step.move (p := (.one (.d (.bss l)))) rfl rfl (lt_ok rfl) rfl) ?_
 refine TL.cons rfl (Step.len (e := 22) (z := 1) (d := (.bss l)) rfl rfl (lt_ok rfl) (by kernel_rfl) rfl rfl) ?_
 refine TL.cons rfl (Step.move (p := (.one (.d (.int .i64 0)))) rfl rfl (lt_ok rfl) rfl) ?_
 refine TL.nil ?_
 refine T.block ?_
 refine T.loop (ι := Nat) (fun xx_ => { tm := [(5, (.one (.d (.bss l)))), (6, (.one (.d (.int .i64 (l.length : Int))))), (7, (.one (.d (.int .i64 (xx_ : Int)))))], rows := [], boxes := [] }) (fun xx_ => xx_ ≤ l.length ∧ hashes (l.take xx_) = true) (fun xx_ => l.length - xx_) 0 ?_ ?_ ?_
 · refine Env.le_mk ⟨rfl, rfl, ?_, trivial⟩ trivial trivial <;> (first | rfl | (simp; done) | (congr 3; omega))
 · (refine ⟨Nat.zero_le _, by rw [List.take_zero]; rfl⟩)
 ·
  intro i hx
  try dsimp only at hx ⊢
  obtain ⟨hx1, hx2⟩ := hx
  refine T.seq ?_
  refine T.region ?_
  refine TL.cons rfl (Step.bin rfl rfl (lt_ok rfl) rfl rfl (Bin.lss (k := .i64) (a := (i : Int)) (b := (l.length : Int)))) ?_
  refine TL.nil ?_
  refine T.seq ?_
  refine T.cond (b := decide ((i : Int) < (l.length : Int))) rfl (fun h1 => ?_) (fun h1 => ?_)
  ·
   replace h1 := of_decide_eq_true h1
   refine T.skip ?_
   refine T.seq ?_
   refine T.block ?_
   refine T.seq ?_
   refine T.region ?_
   refine TL.cons rfl (Step.index (e := 22) (z := 1) (i := (i : Int)) rfl rfl (lt_ok rfl) (by kernel_rfl) rfl rfl rfl (lt_ok rfl) rfl (by first | omega | (simp; omega)) (by simp only [D.size]; first | omega | (simp; omega))) ?_
   refine TL.cons rfl (Step.load (e := (.ints .u8 (l.getD i []))) rfl rfl (lt_ok rfl) (by kernel_rfl) rfl rfl) ?_
   refine TL.cons rfl (Step.assign (p := (.one (.d (.ints .u8 (l.getD i []))))) rfl rfl (lt_ok rfl) rfl) ?_
   refine TL.nil ?_
   refine T.seq ?_
   refine T.region ?_
   refine TL.cons rfl (Step.move (p := (.one (.d (.ints .u8 (l.getD i []))))) rfl rfl (lt_ok rfl) rfl) ?_
   refine TL.cons rfl (Step.call (f := 65) (xs := [.tmp 11]) (ps := [(.one (.d (.ints .u8 (l.getD i []))))]) false (g := .func 65) rfl rfl (lt_ok rfl) rfl (by kernel_rfl) rfl (.cons (.one (.d _)) .nil) (ok_spec_l07Hash (l.getD i [])) (.inr rfl) rfl (by simp) rfl) ?_
   refine TL.cons rfl (Step.not (b := (decide (((l.getD i []).length : Int) = 32))) rfl rfl (lt_ok rfl) rfl) ?_
   refine TL.nil ?_
   refine T.cond (b := !(decide (((l.getD i []).length : Int) = 32))) rfl (fun h2 => ?_) (fun h2 => ?_)
   ·
    replace h2 : (decide (((l.getD i []).length : Int) = 32)) = false := by simpa only [Bool.not_eq_true', Bool.not_eq_false'] using h2
    replace h2 := of_decide_eq_false h2
    refine T.seq ?_
    refine T.region ?_
    refine TL.cons rfl (Step.assign (p := (.one (.d (.bool false)))) rfl rfl (lt_ok rfl) rfl) ?_
    refine TL.nil ?_
    refine T.ret ?_
    refine ⟨[(false, [.d (.bool false)])], (.cons rfl .nil), rfl, [], (RetC.rd' ?_ .nil)⟩ <;> ((congr 1; symm; first | (exact hashes_no (i := i) (by omega) (by omega)) | (rw [List.take_of_length_le (by omega)] at hx2; exact hx2)))
   ·
    replace h2 : (decide (((l.getD i []).length : Int) = 32)) = true := by simpa only [Bool.not_eq_true', Bool.not_eq_false'] using h2
    replace h2 := of_decide_eq_true h2
    refine T.skip ?_
    refine T.region ?_
    refine TL.cons rfl (Step.bin (r := .int .i64 ((i : Int) + 1)) rfl rfl (lt_ok rfl) rfl rfl (Bin.add (a := (i : Int)) (b := 1) (by first | exact wrap_ok (by first | omega | (simp; omega)) (by first | omega | (simp; omega)) | rfl))) ?_
    refine TL.cons rfl (Step.move (p := (.one (.d (.int .i64 ((i : Int) + 1))))) rfl rfl (lt_ok rfl) rfl) ?_
    refine TL.nil ?_
    refine ⟨i + 1, by (refine ⟨by omega, hashes_step (by omega) hx2 (by omega)⟩), by first | omega | (dsimp only; omega), Env.le_mk ⟨rfl, rfl, ?_, trivial⟩ trivial trivial⟩ <;> (first | rfl | (simp; done) | (congr 3; omega))
  ·
   replace h1 := of_decide_eq_false h1
   refine T.exit ?_
   refine T.seq ?_
   refine T.region ?_
   refine TL.cons rfl (Step.assign (p := (.one (.d (.bool true)))) rfl rfl (lt_ok rfl) rfl) ?_
   refine TL.nil ?_
   refine T.ret ?_
   refine ⟨[(false, [.d (.bool true)])], (.cons rfl .nil), rfl, [], (RetC.rd' ?_ .nil)⟩ <;> ((congr 1; symm; first | (exact hashes_no (i := i) (by omega) (by omega)) | (rw [List.take_of_length_le (by omega)] at hx2; exact hx2)))
theorem ok_spec_BitsSize (n : Int) (h0_ : n ≤ 9223372036854775807) : RO Try.prog 120 [.one (.int .i64 n)] [(false, [.rd (.int .i64 (bitsSize n))])] := by
 refine RO.intro Try.func120 rfl 9 rfl (le_ok rfl) fun w Z => ?_
 refine T.seq ?_
 refine T.region ?_
 refine TL.cons rfl (Step.assign (p := (.one (.d (.int .i64 0)))) rfl rfl (lt_ok rfl) rfl) ?_
 refine TL.nil ?_
 refine T.seq ?_
 refine T.seq ?_
 refine T.region ?_
 refine TL.cons rfl (Step.move (p := (.one (.d (.int .i64 n)))) rfl rfl (lt_ok rfl) rfl) ?_
 refine TL.cons rfl (Step.bin rfl rfl (lt_ok rfl) rfl rfl (Bin.lss (k := .i64) (a := n) (b := 1))) ?_
 refine TL.nil ?_
 refine T.cond (b := decide (n < 1)) rfl (fun h1 => ?_) (fun h1 => ?_)
 ·
  replace h1 := of_decide_eq_true h1
  refine T.seq ?_
  refine T.region ?_
  refine TL.cons rfl (Step.assign (p := (.one (.d (.int .i64 0)))) rfl rfl (lt_ok rfl) rfl) ?_
  refine TL.nil ?_
  refine T.ret ?_
  refine ⟨[(false, [.d (.int .i64 0)])], (.cons rfl .nil), rfl, [], (RetC.rd' ?_ .nil)⟩ <;> ((congr 1; unfold bitsSize; first | rw [if_pos (by omega)] | (rw [if_neg (by omega)]; done) | (rw [if_neg (by omega)]; omega)))
 ·
  replace h1 := of_decide_eq_false h1
  refine T.skip ?_
  refine T.seq ?_
  refine T.region ?_
  refine TL.cons rfl (Step.move (p := (.one (.d (.int .i64 n)))) rfl rfl (lt_ok rfl) rfl) ?_
  refine TL.cons rfl (Step.bin (r := .int .i64 (n - 1)) rfl rfl (lt_ok rfl) rfl rfl (Bin.sub (a := n) (b := 1) (by first | exact wrap_ok (by first | omega | (simp; omega)) (by first | omega | (simp; omega)) | rfl))) ?_
  refine TL.cons rfl (Step.bin (r := .int .i64 ((n - 1) / 8)) rfl rfl (lt_ok rfl) rfl rfl (Bin.quo (k := .i64) (a := (n - 1)) (b := 8) (by decide) (by rw [Int.tdiv_eq_ediv_of_nonneg (by first | omega | (simp; omega))]; exact wrap_ok (by first | omega | (simp; omega)) (by first | omega | (simp; omega))))) ?_
  refine TL.cons rfl (Step.bin (r := .int .i64 (((n - 1) / 8) + 1)) rfl rfl (lt_ok rfl) rfl rfl (Bin.add (a := ((n - 1) / 8)) (b := 1) (by first | exact wrap_ok (by first | omega | (simp; omega)) (by first | omega | (simp; omega)) | rfl))) ?_
  refine TL.cons rfl (Step.assign (p := (.one (.d (.int .i64 (((n - 1) / 8) + 1))))) rfl rfl (lt_ok rfl) rfl) ?_
  refine TL.nil ?_
  refine T.ret ?_
  refine ⟨[(false, [.d (.int .i64 (((n - 1) / 8) + 1))])], (.cons rfl .nil), rfl, [], (RetC.rd' ?_ .nil)⟩ <;> ((congr 1; unfold bitsSize; first | rw [if_pos (by omega)] | (rw [if_neg (by omega)]; done) | (rw [if_neg (by omega)]; omega)))
theorem ok_spec_BitsHas (b : List Int) (i : Int) (h0_ : U8s b) (h1_ : b.length ≤ 17592186044416) (h2_ : i ≤ 9223372036854775807) : RO Try.prog 125 [.one (.ints .u8 b), .one (.int .i64 i)] [(false, [.rd (.bool (bitHas b i))])] := by
 refine RO.intro Try.func125 rfl 27 rfl (le_ok rfl) fun w Z => ?_
 refine T.bnd 0 0 rfl rfl fun hb_0_0 => ?_
 simp only [D.size, List.length_map] at hb_0_0
 have hu_ := getD_u8 h0_ (i / 8).toNat
 have hp_ := div_pow_bd hu_.1 hu_.2 (i % 8).toNat
 refine T.seq ?_
 refine T.region ?_
 refine TL.cons rfl (Step.assign (p := (.one (.d (.bool false)))) rfl rfl (lt_ok rfl) rfl) ?_
 refine TL.nil ?_
 refine T.seq ?_
 refine T.region ?_
 refine TL.cons rfl (Step.move (p := (.one (.d (.int .i64 i)))) rfl rfl (lt_ok rfl) rfl) ?_
 refine TL.cons rfl (Step.bin rfl rfl (lt_ok rfl) rfl rfl (Bin.geq (k := .i64) (a := i) (b := 0))) ?_
 refine TL.cons rfl (Step.move (p := (.one (.d (.bool (decide (0 ≤ i)))))) rfl rfl (lt_ok rfl) rfl) ?_
 rcases Bool.eq_false_or_eq_true (decide (0 ≤ i)) with hb1 | hb1
 ·
  refine TL.known 7 hb1 rfl ?_
  have hb1' := hb1
  replace hb1' := of_decide_eq_true hb1'
  refine TL.gyes 7 rfl rfl (lt_ok rfl) rfl (Step.move (p := (.one (.d (.int .i64 i)))) rfl rfl (lt_ok rfl) rfl) ?_
  refine TL.gyes 7 rfl rfl (lt_ok rfl) rfl (Step.bin (r := .int .i64 (i / 8)) rfl rfl (lt_ok rfl) rfl rfl (Bin.quo (k := .i64) (a := i) (b := 8) (by decide) (by rw [Int.tdiv_eq_ediv_of_nonneg (by first | omega | exact hp_.1 | exact hp_.2 | (simp; omega))]; exact wrap_ok (by first | omega | exact hp_.1 | exact hp_.2 | (simp; omega)) (by first | omega | exact hp_.1 | exact hp_.2 | (simp; omega))))) ?_
  refine TL.gyes 7 rfl rfl (lt_ok rfl) rfl (Step.move (p := (.one (.d (.ints .u8 b)))) rfl rfl (lt_ok rfl) rfl) ?_
  refine TL.gyes 7 rfl rfl (lt_ok rfl) rfl (Step.len (e := 5) (z := 1) (d := (.ints .u8 b)) rfl rfl (lt_ok rfl) (by kernel_rfl) rfl rfl) ?_
  refine TL.gyes 7 rfl rfl (lt_ok rfl) rfl (Step.bin rfl rfl (lt_ok rfl) rfl rfl (Bin.lss (k := .i64) (a := (i / 8)) (b := (b.length : Int)))) ?_
  refine TL.cons rfl (Step.pick (b := true) (p := (.one (.d (.bool (decide ((i / 8) < (b.length : Int))))))) rfl rfl (lt_ok rfl) rfl rfl) ?_
  refine TL.cons rfl (Step.move (p := (.one (.d (.bool (decide ((i / 8) < (b.length : Int))))))) rfl rfl (lt_ok rfl) rfl) ?_
  rcases Bool.eq_false_or_eq_true (decide ((i / 8) < (b.length : Int))) with hb2 | hb2
  ·
   refine TL.known 14 hb2 rfl ?_
   have hb2' := hb2
   replace hb2' := of_decide_eq_true hb2'
   refine TL.gyes 14 rfl rfl (lt_ok rfl) rfl (Step.move (p := (.one (.d (.ints .u8 b)))) rfl rfl (lt_ok rfl) rfl) ?_
   refine TL.gyes 14 rfl rfl (lt_ok rfl) rfl (Step.move (p := (.one (.d (.int .i64 i)))) rfl rfl (lt_ok rfl) rfl) ?_
   refine TL.gyes 14 rfl rfl (lt_ok rfl) rfl (Step.bin (r := .int .i64 (i / 8)) rfl rfl (lt_ok rfl) rfl rfl (Bin.quo (k := .i64) (a := i) (b := 8) (by decide) (by rw [Int.tdiv_eq_ediv_of_nonneg (by first | omega | exact hp_.1 | exact hp_.2 | (simp; omega))]; exact wrap_ok (by first | omega | exact hp_.1 | exact hp_.2 | (simp; omega)) (by first | omega | exact hp_.1 | exact hp_.2 | (simp; omega))))) ?_
   refine TL.gyes 14 rfl rfl (lt_ok rfl) rfl (Step.index (e := 5) (z := 1) (i := (i / 8)) rfl rfl (lt_ok rfl) (by kernel_rfl) rfl rfl rfl (lt_ok rfl) rfl (by first | omega | exact hp_.1 | exact hp_.2 | (simp; omega)) (by simp only [D.size]; first | omega | exact hp_.1 | exact hp_.2 | (simp; omega))) ?_
   refine TL.gyes 14 rfl rfl (lt_ok rfl) rfl (Step.load (e := (.int .u8 (b.getD (i / 8).toNat 0))) rfl rfl (lt_ok rfl) (by kernel_rfl) rfl rfl) ?_
   refine TL.gyes 14 rfl rfl (lt_ok rfl) rfl (Step.conv (c := (b.getD (i / 8).toNat 0)) rfl rfl (lt_ok rfl) (by kernel_rfl) (by kernel_rfl) rfl (wrap_ok (by first | omega | exact hp_.1 | exact hp_.2 | (simp; omega)) (by first | omega | exact hp_.1 | exact hp_.2 | (simp; omega)))) ?_
   refine TL.gyes 14 rfl rfl (lt_ok rfl) rfl (Step.move (p := (.one (.d (.int .i64 i)))) rfl rfl (lt_ok rfl) rfl) ?_
   refine TL.gyes 14 rfl rfl (lt_ok rfl) rfl (Step.bin (r := .int .i64 (i % 8)) rfl rfl (lt_ok rfl) rfl rfl (Bin.rem (k := .i64) (a := i) (b := 8) (by decide) (Int.tmod_eq_emod_of_nonneg (by first | omega | exact hp_.1 | exact hp_.2 | (simp; omega))))) ?_
   refine TL.gyes 14 rfl rfl (lt_ok rfl) rfl (Step.bin (r := .int .i64 ((b.getD (i / 8).toNat 0) / 2 ^ ((i % 8)).toNat)) rfl rfl (lt_ok rfl) rfl rfl (Bin.shr (k := .i64) (k' := .i64) (a := (b.getD (i / 8).toNat 0)) (b := (i % 8)) (by first | omega | exact hp_.1 | exact hp_.2 | (simp; omega)) (shr_ok (by first | omega | exact hp_.1 | exact hp_.2 | (simp; omega)) (by show _ < ((64 : Nat) : Int); first | omega | exact hp_.1 | exact hp_.2 | (simp; omega))))) ?_
   refine TL.gyes 14 rfl rfl (lt_ok rfl) rfl (Step.bin (r := .int .i64 (((b.getD (i / 8).toNat 0) / 2 ^ ((i % 8)).toNat) % 2)) rfl rfl (lt_ok rfl) rfl rfl (Bin.rem (k := .i64) (a := ((b.getD (i / 8).toNat 0) / 2 ^ ((i % 8)).toNat)) (b := 2) (by decide) (Int.tmod_eq_emod_of_nonneg (by first | omega | exact hp_.1 | exact hp_.2 | (simp; omega))))) ?_
   refine TL.gyes 14 rfl rfl (lt_ok rfl) rfl (Step.bin rfl rfl (lt_ok rfl) rfl rfl (Bin.eql (k := .i64) (a := (((b.getD (i / 8).toNat 0) / 2 ^ ((i % 8)).toNat) % 2)) (b := 1))) ?_
   refine TL.cons rfl (Step.pick (b := true) (p := (.one (.d (.bool (decide ((((b.getD (i / 8).toNat 0) / 2 ^ ((i % 8)).toNat) % 2) = 1)))))) rfl rfl (lt_ok rfl) rfl rfl) ?_
   refine TL.cons rfl (Step.assign (p := (.one (.d (.bool (decide ((((b.getD (i / 8).toNat 0) / 2 ^ ((i % 8)).toNat) % 2) = 1)))))) rfl rfl (lt_ok rfl) rfl) ?_
   refine TL.nil ?_
   refine T.ret ?_
   refine ⟨[(false, [.d (.bool (decide ((((b.getD (i / 8).toNat 0) / 2 ^ ((i % 8)).toNat) % 2) = 1)))])], (.cons rfl .nil), rfl, [], (RetC.rd' ?_ .nil)⟩ <;> ((congr 1; symm; unfold bitHas; first | (rw [decide_eq_false (p := 0 ≤ i) (by omega)]; rfl) | (rw [decide_eq_true (p := 0 ≤ i) (by omega), decide_eq_false (p := i / 8 < (b.length : Int)) (by omega)]; rfl) | (rw [decide_eq_true (p := 0 ≤ i) (by omega), decide_eq_true (p := i / 8 < (b.length : Int)) (by omega)]; rfl) | (by_cases hi_ : 0 ≤ i; (rw [decide_eq_true (p := 0 ≤ i) (by omega), decide_eq_false (p := i / 8 < (b.length : Int)) (by omega)]; rfl); (rw [decide_eq_false (p := 0 ≤ i) hi_]; rfl))))
  ·
   refine TL.known 14 hb2 rfl ?_
   have hb2' := hb2
   replace hb2' := of_decide_eq_false hb2'
   refine TL.goff 14 rfl rfl (lt_ok rfl) rfl rfl rfl (lt_ok rfl) ?_
   refine TL.goff 14 rfl rfl (lt_ok rfl) rfl rfl rfl (lt_ok rfl) ?_
   refine TL.goff 14 rfl rfl (lt_ok rfl) rfl rfl rfl (lt_ok rfl) ?_
   refine TL.goff 14 rfl rfl (lt_ok rfl) rfl rfl rfl (lt_ok rfl) ?_
   refine TL.goff 14 rfl rfl (lt_ok rfl) rfl rfl rfl (lt_ok rfl) ?_
   refine TL.goff 14 rfl rfl (lt_ok rfl) rfl rfl rfl (lt_ok rfl) ?_
   refine TL.goff 14 rfl rfl (lt_ok rfl) rfl rfl rfl (lt_ok rfl) ?_
   refine TL.goff 14 rfl rfl (lt_ok rfl) rfl rfl rfl (lt_ok rfl) ?_
   refine TL.goff 14 rfl rfl (lt_ok rfl) rfl rfl rfl (lt_ok rfl) ?_
   refine TL.goff 14 rfl rfl (lt_ok rfl) rfl rfl rfl (lt_ok rfl) ?_
   refine TL.goff 14 rfl rfl (lt_ok rfl) rfl rfl rfl (lt_ok rfl) ?_
   refine TL.cons rfl (Step.pick (b := false) (p := (.one (.d (.bool false)))) rfl rfl (lt_ok rfl) rfl rfl) ?_
   refine TL.cons rfl (Step.assign (p := (.one (.d (.bool false)))) rfl rfl (lt_ok rfl) rfl) ?_
   refine TL.nil ?_
   refine T.ret ?_
   refine ⟨[(false, [.d (.bool false)])], (.cons rfl .nil), rfl, [], (RetC.rd' ?_ .nil)⟩ <;> ((congr 1; symm; unfold bitHas; first | (rw [decide_eq_false (p := 0 ≤ i) (by omega)]; rfl) | (rw [decide_eq_true (p := 0 ≤ i) (by omega), decide_eq_false (p := i / 8 < (b.length : Int)) (by omega)]; rfl) | (rw [decide_eq_true (p := 0 ≤ i) (by omega), decide_eq_true (p := i / 8 < (b.length : Int)) (by omega)]; rfl) | (by_cases hi_ : 0 ≤ i; (rw [decide_eq_true (p := 0 ≤ i) (by omega), decide_eq_false (p := i / 8 < (b.length : Int)) (by omega)]; rfl); (rw [decide_eq_false (p := 0 ≤ i) hi_]; rfl))))
 ·
  refine TL.known 7 hb1 rfl ?_
  have hb1' := hb1
  replace hb1' := of_decide_eq_false hb1'
  refine TL.goff 7 rfl rfl (lt_ok rfl) rfl rfl rfl (lt_ok rfl) ?_
  refine TL.goff 7 rfl rfl (lt_ok rfl) rfl rfl rfl (lt_ok rfl) ?_
  refine TL.goff 7 rfl rfl (lt_ok rfl) rfl rfl rfl (lt_ok rfl) ?_
  refine TL.goff 7 rfl rfl (lt_ok rfl) rfl rfl rfl (lt_ok rfl) ?_
  refine TL.goff 7 rfl rfl (lt_ok rfl) rfl rfl rfl (lt_ok rfl) ?_
  refine TL.cons rfl (Step.pick (b := false) (p := (.one (.d (.bool false)))) rfl rfl (lt_ok rfl) rfl rfl) ?_
  refine TL.cons rfl (Step.move (p := (.one (.d (.bool false)))) rfl rfl (lt_ok rfl) rfl) ?_
  refine TL.goff 14 rfl rfl (lt_ok rfl) rfl rfl rfl (lt_ok rfl) ?_
  refine TL.goff 14 rfl rfl (lt_ok rfl) rfl rfl rfl (lt_ok rfl) ?_
  refine TL.goff 14 rfl rfl (lt_ok rfl) rfl rfl rfl (lt_ok rfl) ?_
  refine TL.goff 14 rfl rfl (lt_ok rfl) rfl rfl rfl (lt_ok rfl) ?_
  refine TL.goff 14 rfl rfl (lt_ok rfl) rfl rfl rfl (lt_ok rfl) ?_
  refine TL.goff 14 rfl rfl (lt_ok rfl) rfl rfl rfl (lt_ok rfl) ?_
  refine TL.goff 14 rfl rfl (lt_ok rfl) rfl rfl rfl (lt_ok rfl) ?_
  refine TL.goff 14 rfl rfl (lt_ok rfl) rfl rfl rfl (lt_ok rfl) ?_
  refine TL.goff 14 rfl rfl (lt_ok rfl) rfl rfl rfl (lt_ok rfl) ?_
  refine TL.goff 14 rfl rfl (lt_ok rfl) rfl rfl rfl (lt_ok rfl) ?_
  refine TL.goff 14 rfl rfl (lt_ok rfl) rfl rfl rfl (lt_ok rfl) ?_
  refine TL.cons rfl (Step.pick (b := false) (p := (.one (.d (.bool false)))) rfl rfl (lt_ok rfl) rfl rfl) ?_
  refine TL.cons rfl (Step.assign (p := (.one (.d (.bool false)))) rfl rfl (lt_ok rfl) rfl) ?_
  refine TL.nil ?_
  refine T.ret ?_
  refine ⟨[(false, [.d (.bool false)])], (.cons rfl .nil), rfl, [], (RetC.rd' ?_ .nil)⟩ <;> ((congr 1; symm; unfold bitHas; first | (rw [decide_eq_false (p := 0 ≤ i) (by omega)]; rfl) | (rw [decide_eq_true (p := 0 ≤ i) (by omega), decide_eq_false (p := i / 8 < (b.length : Int)) (by omega)]; rfl) | (rw [decide_eq_true (p := 0 ≤ i) (by omega), decide_eq_true (p := i / 8 < (b.length : Int)) (by omega)]; rfl) | (by_cases hi_ : 0 ≤ i; (rw [decide_eq_true (p := 0 ≤ i) (by omega), decide_eq_false (p := i / 8 < (b.length : Int)) (by omega)]; rfl); (rw [decide_eq_false (p := 0 ≤ i) hi_]; rfl))))
theorem ok_spec_BitsList (b : List Int) (h0_ : U8s b) (h1_ : b.length ≤ 1099511627776) : RO Try.prog 121 [.one (.ints .u8 b)] [(false, [.own 3 (.ints .i64 (bitList b))])] := by
 refine RO.intro Try.func121 rfl 21 rfl (le_ok rfl) fun w Z => ?_
 refine T.bnd 0 0 rfl rfl fun hb_0_0 => ?_
 simp only [D.size, List.length_map] at hb_0_0
 refine T.seq ?_
 refine T.region ?_
 refine TL.cons rfl (Step.assign (p := (.one (.nil))) rfl rfl (lt_ok rfl) rfl) ?_
 refine TL.nil ?_
 refine T.seq ?_
 refine T.region ?_
 refine TL.cons rfl (Step.lit (e := 3) (z := 1) (by_ := 8) (xs := []) (pss := []) (es := []) (ss := []) (d := (.ints .i64 [])) rfl rfl (lt_ok rfl) (by kernel_rfl) rfl rfl .nil (by simp) (le_ok rfl) (le_ok rfl) rfl .nil rfl (by simp) (by simp) rfl trivial rfl rfl) ?_
 refine TL.cons rfl (Step.assign (p := (.one (.row 5 []))) rfl rfl (lt_ok rfl) rfl) ?_
 refine TL.nil ?_
 refine T.seq ?_
 refine T.seq ?_
 refine T.region ?_
 refine TL.cons rfl (Step.assign (p := (.one (.d (.int .i64 0)))) rfl rfl (lt_ok rfl) rfl) ?_
 refine TL.nil ?_
 refine T.block ?_
 refine T.loop (ι := Nat × (List Int)) (fun xx_ => { tm := [(0, (.one (.d (.ints .u8 b)))), (2, (.one (.nil))), (4, (.one (.d (.int .i64 ((xx_.1) : Int))))), (3, (.one (.row 5 [])))], rows := [(5, (3, (.ints .i64 (xx_.2))))], boxes := [] }) (fun xx_ => (xx_.1) ≤ 8 * b.length ∧ (xx_.2) ++ bitsGo b (8 * b.length - (xx_.1)) (xx_.1) = bitList b ∧ (xx_.2).length ≤ (xx_.1)) (fun xx_ => 8 * b.length - (xx_.1)) (0, []) ?_ ?_ ?_
 · refine Env.le_mk ⟨rfl, rfl, ?_, rfl, trivial⟩ ⟨?_, trivial⟩ trivial <;> (first | rfl | (refine congrArg (fun x => some (_, D.ints .i64 x)) ?_; rfl) | (refine congrArg (fun n => PV.one (.d (.int .i64 n))) ?_; first | omega | (simp; done)))
 · (dsimp only; refine ⟨Nat.zero_le _, rfl, Nat.zero_le _⟩)
 ·
  intro xx_ hx
  obtain ⟨i, o⟩ := xx_
  try dsimp only at hx ⊢
  obtain ⟨hx1, hx2, hx3⟩ := hx
  refine T.seq ?_
  refine T.seq ?_
  refine T.region ?_
  refine TL.cons rfl (Step.move (p := (.one (.d (.int .i64 (i : Int))))) rfl rfl (lt_ok rfl) rfl) ?_
  refine TL.cons rfl (Step.move (p := (.one (.d (.ints .u8 b)))) rfl rfl (lt_ok rfl) rfl) ?_
  refine TL.cons rfl (Step.len (e := 5) (z := 1) (d := (.ints .u8 b)) rfl rfl (lt_ok rfl) (by kernel_rfl) rfl rfl) ?_
  refine TL.cons rfl (Step.bin (r := .int .i64 (8 * (b.length : Int))) rfl rfl (lt_ok rfl) rfl rfl (Bin.mul (a := 8) (b := (b.length : Int)) (by first | exact wrap_ok (by first | omega | (simp; omega)) (by first | omega | (simp; omega)) | rfl))) ?_
  refine TL.cons rfl (Step.bin rfl rfl (lt_ok rfl) rfl rfl (Bin.lss (k := .i64) (a := (i : Int)) (b := (8 * (b.length : Int))))) ?_
  refine TL.nil ?_
  refine T.cond (b := decide ((i : Int) < (8 * (b.length : Int)))) rfl (fun h1 => ?_) (fun h1 => ?_)
  ·
   replace h1 := of_decide_eq_true h1
   refine T.skip ?_
   refine T.seq ?_
   refine T.block ?_
   refine T.seq ?_
   refine T.region ?_
   refine TL.cons rfl (Step.move (p := (.one (.d (.ints .u8 b)))) rfl rfl (lt_ok rfl) rfl) ?_
   refine TL.cons rfl (Step.move (p := (.one (.d (.int .i64 (i : Int))))) rfl rfl (lt_ok rfl) rfl) ?_
   refine TL.cons rfl (Step.call (f := 125) (xs := [.tmp 13, .tmp 14]) (ps := [(.one (.d (.ints .u8 b))), (.one (.d (.int .i64 (i : Int))))]) false (g := .func 125) rfl rfl (lt_ok rfl) rfl (by kernel_rfl) rfl (.cons (.one (.d _)) (.cons (.one (.d _)) .nil)) (ok_spec_BitsHas b (i : Int) (by assumption) (by first | omega | assumption | (simp only [List.length_append] at *; omega)) (by first | omega | assumption | (simp only [List.length_append] at *; omega))) (.inr rfl) rfl (by simp) rfl) ?_
   refine TL.nil ?_
   refine T.cond (b := bitHas b (i : Int)) rfl (fun h2 => ?_) (fun h2 => ?_)
   ·
    refine T.region ?_
    refine TL.cons rfl (Step.move (p := (.one (.row 5 []))) rfl rfl (lt_ok rfl) rfl) ?_
    refine TL.cons rfl (Step.move (p := (.one (.d (.int .i64 (i : Int))))) rfl rfl (lt_ok rfl) rfl) ?_
    refine TL.cons rfl (Step.lit (e := 3) (z := 1) (by_ := 8) (xs := [.tmp 17]) (pss := [[.d (.int .i64 (i : Int))]]) (es := [(.int .i64 (i : Int))]) (ss := []) (d := (.ints .i64 [(i : Int)])) rfl rfl (lt_ok rfl) (by kernel_rfl) rfl rfl (.cons rfl .nil) (by simp) (le_ok rfl) (le_ok rfl) rfl (.val rfl .nil) rfl (by simp) (by simp) rfl trivial rfl rfl) ?_
    refine TL.cons rfl (Step.append (e := 3) (z := 1) (by_ := 8) (d := (.ints .i64 o)) (dy := (.ints .i64 [(i : Int)])) (d' := (.ints .i64 (o ++ [(i : Int)]))) (ss := []) rfl rfl (lt_ok rfl) (by kernel_rfl) rfl rfl rfl (lt_ok rfl) rfl (.copy rfl rfl rfl (by simp [D.flat, D.val])) (by simp) rfl (by simp only [D.size, List.length_map]; first | omega | (simp only [List.length_append, List.length_cons, List.length_nil]; omega) | (simp; omega) | (simp only [List.length_append] at *; omega)) (by simp only [D.size, List.length_map]; first | omega | (simp only [List.length_append, List.length_cons, List.length_nil]; omega) | (simp; omega) | (simp only [List.length_append] at *; omega)) (by simp)) ?_
    refine TL.cons rfl (Step.assign (p := (.one (.row 5 []))) rfl rfl (lt_ok rfl) rfl) ?_
    refine TL.nil ?_
    refine T.region ?_
    refine TL.cons rfl (Step.move (p := (.one (.d (.int .i64 (i : Int))))) rfl rfl (lt_ok rfl) rfl) ?_
    refine TL.cons rfl (Step.bin (r := .int .i64 ((i : Int) + 1)) rfl rfl (lt_ok rfl) rfl rfl (Bin.add (a := (i : Int)) (b := 1) (by first | exact wrap_ok (by first | omega | (simp; omega)) (by first | omega | (simp; omega)) | rfl))) ?_
    refine TL.cons rfl (Step.assign (p := (.one (.d (.int .i64 ((i : Int) + 1))))) rfl rfl (lt_ok rfl) rfl) ?_
    refine TL.nil ?_
    refine ⟨(i + 1, o ++ [(i : Int)]), by (refine ⟨by omega, ?_, by simp only [List.length_append, List.length_cons, List.length_nil]; omega⟩; rw [← hx2, bitsGo_next b (n := 8 * b.length) (i := i) (by omega)]; first | (rw [if_pos (by assumption)]; simp only [List.append_assoc]; done) | (rw [if_neg (by simp [*])]; rfl)), by (dsimp only; omega), Env.le_mk ⟨rfl, rfl, ?_, rfl, trivial⟩ ⟨?_, trivial⟩ trivial⟩ <;> (first | rfl | (refine congrArg (fun x => some (_, D.ints .i64 x)) ?_; rfl) | (refine congrArg (fun n => PV.one (.d (.int .i64 n))) ?_; first | omega | (simp; done)))
   ·
    refine T.skip ?_
    refine T.region ?_
    refine TL.cons rfl (Step.move (p := (.one (.d (.int .i64 (i : Int))))) rfl rfl (lt_ok rfl) rfl) ?_
    refine TL.cons rfl (Step.bin (r := .int .i64 ((i : Int) + 1)) rfl rfl (lt_ok rfl) rfl rfl (Bin.add (a := (i : Int)) (b := 1) (by first | exact wrap_ok (by first | omega | (simp; omega)) (by first | omega | (simp; omega)) | rfl))) ?_
    refine TL.cons rfl (Step.assign (p := (.one (.d (.int .i64 ((i : Int) + 1))))) rfl rfl (lt_ok rfl) rfl) ?_
    refine TL.nil ?_
    refine ⟨(i + 1, o), by (refine ⟨by omega, ?_, by simp only [List.length_append, List.length_cons, List.length_nil]; omega⟩; rw [← hx2, bitsGo_next b (n := 8 * b.length) (i := i) (by omega)]; first | (rw [if_pos (by assumption)]; simp only [List.append_assoc]; done) | (rw [if_neg (by simp [*])]; rfl)), by (dsimp only; omega), Env.le_mk ⟨rfl, rfl, ?_, rfl, trivial⟩ ⟨rfl, trivial⟩ trivial⟩ <;> (first | rfl | (refine congrArg (fun x => some (_, D.ints .i64 x)) ?_; rfl) | (refine congrArg (fun n => PV.one (.d (.int .i64 n))) ?_; first | omega | (simp; done)))
  ·
   replace h1 := of_decide_eq_false h1
   refine T.exit ?_
   refine T.seq ?_
   refine T.region ?_
   refine TL.cons rfl (Step.move (p := (.one (.row 5 []))) rfl rfl (lt_ok rfl) rfl) ?_
   refine TL.cons rfl (Step.assign (p := (.one (.row 5 []))) rfl rfl (lt_ok rfl) rfl) ?_
   refine TL.nil ?_
   refine T.ret ?_
   refine ⟨[(false, [.row 5 []])], (.cons rfl .nil), rfl, [5], (RetC.own' rfl ?_ rfl .nil)⟩ <;> ((congr 1; rw [← hx2, bitsGo_end b (by omega), List.append_nil]))
theorem ok_spec_BitsOk (b : List Int) (n : Int) (h0_ : U8s b) (h1_ : b.length ≤ 1099511627776) : RO Try.prog 112 [.one (.ints .u8 b), .one (.int .i64 n)] [(false, [.rd (.bool (bitsOk b n))])] := by
 refine RO.intro Try.func112 rfl 31 rfl (le_ok rfl) fun w Z => ?_
 refine T.bnd 0 0 rfl rfl fun hb_0_0 => ?_
 simp only [D.size, List.length_map] at hb_0_0
 refine T.seq ?_
 refine T.region ?_
 refine TL.cons rfl (Step.assign (p := (.one (.d (.bool false)))) rfl rfl (lt_ok rfl) rfl) ?_
 refine TL.nil ?_
 refine T.seq ?_
 refine T.seq ?_
 refine T.region ?_
 refine TL.cons rfl (Step.move (p := (.one (.d (.int .i64 n)))) rfl rfl (lt_ok rfl) rfl) ?_
 refine TL.cons rfl (Step.call (f := 111) (xs := [.tmp 6]) (ps := [(.one (.d (.int .i64 n)))]) false (g := .func 111) rfl rfl (lt_ok rfl) rfl (by kernel_rfl) rfl (.cons (.one (.d _)) .nil) (ok_spec_l02Signers n) (.inr rfl) rfl (by simp) rfl) ?_
 refine TL.cons rfl (Step.not (b := (decide (1 ≤ n ∧ n ≤ 10))) rfl rfl (lt_ok rfl) rfl) ?_
 refine TL.cons rfl (Step.move (p := (.one (.d (.bool (!(decide (1 ≤ n ∧ n ≤ 10))))))) rfl rfl (lt_ok rfl) rfl) ?_
 rcases Bool.eq_false_or_eq_true (!(decide (1 ≤ n ∧ n ≤ 10))) with hb1 | hb1
 ·
  refine TL.known 9 hb1 rfl ?_
  have hb1' := hb1
  replace hb1' : (decide (1 ≤ n ∧ n ≤ 10)) = false := by simpa only [Bool.not_eq_true', Bool.not_eq_false'] using hb1'
  replace hb1' := of_decide_eq_false hb1'
  refine TL.goff 9 rfl rfl (lt_ok rfl) rfl rfl rfl (lt_ok rfl) ?_
  refine TL.goff 9 rfl rfl (lt_ok rfl) rfl rfl rfl (lt_ok rfl) ?_
  refine TL.goff 9 rfl rfl (lt_ok rfl) rfl rfl rfl (lt_ok rfl) ?_
  refine TL.goff 9 rfl rfl (lt_ok rfl) rfl rfl rfl (lt_ok rfl) ?_
  refine TL.goff 9 rfl rfl (lt_ok rfl) rfl rfl rfl (lt_ok rfl) ?_
  refine TL.cons rfl (Step.pick (b := true) (p := (.one (.d (.bool true)))) rfl rfl (lt_ok rfl) rfl rfl) ?_
  refine TL.nil ?_
  refine T.cond (b := true) rfl (fun h2_ => ?_) (fun h2_ => absurd h2_ (by simp))
  refine T.seq ?_
  refine T.region ?_
  refine TL.cons rfl (Step.assign (p := (.one (.d (.bool false)))) rfl rfl (lt_ok rfl) rfl) ?_
  refine TL.nil ?_
  refine T.ret ?_
  refine ⟨[(false, [.d (.bool false)])], (.cons rfl .nil), rfl, [], (RetC.rd' ?_ .nil)⟩ <;> (first | (congr 1; symm; unfold bitsOk; rw [bits_last (by omega), decide_eq_true (p := (1 ≤ n ∧ n ≤ 10)) (by omega), decide_eq_true (p := ((b.length : Int) = bitsSize n)) (by omega)]; rfl) | (congr 1; symm; simp only [bitsOk, *, Bool.and_true, Bool.true_and, Bool.and_false, Bool.false_and, decide_true, decide_false, and_true, true_and, and_self, and_false, false_and, Bool.and_self, not_true, not_false, Bool.not_true, Bool.not_false, ge_iff_le, gt_iff_lt, if_true, if_false, Bool.false_eq_true, ite_true, ite_false, reduceIte]; done) | (congr 1; symm; unfold bitsOk; rw [decide_eq_false (p := (1 ≤ n ∧ n ≤ 10)) (by omega)]; rfl) | (congr 1; symm; unfold bitsOk; rw [decide_eq_false (p := ((b.length : Int) = bitsSize n)) (by omega)]; simp; done) | (congr 1; symm; unfold bitsOk; rw [all_no (i := i) (by omega) (by omega)]; simp; done) | (congr 1; symm; unfold bitsOk; rw [List.take_of_length_le (by omega)] at hx2; rw [hx2, decide_eq_true (p := (1 ≤ n ∧ n ≤ 10)) (by omega), decide_eq_true (p := ((b.length : Int) = bitsSize n)) (by omega)]; rfl) | (congr 1; unfold bitsOk; rw [bits_last (by omega), decide_eq_true (p := (1 ≤ n ∧ n ≤ 10)) (by omega), decide_eq_true (p := ((b.length : Int) = bitsSize n)) (by omega)]; simp only [Bool.true_and]; rfl) | (congr 1; symm; unfold bitsOk; rw [List.eq_nil_of_length_eq_zero (l := bitList b) (by omega), decide_eq_true (p := (1 ≤ n ∧ n ≤ 10)) (by omega), decide_eq_true (p := ((b.length : Int) = bitsSize n)) (by omega)]; rfl))
 ·
  refine TL.known 9 hb1 rfl ?_
  have hb1' := hb1
  replace hb1' : (decide (1 ≤ n ∧ n ≤ 10)) = true := by simpa only [Bool.not_eq_true', Bool.not_eq_false'] using hb1'
  replace hb1' := of_decide_eq_true hb1'
  refine TL.gyes 9 rfl rfl (lt_ok rfl) rfl (Step.move (p := (.one (.d (.ints .u8 b)))) rfl rfl (lt_ok rfl) rfl) ?_
  refine TL.gyes 9 rfl rfl (lt_ok rfl) rfl (Step.len (e := 5) (z := 1) (d := (.ints .u8 b)) rfl rfl (lt_ok rfl) (by kernel_rfl) rfl rfl) ?_
  refine TL.gyes 9 rfl rfl (lt_ok rfl) rfl (Step.move (p := (.one (.d (.int .i64 n)))) rfl rfl (lt_ok rfl) rfl) ?_
  refine TL.gyes 9 rfl rfl (lt_ok rfl) rfl (Step.call (f := 120) (xs := [.tmp 12]) (ps := [(.one (.d (.int .i64 n)))]) false (g := .func 120) rfl rfl (lt_ok rfl) rfl (by kernel_rfl) rfl (.cons (.one (.d _)) .nil) (ok_spec_BitsSize n (by first | omega | assumption | (simp only [List.length_append] at *; omega))) (.inr rfl) rfl (by simp) rfl) ?_
  refine TL.gyes 9 rfl rfl (lt_ok rfl) rfl (Step.bin rfl rfl (lt_ok rfl) rfl rfl (Bin.neq (k := .i64) (a := (b.length : Int)) (b := (bitsSize n)))) ?_
  refine TL.cons rfl (Step.pick (b := false) (p := (.one (.d (.bool (decide ((b.length : Int) ≠ (bitsSize n))))))) rfl rfl (lt_ok rfl) rfl rfl) ?_
  refine TL.nil ?_
  refine T.cond (b := decide ((b.length : Int) ≠ (bitsSize n))) rfl (fun h3 => ?_) (fun h3 => ?_)
  ·
   replace h3 := of_decide_eq_true h3
   refine T.seq ?_
   refine T.region ?_
   refine TL.cons rfl (Step.assign (p := (.one (.d (.bool false)))) rfl rfl (lt_ok rfl) rfl) ?_
   refine TL.nil ?_
   refine T.ret ?_
   refine ⟨[(false, [.d (.bool false)])], (.cons rfl .nil), rfl, [], (RetC.rd' ?_ .nil)⟩ <;> (first | (congr 1; symm; unfold bitsOk; rw [bits_last (by omega), decide_eq_true (p := (1 ≤ n ∧ n ≤ 10)) (by omega), decide_eq_true (p := ((b.length : Int) = bitsSize n)) (by omega)]; rfl) | (congr 1; symm; simp only [bitsOk, *, Bool.and_true, Bool.true_and, Bool.and_false, Bool.false_and, decide_true, decide_false, and_true, true_and, and_self, and_false, false_and, Bool.and_self, not_true, not_false, Bool.not_true, Bool.not_false, ge_iff_le, gt_iff_lt, if_true, if_false, Bool.false_eq_true, ite_true, ite_false, reduceIte]; done) | (congr 1; symm; unfold bitsOk; rw [decide_eq_false (p := (1 ≤ n ∧ n ≤ 10)) (by omega)]; rfl) | (congr 1; symm; unfold bitsOk; rw [decide_eq_false (p := ((b.length : Int) = bitsSize n)) (by omega)]; simp; done) | (congr 1; symm; unfold bitsOk; rw [all_no (i := i) (by omega) (by omega)]; simp; done) | (congr 1; symm; unfold bitsOk; rw [List.take_of_length_le (by omega)] at hx2; rw [hx2, decide_eq_true (p := (1 ≤ n ∧ n ≤ 10)) (by omega), decide_eq_true (p := ((b.length : Int) = bitsSize n)) (by omega)]; rfl) | (congr 1; unfold bitsOk; rw [bits_last (by omega), decide_eq_true (p := (1 ≤ n ∧ n ≤ 10)) (by omega), decide_eq_true (p := ((b.length : Int) = bitsSize n)) (by omega)]; simp only [Bool.true_and]; rfl) | (congr 1; symm; unfold bitsOk; rw [List.eq_nil_of_length_eq_zero (l := bitList b) (by omega), decide_eq_true (p := (1 ≤ n ∧ n ≤ 10)) (by omega), decide_eq_true (p := ((b.length : Int) = bitsSize n)) (by omega)]; rfl))
  ·
   replace h3 := of_decide_eq_false h3
   refine T.skip ?_
   refine T.seq ?_
   refine T.region ?_
   refine TL.cons rfl (Step.move (p := (.one (.d (.ints .u8 b)))) rfl rfl (lt_ok rfl) rfl) ?_
   have nn4 := bitList_len b
   refine TL.cons rfl (Step.call (f := 121) (xs := [.tmp 16]) (ps := [(.one (.d (.ints .u8 b)))]) false (g := .func 121) rfl rfl (lt_ok rfl) rfl (by kernel_rfl) rfl (.cons (.one (.d _)) .nil) (ok_spec_BitsList b (by assumption) (by first | omega | assumption | (simp only [List.length_append] at *; omega))) (.inr rfl) rfl (by simp) rfl) ?_
   refine TL.cons rfl (Step.assign (p := (.one (.row 1017 []))) rfl rfl (lt_ok rfl) rfl) ?_
   refine TL.nil ?_
   refine T.seq ?_
   refine T.region ?_
   refine TL.cons rfl (Step.move (p := (.one (.row 1017 []))) rfl rfl (lt_ok rfl) rfl) ?_
   refine TL.cons rfl (Step.len (e := 3) (z := 1) (d := (.ints .i64 (bitList b))) rfl rfl (lt_ok rfl) (by kernel_rfl) rfl rfl) ?_
   refine TL.cons rfl (Step.bin rfl rfl (lt_ok rfl) rfl rfl (Bin.eql (k := .i64) (a := ((bitList b).length : Int)) (b := 0))) ?_
   refine TL.cons rfl (Step.move (p := (.one (.d (.bool (decide (((bitList b).length : Int) = 0)))))) rfl rfl (lt_ok rfl) rfl) ?_
   rcases Bool.eq_false_or_eq_true (decide (((bitList b).length : Int) = 0)) with hb5 | hb5
   ·
    refine TL.known 21 hb5 rfl ?_
    have hb5' := hb5
    replace hb5' := of_decide_eq_true hb5'
    refine TL.goff 21 rfl rfl (lt_ok rfl) rfl rfl rfl (lt_ok rfl) ?_
    refine TL.goff 21 rfl rfl (lt_ok rfl) rfl rfl rfl (lt_ok rfl) ?_
    refine TL.goff 21 rfl rfl (lt_ok rfl) rfl rfl rfl (lt_ok rfl) ?_
    refine TL.goff 21 rfl rfl (lt_ok rfl) rfl rfl rfl (lt_ok rfl) ?_
    refine TL.goff 21 rfl rfl (lt_ok rfl) rfl rfl rfl (lt_ok rfl) ?_
    refine TL.goff 21 rfl rfl (lt_ok rfl) rfl rfl rfl (lt_ok rfl) ?_
    refine TL.goff 21 rfl rfl (lt_ok rfl) rfl rfl rfl (lt_ok rfl) ?_
    refine TL.goff 21 rfl rfl (lt_ok rfl) rfl rfl rfl (lt_ok rfl) ?_
    refine TL.cons rfl (Step.pick (b := true) (p := (.one (.d (.bool true)))) rfl rfl (lt_ok rfl) rfl rfl) ?_
    refine TL.cons rfl (Step.assign (p := (.one (.d (.bool true)))) rfl rfl (lt_ok rfl) rfl) ?_
    refine TL.nil ?_
    refine T.ret ?_
    refine ⟨[(false, [.d (.bool true)])], (.cons rfl .nil), rfl, [], (RetC.rd' ?_ .nil)⟩ <;> (first | (congr 1; symm; unfold bitsOk; rw [bits_last (by omega), decide_eq_true (p := (1 ≤ n ∧ n ≤ 10)) (by omega), decide_eq_true (p := ((b.length : Int) = bitsSize n)) (by omega)]; rfl) | (congr 1; symm; simp only [bitsOk, *, Bool.and_true, Bool.true_and, Bool.and_false, Bool.false_and, decide_true, decide_false, and_true, true_and, and_self, and_false, false_and, Bool.and_self, not_true, not_false, Bool.not_true, Bool.not_false, ge_iff_le, gt_iff_lt, if_true, if_false, Bool.false_eq_true, ite_true, ite_false, reduceIte]; done) | (congr 1; symm; unfold bitsOk; rw [decide_eq_false (p := (1 ≤ n ∧ n ≤ 10)) (by omega)]; rfl) | (congr 1; symm; unfold bitsOk; rw [decide_eq_false (p := ((b.length : Int) = bitsSize n)) (by omega)]; simp; done) | (congr 1; symm; unfold bitsOk; rw [all_no (i := i) (by omega) (by omega)]; simp; done) | (congr 1; symm; unfold bitsOk; rw [List.take_of_length_le (by omega)] at hx2; rw [hx2, decide_eq_true (p := (1 ≤ n ∧ n ≤ 10)) (by omega), decide_eq_true (p := ((b.length : Int) = bitsSize n)) (by omega)]; rfl) | (congr 1; unfold bitsOk; rw [bits_last (by omega), decide_eq_true (p := (1 ≤ n ∧ n ≤ 10)) (by omega), decide_eq_true (p := ((b.length : Int) = bitsSize n)) (by omega)]; simp only [Bool.true_and]; rfl) | (congr 1; symm; unfold bitsOk; rw [List.eq_nil_of_length_eq_zero (l := bitList b) (by omega), decide_eq_true (p := (1 ≤ n ∧ n ≤ 10)) (by omega), decide_eq_true (p := ((b.length : Int) = bitsSize n)) (by omega)]; rfl))
   ·
    refine TL.known 21 hb5 rfl ?_
    have hb5' := hb5
    replace hb5' := of_decide_eq_false hb5'
    refine TL.gyes 21 rfl rfl (lt_ok rfl) rfl (Step.move (p := (.one (.row 1017 []))) rfl rfl (lt_ok rfl) rfl) ?_
    refine TL.gyes 21 rfl rfl (lt_ok rfl) rfl (Step.move (p := (.one (.row 1017 []))) rfl rfl (lt_ok rfl) rfl) ?_
    refine TL.gyes 21 rfl rfl (lt_ok rfl) rfl (Step.len (e := 3) (z := 1) (d := (.ints .i64 (bitList b))) rfl rfl (lt_ok rfl) (by kernel_rfl) rfl rfl) ?_
    refine TL.gyes 21 rfl rfl (lt_ok rfl) rfl (Step.bin (r := .int .i64 (((bitList b).length : Int) - 1)) rfl rfl (lt_ok rfl) rfl rfl (Bin.sub (a := ((bitList b).length : Int)) (b := 1) (by first | exact wrap_ok (by first | omega | (simp; omega)) (by first | omega | (simp; omega)) | rfl))) ?_
    refine TL.gyes 21 rfl rfl (lt_ok rfl) rfl (Step.index_row (e := 3) (z := 1) (i := (((bitList b).length : Int) - 1)) rfl rfl (lt_ok rfl) (by kernel_rfl) rfl rfl rfl rfl (lt_ok rfl) rfl (by first | omega | (simp; omega)) (by simp only [D.at_, D.cell, D.size]; first | omega | (simp; omega))) ?_
    refine TL.gyes 21 rfl rfl (lt_ok rfl) rfl (Step.load_row (c := .d (.int .i64 ((bitList b).getD (((bitList b).length : Int) - 1).toNat 0))) rfl rfl (lt_ok rfl) (by kernel_rfl) rfl rfl rfl) ?_
    refine TL.gyes 21 rfl rfl (lt_ok rfl) rfl (Step.move (p := (.one (.d (.int .i64 n)))) rfl rfl (lt_ok rfl) rfl) ?_
    refine TL.gyes 21 rfl rfl (lt_ok rfl) rfl (Step.bin rfl rfl (lt_ok rfl) rfl rfl (Bin.lss (k := .i64) (a := ((bitList b).getD (((bitList b).length : Int) - 1).toNat 0)) (b := n))) ?_
    refine TL.cons rfl (Step.pick (b := false) (p := (.one (.d (.bool (decide (((bitList b).getD (((bitList b).length : Int) - 1).toNat 0) < n)))))) rfl rfl (lt_ok rfl) rfl rfl) ?_
    refine TL.cons rfl (Step.assign (p := (.one (.d (.bool (decide (((bitList b).getD (((bitList b).length : Int) - 1).toNat 0) < n)))))) rfl rfl (lt_ok rfl) rfl) ?_
    refine TL.nil ?_
    refine T.ret ?_
    refine ⟨[(false, [.d (.bool (decide (((bitList b).getD (((bitList b).length : Int) - 1).toNat 0) < n)))])], (.cons rfl .nil), rfl, [], (RetC.rd' ?_ .nil)⟩ <;> (first | (congr 1; symm; unfold bitsOk; rw [bits_last (by omega), decide_eq_true (p := (1 ≤ n ∧ n ≤ 10)) (by omega), decide_eq_true (p := ((b.length : Int) = bitsSize n)) (by omega)]; rfl) | (congr 1; symm; simp only [bitsOk, *, Bool.and_true, Bool.true_and, Bool.and_false, Bool.false_and, decide_true, decide_false, and_true, true_and, and_self, and_false, false_and, Bool.and_self, not_true, not_false, Bool.not_true, Bool.not_false, ge_iff_le, gt_iff_lt, if_true, if_false, Bool.false_eq_true, ite_true, ite_false, reduceIte]; done) | (congr 1; symm; unfold bitsOk; rw [decide_eq_false (p := (1 ≤ n ∧ n ≤ 10)) (by omega)]; rfl) | (congr 1; symm; unfold bitsOk; rw [decide_eq_false (p := ((b.length : Int) = bitsSize n)) (by omega)]; simp; done) | (congr 1; symm; unfold bitsOk; rw [all_no (i := i) (by omega) (by omega)]; simp; done) | (congr 1; symm; unfold bitsOk; rw [List.take_of_length_le (by omega)] at hx2; rw [hx2, decide_eq_true (p := (1 ≤ n ∧ n ≤ 10)) (by omega), decide_eq_true (p := ((b.length : Int) = bitsSize n)) (by omega)]; rfl) | (congr 1; unfold bitsOk; rw [bits_last (by omega), decide_eq_true (p := (1 ≤ n ∧ n ≤ 10)) (by omega), decide_eq_true (p := ((b.length : Int) = bitsSize n)) (by omega)]; simp only [Bool.true_and]; rfl) | (congr 1; symm; unfold bitsOk; rw [List.eq_nil_of_length_eq_zero (l := bitList b) (by omega), decide_eq_true (p := (1 ≤ n ∧ n ≤ 10)) (by omega), decide_eq_true (p := ((b.length : Int) = bitsSize n)) (by omega)]; rfl))
theorem ok_spec_BitsCount (b : List Int) (h0_ : U8s b) (h1_ : b.length ≤ 1099511627776) : RO Try.prog 113 [.one (.ints .u8 b)] [(false, [.rd (.int .i64 ((bitList b).length : Int))])] := by
 refine RO.intro Try.func113 rfl 6 rfl (le_ok rfl) fun w Z => ?_
 refine T.bnd 0 0 rfl rfl fun hb_0_0 => ?_
 simp only [D.size, List.length_map] at hb_0_0
 refine T.seq ?_
 refine T.region ?_
 refine TL.cons rfl (Step.assign (p := (.one (.d (.int .i64 0)))) rfl rfl (lt_ok rfl) rfl) ?_
 refine TL.nil ?_
 refine T.seq ?_
 refine T.region ?_
 refine TL.cons rfl (Step.move (p := (.one (.d (.ints .u8 b)))) rfl rfl (lt_ok rfl) rfl) ?_
 have nn1 := bitList_len b
 refine TL.cons rfl (Step.call (f := 121) (xs := [.tmp 3]) (ps := [(.one (.d (.ints .u8 b)))]) false (g := .func 121) rfl rfl (lt_ok rfl) rfl (by kernel_rfl) rfl (.cons (.one (.d _)) .nil) (ok_spec_BitsList b (by assumption) (by first | omega | assumption | (simp only [List.length_append] at *; omega))) (.inr rfl) rfl (by simp) rfl) ?_
 refine TL.cons rfl (Step.len (e := 3) (z := 1) (d := (.ints .i64 (bitList b))) rfl rfl (lt_ok rfl) (by kernel_rfl) rfl rfl) ?_
 refine TL.cons rfl (Step.assign (p := (.one (.d (.int .i64 ((bitList b).length : Int))))) rfl rfl (lt_ok rfl) rfl) ?_
 refine TL.nil ?_
 refine T.ret ?_
 exact ⟨[(false, [.d (.int .i64 ((bitList b).length : Int))])], (.cons rfl .nil), rfl, [], (RetC.rd' rfl .nil)⟩
theorem ok_spec_QcOk (l : SLimits) (q : SQc) (h0_ : q.ok) (h1_ : q.sm) : RO Try.prog 95 [.agg l.cells, .agg q.cells] [(false, [.rd (.bool (qcOk l q))])] := by
 refine RO.intro Try.func95 rfl 43 rfl (le_ok rfl) fun w Z => ?_
 obtain ⟨o0, o1, o2, o3, o4⟩ := h0_
 obtain ⟨s0, s1, s2⟩ := h1_
 refine T.seq ?_
 refine T.region ?_
 refine TL.cons rfl (Step.box (p := (.agg [.d (.int .i64 l.f0), .d (.int .i64 l.f1), .d (.int .i64 l.f2), .d (.int .i64 l.f3), .d (.int .i64 l.f4)])) (ps := [.d (.int .i64 l.f0), .d (.int .i64 l.f1), .d (.int .i64 l.f2), .d (.int .i64 l.f3), .d (.int .i64 l.f4)]) rfl rfl (lt_ok rfl) rfl rfl rfl rfl rfl) ?_
 refine TL.cons rfl (Step.box (p := (.agg [.d (.int .i64 q.f0), .d (.int .i64 q.f1), .d (.ints .u8 q.f2), .d (.ints .u8 q.f3), .d (.bss q.f4)])) (ps := [.d (.int .i64 q.f0), .d (.int .i64 q.f1), .d (.ints .u8 q.f2), .d (.ints .u8 q.f3), .d (.bss q.f4)]) rfl rfl (lt_ok rfl) rfl rfl rfl rfl rfl) ?_
 refine TL.cons rfl (Step.assign (p := (.one (.d (.bool false)))) rfl rfl (lt_ok rfl) rfl) ?_
 refine TL.nil ?_
 refine T.seq ?_
 rcases Bool.eq_false_or_eq_true (limOk l) with hb1 | hb1
 ·
  rcases Bool.eq_false_or_eq_true (decide (0 ≤ q.f0 ∧ q.f0 ≤ 1152921504606846975)) with hb2 | hb2
  ·
   rcases Bool.eq_false_or_eq_true (decide (0 ≤ q.f1 ∧ q.f1 ≤ 1152921504606846975)) with hb3 | hb3
   ·
    rcases Bool.eq_false_or_eq_true (decide ((q.f2.length : Int) = 32)) with hb4 | hb4
    ·
     rcases Bool.eq_false_or_eq_true (bitsOk q.f3 l.f0) with hb5 | hb5
     ·
      have nn6 := bitList_len q.f3
      rcases Bool.eq_false_or_eq_true (decide ((q.f4.length : Int) = ((bitList q.f3).length : Int))) with hb7 | hb7
      ·
       have nn8 := bitList_len q.f3
       refine T.draw [⟨5, (.agg [.d (.int .i64 l.f0), .d (.int .i64 l.f1), .d (.int .i64 l.f2), .d (.int .i64 l.f3), .d (.int .i64 l.f4)]), []⟩, ⟨6, (.one (.d (.bool true))), []⟩, ⟨7, (.one (.d (.bool true))), []⟩, ⟨8, (.one (.ptr 3 0)), []⟩, ⟨9, (.one (.d (.int .i64 q.f0))), []⟩, ⟨10, (.one (.d (.bool true))), []⟩, ⟨11, (.one (.d (.bool true))), []⟩, ⟨12, (.one (.d (.bool true))), []⟩, ⟨13, (.one (.ptr 3 1)), []⟩, ⟨14, (.one (.d (.int .i64 q.f1))), []⟩, ⟨15, (.one (.d (.bool true))), []⟩, ⟨16, (.one (.d (.bool true))), []⟩, ⟨17, (.one (.d (.bool true))), []⟩, ⟨18, (.one (.ptr 3 2)), []⟩, ⟨19, (.one (.d (.ints .u8 q.f2))), []⟩, ⟨20, (.one (.d (.bool true))), []⟩, ⟨21, (.one (.d (.bool true))), []⟩, ⟨22, (.one (.d (.bool true))), []⟩, ⟨23, (.one (.ptr 3 3)), []⟩, ⟨24, (.one (.d (.ints .u8 q.f3))), []⟩, ⟨25, (.one (.ptr 2 0)), []⟩, ⟨26, (.one (.d (.int .i64 l.f0))), []⟩, ⟨27, (.one (.d (.bool true))), []⟩, ⟨28, (.one (.d (.bool true))), []⟩, ⟨29, (.one (.d (.bool true))), []⟩, ⟨30, (.one (.ptr 3 4)), []⟩, ⟨31, (.one (.d (.bss q.f4))), []⟩, ⟨32, (.one (.d (.int .i64 (q.f4.length : Int)))), []⟩, ⟨33, (.one (.ptr 3 3)), []⟩, ⟨34, (.one (.d (.ints .u8 q.f3))), []⟩, ⟨35, (.one (.d (.int .i64 ((bitList q.f3).length : Int)))), []⟩, ⟨36, (.one (.d (.bool true))), []⟩, ⟨37, (.one (.d (.bool true))), []⟩, ⟨38, (.one (.d (.bool true))), []⟩, ⟨39, (.one (.ptr 3 4)), []⟩, ⟨40, (.one (.d (.bss q.f4))), []⟩, ⟨41, (.one (.d (.bool (hashes q.f4)))), []⟩, ⟨42, (.one (.d (.bool (hashes q.f4)))), []⟩, ⟨4, (.one (.d (.bool (hashes q.f4)))), []⟩] (by kernel_rfl) (by kernel_rfl) ?_ ?_
       ·
        refine .cons (fun E hA_ => by have g2 := hA_.get 2 (by decide); exact OpStep.plain rfl (Step.load_box_agg (n := 5) (qs := [.d (.int .i64 l.f0), .d (.int .i64 l.f1), .d (.int .i64 l.f2), .d (.int .i64 l.f3), .d (.int .i64 l.f4)]) (t := 5) rfl rfl (by exact lt_ok rfl) (by kernel_rfl) (show Env.ev E (.tmp 2) = _ from g2.trans rfl) (by exact hA_.box rfl) rfl rfl)) ?_
        refine .cons (fun E hA_ => by have g5 := hA_.get 5 (by decide); exact OpStep.plain rfl (Step.to (E1 := E.set 6 (.one (.d (.bool (limOk l))))) (congrArg (fun b_ => E.set 6 (.one (.d (.bool b_)))) hb1) (Step.call (f := 93) (xs := [.tmp 5]) (ps := [(.agg [.d (.int .i64 l.f0), .d (.int .i64 l.f1), .d (.int .i64 l.f2), .d (.int .i64 l.f3), .d (.int .i64 l.f4)])]) false (g := .func 93) (t := 6) rfl rfl (by exact lt_ok rfl) rfl (by kernel_rfl) (evs_cons (show Env.ev E (.tmp 5) = _ from g5.trans rfl) (rfl)) (.cons (.agg (.cons (.d _) (.cons (.d _) (.cons (.d _) (.cons (.d _) (.cons (.d _) .nil)))))) .nil) (ok_spec_LimitsOk l) (.inr rfl) (At.freshRows hA_ rfl) (by simp) rfl))) ?_
        refine .cons (fun E hA_ => by have g6 := hA_.get 6 (by decide); exact OpStep.plain rfl (Step.move (p := (.one (.d (.bool true)))) (t := 7) rfl rfl (by exact lt_ok rfl) (show Env.ev E (.tmp 6) = _ from g6.trans rfl))) ?_
        refine .cons (fun E hA_ => by have g3 := hA_.get 3 (by decide); have g7 := hA_.get 7 (by decide); exact OpStep.yes (t := 7) rfl rfl (lt_ok rfl) (g7.trans rfl) (Step.fieldAddr (q := 0) (off := 0) (n := 1) (one := true) (t := 8) rfl rfl (by exact lt_ok rfl) (by kernel_rfl) (Nat.succ_ne_zero _) (show Env.ev E (.tmp 3) = _ from g3.trans rfl))) ?_
        refine .cons (fun E hA_ => by have g7 := hA_.get 7 (by decide); have g8 := hA_.get 8 (by decide); exact OpStep.yes (t := 7) rfl rfl (lt_ok rfl) (g7.trans rfl) (Step.load_box (c := .d (.int .i64 q.f0)) (t := 9) rfl rfl (by exact lt_ok rfl) (by kernel_rfl) (show Env.ev E (.tmp 8) = _ from g8.trans rfl) (by exact hA_.box rfl) rfl)) ?_
        refine .cons (fun E hA_ => by have g7 := hA_.get 7 (by decide); have g9 := hA_.get 9 (by decide); exact OpStep.yes (t := 7) rfl rfl (lt_ok rfl) (g7.trans rfl) (Step.to (E1 := E.set 10 (.one (.d (.bool (decide (0 ≤ q.f0 ∧ q.f0 ≤ 1152921504606846975)))))) (congrArg (fun b_ => E.set 10 (.one (.d (.bool b_)))) hb2) (Step.call (f := 94) (xs := [.tmp 9]) (ps := [(.one (.d (.int .i64 q.f0)))]) false (g := .func 94) (t := 10) rfl rfl (by exact lt_ok rfl) rfl (by kernel_rfl) (evs_cons (show Env.ev E (.tmp 9) = _ from g9.trans rfl) (rfl)) (.cons (.one (.d _)) .nil) (ok_spec_l01Num q.f0) (.inr rfl) (At.freshRows hA_ rfl) (by simp) rfl))) ?_
        refine .cons (fun E hA_ => by have g7 := hA_.get 7 (by decide); have g10 := hA_.get 10 (by decide); exact OpStep.plain rfl (Step.pick (b := true) (p := (.one (.d (.bool true)))) (t := 11) rfl rfl (by exact lt_ok rfl) (show Env.ev E (.tmp 7) = _ from g7.trans rfl) (show Env.ev E (.tmp 10) = _ from g10.trans rfl))) ?_
        refine .cons (fun E hA_ => by have g11 := hA_.get 11 (by decide); exact OpStep.plain rfl (Step.move (p := (.one (.d (.bool true)))) (t := 12) rfl rfl (by exact lt_ok rfl) (show Env.ev E (.tmp 11) = _ from g11.trans rfl))) ?_
        refine .cons (fun E hA_ => by have g3 := hA_.get 3 (by decide); have g12 := hA_.get 12 (by decide); exact OpStep.yes (t := 12) rfl rfl (lt_ok rfl) (g12.trans rfl) (Step.fieldAddr (q := 0) (off := 1) (n := 1) (one := true) (t := 13) rfl rfl (by exact lt_ok rfl) (by kernel_rfl) (Nat.succ_ne_zero _) (show Env.ev E (.tmp 3) = _ from g3.trans rfl))) ?_
        refine .cons (fun E hA_ => by have g12 := hA_.get 12 (by decide); have g13 := hA_.get 13 (by decide); exact OpStep.yes (t := 12) rfl rfl (lt_ok rfl) (g12.trans rfl) (Step.load_box (c := .d (.int .i64 q.f1)) (t := 14) rfl rfl (by exact lt_ok rfl) (by kernel_rfl) (show Env.ev E (.tmp 13) = _ from g13.trans rfl) (by exact hA_.box rfl) rfl)) ?_
        refine .cons (fun E hA_ => by have g12 := hA_.get 12 (by decide); have g14 := hA_.get 14 (by decide); exact OpStep.yes (t := 12) rfl rfl (lt_ok rfl) (g12.trans rfl) (Step.to (E1 := E.set 15 (.one (.d (.bool (decide (0 ≤ q.f1 ∧ q.f1 ≤ 1152921504606846975)))))) (congrArg (fun b_ => E.set 15 (.one (.d (.bool b_)))) hb3) (Step.call (f := 94) (xs := [.tmp 14]) (ps := [(.one (.d (.int .i64 q.f1)))]) false (g := .func 94) (t := 15) rfl rfl (by exact lt_ok rfl) rfl (by kernel_rfl) (evs_cons (show Env.ev E (.tmp 14) = _ from g14.trans rfl) (rfl)) (.cons (.one (.d _)) .nil) (ok_spec_l01Num q.f1) (.inr rfl) (At.freshRows hA_ rfl) (by simp) rfl))) ?_
        refine .cons (fun E hA_ => by have g12 := hA_.get 12 (by decide); have g15 := hA_.get 15 (by decide); exact OpStep.plain rfl (Step.pick (b := true) (p := (.one (.d (.bool true)))) (t := 16) rfl rfl (by exact lt_ok rfl) (show Env.ev E (.tmp 12) = _ from g12.trans rfl) (show Env.ev E (.tmp 15) = _ from g15.trans rfl))) ?_
        refine .cons (fun E hA_ => by have g16 := hA_.get 16 (by decide); exact OpStep.plain rfl (Step.move (p := (.one (.d (.bool true)))) (t := 17) rfl rfl (by exact lt_ok rfl) (show Env.ev E (.tmp 16) = _ from g16.trans rfl))) ?_
        refine .cons (fun E hA_ => by have g3 := hA_.get 3 (by decide); have g17 := hA_.get 17 (by decide); exact OpStep.yes (t := 17) rfl rfl (lt_ok rfl) (g17.trans rfl) (Step.fieldAddr (q := 0) (off := 2) (n := 1) (one := true) (t := 18) rfl rfl (by exact lt_ok rfl) (by kernel_rfl) (Nat.succ_ne_zero _) (show Env.ev E (.tmp 3) = _ from g3.trans rfl))) ?_
        refine .cons (fun E hA_ => by have g17 := hA_.get 17 (by decide); have g18 := hA_.get 18 (by decide); exact OpStep.yes (t := 17) rfl rfl (lt_ok rfl) (g17.trans rfl) (Step.load_box (c := .d (.ints .u8 q.f2)) (t := 19) rfl rfl (by exact lt_ok rfl) (by kernel_rfl) (show Env.ev E (.tmp 18) = _ from g18.trans rfl) (by exact hA_.box rfl) rfl)) ?_
        refine .cons (fun E hA_ => by have g17 := hA_.get 17 (by decide); have g19 := hA_.get 19 (by decide); exact OpStep.yes (t := 17) rfl rfl (lt_ok rfl) (g17.trans rfl) (Step.to (E1 := E.set 20 (.one (.d (.bool (decide ((q.f2.length : Int) = 32)))))) (congrArg (fun b_ => E.set 20 (.one (.d (.bool b_)))) hb4) (Step.call (f := 65) (xs := [.tmp 19]) (ps := [(.one (.d (.ints .u8 q.f2)))]) false (g := .func 65) (t := 20) rfl rfl (by exact lt_ok rfl) rfl (by kernel_rfl) (evs_cons (show Env.ev E (.tmp 19) = _ from g19.trans rfl) (rfl)) (.cons (.one (.d _)) .nil) (ok_spec_l07Hash q.f2) (.inr rfl) (At.freshRows hA_ rfl) (by simp) rfl))) ?_
        refine .cons (fun E hA_ => by have g17 := hA_.get 17 (by decide); have g20 := hA_.get 20 (by decide); exact OpStep.plain rfl (Step.pick (b := true) (p := (.one (.d (.bool true)))) (t := 21) rfl rfl (by exact lt_ok rfl) (show Env.ev E (.tmp 17) = _ from g17.trans rfl) (show Env.ev E (.tmp 20) = _ from g20.trans rfl))) ?_
        refine .cons (fun E hA_ => by have g21 := hA_.get 21 (by decide); exact OpStep.plain rfl (Step.move (p := (.one (.d (.bool true)))) (t := 22) rfl rfl (by exact lt_ok rfl) (show Env.ev E (.tmp 21) = _ from g21.trans rfl))) ?_
        refine .cons (fun E hA_ => by have g3 := hA_.get 3 (by decide); have g22 := hA_.get 22 (by decide); exact OpStep.yes (t := 22) rfl rfl (lt_ok rfl) (g22.trans rfl) (Step.fieldAddr (q := 0) (off := 3) (n := 1) (one := true) (t := 23) rfl rfl (by exact lt_ok rfl) (by kernel_rfl) (Nat.succ_ne_zero _) (show Env.ev E (.tmp 3) = _ from g3.trans rfl))) ?_
        refine .cons (fun E hA_ => by have g22 := hA_.get 22 (by decide); have g23 := hA_.get 23 (by decide); exact OpStep.yes (t := 22) rfl rfl (lt_ok rfl) (g22.trans rfl) (Step.load_box (c := .d (.ints .u8 q.f3)) (t := 24) rfl rfl (by exact lt_ok rfl) (by kernel_rfl) (show Env.ev E (.tmp 23) = _ from g23.trans rfl) (by exact hA_.box rfl) rfl)) ?_
        refine .cons (fun E hA_ => by have g2 := hA_.get 2 (by decide); have g22 := hA_.get 22 (by decide); exact OpStep.yes (t := 22) rfl rfl (lt_ok rfl) (g22.trans rfl) (Step.fieldAddr (q := 0) (off := 0) (n := 1) (one := true) (t := 25) rfl rfl (by exact lt_ok rfl) (by kernel_rfl) (Nat.succ_ne_zero _) (show Env.ev E (.tmp 2) = _ from g2.trans rfl))) ?_
        refine .cons (fun E hA_ => by have g22 := hA_.get 22 (by decide); have g25 := hA_.get 25 (by decide); exact OpStep.yes (t := 22) rfl rfl (lt_ok rfl) (g22.trans rfl) (Step.load_box (c := .d (.int .i64 l.f0)) (t := 26) rfl rfl (by exact lt_ok rfl) (by kernel_rfl) (show Env.ev E (.tmp 25) = _ from g25.trans rfl) (by exact hA_.box rfl) rfl)) ?_
        refine .cons (fun E hA_ => by have g22 := hA_.get 22 (by decide); have g24 := hA_.get 24 (by decide); have g26 := hA_.get 26 (by decide); exact OpStep.yes (t := 22) rfl rfl (lt_ok rfl) (g22.trans rfl) (Step.to (E1 := E.set 27 (.one (.d (.bool (bitsOk q.f3 l.f0))))) (congrArg (fun b_ => E.set 27 (.one (.d (.bool b_)))) hb5) (Step.call (f := 112) (xs := [.tmp 24, .tmp 26]) (ps := [(.one (.d (.ints .u8 q.f3))), (.one (.d (.int .i64 l.f0)))]) false (g := .func 112) (t := 27) rfl rfl (by exact lt_ok rfl) rfl (by kernel_rfl) (evs_cons (show Env.ev E (.tmp 24) = _ from g24.trans rfl) (evs_cons (show Env.ev E (.tmp 26) = _ from g26.trans rfl) (rfl))) (.cons (.one (.d _)) (.cons (.one (.d _)) .nil)) (ok_spec_BitsOk q.f3 l.f0 (by assumption) (by first | omega | assumption | (simp only [List.length_append] at *; omega))) (.inr rfl) (At.freshRows hA_ rfl) (by simp) rfl))) ?_
        refine .cons (fun E hA_ => by have g22 := hA_.get 22 (by decide); have g27 := hA_.get 27 (by decide); exact OpStep.plain rfl (Step.pick (b := true) (p := (.one (.d (.bool true)))) (t := 28) rfl rfl (by exact lt_ok rfl) (show Env.ev E (.tmp 22) = _ from g22.trans rfl) (show Env.ev E (.tmp 27) = _ from g27.trans rfl))) ?_
        refine .cons (fun E hA_ => by have g28 := hA_.get 28 (by decide); exact OpStep.plain rfl (Step.move (p := (.one (.d (.bool true)))) (t := 29) rfl rfl (by exact lt_ok rfl) (show Env.ev E (.tmp 28) = _ from g28.trans rfl))) ?_
        refine .cons (fun E hA_ => by have g3 := hA_.get 3 (by decide); have g29 := hA_.get 29 (by decide); exact OpStep.yes (t := 29) rfl rfl (lt_ok rfl) (g29.trans rfl) (Step.fieldAddr (q := 0) (off := 4) (n := 1) (one := true) (t := 30) rfl rfl (by exact lt_ok rfl) (by kernel_rfl) (Nat.succ_ne_zero _) (show Env.ev E (.tmp 3) = _ from g3.trans rfl))) ?_
        refine .cons (fun E hA_ => by have g29 := hA_.get 29 (by decide); have g30 := hA_.get 30 (by decide); exact OpStep.yes (t := 29) rfl rfl (lt_ok rfl) (g29.trans rfl) (Step.load_box (c := .d (.bss q.f4)) (t := 31) rfl rfl (by exact lt_ok rfl) (by kernel_rfl) (show Env.ev E (.tmp 30) = _ from g30.trans rfl) (by exact hA_.box rfl) rfl)) ?_
        refine .cons (fun E hA_ => by have g29 := hA_.get 29 (by decide); have g31 := hA_.get 31 (by decide); exact OpStep.yes (t := 29) rfl rfl (lt_ok rfl) (g29.trans rfl) (Step.len (e := 22) (z := 1) (d := (.bss q.f4)) (t := 32) rfl rfl (by exact lt_ok rfl) (by kernel_rfl) (show Env.ev E (.tmp 31) = _ from g31.trans rfl) rfl)) ?_
        refine .cons (fun E hA_ => by have g3 := hA_.get 3 (by decide); have g29 := hA_.get 29 (by decide); exact OpStep.yes (t := 29) rfl rfl (lt_ok rfl) (g29.trans rfl) (Step.fieldAddr (q := 0) (off := 3) (n := 1) (one := true) (t := 33) rfl rfl (by exact lt_ok rfl) (by kernel_rfl) (Nat.succ_ne_zero _) (show Env.ev E (.tmp 3) = _ from g3.trans rfl))) ?_
        refine .cons (fun E hA_ => by have g29 := hA_.get 29 (by decide); have g33 := hA_.get 33 (by decide); exact OpStep.yes (t := 29) rfl rfl (lt_ok rfl) (g29.trans rfl) (Step.load_box (c := .d (.ints .u8 q.f3)) (t := 34) rfl rfl (by exact lt_ok rfl) (by kernel_rfl) (show Env.ev E (.tmp 33) = _ from g33.trans rfl) (by exact hA_.box rfl) rfl)) ?_
        refine .cons (fun E hA_ => by have g29 := hA_.get 29 (by decide); have g34 := hA_.get 34 (by decide); exact OpStep.yes (t := 29) rfl rfl (lt_ok rfl) (g29.trans rfl) (Step.call (f := 113) (xs := [.tmp 34]) (ps := [(.one (.d (.ints .u8 q.f3)))]) false (g := .func 113) (t := 35) rfl rfl (by exact lt_ok rfl) rfl (by kernel_rfl) (evs_cons (show Env.ev E (.tmp 34) = _ from g34.trans rfl) (rfl)) (.cons (.one (.d _)) .nil) (ok_spec_BitsCount q.f3 (by first | assumption | exact fun x hx => by cases hx) (by first | omega | assumption | (simp only [List.length_append] at *; omega) | (simp; done))) (.inr rfl) (At.freshRows hA_ rfl) (by simp) rfl)) ?_
        refine .cons (fun E hA_ => by have g29 := hA_.get 29 (by decide); have g32 := hA_.get 32 (by decide); have g35 := hA_.get 35 (by decide); exact OpStep.yes (t := 29) rfl rfl (lt_ok rfl) (g29.trans rfl) (Step.to (E1 := E.set 36 (.one (.d (.bool (decide ((q.f4.length : Int) = ((bitList q.f3).length : Int))))))) (congrArg (fun b_ => E.set 36 (.one (.d (.bool b_)))) hb7) (Step.bin (t := 36) rfl rfl (by exact lt_ok rfl) (show Env.ev E (.tmp 32) = _ from g32.trans rfl) (show Env.ev E (.tmp 35) = _ from g35.trans rfl) (Bin.eql (k := .i64) (a := (q.f4.length : Int)) (b := ((bitList q.f3).length : Int)))))) ?_
        refine .cons (fun E hA_ => by have g29 := hA_.get 29 (by decide); have g36 := hA_.get 36 (by decide); exact OpStep.plain rfl (Step.pick (b := true) (p := (.one (.d (.bool true)))) (t := 37) rfl rfl (by exact lt_ok rfl) (show Env.ev E (.tmp 29) = _ from g29.trans rfl) (show Env.ev E (.tmp 36) = _ from g36.trans rfl))) ?_
        refine .cons (fun E hA_ => by have g37 := hA_.get 37 (by decide); exact OpStep.plain rfl (Step.move (p := (.one (.d (.bool true)))) (t := 38) rfl rfl (by exact lt_ok rfl) (show Env.ev E (.tmp 37) = _ from g37.trans rfl))) ?_
        refine .cons (fun E hA_ => by have g3 := hA_.get 3 (by decide); have g38 := hA_.get 38 (by decide); exact OpStep.yes (t := 38) rfl rfl (lt_ok rfl) (g38.trans rfl) (Step.fieldAddr (q := 0) (off := 4) (n := 1) (one := true) (t := 39) rfl rfl (by exact lt_ok rfl) (by kernel_rfl) (Nat.succ_ne_zero _) (show Env.ev E (.tmp 3) = _ from g3.trans rfl))) ?_
        refine .cons (fun E hA_ => by have g38 := hA_.get 38 (by decide); have g39 := hA_.get 39 (by decide); exact OpStep.yes (t := 38) rfl rfl (lt_ok rfl) (g38.trans rfl) (Step.load_box (c := .d (.bss q.f4)) (t := 40) rfl rfl (by exact lt_ok rfl) (by kernel_rfl) (show Env.ev E (.tmp 39) = _ from g39.trans rfl) (by exact hA_.box rfl) rfl)) ?_
        refine .cons (fun E hA_ => by have g38 := hA_.get 38 (by decide); have g40 := hA_.get 40 (by decide); exact OpStep.yes (t := 38) rfl rfl (lt_ok rfl) (g38.trans rfl) (Step.call (f := 68) (xs := [.tmp 40]) (ps := [(.one (.d (.bss q.f4)))]) false (g := .func 68) (t := 41) rfl rfl (by exact lt_ok rfl) rfl (by kernel_rfl) (evs_cons (show Env.ev E (.tmp 40) = _ from g40.trans rfl) (rfl)) (.cons (.one (.d _)) .nil) (ok_spec_l08Hashes q.f4) (.inr rfl) (At.freshRows hA_ rfl) (by simp) rfl)) ?_
        refine .cons (fun E hA_ => by have g38 := hA_.get 38 (by decide); have g41 := hA_.get 41 (by decide); exact OpStep.plain rfl (Step.pick (b := true) (p := (.one (.d (.bool (hashes q.f4))))) (t := 42) rfl rfl (by exact lt_ok rfl) (show Env.ev E (.tmp 38) = _ from g38.trans rfl) (show Env.ev E (.tmp 41) = _ from g41.trans rfl))) ?_
        refine .cons (fun E hA_ => by have g42 := hA_.get 42 (by decide); exact OpStep.plain rfl (Step.assign (p := (.one (.d (.bool (hashes q.f4))))) (t := 4) rfl rfl (by exact lt_ok rfl) (show Env.ev E (.tmp 42) = _ from g42.trans rfl))) ?_
        exact .nil _ _
       refine TL.nil ?_
       refine T.ret ?_
       refine ⟨[(false, [.d (.bool (hashes q.f4))])], (.cons rfl .nil), rfl, [], (RetC.rd' ?_ .nil)⟩ <;> (first | rfl | (congr 1; symm; simp only [qcOk, hashes, List.all_cons, List.all_nil, *, Bool.and_true, Bool.true_and, Bool.and_false, Bool.false_and, decide_true, decide_false, and_true, true_and, and_self, and_false, false_and, Bool.and_self, not_true, not_false, Bool.not_true, Bool.not_false, ge_iff_le, gt_iff_lt, if_true, if_false, Bool.false_eq_true, ite_true, ite_false, reduceIte]; done) | (congr 1; symm; simp_all [qcOk, hashes, List.all_cons, List.all_nil]; done) | (congr 1; symm; simp_all [qcOk, hashes, List.all_cons, List.all_nil]; omega))
      ·
       have nn9 := bitList_len q.f3
       refine T.draw [⟨5, (.agg [.d (.int .i64 l.f0), .d (.int .i64 l.f1), .d (.int .i64 l.f2), .d (.int .i64 l.f3), .d (.int .i64 l.f4)]), []⟩, ⟨6, (.one (.d (.bool true))), []⟩, ⟨7, (.one (.d (.bool true))), []⟩, ⟨8, (.one (.ptr 3 0)), []⟩, ⟨9, (.one (.d (.int .i64 q.f0))), []⟩, ⟨10, (.one (.d (.bool true))), []⟩, ⟨11, (.one (.d (.bool true))), []⟩, ⟨12, (.one (.d (.bool true))), []⟩, ⟨13, (.one (.ptr 3 1)), []⟩, ⟨14, (.one (.d (.int .i64 q.f1))), []⟩, ⟨15, (.one (.d (.bool true))), []⟩, ⟨16, (.one (.d (.bool true))), []⟩, ⟨17, (.one (.d (.bool true))), []⟩, ⟨18, (.one (.ptr 3 2)), []⟩, ⟨19, (.one (.d (.ints .u8 q.f2))), []⟩, ⟨20, (.one (.d (.bool true))), []⟩, ⟨21, (.one (.d (.bool true))), []⟩, ⟨22, (.one (.d (.bool true))), []⟩, ⟨23, (.one (.ptr 3 3)), []⟩, ⟨24, (.one (.d (.ints .u8 q.f3))), []⟩, ⟨25, (.one (.ptr 2 0)), []⟩, ⟨26, (.one (.d (.int .i64 l.f0))), []⟩, ⟨27, (.one (.d (.bool true))), []⟩, ⟨28, (.one (.d (.bool true))), []⟩, ⟨29, (.one (.d (.bool true))), []⟩, ⟨30, (.one (.ptr 3 4)), []⟩, ⟨31, (.one (.d (.bss q.f4))), []⟩, ⟨32, (.one (.d (.int .i64 (q.f4.length : Int)))), []⟩, ⟨33, (.one (.ptr 3 3)), []⟩, ⟨34, (.one (.d (.ints .u8 q.f3))), []⟩, ⟨35, (.one (.d (.int .i64 ((bitList q.f3).length : Int)))), []⟩, ⟨36, (.one (.d (.bool false))), []⟩, ⟨37, (.one (.d (.bool false))), []⟩, ⟨38, (.one (.d (.bool false))), []⟩, ⟨39, (.tup []), []⟩, ⟨40, (.tup []), []⟩, ⟨41, (.tup []), []⟩, ⟨42, (.one (.d (.bool false))), []⟩, ⟨4, (.one (.d (.bool false))), []⟩] (by kernel_rfl) (by kernel_rfl) ?_ ?_
       ·
        refine .cons (fun E hA_ => by have g2 := hA_.get 2 (by decide); exact OpStep.plain rfl (Step.load_box_agg (n := 5) (qs := [.d (.int .i64 l.f0), .d (.int .i64 l.f1), .d (.int .i64 l.f2), .d (.int .i64 l.f3), .d (.int .i64 l.f4)]) (t := 5) rfl rfl (by exact lt_ok rfl) (by kernel_rfl) (show Env.ev E (.tmp 2) = _ from g2.trans rfl) (by exact hA_.box rfl) rfl rfl)) ?_
        refine .cons (fun E hA_ => by have g5 := hA_.get 5 (by decide); exact OpStep.plain rfl (Step.to (E1 := E.set 6 (.one (.d (.bool (limOk l))))) (congrArg (fun b_ => E.set 6 (.one (.d (.bool b_)))) hb1) (Step.call (f := 93) (xs := [.tmp 5]) (ps := [(.agg [.d (.int .i64 l.f0), .d (.int .i64 l.f1), .d (.int .i64 l.f2), .d (.int .i64 l.f3), .d (.int .i64 l.f4)])]) false (g := .func 93) (t := 6) rfl rfl (by exact lt_ok rfl) rfl (by kernel_rfl) (evs_cons (show Env.ev E (.tmp 5) = _ from g5.trans rfl) (rfl)) (.cons (.agg (.cons (.d _) (.cons (.d _) (.cons (.d _) (.cons (.d _) (.cons (.d _) .nil)))))) .nil) (ok_spec_LimitsOk l) (.inr rfl) (At.freshRows hA_ rfl) (by simp) rfl))) ?_
        refine .cons (fun E hA_ => by have g6 := hA_.get 6 (by decide); exact OpStep.plain rfl (Step.move (p := (.one (.d (.bool true)))) (t := 7) rfl rfl (by exact lt_ok rfl) (show Env.ev E (.tmp 6) = _ from g6.trans rfl))) ?_
        refine .cons (fun E hA_ => by have g3 := hA_.get 3 (by decide); have g7 := hA_.get 7 (by decide); exact OpStep.yes (t := 7) rfl rfl (lt_ok rfl) (g7.trans rfl) (Step.fieldAddr (q := 0) (off := 0) (n := 1) (one := true) (t := 8) rfl rfl (by exact lt_ok rfl) (by kernel_rfl) (Nat.succ_ne_zero _) (show Env.ev E (.tmp 3) = _ from g3.trans rfl))) ?_
        refine .cons (fun E hA_ => by have g7 := hA_.get 7 (by decide); have g8 := hA_.get 8 (by decide); exact OpStep.yes (t := 7) rfl rfl (lt_ok rfl) (g7.trans rfl) (Step.load_box (c := .d (.int .i64 q.f0)) (t := 9) rfl rfl (by exact lt_ok rfl) (by kernel_rfl) (show Env.ev E (.tmp 8) = _ from g8.trans rfl) (by exact hA_.box rfl) rfl)) ?_
        refine .cons (fun E hA_ => by have g7 := hA_.get 7 (by decide); have g9 := hA_.get 9 (by decide); exact OpStep.yes (t := 7) rfl rfl (lt_ok rfl) (g7.trans rfl) (Step.to (E1 := E.set 10 (.one (.d (.bool (decide (0 ≤ q.f0 ∧ q.f0 ≤ 1152921504606846975)))))) (congrArg (fun b_ => E.set 10 (.one (.d (.bool b_)))) hb2) (Step.call (f := 94) (xs := [.tmp 9]) (ps := [(.one (.d (.int .i64 q.f0)))]) false (g := .func 94) (t := 10) rfl rfl (by exact lt_ok rfl) rfl (by kernel_rfl) (evs_cons (show Env.ev E (.tmp 9) = _ from g9.trans rfl) (rfl)) (.cons (.one (.d _)) .nil) (ok_spec_l01Num q.f0) (.inr rfl) (At.freshRows hA_ rfl) (by simp) rfl))) ?_
        refine .cons (fun E hA_ => by have g7 := hA_.get 7 (by decide); have g10 := hA_.get 10 (by decide); exact OpStep.plain rfl (Step.pick (b := true) (p := (.one (.d (.bool true)))) (t := 11) rfl rfl (by exact lt_ok rfl) (show Env.ev E (.tmp 7) = _ from g7.trans rfl) (show Env.ev E (.tmp 10) = _ from g10.trans rfl))) ?_
        refine .cons (fun E hA_ => by have g11 := hA_.get 11 (by decide); exact OpStep.plain rfl (Step.move (p := (.one (.d (.bool true)))) (t := 12) rfl rfl (by exact lt_ok rfl) (show Env.ev E (.tmp 11) = _ from g11.trans rfl))) ?_
        refine .cons (fun E hA_ => by have g3 := hA_.get 3 (by decide); have g12 := hA_.get 12 (by decide); exact OpStep.yes (t := 12) rfl rfl (lt_ok rfl) (g12.trans rfl) (Step.fieldAddr (q := 0) (off := 1) (n := 1) (one := true) (t := 13) rfl rfl (by exact lt_ok rfl) (by kernel_rfl) (Nat.succ_ne_zero _) (show Env.ev E (.tmp 3) = _ from g3.trans rfl))) ?_
        refine .cons (fun E hA_ => by have g12 := hA_.get 12 (by decide); have g13 := hA_.get 13 (by decide); exact OpStep.yes (t := 12) rfl rfl (lt_ok rfl) (g12.trans rfl) (Step.load_box (c := .d (.int .i64 q.f1)) (t := 14) rfl rfl (by exact lt_ok rfl) (by kernel_rfl) (show Env.ev E (.tmp 13) = _ from g13.trans rfl) (by exact hA_.box rfl) rfl)) ?_
        refine .cons (fun E hA_ => by have g12 := hA_.get 12 (by decide); have g14 := hA_.get 14 (by decide); exact OpStep.yes (t := 12) rfl rfl (lt_ok rfl) (g12.trans rfl) (Step.to (E1 := E.set 15 (.one (.d (.bool (decide (0 ≤ q.f1 ∧ q.f1 ≤ 1152921504606846975)))))) (congrArg (fun b_ => E.set 15 (.one (.d (.bool b_)))) hb3) (Step.call (f := 94) (xs := [.tmp 14]) (ps := [(.one (.d (.int .i64 q.f1)))]) false (g := .func 94) (t := 15) rfl rfl (by exact lt_ok rfl) rfl (by kernel_rfl) (evs_cons (show Env.ev E (.tmp 14) = _ from g14.trans rfl) (rfl)) (.cons (.one (.d _)) .nil) (ok_spec_l01Num q.f1) (.inr rfl) (At.freshRows hA_ rfl) (by simp) rfl))) ?_
        refine .cons (fun E hA_ => by have g12 := hA_.get 12 (by decide); have g15 := hA_.get 15 (by decide); exact OpStep.plain rfl (Step.pick (b := true) (p := (.one (.d (.bool true)))) (t := 16) rfl rfl (by exact lt_ok rfl) (show Env.ev E (.tmp 12) = _ from g12.trans rfl) (show Env.ev E (.tmp 15) = _ from g15.trans rfl))) ?_
        refine .cons (fun E hA_ => by have g16 := hA_.get 16 (by decide); exact OpStep.plain rfl (Step.move (p := (.one (.d (.bool true)))) (t := 17) rfl rfl (by exact lt_ok rfl) (show Env.ev E (.tmp 16) = _ from g16.trans rfl))) ?_
        refine .cons (fun E hA_ => by have g3 := hA_.get 3 (by decide); have g17 := hA_.get 17 (by decide); exact OpStep.yes (t := 17) rfl rfl (lt_ok rfl) (g17.trans rfl) (Step.fieldAddr (q := 0) (off := 2) (n := 1) (one := true) (t := 18) rfl rfl (by exact lt_ok rfl) (by kernel_rfl) (Nat.succ_ne_zero _) (show Env.ev E (.tmp 3) = _ from g3.trans rfl))) ?_
        refine .cons (fun E hA_ => by have g17 := hA_.get 17 (by decide); have g18 := hA_.get 18 (by decide); exact OpStep.yes (t := 17) rfl rfl (lt_ok rfl) (g17.trans rfl) (Step.load_box (c := .d (.ints .u8 q.f2)) (t := 19) rfl rfl (by exact lt_ok rfl) (by kernel_rfl) (show Env.ev E (.tmp 18) = _ from g18.trans rfl) (by exact hA_.box rfl) rfl)) ?_
        refine .cons (fun E hA_ => by have g17 := hA_.get 17 (by decide); have g19 := hA_.get 19 (by decide); exact OpStep.yes (t := 17) rfl rfl (lt_ok rfl) (g17.trans rfl) (Step.to (E1 := E.set 20 (.one (.d (.bool (decide ((q.f2.length : Int) = 32)))))) (congrArg (fun b_ => E.set 20 (.one (.d (.bool b_)))) hb4) (Step.call (f := 65) (xs := [.tmp 19]) (ps := [(.one (.d (.ints .u8 q.f2)))]) false (g := .func 65) (t := 20) rfl rfl (by exact lt_ok rfl) rfl (by kernel_rfl) (evs_cons (show Env.ev E (.tmp 19) = _ from g19.trans rfl) (rfl)) (.cons (.one (.d _)) .nil) (ok_spec_l07Hash q.f2) (.inr rfl) (At.freshRows hA_ rfl) (by simp) rfl))) ?_
        refine .cons (fun E hA_ => by have g17 := hA_.get 17 (by decide); have g20 := hA_.get 20 (by decide); exact OpStep.plain rfl (Step.pick (b := true) (p := (.one (.d (.bool true)))) (t := 21) rfl rfl (by exact lt_ok rfl) (show Env.ev E (.tmp 17) = _ from g17.trans rfl) (show Env.ev E (.tmp 20) = _ from g20.trans rfl))) ?_
        refine .cons (fun E hA_ => by have g21 := hA_.get 21 (by decide); exact OpStep.plain rfl (Step.move (p := (.one (.d (.bool true)))) (t := 22) rfl rfl (by exact lt_ok rfl) (show Env.ev E (.tmp 21) = _ from g21.trans rfl))) ?_
        refine .cons (fun E hA_ => by have g3 := hA_.get 3 (by decide); have g22 := hA_.get 22 (by decide); exact OpStep.yes (t := 22) rfl rfl (lt_ok rfl) (g22.trans rfl) (Step.fieldAddr (q := 0) (off := 3) (n := 1) (one := true) (t := 23) rfl rfl (by exact lt_ok rfl) (by kernel_rfl) (Nat.succ_ne_zero _) (show Env.ev E (.tmp 3) = _ from g3.trans rfl))) ?_
        refine .cons (fun E hA_ => by have g22 := hA_.get 22 (by decide); have g23 := hA_.get 23 (by decide); exact OpStep.yes (t := 22) rfl rfl (lt_ok rfl) (g22.trans rfl) (Step.load_box (c := .d (.ints .u8 q.f3)) (t := 24) rfl rfl (by exact lt_ok rfl) (by kernel_rfl) (show Env.ev E (.tmp 23) = _ from g23.trans rfl) (by exact hA_.box rfl) rfl)) ?_
        refine .cons (fun E hA_ => by have g2 := hA_.get 2 (by decide); have g22 := hA_.get 22 (by decide); exact OpStep.yes (t := 22) rfl rfl (lt_ok rfl) (g22.trans rfl) (Step.fieldAddr (q := 0) (off := 0) (n := 1) (one := true) (t := 25) rfl rfl (by exact lt_ok rfl) (by kernel_rfl) (Nat.succ_ne_zero _) (show Env.ev E (.tmp 2) = _ from g2.trans rfl))) ?_
        refine .cons (fun E hA_ => by have g22 := hA_.get 22 (by decide); have g25 := hA_.get 25 (by decide); exact OpStep.yes (t := 22) rfl rfl (lt_ok rfl) (g22.trans rfl) (Step.load_box (c := .d (.int .i64 l.f0)) (t := 26) rfl rfl (by exact lt_ok rfl) (by kernel_rfl) (show Env.ev E (.tmp 25) = _ from g25.trans rfl) (by exact hA_.box rfl) rfl)) ?_
        refine .cons (fun E hA_ => by have g22 := hA_.get 22 (by decide); have g24 := hA_.get 24 (by decide); have g26 := hA_.get 26 (by decide); exact OpStep.yes (t := 22) rfl rfl (lt_ok rfl) (g22.trans rfl) (Step.to (E1 := E.set 27 (.one (.d (.bool (bitsOk q.f3 l.f0))))) (congrArg (fun b_ => E.set 27 (.one (.d (.bool b_)))) hb5) (Step.call (f := 112) (xs := [.tmp 24, .tmp 26]) (ps := [(.one (.d (.ints .u8 q.f3))), (.one (.d (.int .i64 l.f0)))]) false (g := .func 112) (t := 27) rfl rfl (by exact lt_ok rfl) rfl (by kernel_rfl) (evs_cons (show Env.ev E (.tmp 24) = _ from g24.trans rfl) (evs_cons (show Env.ev E (.tmp 26) = _ from g26.trans rfl) (rfl))) (.cons (.one (.d _)) (.cons (.one (.d _)) .nil)) (ok_spec_BitsOk q.f3 l.f0 (by assumption) (by first | omega | assumption | (simp only [List.length_append] at *; omega))) (.inr rfl) (At.freshRows hA_ rfl) (by simp) rfl))) ?_
        refine .cons (fun E hA_ => by have g22 := hA_.get 22 (by decide); have g27 := hA_.get 27 (by decide); exact OpStep.plain rfl (Step.pick (b := true) (p := (.one (.d (.bool true)))) (t := 28) rfl rfl (by exact lt_ok rfl) (show Env.ev E (.tmp 22) = _ from g22.trans rfl) (show Env.ev E (.tmp 27) = _ from g27.trans rfl))) ?_
        refine .cons (fun E hA_ => by have g28 := hA_.get 28 (by decide); exact OpStep.plain rfl (Step.move (p := (.one (.d (.bool true)))) (t := 29) rfl rfl (by exact lt_ok rfl) (show Env.ev E (.tmp 28) = _ from g28.trans rfl))) ?_
        refine .cons (fun E hA_ => by have g3 := hA_.get 3 (by decide); have g29 := hA_.get 29 (by decide); exact OpStep.yes (t := 29) rfl rfl (lt_ok rfl) (g29.trans rfl) (Step.fieldAddr (q := 0) (off := 4) (n := 1) (one := true) (t := 30) rfl rfl (by exact lt_ok rfl) (by kernel_rfl) (Nat.succ_ne_zero _) (show Env.ev E (.tmp 3) = _ from g3.trans rfl))) ?_
        refine .cons (fun E hA_ => by have g29 := hA_.get 29 (by decide); have g30 := hA_.get 30 (by decide); exact OpStep.yes (t := 29) rfl rfl (lt_ok rfl) (g29.trans rfl) (Step.load_box (c := .d (.bss q.f4)) (t := 31) rfl rfl (by exact lt_ok rfl) (by kernel_rfl) (show Env.ev E (.tmp 30) = _ from g30.trans rfl) (by exact hA_.box rfl) rfl)) ?_
        refine .cons (fun E hA_ => by have g29 := hA_.get 29 (by decide); have g31 := hA_.get 31 (by decide); exact OpStep.yes (t := 29) rfl rfl (lt_ok rfl) (g29.trans rfl) (Step.len (e := 22) (z := 1) (d := (.bss q.f4)) (t := 32) rfl rfl (by exact lt_ok rfl) (by kernel_rfl) (show Env.ev E (.tmp 31) = _ from g31.trans rfl) rfl)) ?_
        refine .cons (fun E hA_ => by have g3 := hA_.get 3 (by decide); have g29 := hA_.get 29 (by decide); exact OpStep.yes (t := 29) rfl rfl (lt_ok rfl) (g29.trans rfl) (Step.fieldAddr (q := 0) (off := 3) (n := 1) (one := true) (t := 33) rfl rfl (by exact lt_ok rfl) (by kernel_rfl) (Nat.succ_ne_zero _) (show Env.ev E (.tmp 3) = _ from g3.trans rfl))) ?_
        refine .cons (fun E hA_ => by have g29 := hA_.get 29 (by decide); have g33 := hA_.get 33 (by decide); exact OpStep.yes (t := 29) rfl rfl (lt_ok rfl) (g29.trans rfl) (Step.load_box (c := .d (.ints .u8 q.f3)) (t := 34) rfl rfl (by exact lt_ok rfl) (by kernel_rfl) (show Env.ev E (.tmp 33) = _ from g33.trans rfl) (by exact hA_.box rfl) rfl)) ?_
        refine .cons (fun E hA_ => by have g29 := hA_.get 29 (by decide); have g34 := hA_.get 34 (by decide); exact OpStep.yes (t := 29) rfl rfl (lt_ok rfl) (g29.trans rfl) (Step.call (f := 113) (xs := [.tmp 34]) (ps := [(.one (.d (.ints .u8 q.f3)))]) false (g := .func 113) (t := 35) rfl rfl (by exact lt_ok rfl) rfl (by kernel_rfl) (evs_cons (show Env.ev E (.tmp 34) = _ from g34.trans rfl) (rfl)) (.cons (.one (.d _)) .nil) (ok_spec_BitsCount q.f3 (by first | assumption | exact fun x hx => by cases hx) (by first | omega | assumption | (simp only [List.length_append] at *; omega) | (simp; done))) (.inr rfl) (At.freshRows hA_ rfl) (by simp) rfl)) ?_
        refine .cons (fun E hA_ => by have g29 := hA_.get 29 (by decide); have g32 := hA_.get 32 (by decide); have g35 := hA_.get 35 (by decide); exact OpStep.yes (t := 29) rfl rfl (lt_ok rfl) (g29.trans rfl) (Step.to (E1 := E.set 36 (.one (.d (.bool (decide ((q.f4.length : Int) = ((bitList q.f3).length : Int))))))) (congrArg (fun b_ => E.set 36 (.one (.d (.bool b_)))) hb7) (Step.bin (t := 36) rfl rfl (by exact lt_ok rfl) (show Env.ev E (.tmp 32) = _ from g32.trans rfl) (show Env.ev E (.tmp 35) = _ from g35.trans rfl) (Bin.eql (k := .i64) (a := (q.f4.length : Int)) (b := ((bitList q.f3).length : Int)))))) ?_
        refine .cons (fun E hA_ => by have g29 := hA_.get 29 (by decide); have g36 := hA_.get 36 (by decide); exact OpStep.plain rfl (Step.pick (b := true) (p := (.one (.d (.bool false)))) (t := 37) rfl rfl (by exact lt_ok rfl) (show Env.ev E (.tmp 29) = _ from g29.trans rfl) (show Env.ev E (.tmp 36) = _ from g36.trans rfl))) ?_
        refine .cons (fun E hA_ => by have g37 := hA_.get 37 (by decide); exact OpStep.plain rfl (Step.move (p := (.one (.d (.bool false)))) (t := 38) rfl rfl (by exact lt_ok rfl) (show Env.ev E (.tmp 37) = _ from g37.trans rfl))) ?_
        refine .cons (fun E hA_ => OpStep.off (t := 38) rfl rfl (lt_ok rfl) ((hA_.get 38 (by decide)).trans rfl) (by decide) rfl (lt_ok rfl)) ?_
        refine .cons (fun E hA_ => OpStep.off (t := 38) rfl rfl (lt_ok rfl) ((hA_.get 38 (by decide)).trans rfl) (by decide) rfl (lt_ok rfl)) ?_
        refine .cons (fun E hA_ => OpStep.off (t := 38) rfl rfl (lt_ok rfl) ((hA_.get 38 (by decide)).trans rfl) (by decide) rfl (lt_ok rfl)) ?_
        refine .cons (fun E hA_ => by have g38 := hA_.get 38 (by decide); have g41 := hA_.get 41 (by decide); exact OpStep.plain rfl (Step.pick (b := false) (p := (.one (.d (.bool false)))) (t := 42) rfl rfl (by exact lt_ok rfl) (show Env.ev E (.tmp 38) = _ from g38.trans rfl) rfl)) ?_
        refine .cons (fun E hA_ => by have g42 := hA_.get 42 (by decide); exact OpStep.plain rfl (Step.assign (p := (.one (.d (.bool false)))) (t := 4) rfl rfl (by exact lt_ok rfl) (show Env.ev E (.tmp 42) = _ from g42.trans rfl))) ?_
        exact .nil _ _
       refine TL.nil ?_
       refine T.ret ?_
       refine ⟨[(false, [.d (.bool false)])], (.cons rfl .nil), rfl, [], (RetC.rd' ?_ .nil)⟩ <;> (first | rfl | (congr 1; symm; simp only [qcOk, hashes, List.all_cons, List.all_nil, *, Bool.and_true, Bool.true_and, Bool.and_false, Bool.false_and, decide_true, decide_false, and_true, true_and, and_self, and_false, false_and, Bool.and_self, not_true, not_false, Bool.not_true, Bool.not_false, ge_iff_le, gt_iff_lt, if_true, if_false, Bool.false_eq_true, ite_true, ite_false, reduceIte]; done) | (congr 1; symm; simp_all [qcOk, hashes, List.all_cons, List.all_nil]; done) | (congr 1; symm; simp_all [qcOk, hashes, List.all_cons, List.all_nil]; omega))
     ·
      refine T.draw [⟨5, (.agg [.d (.int .i64 l.f0), .d (.int .i64 l.f1), .d (.int .i64 l.f2), .d (.int .i64 l.f3), .d (.int .i64 l.f4)]), []⟩, ⟨6, (.one (.d (.bool true))), []⟩, ⟨7, (.one (.d (.bool true))), []⟩, ⟨8, (.one (.ptr 3 0)), []⟩, ⟨9, (.one (.d (.int .i64 q.f0))), []⟩, ⟨10, (.one (.d (.bool true))), []⟩, ⟨11, (.one (.d (.bool true))), []⟩, ⟨12, (.one (.d (.bool true))), []⟩, ⟨13, (.one (.ptr 3 1)), []⟩, ⟨14, (.one (.d (.int .i64 q.f1))), []⟩, ⟨15, (.one (.d (.bool true))), []⟩, ⟨16, (.one (.d (.bool true))), []⟩, ⟨17, (.one (.d (.bool true))), []⟩, ⟨18, (.one (.ptr 3 2)), []⟩, ⟨19, (.one (.d (.ints .u8 q.f2))), []⟩, ⟨20, (.one (.d (.bool true))), []⟩, ⟨21, (.one (.d (.bool true))), []⟩, ⟨22, (.one (.d (.bool true))), []⟩, ⟨23, (.one (.ptr 3 3)), []⟩, ⟨24, (.one (.d (.ints .u8 q.f3))), []⟩, ⟨25, (.one (.ptr 2 0)), []⟩, ⟨26, (.one (.d (.int .i64 l.f0))), []⟩, ⟨27, (.one (.d (.bool false))), []⟩, ⟨28, (.one (.d (.bool false))), []⟩, ⟨29, (.one (.d (.bool false))), []⟩, ⟨30, (.tup []), []⟩, ⟨31, (.tup []), []⟩, ⟨32, (.tup []), []⟩, ⟨33, (.tup []), []⟩, ⟨34, (.tup []), []⟩, ⟨35, (.tup []), []⟩, ⟨36, (.tup []), []⟩, ⟨37, (.one (.d (.bool false))), []⟩, ⟨38, (.one (.d (.bool false))), []⟩, ⟨39, (.tup []), []⟩, ⟨40, (.tup []), []⟩, ⟨41, (.tup []), []⟩, ⟨42, (.one (.d (.bool false))), []⟩, ⟨4, (.one (.d (.bool false))), []⟩] (by kernel_rfl) (by kernel_rfl) ?_ ?_
      ·
       refine .cons (fun E hA_ => by have g2 := hA_.get 2 (by decide); exact OpStep.plain rfl (Step.load_box_agg (n := 5) (qs := [.d (.int .i64 l.f0), .d (.int .i64 l.f1), .d (.int .i64 l.f2), .d (.int .i64 l.f3), .d (.int .i64 l.f4)]) (t := 5) rfl rfl (by exact lt_ok rfl) (by kernel_rfl) (show Env.ev E (.tmp 2) = _ from g2.trans rfl) (by exact hA_.box rfl) rfl rfl)) ?_
       refine .cons (fun E hA_ => by have g5 := hA_.get 5 (by decide); exact OpStep.plain rfl (Step.to (E1 := E.set 6 (.one (.d (.bool (limOk l))))) (congrArg (fun b_ => E.set 6 (.one (.d (.bool b_)))) hb1) (Step.call (f := 93) (xs := [.tmp 5]) (ps := [(.agg [.d (.int .i64 l.f0), .d (.int .i64 l.f1), .d (.int .i64 l.f2), .d (.int .i64 l.f3), .d (.int .i64 l.f4)])]) false (g := .func 93) (t := 6) rfl rfl (by exact lt_ok rfl) rfl (by kernel_rfl) (evs_cons (show Env.ev E (.tmp 5) = _ from g5.trans rfl) (rfl)) (.cons (.agg (.cons (.d _) (.cons (.d _) (.cons (.d _) (.cons (.d _) (.cons (.d _) .nil)))))) .nil) (ok_spec_LimitsOk l) (.inr rfl) (At.freshRows hA_ rfl) (by simp) rfl))) ?_
       refine .cons (fun E hA_ => by have g6 := hA_.get 6 (by decide); exact OpStep.plain rfl (Step.move (p := (.one (.d (.bool true)))) (t := 7) rfl rfl (by exact lt_ok rfl) (show Env.ev E (.tmp 6) = _ from g6.trans rfl))) ?_
       refine .cons (fun E hA_ => by have g3 := hA_.get 3 (by decide); have g7 := hA_.get 7 (by decide); exact OpStep.yes (t := 7) rfl rfl (lt_ok rfl) (g7.trans rfl) (Step.fieldAddr (q := 0) (off := 0) (n := 1) (one := true) (t := 8) rfl rfl (by exact lt_ok rfl) (by kernel_rfl) (Nat.succ_ne_zero _) (show Env.ev E (.tmp 3) = _ from g3.trans rfl))) ?_
       refine .cons (fun E hA_ => by have g7 := hA_.get 7 (by decide); have g8 := hA_.get 8 (by decide); exact OpStep.yes (t := 7) rfl rfl (lt_ok rfl) (g7.trans rfl) (Step.load_box (c := .d (.int .i64 q.f0)) (t := 9) rfl rfl (by exact lt_ok rfl) (by kernel_rfl) (show Env.ev E (.tmp 8) = _ from g8.trans rfl) (by exact hA_.box rfl) rfl)) ?_
       refine .cons (fun E hA_ => by have g7 := hA_.get 7 (by decide); have g9 := hA_.get 9 (by decide); exact OpStep.yes (t := 7) rfl rfl (lt_ok rfl) (g7.trans rfl) (Step.to (E1 := E.set 10 (.one (.d (.bool (decide (0 ≤ q.f0 ∧ q.f0 ≤ 1152921504606846975)))))) (congrArg (fun b_ => E.set 10 (.one (.d (.bool b_)))) hb2) (Step.call (f := 94) (xs := [.tmp 9]) (ps := [(.one (.d (.int .i64 q.f0)))]) false (g := .func 94) (t := 10) rfl rfl (by exact lt_ok rfl) rfl (by kernel_rfl) (evs_cons (show Env.ev E (.tmp 9) = _ from g9.trans rfl) (rfl)) (.cons (.one (.d _)) .nil) (ok_spec_l01Num q.f0) (.inr rfl) (At.freshRows hA_ rfl) (by simp) rfl))) ?_
       refine .cons (fun E hA_ => by have g7 := hA_.get 7 (by decide); have g10 := hA_.get 10 (by decide); exact OpStep.plain rfl (Step.pick (b := true) (p := (.one (.d (.bool true)))) (t := 11) rfl rfl (by exact lt_ok rfl) (show Env.ev E (.tmp 7) = _ from g7.trans rfl) (show Env.ev E (.tmp 10) = _ from g10.trans rfl))) ?_
       refine .cons (fun E hA_ => by have g11 := hA_.get 11 (by decide); exact OpStep.plain rfl (Step.move (p := (.one (.d (.bool true)))) (t := 12) rfl rfl (by exact lt_ok rfl) (show Env.ev E (.tmp 11) = _ from g11.trans rfl))) ?_
       refine .cons (fun E hA_ => by have g3 := hA_.get 3 (by decide); have g12 := hA_.get 12 (by decide); exact OpStep.yes (t := 12) rfl rfl (lt_ok rfl) (g12.trans rfl) (Step.fieldAddr (q := 0) (off := 1) (n := 1) (one := true) (t := 13) rfl rfl (by exact lt_ok rfl) (by kernel_rfl) (Nat.succ_ne_zero _) (show Env.ev E (.tmp 3) = _ from g3.trans rfl))) ?_
       refine .cons (fun E hA_ => by have g12 := hA_.get 12 (by decide); have g13 := hA_.get 13 (by decide); exact OpStep.yes (t := 12) rfl rfl (lt_ok rfl) (g12.trans rfl) (Step.load_box (c := .d (.int .i64 q.f1)) (t := 14) rfl rfl (by exact lt_ok rfl) (by kernel_rfl) (show Env.ev E (.tmp 13) = _ from g13.trans rfl) (by exact hA_.box rfl) rfl)) ?_
       refine .cons (fun E hA_ => by have g12 := hA_.get 12 (by decide); have g14 := hA_.get 14 (by decide); exact OpStep.yes (t := 12) rfl rfl (lt_ok rfl) (g12.trans rfl) (Step.to (E1 := E.set 15 (.one (.d (.bool (decide (0 ≤ q.f1 ∧ q.f1 ≤ 1152921504606846975)))))) (congrArg (fun b_ => E.set 15 (.one (.d (.bool b_)))) hb3) (Step.call (f := 94) (xs := [.tmp 14]) (ps := [(.one (.d (.int .i64 q.f1)))]) false (g := .func 94) (t := 15) rfl rfl (by exact lt_ok rfl) rfl (by kernel_rfl) (evs_cons (show Env.ev E (.tmp 14) = _ from g14.trans rfl) (rfl)) (.cons (.one (.d _)) .nil) (ok_spec_l01Num q.f1) (.inr rfl) (At.freshRows hA_ rfl) (by simp) rfl))) ?_
       refine .cons (fun E hA_ => by have g12 := hA_.get 12 (by decide); have g15 := hA_.get 15 (by decide); exact OpStep.plain rfl (Step.pick (b := true) (p := (.one (.d (.bool true)))) (t := 16) rfl rfl (by exact lt_ok rfl) (show Env.ev E (.tmp 12) = _ from g12.trans rfl) (show Env.ev E (.tmp 15) = _ from g15.trans rfl))) ?_
       refine .cons (fun E hA_ => by have g16 := hA_.get 16 (by decide); exact OpStep.plain rfl (Step.move (p := (.one (.d (.bool true)))) (t := 17) rfl rfl (by exact lt_ok rfl) (show Env.ev E (.tmp 16) = _ from g16.trans rfl))) ?_
       refine .cons (fun E hA_ => by have g3 := hA_.get 3 (by decide); have g17 := hA_.get 17 (by decide); exact OpStep.yes (t := 17) rfl rfl (lt_ok rfl) (g17.trans rfl) (Step.fieldAddr (q := 0) (off := 2) (n := 1) (one := true) (t := 18) rfl rfl (by exact lt_ok rfl) (by kernel_rfl) (Nat.succ_ne_zero _) (show Env.ev E (.tmp 3) = _ from g3.trans rfl))) ?_
       refine .cons (fun E hA_ => by have g17 := hA_.get 17 (by decide); have g18 := hA_.get 18 (by decide); exact OpStep.yes (t := 17) rfl rfl (lt_ok rfl) (g17.trans rfl) (Step.load_box (c := .d (.ints .u8 q.f2)) (t := 19) rfl rfl (by exact lt_ok rfl) (by kernel_rfl) (show Env.ev E (.tmp 18) = _ from g18.trans rfl) (by exact hA_.box rfl) rfl)) ?_
       refine .cons (fun E hA_ => by have g17 := hA_.get 17 (by decide); have g19 := hA_.get 19 (by decide); exact OpStep.yes (t := 17) rfl rfl (lt_ok rfl) (g17.trans rfl) (Step.to (E1 := E.set 20 (.one (.d (.bool (decide ((q.f2.length : Int) = 32)))))) (congrArg (fun b_ => E.set 20 (.one (.d (.bool b_)))) hb4) (Step.call (f := 65) (xs := [.tmp 19]) (ps := [(.one (.d (.ints .u8 q.f2)))]) false (g := .func 65) (t := 20) rfl rfl (by exact lt_ok rfl) rfl (by kernel_rfl) (evs_cons (show Env.ev E (.tmp 19) = _ from g19.trans rfl) (rfl)) (.cons (.one (.d _)) .nil) (ok_spec_l07Hash q.f2) (.inr rfl) (At.freshRows hA_ rfl) (by simp) rfl))) ?_
       refine .cons (fun E hA_ => by have g17 := hA_.get 17 (by decide); have g20 := hA_.get 20 (by decide); exact OpStep.plain rfl (Step.pick (b := true) (p := (.one (.d (.bool true)))) (t := 21) rfl rfl (by exact lt_ok rfl) (show Env.ev E (.tmp 17) = _ from g17.trans rfl) (show Env.ev E (.tmp 20) = _ from g20.trans rfl))) ?_
       refine .cons (fun E hA_ => by have g21 := hA_.get 21 (by decide); exact OpStep.plain rfl (Step.move (p := (.one (.d (.bool true)))) (t := 22) rfl rfl (by exact lt_ok rfl) (show Env.ev E (.tmp 21) = _ from g21.trans rfl))) ?_
       refine .cons (fun E hA_ => by have g3 := hA_.get 3 (by decide); have g22 := hA_.get 22 (by decide); exact OpStep.yes (t := 22) rfl rfl (lt_ok rfl) (g22.trans rfl) (Step.fieldAddr (q := 0) (off := 3) (n := 1) (one := true) (t := 23) rfl rfl (by exact lt_ok rfl) (by kernel_rfl) (Nat.succ_ne_zero _) (show Env.ev E (.tmp 3) = _ from g3.trans rfl))) ?_
       refine .cons (fun E hA_ => by have g22 := hA_.get 22 (by decide); have g23 := hA_.get 23 (by decide); exact OpStep.yes (t := 22) rfl rfl (lt_ok rfl) (g22.trans rfl) (Step.load_box (c := .d (.ints .u8 q.f3)) (t := 24) rfl rfl (by exact lt_ok rfl) (by kernel_rfl) (show Env.ev E (.tmp 23) = _ from g23.trans rfl) (by exact hA_.box rfl) rfl)) ?_
       refine .cons (fun E hA_ => by have g2 := hA_.get 2 (by decide); have g22 := hA_.get 22 (by decide); exact OpStep.yes (t := 22) rfl rfl (lt_ok rfl) (g22.trans rfl) (Step.fieldAddr (q := 0) (off := 0) (n := 1) (one := true) (t := 25) rfl rfl (by exact lt_ok rfl) (by kernel_rfl) (Nat.succ_ne_zero _) (show Env.ev E (.tmp 2) = _ from g2.trans rfl))) ?_
       refine .cons (fun E hA_ => by have g22 := hA_.get 22 (by decide); have g25 := hA_.get 25 (by decide); exact OpStep.yes (t := 22) rfl rfl (lt_ok rfl) (g22.trans rfl) (Step.load_box (c := .d (.int .i64 l.f0)) (t := 26) rfl rfl (by exact lt_ok rfl) (by kernel_rfl) (show Env.ev E (.tmp 25) = _ from g25.trans rfl) (by exact hA_.box rfl) rfl)) ?_
       refine .cons (fun E hA_ => by have g22 := hA_.get 22 (by decide); have g24 := hA_.get 24 (by decide); have g26 := hA_.get 26 (by decide); exact OpStep.yes (t := 22) rfl rfl (lt_ok rfl) (g22.trans rfl) (Step.to (E1 := E.set 27 (.one (.d (.bool (bitsOk q.f3 l.f0))))) (congrArg (fun b_ => E.set 27 (.one (.d (.bool b_)))) hb5) (Step.call (f := 112) (xs := [.tmp 24, .tmp 26]) (ps := [(.one (.d (.ints .u8 q.f3))), (.one (.d (.int .i64 l.f0)))]) false (g := .func 112) (t := 27) rfl rfl (by exact lt_ok rfl) rfl (by kernel_rfl) (evs_cons (show Env.ev E (.tmp 24) = _ from g24.trans rfl) (evs_cons (show Env.ev E (.tmp 26) = _ from g26.trans rfl) (rfl))) (.cons (.one (.d _)) (.cons (.one (.d _)) .nil)) (ok_spec_BitsOk q.f3 l.f0 (by assumption) (by first | omega | assumption | (simp only [List.length_append] at *; omega))) (.inr rfl) (At.freshRows hA_ rfl) (by simp) rfl))) ?_
       refine .cons (fun E hA_ => by have g22 := hA_.get 22 (by decide); have g27 := hA_.get 27 (by decide); exact OpStep.plain rfl (Step.pick (b := true) (p := (.one (.d (.bool false)))) (t := 28) rfl rfl (by exact lt_ok rfl) (show Env.ev E (.tmp 22) = _ from g22.trans rfl) (show Env.ev E (.tmp 27) = _ from g27.trans rfl))) ?_
       refine .cons (fun E hA_ => by have g28 := hA_.get 28 (by decide); exact OpStep.plain rfl (Step.move (p := (.one (.d (.bool false)))) (t := 29) rfl rfl (by exact lt_ok rfl) (show Env.ev E (.tmp 28) = _ from g28.trans rfl))) ?_
       refine .cons (fun E hA_ => OpStep.off (t := 29) rfl rfl (lt_ok rfl) ((hA_.get 29 (by decide)).trans rfl) (by decide) rfl (lt_ok rfl)) ?_
       refine .cons (fun E hA_ => OpStep.off (t := 29) rfl rfl (lt_ok rfl) ((hA_.get 29 (by decide)).trans rfl) (by decide) rfl (lt_ok rfl)) ?_
       refine .cons (fun E hA_ => OpStep.off (t := 29) rfl rfl (lt_ok rfl) ((hA_.get 29 (by decide)).trans rfl) (by decide) rfl (lt_ok rfl)) ?_
       refine .cons (fun E hA_ => OpStep.off (t := 29) rfl rfl (lt_ok rfl) ((hA_.get 29 (by decide)).trans rfl) (by decide) rfl (lt_ok rfl)) ?_
       refine .cons (fun E hA_ => OpStep.off (t := 29) rfl rfl (lt_ok rfl) ((hA_.get 29 (by decide)).trans rfl) (by decide) rfl (lt_ok rfl)) ?_
       refine .cons (fun E hA_ => OpStep.off (t := 29) rfl rfl (lt_ok rfl) ((hA_.get 29 (by decide)).trans rfl) (by decide) rfl (lt_ok rfl)) ?_
       refine .cons (fun E hA_ => OpStep.off (t := 29) rfl rfl (lt_ok rfl) ((hA_.get 29 (by decide)).trans rfl) (by decide) rfl (lt_ok rfl)) ?_
       refine .cons (fun E hA_ => by have g29 := hA_.get 29 (by decide); have g36 := hA_.get 36 (by decide); exact OpStep.plain rfl (Step.pick (b := false) (p := (.one (.d (.bool false)))) (t := 37) rfl rfl (by exact lt_ok rfl) (show Env.ev E (.tmp 29) = _ from g29.trans rfl) rfl)) ?_
       refine .cons (fun E hA_ => by have g37 := hA_.get 37 (by decide); exact OpStep.plain rfl (Step.move (p := (.one (.d (.bool false)))) (t := 38) rfl rfl (by exact lt_ok rfl) (show Env.ev E (.tmp 37) = _ from g37.trans rfl))) ?_
       refine .cons (fun E hA_ => OpStep.off (t := 38) rfl rfl (lt_ok rfl) ((hA_.get 38 (by decide)).trans rfl) (by decide) rfl (lt_ok rfl)) ?_
       refine .cons (fun E hA_ => OpStep.off (t := 38) rfl rfl (lt_ok rfl) ((hA_.get 38 (by decide)).trans rfl) (by decide) rfl (lt_ok rfl)) ?_
       refine .cons (fun E hA_ => OpStep.off (t := 38) rfl rfl (lt_ok rfl) ((hA_.get 38 (by decide)).trans rfl) (by decide) rfl (lt_ok rfl)) ?_
       refine .cons (fun E hA_ => by have g38 := hA_.get 38 (by decide); have g41 := hA_.get 41 (by decide); exact OpStep.plain rfl (Step.pick (b := false) (p := (.one (.d (.bool false)))) (t := 42) rfl rfl (by exact lt_ok rfl) (show Env.ev E (.tmp 38) = _ from g38.trans rfl) rfl)) ?_
       refine .cons (fun E hA_ => by have g42 := hA_.get 42 (by decide); exact OpStep.plain rfl (Step.assign (p := (.one (.d (.bool false)))) (t := 4) rfl rfl (by exact lt_ok rfl) (show Env.ev E (.tmp 42) = _ from g42.trans rfl))) ?_
       exact .nil _ _
      refine TL.nil ?_
      refine T.ret ?_
      refine ⟨[(false, [.d (.bool false)])], (.cons rfl .nil), rfl, [], (RetC.rd' ?_ .nil)⟩ <;> (first | rfl | (congr 1; symm; simp only [qcOk, hashes, List.all_cons, List.all_nil, *, Bool.and_true, Bool.true_and, Bool.and_false, Bool.false_and, decide_true, decide_false, and_true, true_and, and_self, and_false, false_and, Bool.and_self, not_true, not_false, Bool.not_true, Bool.not_false, ge_iff_le, gt_iff_lt, if_true, if_false, Bool.false_eq_true, ite_true, ite_false, reduceIte]; done) | (congr 1; symm; simp_all [qcOk, hashes, List.all_cons, List.all_nil]; done) | (congr 1; symm; simp_all [qcOk, hashes, List.all_cons, List.all_nil]; omega))
    ·
     refine T.draw [⟨5, (.agg [.d (.int .i64 l.f0), .d (.int .i64 l.f1), .d (.int .i64 l.f2), .d (.int .i64 l.f3), .d (.int .i64 l.f4)]), []⟩, ⟨6, (.one (.d (.bool true))), []⟩, ⟨7, (.one (.d (.bool true))), []⟩, ⟨8, (.one (.ptr 3 0)), []⟩, ⟨9, (.one (.d (.int .i64 q.f0))), []⟩, ⟨10, (.one (.d (.bool true))), []⟩, ⟨11, (.one (.d (.bool true))), []⟩, ⟨12, (.one (.d (.bool true))), []⟩, ⟨13, (.one (.ptr 3 1)), []⟩, ⟨14, (.one (.d (.int .i64 q.f1))), []⟩, ⟨15, (.one (.d (.bool true))), []⟩, ⟨16, (.one (.d (.bool true))), []⟩, ⟨17, (.one (.d (.bool true))), []⟩, ⟨18, (.one (.ptr 3 2)), []⟩, ⟨19, (.one (.d (.ints .u8 q.f2))), []⟩, ⟨20, (.one (.d (.bool false))), []⟩, ⟨21, (.one (.d (.bool false))), []⟩, ⟨22, (.one (.d (.bool false))), []⟩, ⟨23, (.tup []), []⟩, ⟨24, (.tup []), []⟩, ⟨25, (.tup []), []⟩, ⟨26, (.tup []), []⟩, ⟨27, (.tup []), []⟩, ⟨28, (.one (.d (.bool false))), []⟩, ⟨29, (.one (.d (.bool false))), []⟩, ⟨30, (.tup []), []⟩, ⟨31, (.tup []), []⟩, ⟨32, (.tup []), []⟩, ⟨33, (.tup []), []⟩, ⟨34, (.tup []), []⟩, ⟨35, (.tup []), []⟩, ⟨36, (.tup []), []⟩, ⟨37, (.one (.d (.bool false))), []⟩, ⟨38, (.one (.d (.bool false))), []⟩, ⟨39, (.tup []), []⟩, ⟨40, (.tup []), []⟩, ⟨41, (.tup []), []⟩, ⟨42, (.one (.d (.bool false))), []⟩, ⟨4, (.one (.d (.bool false))), []⟩] (by kernel_rfl) (by kernel_rfl) ?_ ?_
     ·
      refine .cons (fun E hA_ => by have g2 := hA_.get 2 (by decide); exact OpStep.plain rfl (Step.load_box_agg (n := 5) (qs := [.d (.int .i64 l.f0), .d (.int .i64 l.f1), .d (.int .i64 l.f2), .d (.int .i64 l.f3), .d (.int .i64 l.f4)]) (t := 5) rfl rfl (by exact lt_ok rfl) (by kernel_rfl) (show Env.ev E (.tmp 2) = _ from g2.trans rfl) (by exact hA_.box rfl) rfl rfl)) ?_
      refine .cons (fun E hA_ => by have g5 := hA_.get 5 (by decide); exact OpStep.plain rfl (Step.to (E1 := E.set 6 (.one (.d (.bool (limOk l))))) (congrArg (fun b_ => E.set 6 (.one (.d (.bool b_)))) hb1) (Step.call (f := 93) (xs := [.tmp 5]) (ps := [(.agg [.d (.int .i64 l.f0), .d (.int .i64 l.f1), .d (.int .i64 l.f2), .d (.int .i64 l.f3), .d (.int .i64 l.f4)])]) false (g := .func 93) (t := 6) rfl rfl (by exact lt_ok rfl) rfl (by kernel_rfl) (evs_cons (show Env.ev E (.tmp 5) = _ from g5.trans rfl) (rfl)) (.cons (.agg (.cons (.d _) (.cons (.d _) (.cons (.d _) (.cons (.d _) (.cons (.d _) .nil)))))) .nil) (ok_spec_LimitsOk l) (.inr rfl) (At.freshRows hA_ rfl) (by simp) rfl))) ?_
      refine .cons (fun E hA_ => by have g6 := hA_.get 6 (by decide); exact OpStep.plain rfl (Step.move (p := (.one (.d (.bool true)))) (t := 7) rfl rfl (by exact lt_ok rfl) (show Env.ev E (.tmp 6) = _ from g6.trans rfl))) ?_
      refine .cons (fun E hA_ => by have g3 := hA_.get 3 (by decide); have g7 := hA_.get 7 (by decide); exact OpStep.yes (t := 7) rfl rfl (lt_ok rfl) (g7.trans rfl) (Step.fieldAddr (q := 0) (off := 0) (n := 1) (one := true) (t := 8) rfl rfl (by exact lt_ok rfl) (by kernel_rfl) (Nat.succ_ne_zero _) (show Env.ev E (.tmp 3) = _ from g3.trans rfl))) ?_
      refine .cons (fun E hA_ => by have g7 := hA_.get 7 (by decide); have g8 := hA_.get 8 (by decide); exact OpStep.yes (t := 7) rfl rfl (lt_ok rfl) (g7.trans rfl) (Step.load_box (c := .d (.int .i64 q.f0)) (t := 9) rfl rfl (by exact lt_ok rfl) (by kernel_rfl) (show Env.ev E (.tmp 8) = _ from g8.trans rfl) (by exact hA_.box rfl) rfl)) ?_
      refine .cons (fun E hA_ => by have g7 := hA_.get 7 (by decide); have g9 := hA_.get 9 (by decide); exact OpStep.yes (t := 7) rfl rfl (lt_ok rfl) (g7.trans rfl) (Step.to (E1 := E.set 10 (.one (.d (.bool (decide (0 ≤ q.f0 ∧ q.f0 ≤ 1152921504606846975)))))) (congrArg (fun b_ => E.set 10 (.one (.d (.bool b_)))) hb2) (Step.call (f := 94) (xs := [.tmp 9]) (ps := [(.one (.d (.int .i64 q.f0)))]) false (g := .func 94) (t := 10) rfl rfl (by exact lt_ok rfl) rfl (by kernel_rfl) (evs_cons (show Env.ev E (.tmp 9) = _ from g9.trans rfl) (rfl)) (.cons (.one (.d _)) .nil) (ok_spec_l01Num q.f0) (.inr rfl) (At.freshRows hA_ rfl) (by simp) rfl))) ?_
      refine .cons (fun E hA_ => by have g7 := hA_.get 7 (by decide); have g10 := hA_.get 10 (by decide); exact OpStep.plain rfl (Step.pick (b := true) (p := (.one (.d (.bool true)))) (t := 11) rfl rfl (by exact lt_ok rfl) (show Env.ev E (.tmp 7) = _ from g7.trans rfl) (show Env.ev E (.tmp 10) = _ from g10.trans rfl))) ?_
      refine .cons (fun E hA_ => by have g11 := hA_.get 11 (by decide); exact OpStep.plain rfl (Step.move (p := (.one (.d (.bool true)))) (t := 12) rfl rfl (by exact lt_ok rfl) (show Env.ev E (.tmp 11) = _ from g11.trans rfl))) ?_
      refine .cons (fun E hA_ => by have g3 := hA_.get 3 (by decide); have g12 := hA_.get 12 (by decide); exact OpStep.yes (t := 12) rfl rfl (lt_ok rfl) (g12.trans rfl) (Step.fieldAddr (q := 0) (off := 1) (n := 1) (one := true) (t := 13) rfl rfl (by exact lt_ok rfl) (by kernel_rfl) (Nat.succ_ne_zero _) (show Env.ev E (.tmp 3) = _ from g3.trans rfl))) ?_
      refine .cons (fun E hA_ => by have g12 := hA_.get 12 (by decide); have g13 := hA_.get 13 (by decide); exact OpStep.yes (t := 12) rfl rfl (lt_ok rfl) (g12.trans rfl) (Step.load_box (c := .d (.int .i64 q.f1)) (t := 14) rfl rfl (by exact lt_ok rfl) (by kernel_rfl) (show Env.ev E (.tmp 13) = _ from g13.trans rfl) (by exact hA_.box rfl) rfl)) ?_
      refine .cons (fun E hA_ => by have g12 := hA_.get 12 (by decide); have g14 := hA_.get 14 (by decide); exact OpStep.yes (t := 12) rfl rfl (lt_ok rfl) (g12.trans rfl) (Step.to (E1 := E.set 15 (.one (.d (.bool (decide (0 ≤ q.f1 ∧ q.f1 ≤ 1152921504606846975)))))) (congrArg (fun b_ => E.set 15 (.one (.d (.bool b_)))) hb3) (Step.call (f := 94) (xs := [.tmp 14]) (ps := [(.one (.d (.int .i64 q.f1)))]) false (g := .func 94) (t := 15) rfl rfl (by exact lt_ok rfl) rfl (by kernel_rfl) (evs_cons (show Env.ev E (.tmp 14) = _ from g14.trans rfl) (rfl)) (.cons (.one (.d _)) .nil) (ok_spec_l01Num q.f1) (.inr rfl) (At.freshRows hA_ rfl) (by simp) rfl))) ?_
      refine .cons (fun E hA_ => by have g12 := hA_.get 12 (by decide); have g15 := hA_.get 15 (by decide); exact OpStep.plain rfl (Step.pick (b := true) (p := (.one (.d (.bool true)))) (t := 16) rfl rfl (by exact lt_ok rfl) (show Env.ev E (.tmp 12) = _ from g12.trans rfl) (show Env.ev E (.tmp 15) = _ from g15.trans rfl))) ?_
      refine .cons (fun E hA_ => by have g16 := hA_.get 16 (by decide); exact OpStep.plain rfl (Step.move (p := (.one (.d (.bool true)))) (t := 17) rfl rfl (by exact lt_ok rfl) (show Env.ev E (.tmp 16) = _ from g16.trans rfl))) ?_
      refine .cons (fun E hA_ => by have g3 := hA_.get 3 (by decide); have g17 := hA_.get 17 (by decide); exact OpStep.yes (t := 17) rfl rfl (lt_ok rfl) (g17.trans rfl) (Step.fieldAddr (q := 0) (off := 2) (n := 1) (one := true) (t := 18) rfl rfl (by exact lt_ok rfl) (by kernel_rfl) (Nat.succ_ne_zero _) (show Env.ev E (.tmp 3) = _ from g3.trans rfl))) ?_
      refine .cons (fun E hA_ => by have g17 := hA_.get 17 (by decide); have g18 := hA_.get 18 (by decide); exact OpStep.yes (t := 17) rfl rfl (lt_ok rfl) (g17.trans rfl) (Step.load_box (c := .d (.ints .u8 q.f2)) (t := 19) rfl rfl (by exact lt_ok rfl) (by kernel_rfl) (show Env.ev E (.tmp 18) = _ from g18.trans rfl) (by exact hA_.box rfl) rfl)) ?_
      refine .cons (fun E hA_ => by have g17 := hA_.get 17 (by decide); have g19 := hA_.get 19 (by decide); exact OpStep.yes (t := 17) rfl rfl (lt_ok rfl) (g17.trans rfl) (Step.to (E1 := E.set 20 (.one (.d (.bool (decide ((q.f2.length : Int) = 32)))))) (congrArg (fun b_ => E.set 20 (.one (.d (.bool b_)))) hb4) (Step.call (f := 65) (xs := [.tmp 19]) (ps := [(.one (.d (.ints .u8 q.f2)))]) false (g := .func 65) (t := 20) rfl rfl (by exact lt_ok rfl) rfl (by kernel_rfl) (evs_cons (show Env.ev E (.tmp 19) = _ from g19.trans rfl) (rfl)) (.cons (.one (.d _)) .nil) (ok_spec_l07Hash q.f2) (.inr rfl) (At.freshRows hA_ rfl) (by simp) rfl))) ?_
      refine .cons (fun E hA_ => by have g17 := hA_.get 17 (by decide); have g20 := hA_.get 20 (by decide); exact OpStep.plain rfl (Step.pick (b := true) (p := (.one (.d (.bool false)))) (t := 21) rfl rfl (by exact lt_ok rfl) (show Env.ev E (.tmp 17) = _ from g17.trans rfl) (show Env.ev E (.tmp 20) = _ from g20.trans rfl))) ?_
      refine .cons (fun E hA_ => by have g21 := hA_.get 21 (by decide); exact OpStep.plain rfl (Step.move (p := (.one (.d (.bool false)))) (t := 22) rfl rfl (by exact lt_ok rfl) (show Env.ev E (.tmp 21) = _ from g21.trans rfl))) ?_
      refine .cons (fun E hA_ => OpStep.off (t := 22) rfl rfl (lt_ok rfl) ((hA_.get 22 (by decide)).trans rfl) (by decide) rfl (lt_ok rfl)) ?_
      refine .cons (fun E hA_ => OpStep.off (t := 22) rfl rfl (lt_ok rfl) ((hA_.get 22 (by decide)).trans rfl) (by decide) rfl (lt_ok rfl)) ?_
      refine .cons (fun E hA_ => OpStep.off (t := 22) rfl rfl (lt_ok rfl) ((hA_.get 22 (by decide)).trans rfl) (by decide) rfl (lt_ok rfl)) ?_
      refine .cons (fun E hA_ => OpStep.off (t := 22) rfl rfl (lt_ok rfl) ((hA_.get 22 (by decide)).trans rfl) (by decide) rfl (lt_ok rfl)) ?_
      refine .cons (fun E hA_ => OpStep.off (t := 22) rfl rfl (lt_ok rfl) ((hA_.get 22 (by decide)).trans rfl) (by decide) rfl (lt_ok rfl)) ?_
      refine .cons (fun E hA_ => by have g22 := hA_.get 22 (by decide); have g27 := hA_.get 27 (by decide); exact OpStep.plain rfl (Step.pick (b := false) (p := (.one (.d (.bool false)))) (t := 28) rfl rfl (by exact lt_ok rfl) (show Env.ev E (.tmp 22) = _ from g22.trans rfl) rfl)) ?_
      refine .cons (fun E hA_ => by have g28 := hA_.get 28 (by decide); exact OpStep.plain rfl (Step.move (p := (.one (.d (.bool false)))) (t := 29) rfl rfl (by exact lt_ok rfl) (show Env.ev E (.tmp 28) = _ from g28.trans rfl))) ?_
      refine .cons (fun E hA_ => OpStep.off (t := 29) rfl rfl (lt_ok rfl) ((hA_.get 29 (by decide)).trans rfl) (by decide) rfl (lt_ok rfl)) ?_
      refine .cons (fun E hA_ => OpStep.off (t := 29) rfl rfl (lt_ok rfl) ((hA_.get 29 (by decide)).trans rfl) (by decide) rfl (lt_ok rfl)) ?_
      refine .cons (fun E hA_ => OpStep.off (t := 29) rfl rfl (lt_ok rfl) ((hA_.get 29 (by decide)).trans rfl) (by decide) rfl (lt_ok rfl)) ?_
      refine .cons (fun E hA_ => OpStep.off (t := 29) rfl rfl (lt_ok rfl) ((hA_.get 29 (by decide)).trans rfl) (by decide) rfl (lt_ok rfl)) ?_
      refine .cons (fun E hA_ => OpStep.off (t := 29) rfl rfl (lt_ok rfl) ((hA_.get 29 (by decide)).trans rfl) (by decide) rfl (lt_ok rfl)) ?_
      refine .cons (fun E hA_ => OpStep.off (t := 29) rfl rfl (lt_ok rfl) ((hA_.get 29 (by decide)).trans rfl) (by decide) rfl (lt_ok rfl)) ?_
      refine .cons (fun E hA_ => OpStep.off (t := 29) rfl rfl (lt_ok rfl) ((hA_.get 29 (by decide)).trans rfl) (by decide) rfl (lt_ok rfl)) ?_
      refine .cons (fun E hA_ => by have g29 := hA_.get 29 (by decide); have g36 := hA_.get 36 (by decide); exact OpStep.plain rfl (Step.pick (b := false) (p := (.one (.d (.bool false)))) (t := 37) rfl rfl (by exact lt_ok rfl) (show Env.ev E (.tmp 29) = _ from g29.trans rfl) rfl)) ?_
      refine .cons (fun E hA_ => by have g37 := hA_.get 37 (by decide); exact OpStep.plain rfl (Step.move (p := (.one (.d (.bool false)))) (t := 38) rfl rfl (by exact lt_ok rfl) (show Env.ev E (.tmp 37) = _ from g37.trans rfl))) ?_
      refine .cons (fun E hA_ => OpStep.off (t := 38) rfl rfl (lt_ok rfl) ((hA_.get 38 (by decide)).trans rfl) (by decide) rfl (lt_ok rfl)) ?_
      refine .cons (fun E hA_ => OpStep.off (t := 38) rfl rfl (lt_ok rfl) ((hA_.get 38 (by decide)).trans rfl) (by decide) rfl (lt_ok rfl)) ?_
      refine .cons (fun E hA_ => OpStep.off (t := 38) rfl rfl (lt_ok rfl) ((hA_.get 38 (by decide)).trans rfl) (by decide) rfl (lt_ok rfl)) ?_
      refine .cons (fun E hA_ => by have g38 := hA_.get 38 (by decide); have g41 := hA_.get 41 (by decide); exact OpStep.plain rfl (Step.pick (b := false) (p := (.one (.d (.bool false)))) (t := 42) rfl rfl (by exact lt_ok rfl) (show Env.ev E (.tmp 38) = _ from g38.trans rfl) rfl)) ?_
      refine .cons (fun E hA_ => by have g42 := hA_.get 42 (by decide); exact OpStep.plain rfl (Step.assign (p := (.one (.d (.bool false)))) (t := 4) rfl rfl (by exact lt_ok rfl) (show Env.ev E (.tmp 42) = _ from g42.trans rfl))) ?_
      exact .nil _ _
     refine TL.nil ?_
     refine T.ret ?_
     refine ⟨[(false, [.d (.bool false)])], (.cons rfl .nil), rfl, [], (RetC.rd' ?_ .nil)⟩ <;> (first | rfl | (congr 1; symm; simp only [qcOk, hashes, List.all_cons, List.all_nil, *, Bool.and_true, Bool.true_and, Bool.and_false, Bool.false_and, decide_true, decide_false, and_true, true_and, and_self, and_false, false_and, Bool.and_self, not_true, not_false, Bool.not_true, Bool.not_false, ge_iff_le, gt_iff_lt, if_true, if_false, Bool.false_eq_true, ite_true, ite_false, reduceIte]; done) | (congr 1; symm; simp_all [qcOk, hashes, List.all_cons, List.all_nil]; done) | (congr 1; symm; simp_all [qcOk, hashes, List.all_cons, List.all_nil]; omega))
   ·
    refine T.draw [⟨5, (.agg [.d (.int .i64 l.f0), .d (.int .i64 l.f1), .d (.int .i64 l.f2), .d (.int .i64 l.f3), .d (.int .i64 l.f4)]), []⟩, ⟨6, (.one (.d (.bool true))), []⟩, ⟨7, (.one (.d (.bool true))), []⟩, ⟨8, (.one (.ptr 3 0)), []⟩, ⟨9, (.one (.d (.int .i64 q.f0))), []⟩, ⟨10, (.one (.d (.bool true))), []⟩, ⟨11, (.one (.d (.bool true))), []⟩, ⟨12, (.one (.d (.bool true))), []⟩, ⟨13, (.one (.ptr 3 1)), []⟩, ⟨14, (.one (.d (.int .i64 q.f1))), []⟩, ⟨15, (.one (.d (.bool false))), []⟩, ⟨16, (.one (.d (.bool false))), []⟩, ⟨17, (.one (.d (.bool false))), []⟩, ⟨18, (.tup []), []⟩, ⟨19, (.tup []), []⟩, ⟨20, (.tup []), []⟩, ⟨21, (.one (.d (.bool false))), []⟩, ⟨22, (.one (.d (.bool false))), []⟩, ⟨23, (.tup []), []⟩, ⟨24, (.tup []), []⟩, ⟨25, (.tup []), []⟩, ⟨26, (.tup []), []⟩, ⟨27, (.tup []), []⟩, ⟨28, (.one (.d (.bool false))), []⟩, ⟨29, (.one (.d (.bool false))), []⟩, ⟨30, (.tup []), []⟩, ⟨31, (.tup []), []⟩, ⟨32, (.tup []), []⟩, ⟨33, (.tup []), []⟩, ⟨34, (.tup []), []⟩, ⟨35, (.tup []), []⟩, ⟨36, (.tup []), []⟩, ⟨37, (.one (.d (.bool false))), []⟩, ⟨38, (.one (.d (.bool false))), []⟩, ⟨39, (.tup []), []⟩, ⟨40, (.tup []), []⟩, ⟨41, (.tup []), []⟩, ⟨42, (.one (.d (.bool false))), []⟩, ⟨4, (.one (.d (.bool false))), []⟩] (by kernel_rfl) (by kernel_rfl) ?_ ?_
    ·
     refine .cons (fun E hA_ => by have g2 := hA_.get 2 (by decide); exact OpStep.plain rfl (Step.load_box_agg (n := 5) (qs := [.d (.int .i64 l.f0), .d (.int .i64 l.f1), .d (.int .i64 l.f2), .d (.int .i64 l.f3), .d (.int .i64 l.f4)]) (t := 5) rfl rfl (by exact lt_ok rfl) (by kernel_rfl) (show Env.ev E (.tmp 2) = _ from g2.trans rfl) (by exact hA_.box rfl) rfl rfl)) ?_
     refine .cons (fun E hA_ => by have g5 := hA_.get 5 (by decide); exact OpStep.plain rfl (Step.to (E1 := E.set 6 (.one (.d (.bool (limOk l))))) (congrArg (fun b_ => E.set 6 (.one (.d (.bool b_)))) hb1) (Step.call (f := 93) (xs := [.tmp 5]) (ps := [(.agg [.d (.int .i64 l.f0), .d (.int .i64 l.f1), .d (.int .i64 l.f2), .d (.int .i64 l.f3), .d (.int .i64 l.f4)])]) false (g := .func 93) (t := 6) rfl rfl (by exact lt_ok rfl) rfl (by kernel_rfl) (evs_cons (show Env.ev E (.tmp 5) = _ from g5.trans rfl) (rfl)) (.cons (.agg (.cons (.d _) (.cons (.d _) (.cons (.d _) (.cons (.d _) (.cons (.d _) .nil)))))) .nil) (ok_spec_LimitsOk l) (.inr rfl) (At.freshRows hA_ rfl) (by simp) rfl))) ?_
     refine .cons (fun E hA_ => by have g6 := hA_.get 6 (by decide); exact OpStep.plain rfl (Step.move (p := (.one (.d (.bool true)))) (t := 7) rfl rfl (by exact lt_ok rfl) (show Env.ev E (.tmp 6) = _ from g6.trans rfl))) ?_
     refine .cons (fun E hA_ => by have g3 := hA_.get 3 (by decide); have g7 := hA_.get 7 (by decide); exact OpStep.yes (t := 7) rfl rfl (lt_ok rfl) (g7.trans rfl) (Step.fieldAddr (q := 0) (off := 0) (n := 1) (one := true) (t := 8) rfl rfl (by exact lt_ok rfl) (by kernel_rfl) (Nat.succ_ne_zero _) (show Env.ev E (.tmp 3) = _ from g3.trans rfl))) ?_
     refine .cons (fun E hA_ => by have g7 := hA_.get 7 (by decide); have g8 := hA_.get 8 (by decide); exact OpStep.yes (t := 7) rfl rfl (lt_ok rfl) (g7.trans rfl) (Step.load_box (c := .d (.int .i64 q.f0)) (t := 9) rfl rfl (by exact lt_ok rfl) (by kernel_rfl) (show Env.ev E (.tmp 8) = _ from g8.trans rfl) (by exact hA_.box rfl) rfl)) ?_
     refine .cons (fun E hA_ => by have g7 := hA_.get 7 (by decide); have g9 := hA_.get 9 (by decide); exact OpStep.yes (t := 7) rfl rfl (lt_ok rfl) (g7.trans rfl) (Step.to (E1 := E.set 10 (.one (.d (.bool (decide (0 ≤ q.f0 ∧ q.f0 ≤ 1152921504606846975)))))) (congrArg (fun b_ => E.set 10 (.one (.d (.bool b_)))) hb2) (Step.call (f := 94) (xs := [.tmp 9]) (ps := [(.one (.d (.int .i64 q.f0)))]) false (g := .func 94) (t := 10) rfl rfl (by exact lt_ok rfl) rfl (by kernel_rfl) (evs_cons (show Env.ev E (.tmp 9) = _ from g9.trans rfl) (rfl)) (.cons (.one (.d _)) .nil) (ok_spec_l01Num q.f0) (.inr rfl) (At.freshRows hA_ rfl) (by simp) rfl))) ?_
     refine .cons (fun E hA_ => by have g7 := hA_.get 7 (by decide); have g10 := hA_.get 10 (by decide); exact OpStep.plain rfl (Step.pick (b := true) (p := (.one (.d (.bool true)))) (t := 11) rfl rfl (by exact lt_ok rfl) (show Env.ev E (.tmp 7) = _ from g7.trans rfl) (show Env.ev E (.tmp 10) = _ from g10.trans rfl))) ?_
     refine .cons (fun E hA_ => by have g11 := hA_.get 11 (by decide); exact OpStep.plain rfl (Step.move (p := (.one (.d (.bool true)))) (t := 12) rfl rfl (by exact lt_ok rfl) (show Env.ev E (.tmp 11) = _ from g11.trans rfl))) ?_
     refine .cons (fun E hA_ => by have g3 := hA_.get 3 (by decide); have g12 := hA_.get 12 (by decide); exact OpStep.yes (t := 12) rfl rfl (lt_ok rfl) (g12.trans rfl) (Step.fieldAddr (q := 0) (off := 1) (n := 1) (one := true) (t := 13) rfl rfl (by exact lt_ok rfl) (by kernel_rfl) (Nat.succ_ne_zero _) (show Env.ev E (.tmp 3) = _ from g3.trans rfl))) ?_
     refine .cons (fun E hA_ => by have g12 := hA_.get 12 (by decide); have g13 := hA_.get 13 (by decide); exact OpStep.yes (t := 12) rfl rfl (lt_ok rfl) (g12.trans rfl) (Step.load_box (c := .d (.int .i64 q.f1)) (t := 14) rfl rfl (by exact lt_ok rfl) (by kernel_rfl) (show Env.ev E (.tmp 13) = _ from g13.trans rfl) (by exact hA_.box rfl) rfl)) ?_
     refine .cons (fun E hA_ => by have g12 := hA_.get 12 (by decide); have g14 := hA_.get 14 (by decide); exact OpStep.yes (t := 12) rfl rfl (lt_ok rfl) (g12.trans rfl) (Step.to (E1 := E.set 15 (.one (.d (.bool (decide (0 ≤ q.f1 ∧ q.f1 ≤ 1152921504606846975)))))) (congrArg (fun b_ => E.set 15 (.one (.d (.bool b_)))) hb3) (Step.call (f := 94) (xs := [.tmp 14]) (ps := [(.one (.d (.int .i64 q.f1)))]) false (g := .func 94) (t := 15) rfl rfl (by exact lt_ok rfl) rfl (by kernel_rfl) (evs_cons (show Env.ev E (.tmp 14) = _ from g14.trans rfl) (rfl)) (.cons (.one (.d _)) .nil) (ok_spec_l01Num q.f1) (.inr rfl) (At.freshRows hA_ rfl) (by simp) rfl))) ?_
     refine .cons (fun E hA_ => by have g12 := hA_.get 12 (by decide); have g15 := hA_.get 15 (by decide); exact OpStep.plain rfl (Step.pick (b := true) (p := (.one (.d (.bool false)))) (t := 16) rfl rfl (by exact lt_ok rfl) (show Env.ev E (.tmp 12) = _ from g12.trans rfl) (show Env.ev E (.tmp 15) = _ from g15.trans rfl))) ?_
     refine .cons (fun E hA_ => by have g16 := hA_.get 16 (by decide); exact OpStep.plain rfl (Step.move (p := (.one (.d (.bool false)))) (t := 17) rfl rfl (by exact lt_ok rfl) (show Env.ev E (.tmp 16) = _ from g16.trans rfl))) ?_
     refine .cons (fun E hA_ => OpStep.off (t := 17) rfl rfl (lt_ok rfl) ((hA_.get 17 (by decide)).trans rfl) (by decide) rfl (lt_ok rfl)) ?_
     refine .cons (fun E hA_ => OpStep.off (t := 17) rfl rfl (lt_ok rfl) ((hA_.get 17 (by decide)).trans rfl) (by decide) rfl (lt_ok rfl)) ?_
     refine .cons (fun E hA_ => OpStep.off (t := 17) rfl rfl (lt_ok rfl) ((hA_.get 17 (by decide)).trans rfl) (by decide) rfl (lt_ok rfl)) ?_
     refine .cons (fun E hA_ => by have g17 := hA_.get 17 (by decide); have g20 := hA_.get 20 (by decide); exact OpStep.plain rfl (Step.pick (b := false) (p := (.one (.d (.bool false)))) (t := 21) rfl rfl (by exact lt_ok rfl) (show Env.ev E (.tmp 17) = _ from g17.trans rfl) rfl)) ?_
     refine .cons (fun E hA_ => by have g21 := hA_.get 21 (by decide); exact OpStep.plain rfl (Step.move (p := (.one (.d (.bool false)))) (t := 22) rfl rfl (by exact lt_ok rfl) (show Env.ev E (.tmp 21) = _ from g21.trans rfl))) ?_
     refine .cons (fun E hA_ => OpStep.off (t := 22) rfl rfl (lt_ok rfl) ((hA_.get 22 (by decide)).trans rfl) (by decide) rfl (lt_ok rfl)) ?_
     refine .cons (fun E hA_ => OpStep.off (t := 22) rfl rfl (lt_ok rfl) ((hA_.get 22 (by decide)).trans rfl) (by decide) rfl (lt_ok rfl)) ?_
     refine .cons (fun E hA_ => OpStep.off (t := 22) rfl rfl (lt_ok rfl) ((hA_.get 22 (by decide)).trans rfl) (by decide) rfl (lt_ok rfl)) ?_
     refine .cons (fun E hA_ => OpStep.off (t := 22) rfl rfl (lt_ok rfl) ((hA_.get 22 (by decide)).trans rfl) (by decide) rfl (lt_ok rfl)) ?_
     refine .cons (fun E hA_ => OpStep.off (t := 22) rfl rfl (lt_ok rfl) ((hA_.get 22 (by decide)).trans rfl) (by decide) rfl (lt_ok rfl)) ?_
     refine .cons (fun E hA_ => by have g22 := hA_.get 22 (by decide); have g27 := hA_.get 27 (by decide); exact OpStep.plain rfl (Step.pick (b := false) (p := (.one (.d (.bool false)))) (t := 28) rfl rfl (by exact lt_ok rfl) (show Env.ev E (.tmp 22) = _ from g22.trans rfl) rfl)) ?_
     refine .cons (fun E hA_ => by have g28 := hA_.get 28 (by decide); exact OpStep.plain rfl (Step.move (p := (.one (.d (.bool false)))) (t := 29) rfl rfl (by exact lt_ok rfl) (show Env.ev E (.tmp 28) = _ from g28.trans rfl))) ?_
     refine .cons (fun E hA_ => OpStep.off (t := 29) rfl rfl (lt_ok rfl) ((hA_.get 29 (by decide)).trans rfl) (by decide) rfl (lt_ok rfl)) ?_
     refine .cons (fun E hA_ => OpStep.off (t := 29) rfl rfl (lt_ok rfl) ((hA_.get 29 (by decide)).trans rfl) (by decide) rfl (lt_ok rfl)) ?_
     refine .cons (fun E hA_ => OpStep.off (t := 29) rfl rfl (lt_ok rfl) ((hA_.get 29 (by decide)).trans rfl) (by decide) rfl (lt_ok rfl)) ?_
     refine .cons (fun E hA_ => OpStep.off (t := 29) rfl rfl (lt_ok rfl) ((hA_.get 29 (by decide)).trans rfl) (by decide) rfl (lt_ok rfl)) ?_
     refine .cons (fun E hA_ => OpStep.off (t := 29) rfl rfl (lt_ok rfl) ((hA_.get 29 (by decide)).trans rfl) (by decide) rfl (lt_ok rfl)) ?_
     refine .cons (fun E hA_ => OpStep.off (t := 29) rfl rfl (lt_ok rfl) ((hA_.get 29 (by decide)).trans rfl) (by decide) rfl (lt_ok rfl)) ?_
     refine .cons (fun E hA_ => OpStep.off (t := 29) rfl rfl (lt_ok rfl) ((hA_.get 29 (by decide)).trans rfl) (by decide) rfl (lt_ok rfl)) ?_
     refine .cons (fun E hA_ => by have g29 := hA_.get 29 (by decide); have g36 := hA_.get 36 (by decide); exact OpStep.plain rfl (Step.pick (b := false) (p := (.one (.d (.bool false)))) (t := 37) rfl rfl (by exact lt_ok rfl) (show Env.ev E (.tmp 29) = _ from g29.trans rfl) rfl)) ?_
     refine .cons (fun E hA_ => by have g37 := hA_.get 37 (by decide); exact OpStep.plain rfl (Step.move (p := (.one (.d (.bool false)))) (t := 38) rfl rfl (by exact lt_ok rfl) (show Env.ev E (.tmp 37) = _ from g37.trans rfl))) ?_
     refine .cons (fun E hA_ => OpStep.off (t := 38) rfl rfl (lt_ok rfl) ((hA_.get 38 (by decide)).trans rfl) (by decide) rfl (lt_ok rfl)) ?_
     refine .cons (fun E hA_ => OpStep.off (t := 38) rfl rfl (lt_ok rfl) ((hA_.get 38 (by decide)).trans rfl) (by decide) rfl (lt_ok rfl)) ?_
     refine .cons (fun E hA_ => OpStep.off (t := 38) rfl rfl (lt_ok rfl) ((hA_.get 38 (by decide)).trans rfl) (by decide) rfl (lt_ok rfl)) ?_
     refine .cons (fun E hA_ => by have g38 := hA_.get 38 (by decide); have g41 := hA_.get 41 (by decide); exact OpStep.plain rfl (Step.pick (b := false) (p := (.one (.d (.bool false)))) (t := 42) rfl rfl (by exact lt_ok rfl) (show Env.ev E (.tmp 38) = _ from g38.trans rfl) rfl)) ?_
     refine .cons (fun E hA_ => by have g42 := hA_.get 42 (by decide); exact OpStep.plain rfl (Step.assign (p := (.one (.d (.bool false)))) (t := 4) rfl rfl (by exact lt_ok rfl) (show Env.ev E (.tmp 42) = _ from g42.trans rfl))) ?_
     exact .nil _ _
    refine TL.nil ?_
    refine T.ret ?_
    refine ⟨[(false, [.d (.bool false)])], (.cons rfl .nil), rfl, [], (RetC.rd' ?_ .nil)⟩ <;> (first | rfl | (congr 1; symm; simp only [qcOk, hashes, List.all_cons, List.all_nil, *, Bool.and_true, Bool.true_and, Bool.and_false, Bool.false_and, decide_true, decide_false, and_true, true_and, and_self, and_false, false_and, Bool.and_self, not_true, not_false, Bool.not_true, Bool.not_false, ge_iff_le, gt_iff_lt, if_true, if_false, Bool.false_eq_true, ite_true, ite_false, reduceIte]; done) | (congr 1; symm; simp_all [qcOk, hashes, List.all_cons, List.all_nil]; done) | (congr 1; symm; simp_all [qcOk, hashes, List.all_cons, List.all_nil]; omega))
  ·
   refine T.draw [⟨5, (.agg [.d (.int .i64 l.f0), .d (.int .i64 l.f1), .d (.int .i64 l.f2), .d (.int .i64 l.f3), .d (.int .i64 l.f4)]), []⟩, ⟨6, (.one (.d (.bool true))), []⟩, ⟨7, (.one (.d (.bool true))), []⟩, ⟨8, (.one (.ptr 3 0)), []⟩, ⟨9, (.one (.d (.int .i64 q.f0))), []⟩, ⟨10, (.one (.d (.bool false))), []⟩, ⟨11, (.one (.d (.bool false))), []⟩, ⟨12, (.one (.d (.bool false))), []⟩, ⟨13, (.tup []), []⟩, ⟨14, (.tup []), []⟩, ⟨15, (.tup []), []⟩, ⟨16, (.one (.d (.bool false))), []⟩, ⟨17, (.one (.d (.bool false))), []⟩, ⟨18, (.tup []), []⟩, ⟨19, (.tup []), []⟩, ⟨20, (.tup []), []⟩, ⟨21, (.one (.d (.bool false))), []⟩, ⟨22, (.one (.d (.bool false))), []⟩, ⟨23, (.tup []), []⟩, ⟨24, (.tup []), []⟩, ⟨25, (.tup []), []⟩, ⟨26, (.tup []), []⟩, ⟨27, (.tup []), []⟩, ⟨28, (.one (.d (.bool false))), []⟩, ⟨29, (.one (.d (.bool false))), []⟩, ⟨30, (.tup []), []⟩, ⟨31, (.tup []), []⟩, ⟨32, (.tup []), []⟩, ⟨33, (.tup []), []⟩, ⟨34, (.tup []), []⟩, ⟨35, (.tup []), []⟩, ⟨36, (.tup []), []⟩, ⟨37, (.one (.d (.bool false))), []⟩, ⟨38, (.one (.d (.bool false))), []⟩, ⟨39, (.tup []), []⟩, ⟨40, (.tup []), []⟩, ⟨41, (.tup []), []⟩, ⟨42, (.one (.d (.bool false))), []⟩, ⟨4, (.one (.d (.bool false))), []⟩] (by kernel_rfl) (by kernel_rfl) ?_ ?_
   ·
    refine .cons (fun E hA_ => by have g2 := hA_.get 2 (by decide); exact OpStep.plain rfl (Step.load_box_agg (n := 5) (qs := [.d (.int .i64 l.f0), .d (.int .i64 l.f1), .d (.int .i64 l.f2), .d (.int .i64 l.f3), .d (.int .i64 l.f4)]) (t := 5) rfl rfl (by exact lt_ok rfl) (by kernel_rfl) (show Env.ev E (.tmp 2) = _ from g2.trans rfl) (by exact hA_.box rfl) rfl rfl)) ?_
    refine .cons (fun E hA_ => by have g5 := hA_.get 5 (by decide); exact OpStep.plain rfl (Step.to (E1 := E.set 6 (.one (.d (.bool (limOk l))))) (congrArg (fun b_ => E.set 6 (.one (.d (.bool b_)))) hb1) (Step.call (f := 93) (xs := [.tmp 5]) (ps := [(.agg [.d (.int .i64 l.f0), .d (.int .i64 l.f1), .d (.int .i64 l.f2), .d (.int .i64 l.f3), .d (.int .i64 l.f4)])]) false (g := .func 93) (t := 6) rfl rfl (by exact lt_ok rfl) rfl (by kernel_rfl) (evs_cons (show Env.ev E (.tmp 5) = _ from g5.trans rfl) (rfl)) (.cons (.agg (.cons (.d _) (.cons (.d _) (.cons (.d _) (.cons (.d _) (.cons (.d _) .nil)))))) .nil) (ok_spec_LimitsOk l) (.inr rfl) (At.freshRows hA_ rfl) (by simp) rfl))) ?_
    refine .cons (fun E hA_ => by have g6 := hA_.get 6 (by decide); exact OpStep.plain rfl (Step.move (p := (.one (.d (.bool true)))) (t := 7) rfl rfl (by exact lt_ok rfl) (show Env.ev E (.tmp 6) = _ from g6.trans rfl))) ?_
    refine .cons (fun E hA_ => by have g3 := hA_.get 3 (by decide); have g7 := hA_.get 7 (by decide); exact OpStep.yes (t := 7) rfl rfl (lt_ok rfl) (g7.trans rfl) (Step.fieldAddr (q := 0) (off := 0) (n := 1) (one := true) (t := 8) rfl rfl (by exact lt_ok rfl) (by kernel_rfl) (Nat.succ_ne_zero _) (show Env.ev E (.tmp 3) = _ from g3.trans rfl))) ?_
    refine .cons (fun E hA_ => by have g7 := hA_.get 7 (by decide); have g8 := hA_.get 8 (by decide); exact OpStep.yes (t := 7) rfl rfl (lt_ok rfl) (g7.trans rfl) (Step.load_box (c := .d (.int .i64 q.f0)) (t := 9) rfl rfl (by exact lt_ok rfl) (by kernel_rfl) (show Env.ev E (.tmp 8) = _ from g8.trans rfl) (by exact hA_.box rfl) rfl)) ?_
    refine .cons (fun E hA_ => by have g7 := hA_.get 7 (by decide); have g9 := hA_.get 9 (by decide); exact OpStep.yes (t := 7) rfl rfl (lt_ok rfl) (g7.trans rfl) (Step.to (E1 := E.set 10 (.one (.d (.bool (decide (0 ≤ q.f0 ∧ q.f0 ≤ 1152921504606846975)))))) (congrArg (fun b_ => E.set 10 (.one (.d (.bool b_)))) hb2) (Step.call (f := 94) (xs := [.tmp 9]) (ps := [(.one (.d (.int .i64 q.f0)))]) false (g := .func 94) (t := 10) rfl rfl (by exact lt_ok rfl) rfl (by kernel_rfl) (evs_cons (show Env.ev E (.tmp 9) = _ from g9.trans rfl) (rfl)) (.cons (.one (.d _)) .nil) (ok_spec_l01Num q.f0) (.inr rfl) (At.freshRows hA_ rfl) (by simp) rfl))) ?_
    refine .cons (fun E hA_ => by have g7 := hA_.get 7 (by decide); have g10 := hA_.get 10 (by decide); exact OpStep.plain rfl (Step.pick (b := true) (p := (.one (.d (.bool false)))) (t := 11) rfl rfl (by exact lt_ok rfl) (show Env.ev E (.tmp 7) = _ from g7.trans rfl) (show Env.ev E (.tmp 10) = _ from g10.trans rfl))) ?_
    refine .cons (fun E hA_ => by have g11 := hA_.get 11 (by decide); exact OpStep.plain rfl (Step.move (p := (.one (.d (.bool false)))) (t := 12) rfl rfl (by exact lt_ok rfl) (show Env.ev E (.tmp 11) = _ from g11.trans rfl))) ?_
    refine .cons (fun E hA_ => OpStep.off (t := 12) rfl rfl (lt_ok rfl) ((hA_.get 12 (by decide)).trans rfl) (by decide) rfl (lt_ok rfl)) ?_
    refine .cons (fun E hA_ => OpStep.off (t := 12) rfl rfl (lt_ok rfl) ((hA_.get 12 (by decide)).trans rfl) (by decide) rfl (lt_ok rfl)) ?_
    refine .cons (fun E hA_ => OpStep.off (t := 12) rfl rfl (lt_ok rfl) ((hA_.get 12 (by decide)).trans rfl) (by decide) rfl (lt_ok rfl)) ?_
    refine .cons (fun E hA_ => by have g12 := hA_.get 12 (by decide); have g15 := hA_.get 15 (by decide); exact OpStep.plain rfl (Step.pick (b := false) (p := (.one (.d (.bool false)))) (t := 16) rfl rfl (by exact lt_ok rfl) (show Env.ev E (.tmp 12) = _ from g12.trans rfl) rfl)) ?_
    refine .cons (fun E hA_ => by have g16 := hA_.get 16 (by decide); exact OpStep.plain rfl (Step.move (p := (.one (.d (.bool false)))) (t := 17) rfl rfl (by exact lt_ok rfl) (show Env.ev E (.tmp 16) = _ from g16.trans rfl))) ?_
    refine .cons (fun E hA_ => OpStep.off (t := 17) rfl rfl (lt_ok rfl) ((hA_.get 17 (by decide)).trans rfl) (by decide) rfl (lt_ok rfl)) ?_
    refine .cons (fun E hA_ => OpStep.off (t := 17) rfl rfl (lt_ok rfl) ((hA_.get 17 (by decide)).trans rfl) (by decide) rfl (lt_ok rfl)) ?_
    refine .cons (fun E hA_ => OpStep.off (t := 17) rfl rfl (lt_ok rfl) ((hA_.get 17 (by decide)).trans rfl) (by decide) rfl (lt_ok rfl)) ?_
    refine .cons (fun E hA_ => by have g17 := hA_.get 17 (by decide); have g20 := hA_.get 20 (by decide); exact OpStep.plain rfl (Step.pick (b := false) (p := (.one (.d (.bool false)))) (t := 21) rfl rfl (by exact lt_ok rfl) (show Env.ev E (.tmp 17) = _ from g17.trans rfl) rfl)) ?_
    refine .cons (fun E hA_ => by have g21 := hA_.get 21 (by decide); exact OpStep.plain rfl (Step.move (p := (.one (.d (.bool false)))) (t := 22) rfl rfl (by exact lt_ok rfl) (show Env.ev E (.tmp 21) = _ from g21.trans rfl))) ?_
    refine .cons (fun E hA_ => OpStep.off (t := 22) rfl rfl (lt_ok rfl) ((hA_.get 22 (by decide)).trans rfl) (by decide) rfl (lt_ok rfl)) ?_
    refine .cons (fun E hA_ => OpStep.off (t := 22) rfl rfl (lt_ok rfl) ((hA_.get 22 (by decide)).trans rfl) (by decide) rfl (lt_ok rfl)) ?_
    refine .cons (fun E hA_ => OpStep.off (t := 22) rfl rfl (lt_ok rfl) ((hA_.get 22 (by decide)).trans rfl) (by decide) rfl (lt_ok rfl)) ?_
    refine .cons (fun E hA_ => OpStep.off (t := 22) rfl rfl (lt_ok rfl) ((hA_.get 22 (by decide)).trans rfl) (by decide) rfl (lt_ok rfl)) ?_
    refine .cons (fun E hA_ => OpStep.off (t := 22) rfl rfl (lt_ok rfl) ((hA_.get 22 (by decide)).trans rfl) (by decide) rfl (lt_ok rfl)) ?_
    refine .cons (fun E hA_ => by have g22 := hA_.get 22 (by decide); have g27 := hA_.get 27 (by decide); exact OpStep.plain rfl (Step.pick (b := false) (p := (.one (.d (.bool false)))) (t := 28) rfl rfl (by exact lt_ok rfl) (show Env.ev E (.tmp 22) = _ from g22.trans rfl) rfl)) ?_
    refine .cons (fun E hA_ => by have g28 := hA_.get 28 (by decide); exact OpStep.plain rfl (Step.move (p := (.one (.d (.bool false)))) (t := 29) rfl rfl (by exact lt_ok rfl) (show Env.ev E (.tmp 28) = _ from g28.trans rfl))) ?_
    refine .cons (fun E hA_ => OpStep.off (t := 29) rfl rfl (lt_ok rfl) ((hA_.get 29 (by decide)).trans rfl) (by decide) rfl (lt_ok rfl)) ?_
    refine .cons (fun E hA_ => OpStep.off (t := 29) rfl rfl (lt_ok rfl) ((hA_.get 29 (by decide)).trans rfl) (by decide) rfl (lt_ok rfl)) ?_
    refine .cons (fun E hA_ => OpStep.off (t := 29) rfl rfl (lt_ok rfl) ((hA_.get 29 (by decide)).trans rfl) (by decide) rfl (lt_ok rfl)) ?_
    refine .cons (fun E hA_ => OpStep.off (t := 29) rfl rfl (lt_ok rfl) ((hA_.get 29 (by decide)).trans rfl) (by decide) rfl (lt_ok rfl)) ?_
    refine .cons (fun E hA_ => OpStep.off (t := 29) rfl rfl (lt_ok rfl) ((hA_.get 29 (by decide)).trans rfl) (by decide) rfl (lt_ok rfl)) ?_
    refine .cons (fun E hA_ => OpStep.off (t := 29) rfl rfl (lt_ok rfl) ((hA_.get 29 (by decide)).trans rfl) (by decide) rfl (lt_ok rfl)) ?_
    refine .cons (fun E hA_ => OpStep.off (t := 29) rfl rfl (lt_ok rfl) ((hA_.get 29 (by decide)).trans rfl) (by decide) rfl (lt_ok rfl)) ?_
    refine .cons (fun E hA_ => by have g29 := hA_.get 29 (by decide); have g36 := hA_.get 36 (by decide); exact OpStep.plain rfl (Step.pick (b := false) (p := (.one (.d (.bool false)))) (t := 37) rfl rfl (by exact lt_ok rfl) (show Env.ev E (.tmp 29) = _ from g29.trans rfl) rfl)) ?_
    refine .cons (fun E hA_ => by have g37 := hA_.get 37 (by decide); exact OpStep.plain rfl (Step.move (p := (.one (.d (.bool false)))) (t := 38) rfl rfl (by exact lt_ok rfl) (show Env.ev E (.tmp 37) = _ from g37.trans rfl))) ?_
    refine .cons (fun E hA_ => OpStep.off (t := 38) rfl rfl (lt_ok rfl) ((hA_.get 38 (by decide)).trans rfl) (by decide) rfl (lt_ok rfl)) ?_
    refine .cons (fun E hA_ => OpStep.off (t := 38) rfl rfl (lt_ok rfl) ((hA_.get 38 (by decide)).trans rfl) (by decide) rfl (lt_ok rfl)) ?_
    refine .cons (fun E hA_ => OpStep.off (t := 38) rfl rfl (lt_ok rfl) ((hA_.get 38 (by decide)).trans rfl) (by decide) rfl (lt_ok rfl)) ?_
    refine .cons (fun E hA_ => by have g38 := hA_.get 38 (by decide); have g41 := hA_.get 41 (by decide); exact OpStep.plain rfl (Step.pick (b := false) (p := (.one (.d (.bool false)))) (t := 42) rfl rfl (by exact lt_ok rfl) (show Env.ev E (.tmp 38) = _ from g38.trans rfl) rfl)) ?_
    refine .cons (fun E hA_ => by have g42 := hA_.get 42 (by decide); exact OpStep.plain rfl (Step.assign (p := (.one (.d (.bool false)))) (t := 4) rfl rfl (by exact lt_ok rfl) (show Env.ev E (.tmp 42) = _ from g42.trans rfl))) ?_
    exact .nil _ _
   refine TL.nil ?_
   refine T.ret ?_
   refine ⟨[(false, [.d (.bool false)])], (.cons rfl .nil), rfl, [], (RetC.rd' ?_ .nil)⟩ <;> (first | rfl | (congr 1; symm; simp only [qcOk, hashes, List.all_cons, List.all_nil, *, Bool.and_true, Bool.true_and, Bool.and_false, Bool.false_and, decide_true, decide_false, and_true, true_and, and_self, and_false, false_and, Bool.and_self, not_true, not_false, Bool.not_true, Bool.not_false, ge_iff_le, gt_iff_lt, if_true, if_false, Bool.false_eq_true, ite_true, ite_false, reduceIte]; done) | (congr 1; symm; simp_all [qcOk, hashes, List.all_cons, List.all_nil]; done) | (congr 1; symm; simp_all [qcOk, hashes, List.all_cons, List.all_nil]; omega))
 ·
  refine T.draw [⟨5, (.agg [.d (.int .i64 l.f0), .d (.int .i64 l.f1), .d (.int .i64 l.f2), .d (.int .i64 l.f3), .d (.int .i64 l.f4)]), []⟩, ⟨6, (.one (.d (.bool false))), []⟩, ⟨7, (.one (.d (.bool false))), []⟩, ⟨8, (.tup []), []⟩, ⟨9, (.tup []), []⟩, ⟨10, (.tup []), []⟩, ⟨11, (.one (.d (.bool false))), []⟩, ⟨12, (.one (.d (.bool false))), []⟩, ⟨13, (.tup []), []⟩, ⟨14, (.tup []), []⟩, ⟨15, (.tup []), []⟩, ⟨16, (.one (.d (.bool false))), []⟩, ⟨17, (.one (.d (.bool false))), []⟩, ⟨18, (.tup []), []⟩, ⟨19, (.tup []), []⟩, ⟨20, (.tup []), []⟩, ⟨21, (.one (.d (.bool false))), []⟩, ⟨22, (.one (.d (.bool false))), []⟩, ⟨23, (.tup []), []⟩, ⟨24, (.tup []), []⟩, ⟨25, (.tup []), []⟩, ⟨26, (.tup []), []⟩, ⟨27, (.tup []), []⟩, ⟨28, (.one (.d (.bool false))), []⟩, ⟨29, (.one (.d (.bool false))), []⟩, ⟨30, (.tup []), []⟩, ⟨31, (.tup []), []⟩, ⟨32, (.tup []), []⟩, ⟨33, (.tup []), []⟩, ⟨34, (.tup []), []⟩, ⟨35, (.tup []), []⟩, ⟨36, (.tup []), []⟩, ⟨37, (.one (.d (.bool false))), []⟩, ⟨38, (.one (.d (.bool false))), []⟩, ⟨39, (.tup []), []⟩, ⟨40, (.tup []), []⟩, ⟨41, (.tup []), []⟩, ⟨42, (.one (.d (.bool false))), []⟩, ⟨4, (.one (.d (.bool false))), []⟩] (by kernel_rfl) (by kernel_rfl) ?_ ?_
  ·
   refine .cons (fun E hA_ => by have g2 := hA_.get 2 (by decide); exact OpStep.plain rfl (Step.load_box_agg (n := 5) (qs := [.d (.int .i64 l.f0), .d (.int .i64 l.f1), .d (.int .i64 l.f2), .d (.int .i64 l.f3), .d (.int .i64 l.f4)]) (t := 5) rfl rfl (by exact lt_ok rfl) (by kernel_rfl) (show Env.ev E (.tmp 2) = _ from g2.trans rfl) (by exact hA_.box rfl) rfl rfl)) ?_
   refine .cons (fun E hA_ => by have g5 := hA_.get 5 (by decide); exact OpStep.plain rfl (Step.to (E1 := E.set 6 (.one (.d (.bool (limOk l))))) (congrArg (fun b_ => E.set 6 (.one (.d (.bool b_)))) hb1) (Step.call (f := 93) (xs := [.tmp 5]) (ps := [(.agg [.d (.int .i64 l.f0), .d (.int .i64 l.f1), .d (.int .i64 l.f2), .d (.int .i64 l.f3), .d (.int .i64 l.f4)])]) false (g := .func 93) (t := 6) rfl rfl (by exact lt_ok rfl) rfl (by kernel_rfl) (evs_cons (show Env.ev E (.tmp 5) = _ from g5.trans rfl) (rfl)) (.cons (.agg (.cons (.d _) (.cons (.d _) (.cons (.d _) (.cons (.d _) (.cons (.d _) .nil)))))) .nil) (ok_spec_LimitsOk l) (.inr rfl) (At.freshRows hA_ rfl) (by simp) rfl))) ?_
   refine .cons (fun E hA_ => by have g6 := hA_.get 6 (by decide); exact OpStep.plain rfl (Step.move (p := (.one (.d (.bool false)))) (t := 7) rfl rfl (by exact lt_ok rfl) (show Env.ev E (.tmp 6) = _ from g6.trans rfl))) ?_
   refine .cons (fun E hA_ => OpStep.off (t := 7) rfl rfl (lt_ok rfl) ((hA_.get 7 (by decide)).trans rfl) (by decide) rfl (lt_ok rfl)) ?_
   refine .cons (fun E hA_ => OpStep.off (t := 7) rfl rfl (lt_ok rfl) ((hA_.get 7 (by decide)).trans rfl) (by decide) rfl (lt_ok rfl)) ?_
   refine .cons (fun E hA_ => OpStep.off (t := 7) rfl rfl (lt_ok rfl) ((hA_.get 7 (by decide)).trans rfl) (by decide) rfl (lt_ok rfl)) ?_
   refine .cons (fun E hA_ => by have g7 := hA_.get 7 (by decide); have g10 := hA_.get 10 (by decide); exact OpStep.plain rfl (Step.pick (b := false) (p := (.one (.d (.bool false)))) (t := 11) rfl rfl (by exact lt_ok rfl) (show Env.ev E (.tmp 7) = _ from g7.trans rfl) rfl)) ?_
   refine .cons (fun E hA_ => by have g11 := hA_.get 11 (by decide); exact OpStep.plain rfl (Step.move (p := (.one (.d (.bool false)))) (t := 12) rfl rfl (by exact lt_ok rfl) (show Env.ev E (.tmp 11) = _ from g11.trans rfl))) ?_
   refine .cons (fun E hA_ => OpStep.off (t := 12) rfl rfl (lt_ok rfl) ((hA_.get 12 (by decide)).trans rfl) (by decide) rfl (lt_ok rfl)) ?_
   refine .cons (fun E hA_ => OpStep.off (t := 12) rfl rfl (lt_ok rfl) ((hA_.get 12 (by decide)).trans rfl) (by decide) rfl (lt_ok rfl)) ?_
   refine .cons (fun E hA_ => OpStep.off (t := 12) rfl rfl (lt_ok rfl) ((hA_.get 12 (by decide)).trans rfl) (by decide) rfl (lt_ok rfl)) ?_
   refine .cons (fun E hA_ => by have g12 := hA_.get 12 (by decide); have g15 := hA_.get 15 (by decide); exact OpStep.plain rfl (Step.pick (b := false) (p := (.one (.d (.bool false)))) (t := 16) rfl rfl (by exact lt_ok rfl) (show Env.ev E (.tmp 12) = _ from g12.trans rfl) rfl)) ?_
   refine .cons (fun E hA_ => by have g16 := hA_.get 16 (by decide); exact OpStep.plain rfl (Step.move (p := (.one (.d (.bool false)))) (t := 17) rfl rfl (by exact lt_ok rfl) (show Env.ev E (.tmp 16) = _ from g16.trans rfl))) ?_
   refine .cons (fun E hA_ => OpStep.off (t := 17) rfl rfl (lt_ok rfl) ((hA_.get 17 (by decide)).trans rfl) (by decide) rfl (lt_ok rfl)) ?_
   refine .cons (fun E hA_ => OpStep.off (t := 17) rfl rfl (lt_ok rfl) ((hA_.get 17 (by decide)).trans rfl) (by decide) rfl (lt_ok rfl)) ?_
   refine .cons (fun E hA_ => OpStep.off (t := 17) rfl rfl (lt_ok rfl) ((hA_.get 17 (by decide)).trans rfl) (by decide) rfl (lt_ok rfl)) ?_
   refine .cons (fun E hA_ => by have g17 := hA_.get 17 (by decide); have g20 := hA_.get 20 (by decide); exact OpStep.plain rfl (Step.pick (b := false) (p := (.one (.d (.bool false)))) (t := 21) rfl rfl (by exact lt_ok rfl) (show Env.ev E (.tmp 17) = _ from g17.trans rfl) rfl)) ?_
   refine .cons (fun E hA_ => by have g21 := hA_.get 21 (by decide); exact OpStep.plain rfl (Step.move (p := (.one (.d (.bool false)))) (t := 22) rfl rfl (by exact lt_ok rfl) (show Env.ev E (.tmp 21) = _ from g21.trans rfl))) ?_
   refine .cons (fun E hA_ => OpStep.off (t := 22) rfl rfl (lt_ok rfl) ((hA_.get 22 (by decide)).trans rfl) (by decide) rfl (lt_ok rfl)) ?_
   refine .cons (fun E hA_ => OpStep.off (t := 22) rfl rfl (lt_ok rfl) ((hA_.get 22 (by decide)).trans rfl) (by decide) rfl (lt_ok rfl)) ?_
   refine .cons (fun E hA_ => OpStep.off (t := 22) rfl rfl (lt_ok rfl) ((hA_.get 22 (by decide)).trans rfl) (by decide) rfl (lt_ok rfl)) ?_
   refine .cons (fun E hA_ => OpStep.off (t := 22) rfl rfl (lt_ok rfl) ((hA_.get 22 (by decide)).trans rfl) (by decide) rfl (lt_ok rfl)) ?_
   refine .cons (fun E hA_ => OpStep.off (t := 22) rfl rfl (lt_ok rfl) ((hA_.get 22 (by decide)).trans rfl) (by decide) rfl (lt_ok rfl)) ?_
   refine .cons (fun E hA_ => by have g22 := hA_.get 22 (by decide); have g27 := hA_.get 27 (by decide); exact OpStep.plain rfl (Step.pick (b := false) (p := (.one (.d (.bool false)))) (t := 28) rfl rfl (by exact lt_ok rfl) (show Env.ev E (.tmp 22) = _ from g22.trans rfl) rfl)) ?_
   refine .cons (fun E hA_ => by have g28 := hA_.get 28 (by decide); exact OpStep.plain rfl (Step.move (p := (.one (.d (.bool false)))) (t := 29) rfl rfl (by exact lt_ok rfl) (show Env.ev E (.tmp 28) = _ from g28.trans rfl))) ?_
   refine .cons (fun E hA_ => OpStep.off (t := 29) rfl rfl (lt_ok rfl) ((hA_.get 29 (by decide)).trans rfl) (by decide) rfl (lt_ok rfl)) ?_
   refine .cons (fun E hA_ => OpStep.off (t := 29) rfl rfl (lt_ok rfl) ((hA_.get 29 (by decide)).trans rfl) (by decide) rfl (lt_ok rfl)) ?_
   refine .cons (fun E hA_ => OpStep.off (t := 29) rfl rfl (lt_ok rfl) ((hA_.get 29 (by decide)).trans rfl) (by decide) rfl (lt_ok rfl)) ?_
   refine .cons (fun E hA_ => OpStep.off (t := 29) rfl rfl (lt_ok rfl) ((hA_.get 29 (by decide)).trans rfl) (by decide) rfl (lt_ok rfl)) ?_
   refine .cons (fun E hA_ => OpStep.off (t := 29) rfl rfl (lt_ok rfl) ((hA_.get 29 (by decide)).trans rfl) (by decide) rfl (lt_ok rfl)) ?_
   refine .cons (fun E hA_ => OpStep.off (t := 29) rfl rfl (lt_ok rfl) ((hA_.get 29 (by decide)).trans rfl) (by decide) rfl (lt_ok rfl)) ?_
   refine .cons (fun E hA_ => OpStep.off (t := 29) rfl rfl (lt_ok rfl) ((hA_.get 29 (by decide)).trans rfl) (by decide) rfl (lt_ok rfl)) ?_
   refine .cons (fun E hA_ => by have g29 := hA_.get 29 (by decide); have g36 := hA_.get 36 (by decide); exact OpStep.plain rfl (Step.pick (b := false) (p := (.one (.d (.bool false)))) (t := 37) rfl rfl (by exact lt_ok rfl) (show Env.ev E (.tmp 29) = _ from g29.trans rfl) rfl)) ?_
   refine .cons (fun E hA_ => by have g37 := hA_.get 37 (by decide); exact OpStep.plain rfl (Step.move (p := (.one (.d (.bool false)))) (t := 38) rfl rfl (by exact lt_ok rfl) (show Env.ev E (.tmp 37) = _ from g37.trans rfl))) ?_
   refine .cons (fun E hA_ => OpStep.off (t := 38) rfl rfl (lt_ok rfl) ((hA_.get 38 (by decide)).trans rfl) (by decide) rfl (lt_ok rfl)) ?_
   refine .cons (fun E hA_ => OpStep.off (t := 38) rfl rfl (lt_ok rfl) ((hA_.get 38 (by decide)).trans rfl) (by decide) rfl (lt_ok rfl)) ?_
   refine .cons (fun E hA_ => OpStep.off (t := 38) rfl rfl (lt_ok rfl) ((hA_.get 38 (by decide)).trans rfl) (by decide) rfl (lt_ok rfl)) ?_
   refine .cons (fun E hA_ => by have g38 := hA_.get 38 (by decide); have g41 := hA_.get 41 (by decide); exact OpStep.plain rfl (Step.pick (b := false) (p := (.one (.d (.bool false)))) (t := 42) rfl rfl (by exact lt_ok rfl) (show Env.ev E (.tmp 38) = _ from g38.trans rfl) rfl)) ?_
   refine .cons (fun E hA_ => by have g42 := hA_.get 42 (by decide); exact OpStep.plain rfl (Step.assign (p := (.one (.d (.bool false)))) (t := 4) rfl rfl (by exact lt_ok rfl) (show Env.ev E (.tmp 42) = _ from g42.trans rfl))) ?_
   exact .nil _ _
  refine TL.nil ?_
  refine T.ret ?_
  refine ⟨[(false, [.d (.bool false)])], (.cons rfl .nil), rfl, [], (RetC.rd' ?_ .nil)⟩ <;> (first | rfl | (congr 1; symm; simp only [qcOk, hashes, List.all_cons, List.all_nil, *, Bool.and_true, Bool.true_and, Bool.and_false, Bool.false_and, decide_true, decide_false, and_true, true_and, and_self, and_false, false_and, Bool.and_self, not_true, not_false, Bool.not_true, Bool.not_false, ge_iff_le, gt_iff_lt, if_true, if_false, Bool.false_eq_true, ite_true, ite_false, reduceIte]; done) | (congr 1; symm; simp_all [qcOk, hashes, List.all_cons, List.all_nil]; done) | (congr 1; symm; simp_all [qcOk, hashes, List.all_cons, List.all_nil]; omega))
theorem ok_spec_l13Fits (h : SHead) (h0_ : h.ok) : RO Try.prog 96 [.agg h.cells] [(false, [.rd (.bool (headFits h))])] := by
 refine RO.intro Try.func96 rfl 26 rfl (le_ok rfl) fun w Z => ?_
 obtain ⟨o0, o1, o2, o3, o4, o5, o6, o7, o8, o9⟩ := h0_
 refine T.seq ?_
 refine T.region ?_
 refine TL.cons rfl (Step.box (p := (.agg [.d (.int .i64 h.f0), .d (.int .i64 h.f1), .d (.int .i64 h.f2), .d (.ints .u8 h.f3), .d (.ints .u8 h.f4), .d (.int .i64 h.f5.f0), .d (.int .i64 h.f5.f1), .d (.ints .u8 h.f5.f2), .d (.ints .u8 h.f5.f3), .d (.bss h.f5.f4)])) (ps := [.d (.int .i64 h.f0), .d (.int .i64 h.f1), .d (.int .i64 h.f2), .d (.ints .u8 h.f3), .d (.ints .u8 h.f4), .d (.int .i64 h.f5.f0), .d (.int .i64 h.f5.f1), .d (.ints .u8 h.f5.f2), .d (.ints .u8 h.f5.f3), .d (.bss h.f5.f4)]) rfl rfl (lt_ok rfl) rfl rfl rfl rfl rfl) ?_
 refine TL.cons rfl (Step.assign (p := (.one (.d (.bool false)))) rfl rfl (lt_ok rfl) rfl) ?_
 refine TL.nil ?_
 refine T.seq ?_
 refine T.region ?_
 refine TL.cons rfl (Step.fieldAddr (q := 0) (off := 5) (n := 5) (one := false) rfl rfl (lt_ok rfl) (by kernel_rfl) (Nat.succ_ne_zero _) rfl) ?_
 refine TL.cons rfl (Step.fieldAddr (q := 5) (off := 0) (n := 1) (one := true) rfl rfl (lt_ok rfl) (by kernel_rfl) (Nat.succ_ne_zero _) rfl) ?_
 refine TL.cons rfl (Step.load_box (c := .d (.int .i64 h.f5.f0)) rfl rfl (lt_ok rfl) (by kernel_rfl) rfl rfl rfl) ?_
 refine TL.cons rfl (Step.fieldAddr (q := 0) (off := 0) (n := 1) (one := true) rfl rfl (lt_ok rfl) (by kernel_rfl) (Nat.succ_ne_zero _) rfl) ?_
 refine TL.cons rfl (Step.load_box (c := .d (.int .i64 h.f0)) rfl rfl (lt_ok rfl) (by kernel_rfl) rfl rfl rfl) ?_
 refine TL.cons rfl (Step.bin rfl rfl (lt_ok rfl) rfl rfl (Bin.lss (k := .i64) (a := h.f5.f0) (b := h.f0))) ?_
 refine TL.cons rfl (Step.move (p := (.one (.d (.bool (decide (h.f5.f0 < h.f0)))))) rfl rfl (lt_ok rfl) rfl) ?_
 rcases Bool.eq_false_or_eq_true (decide (h.f5.f0 < h.f0)) with hb1 | hb1
 ·
  refine TL.known 9 hb1 rfl ?_
  refine TL.gyes 9 rfl rfl (lt_ok rfl) rfl (Step.fieldAddr (q := 0) (off := 5) (n := 5) (one := false) rfl rfl (lt_ok rfl) (by kernel_rfl) (Nat.succ_ne_zero _) rfl) ?_
  refine TL.gyes 9 rfl rfl (lt_ok rfl) rfl (Step.fieldAddr (q := 5) (off := 1) (n := 1) (one := true) rfl rfl (lt_ok rfl) (by kernel_rfl) (Nat.succ_ne_zero _) rfl) ?_
  refine TL.gyes 9 rfl rfl (lt_ok rfl) rfl (Step.load_box (c := .d (.int .i64 h.f5.f1)) rfl rfl (lt_ok rfl) (by kernel_rfl) rfl rfl rfl) ?_
  refine TL.gyes 9 rfl rfl (lt_ok rfl) rfl (Step.fieldAddr (q := 0) (off := 1) (n := 1) (one := true) rfl rfl (lt_ok rfl) (by kernel_rfl) (Nat.succ_ne_zero _) rfl) ?_
  refine TL.gyes 9 rfl rfl (lt_ok rfl) rfl (Step.load_box (c := .d (.int .i64 h.f1)) rfl rfl (lt_ok rfl) (by kernel_rfl) rfl rfl rfl) ?_
  refine TL.gyes 9 rfl rfl (lt_ok rfl) rfl (Step.bin (r := .int .i64 (IntKind.i64.wrap (h.f1 - 1))) rfl rfl (lt_ok rfl) rfl rfl (Bin.sub (a := h.f1) (b := 1) (rfl))) ?_
  refine TL.gyes 9 rfl rfl (lt_ok rfl) rfl (Step.bin rfl rfl (lt_ok rfl) rfl rfl (Bin.eql (k := .i64) (a := h.f5.f1) (b := (IntKind.i64.wrap (h.f1 - 1))))) ?_
  refine TL.cons rfl (Step.pick (b := true) (p := (.one (.d (.bool (decide (h.f5.f1 = (IntKind.i64.wrap (h.f1 - 1)))))))) rfl rfl (lt_ok rfl) rfl rfl) ?_
  refine TL.cons rfl (Step.move (p := (.one (.d (.bool (decide (h.f5.f1 = (IntKind.i64.wrap (h.f1 - 1)))))))) rfl rfl (lt_ok rfl) rfl) ?_
  rcases Bool.eq_false_or_eq_true (decide (h.f5.f1 = (IntKind.i64.wrap (h.f1 - 1)))) with hb2 | hb2
  ·
   refine TL.known 18 hb2 rfl ?_
   refine TL.gyes 18 rfl rfl (lt_ok rfl) rfl (Step.fieldAddr (q := 0) (off := 5) (n := 5) (one := false) rfl rfl (lt_ok rfl) (by kernel_rfl) (Nat.succ_ne_zero _) rfl) ?_
   refine TL.gyes 18 rfl rfl (lt_ok rfl) rfl (Step.fieldAddr (q := 5) (off := 2) (n := 1) (one := true) rfl rfl (lt_ok rfl) (by kernel_rfl) (Nat.succ_ne_zero _) rfl) ?_
   refine TL.gyes 18 rfl rfl (lt_ok rfl) rfl (Step.load_box (c := .d (.ints .u8 h.f5.f2)) rfl rfl (lt_ok rfl) (by kernel_rfl) rfl rfl rfl) ?_
   refine TL.gyes 18 rfl rfl (lt_ok rfl) rfl (Step.fieldAddr (q := 0) (off := 3) (n := 1) (one := true) rfl rfl (lt_ok rfl) (by kernel_rfl) (Nat.succ_ne_zero _) rfl) ?_
   refine TL.gyes 18 rfl rfl (lt_ok rfl) rfl (Step.load_box (c := .d (.ints .u8 h.f3)) rfl rfl (lt_ok rfl) (by kernel_rfl) rfl rfl rfl) ?_
   refine TL.gyes 18 rfl rfl (lt_ok rfl) rfl (Step.call (f := 63) (xs := [.tmp 21, .tmp 23]) (ps := [(.one (.d (.ints .u8 h.f5.f2))), (.one (.d (.ints .u8 h.f3)))]) false (g := .func 63) rfl rfl (lt_ok rfl) rfl (by kernel_rfl) rfl (.cons (.one (.d _)) (.cons (.one (.d _)) .nil)) (ok_spec_SameBytes h.f5.f2 h.f3 (by first | assumption | omega) (by first | assumption | omega)) (.inr rfl) rfl (by simp) rfl) ?_
   refine TL.cons rfl (Step.pick (b := true) (p := (.one (.d (.bool (decide (h.f5.f2 = h.f3)))))) rfl rfl (lt_ok rfl) rfl rfl) ?_
   refine TL.cons rfl (Step.assign (p := (.one (.d (.bool (decide (h.f5.f2 = h.f3)))))) rfl rfl (lt_ok rfl) rfl) ?_
   refine TL.nil ?_
   refine T.ret ?_
   refine ⟨[(false, [.d (.bool (decide (h.f5.f2 = h.f3)))])], (.cons rfl .nil), rfl, [], (RetC.rd' ?_ .nil)⟩ <;> (first | rfl | (congr 1; symm; simp only [headFits, *, Bool.and_true, Bool.true_and, Bool.and_false, Bool.false_and, decide_true, decide_false, and_true, true_and, and_self, and_false, false_and, Bool.and_self, not_true, not_false, Bool.not_true, Bool.not_false, ge_iff_le, gt_iff_lt, if_true, if_false, Bool.false_eq_true, ite_true, ite_false, reduceIte]; done) | (congr 1; symm; simp_all [headFits]; done) | (congr 1; symm; simp_all [headFits]; omega))
  ·
   refine TL.known 18 hb2 rfl ?_
   refine TL.goff 18 rfl rfl (lt_ok rfl) rfl rfl rfl (lt_ok rfl) ?_
   refine TL.goff 18 rfl rfl (lt_ok rfl) rfl rfl rfl (lt_ok rfl) ?_
   refine TL.goff 18 rfl rfl (lt_ok rfl) rfl rfl rfl (lt_ok rfl) ?_
   refine TL.goff 18 rfl rfl (lt_ok rfl) rfl rfl rfl (lt_ok rfl) ?_
   refine TL.goff 18 rfl rfl (lt_ok rfl) rfl rfl rfl (lt_ok rfl) ?_
   refine TL.goff 18 rfl rfl (lt_ok rfl) rfl rfl rfl (lt_ok rfl) ?_
   refine TL.cons rfl (Step.pick (b := false) (p := (.one (.d (.bool false)))) rfl rfl (lt_ok rfl) rfl rfl) ?_
   refine TL.cons rfl (Step.assign (p := (.one (.d (.bool false)))) rfl rfl (lt_ok rfl) rfl) ?_
   refine TL.nil ?_
   refine T.ret ?_
   refine ⟨[(false, [.d (.bool false)])], (.cons rfl .nil), rfl, [], (RetC.rd' ?_ .nil)⟩ <;> (first | rfl | (congr 1; symm; simp only [headFits, *, Bool.and_true, Bool.true_and, Bool.and_false, Bool.false_and, decide_true, decide_false, and_true, true_and, and_self, and_false, false_and, Bool.and_self, not_true, not_false, Bool.not_true, Bool.not_false, ge_iff_le, gt_iff_lt, if_true, if_false, Bool.false_eq_true, ite_true, ite_false, reduceIte]; done) | (congr 1; symm; simp_all [headFits]; done) | (congr 1; symm; simp_all [headFits]; omega))
 ·
  refine TL.known 9 hb1 rfl ?_
  refine TL.goff 9 rfl rfl (lt_ok rfl) rfl rfl rfl (lt_ok rfl) ?_
  refine TL.goff 9 rfl rfl (lt_ok rfl) rfl rfl rfl (lt_ok rfl) ?_
  refine TL.goff 9 rfl rfl (lt_ok rfl) rfl rfl rfl (lt_ok rfl) ?_
  refine TL.goff 9 rfl rfl (lt_ok rfl) rfl rfl rfl (lt_ok rfl) ?_
  refine TL.goff 9 rfl rfl (lt_ok rfl) rfl rfl rfl (lt_ok rfl) ?_
  refine TL.goff 9 rfl rfl (lt_ok rfl) rfl rfl rfl (lt_ok rfl) ?_
  refine TL.goff 9 rfl rfl (lt_ok rfl) rfl rfl rfl (lt_ok rfl) ?_
  refine TL.cons rfl (Step.pick (b := false) (p := (.one (.d (.bool false)))) rfl rfl (lt_ok rfl) rfl rfl) ?_
  refine TL.cons rfl (Step.move (p := (.one (.d (.bool false)))) rfl rfl (lt_ok rfl) rfl) ?_
  refine TL.goff 18 rfl rfl (lt_ok rfl) rfl rfl rfl (lt_ok rfl) ?_
  refine TL.goff 18 rfl rfl (lt_ok rfl) rfl rfl rfl (lt_ok rfl) ?_
  refine TL.goff 18 rfl rfl (lt_ok rfl) rfl rfl rfl (lt_ok rfl) ?_
  refine TL.goff 18 rfl rfl (lt_ok rfl) rfl rfl rfl (lt_ok rfl) ?_
  refine TL.goff 18 rfl rfl (lt_ok rfl) rfl rfl rfl (lt_ok rfl) ?_
  refine TL.goff 18 rfl rfl (lt_ok rfl) rfl rfl rfl (lt_ok rfl) ?_
  refine TL.cons rfl (Step.pick (b := false) (p := (.one (.d (.bool false)))) rfl rfl (lt_ok rfl) rfl rfl) ?_
  refine TL.cons rfl (Step.assign (p := (.one (.d (.bool false)))) rfl rfl (lt_ok rfl) rfl) ?_
  refine TL.nil ?_
  refine T.ret ?_
  refine ⟨[(false, [.d (.bool false)])], (.cons rfl .nil), rfl, [], (RetC.rd' ?_ .nil)⟩ <;> (first | rfl | (congr 1; symm; simp only [headFits, *, Bool.and_true, Bool.true_and, Bool.and_false, Bool.false_and, decide_true, decide_false, and_true, true_and, and_self, and_false, false_and, Bool.and_self, not_true, not_false, Bool.not_true, Bool.not_false, ge_iff_le, gt_iff_lt, if_true, if_false, Bool.false_eq_true, ite_true, ite_false, reduceIte]; done) | (congr 1; symm; simp_all [headFits]; done) | (congr 1; symm; simp_all [headFits]; omega))
theorem ok_spec_HeadOk (l : SLimits) (h : SHead) (h0_ : h.ok) (h1_ : h.sm) : RO Try.prog 77 [.agg l.cells, .agg h.cells] [(false, [.rd (.bool (headOk l h))])] := by
 refine RO.intro Try.func77 rfl 45 rfl (le_ok rfl) fun w Z => ?_
 have hok_ := h0_
 have hsm_ := h1_
 obtain ⟨o0, o1, o2, o3, o4, o5⟩ := h0_
 obtain ⟨s0, s1, s2⟩ := h1_
 refine T.seq ?_
 refine T.region ?_
 refine TL.cons rfl (Step.box (p := (.agg [.d (.int .i64 l.f0), .d (.int .i64 l.f1), .d (.int .i64 l.f2), .d (.int .i64 l.f3), .d (.int .i64 l.f4)])) (ps := [.d (.int .i64 l.f0), .d (.int .i64 l.f1), .d (.int .i64 l.f2), .d (.int .i64 l.f3), .d (.int .i64 l.f4)]) rfl rfl (lt_ok rfl) rfl rfl rfl rfl rfl) ?_
 refine TL.cons rfl (Step.box (p := (.agg [.d (.int .i64 h.f0), .d (.int .i64 h.f1), .d (.int .i64 h.f2), .d (.ints .u8 h.f3), .d (.ints .u8 h.f4), .d (.int .i64 h.f5.f0), .d (.int .i64 h.f5.f1), .d (.ints .u8 h.f5.f2), .d (.ints .u8 h.f5.f3), .d (.bss h.f5.f4)])) (ps := [.d (.int .i64 h.f0), .d (.int .i64 h.f1), .d (.int .i64 h.f2), .d (.ints .u8 h.f3), .d (.ints .u8 h.f4), .d (.int .i64 h.f5.f0), .d (.int .i64 h.f5.f1), .d (.ints .u8 h.f5.f2), .d (.ints .u8 h.f5.f3), .d (.bss h.f5.f4)]) rfl rfl (lt_ok rfl) rfl rfl rfl rfl rfl) ?_
 refine TL.cons rfl (Step.assign (p := (.one (.d (.bool false)))) rfl rfl (lt_ok rfl) rfl) ?_
 refine TL.nil ?_
 refine T.seq ?_
 refine T.region ?_
 refine TL.cons rfl (Step.load_box_agg (n := 5) (qs := [.d (.int .i64 l.f0), .d (.int .i64 l.f1), .d (.int .i64 l.f2), .d (.int .i64 l.f3), .d (.int .i64 l.f4)]) rfl rfl (lt_ok rfl) (by kernel_rfl) rfl rfl rfl rfl) ?_
 refine TL.cons rfl (Step.call (f := 93) (xs := [.tmp 5]) (ps := [(.agg [.d (.int .i64 l.f0), .d (.int .i64 l.f1), .d (.int .i64 l.f2), .d (.int .i64 l.f3), .d (.int .i64 l.f4)])]) false (g := .func 93) rfl rfl (lt_ok rfl) rfl (by kernel_rfl) rfl (.cons (.agg (.cons (.d _) (.cons (.d _) (.cons (.d _) (.cons (.d _) (.cons (.d _) .nil)))))) .nil) (ok_spec_LimitsOk l) (.inr rfl) rfl (by simp) rfl) ?_
 refine TL.cons rfl (Step.move (p := (.one (.d (.bool (limOk l))))) rfl rfl (lt_ok rfl) rfl) ?_
 rcases Bool.eq_false_or_eq_true (limOk l) with hb1 | hb1
 ·
  refine TL.known 7 hb1 rfl ?_
  refine TL.gyes 7 rfl rfl (lt_ok rfl) rfl (Step.fieldAddr (q := 0) (off := 0) (n := 1) (one := true) rfl rfl (lt_ok rfl) (by kernel_rfl) (Nat.succ_ne_zero _) rfl) ?_
  refine TL.gyes 7 rfl rfl (lt_ok rfl) rfl (Step.load_box (c := .d (.int .i64 h.f0)) rfl rfl (lt_ok rfl) (by kernel_rfl) rfl rfl rfl) ?_
  refine TL.gyes 7 rfl rfl (lt_ok rfl) rfl (Step.call (f := 94) (xs := [.tmp 9]) (ps := [(.one (.d (.int .i64 h.f0)))]) false (g := .func 94) rfl rfl (lt_ok rfl) rfl (by kernel_rfl) rfl (.cons (.one (.d _)) .nil) (ok_spec_l01Num h.f0) (.inr rfl) rfl (by simp) rfl) ?_
  refine TL.cons rfl (Step.pick (b := true) (p := (.one (.d (.bool (decide (0 ≤ h.f0 ∧ h.f0 ≤ 1152921504606846975)))))) rfl rfl (lt_ok rfl) rfl rfl) ?_
  refine TL.cons rfl (Step.move (p := (.one (.d (.bool (decide (0 ≤ h.f0 ∧ h.f0 ≤ 1152921504606846975)))))) rfl rfl (lt_ok rfl) rfl) ?_
  rcases Bool.eq_false_or_eq_true (decide (0 ≤ h.f0 ∧ h.f0 ≤ 1152921504606846975)) with hb2 | hb2
  ·
   refine TL.known 12 hb2 rfl ?_
   refine TL.gyes 12 rfl rfl (lt_ok rfl) rfl (Step.fieldAddr (q := 0) (off := 1) (n := 1) (one := true) rfl rfl (lt_ok rfl) (by kernel_rfl) (Nat.succ_ne_zero _) rfl) ?_
   refine TL.gyes 12 rfl rfl (lt_ok rfl) rfl (Step.load_box (c := .d (.int .i64 h.f1)) rfl rfl (lt_ok rfl) (by kernel_rfl) rfl rfl rfl) ?_
   refine TL.gyes 12 rfl rfl (lt_ok rfl) rfl (Step.call (f := 59) (xs := [.tmp 14, .const (.int .i64 1), .const (.int .i64 1152921504606846975)]) (ps := [(.one (.d (.int .i64 h.f1))), (.one (.d (.int .i64 1))), (.one (.d (.int .i64 1152921504606846975)))]) false (g := .func 59) rfl rfl (lt_ok rfl) rfl (by kernel_rfl) rfl (.cons (.one (.d _)) (.cons (.one (.d _)) (.cons (.one (.d _)) .nil))) (ok_spec_l01In h.f1 1 1152921504606846975) (.inr rfl) rfl (by simp) rfl) ?_
   refine TL.cons rfl (Step.pick (b := true) (p := (.one (.d (.bool (decide (1 ≤ h.f1 ∧ h.f1 ≤ 1152921504606846975)))))) rfl rfl (lt_ok rfl) rfl rfl) ?_
   refine TL.cons rfl (Step.move (p := (.one (.d (.bool (decide (1 ≤ h.f1 ∧ h.f1 ≤ 1152921504606846975)))))) rfl rfl (lt_ok rfl) rfl) ?_
   rcases Bool.eq_false_or_eq_true (decide (1 ≤ h.f1 ∧ h.f1 ≤ 1152921504606846975)) with hb3 | hb3
   ·
    refine TL.known 17 hb3 rfl ?_
    refine TL.gyes 17 rfl rfl (lt_ok rfl) rfl (Step.fieldAddr (q := 0) (off := 2) (n := 1) (one := true) rfl rfl (lt_ok rfl) (by kernel_rfl) (Nat.succ_ne_zero _) rfl) ?_
    refine TL.gyes 17 rfl rfl (lt_ok rfl) rfl (Step.load_box (c := .d (.int .i64 h.f2)) rfl rfl (lt_ok rfl) (by kernel_rfl) rfl rfl rfl) ?_
    refine TL.gyes 17 rfl rfl (lt_ok rfl) rfl (Step.fieldAddr (q := 0) (off := 0) (n := 1) (one := true) rfl rfl (lt_ok rfl) (by kernel_rfl) (Nat.succ_ne_zero _) rfl) ?_
    refine TL.gyes 17 rfl rfl (lt_ok rfl) rfl (Step.load_box (c := .d (.int .i64 l.f0)) rfl rfl (lt_ok rfl) (by kernel_rfl) rfl rfl rfl) ?_
    refine TL.gyes 17 rfl rfl (lt_ok rfl) rfl (Step.bin (r := .int .i64 (IntKind.i64.wrap (l.f0 - 1))) rfl rfl (lt_ok rfl) rfl rfl (Bin.sub (a := l.f0) (b := 1) (rfl))) ?_
    refine TL.gyes 17 rfl rfl (lt_ok rfl) rfl (Step.call (f := 59) (xs := [.tmp 19, .const (.int .i64 0), .tmp 22]) (ps := [(.one (.d (.int .i64 h.f2))), (.one (.d (.int .i64 0))), (.one (.d (.int .i64 (IntKind.i64.wrap (l.f0 - 1)))))]) false (g := .func 59) rfl rfl (lt_ok rfl) rfl (by kernel_rfl) rfl (.cons (.one (.d _)) (.cons (.one (.d _)) (.cons (.one (.d _)) .nil))) (ok_spec_l01In h.f2 0 (IntKind.i64.wrap (l.f0 - 1))) (.inr rfl) rfl (by simp) rfl) ?_
    refine TL.cons rfl (Step.pick (b := true) (p := (.one (.d (.bool (decide (0 ≤ h.f2 ∧ h.f2 ≤ (IntKind.i64.wrap (l.f0 - 1)))))))) rfl rfl (lt_ok rfl) rfl rfl) ?_
    refine TL.cons rfl (Step.move (p := (.one (.d (.bool (decide (0 ≤ h.f2 ∧ h.f2 ≤ (IntKind.i64.wrap (l.f0 - 1)))))))) rfl rfl (lt_ok rfl) rfl) ?_
    rcases Bool.eq_false_or_eq_true (decide (0 ≤ h.f2 ∧ h.f2 ≤ (IntKind.i64.wrap (l.f0 - 1)))) with hb4 | hb4
    ·
     refine TL.known 25 hb4 rfl ?_
     refine TL.gyes 25 rfl rfl (lt_ok rfl) rfl (Step.fieldAddr (q := 0) (off := 3) (n := 1) (one := true) rfl rfl (lt_ok rfl) (by kernel_rfl) (Nat.succ_ne_zero _) rfl) ?_
     refine TL.gyes 25 rfl rfl (lt_ok rfl) rfl (Step.load_box (c := .d (.ints .u8 h.f3)) rfl rfl (lt_ok rfl) (by kernel_rfl) rfl rfl rfl) ?_
     refine TL.gyes 25 rfl rfl (lt_ok rfl) rfl (Step.call (f := 65) (xs := [.tmp 27]) (ps := [(.one (.d (.ints .u8 h.f3)))]) false (g := .func 65) rfl rfl (lt_ok rfl) rfl (by kernel_rfl) rfl (.cons (.one (.d _)) .nil) (ok_spec_l07Hash h.f3) (.inr rfl) rfl (by simp) rfl) ?_
     refine TL.cons rfl (Step.pick (b := true) (p := (.one (.d (.bool (decide ((h.f3.length : Int) = 32)))))) rfl rfl (lt_ok rfl) rfl rfl) ?_
     refine TL.cons rfl (Step.move (p := (.one (.d (.bool (decide ((h.f3.length : Int) = 32)))))) rfl rfl (lt_ok rfl) rfl) ?_
     rcases Bool.eq_false_or_eq_true (decide ((h.f3.length : Int) = 32)) with hb5 | hb5
     ·
      refine TL.known 30 hb5 rfl ?_
      refine TL.gyes 30 rfl rfl (lt_ok rfl) rfl (Step.fieldAddr (q := 0) (off := 4) (n := 1) (one := true) rfl rfl (lt_ok rfl) (by kernel_rfl) (Nat.succ_ne_zero _) rfl) ?_
      refine TL.gyes 30 rfl rfl (lt_ok rfl) rfl (Step.load_box (c := .d (.ints .u8 h.f4)) rfl rfl (lt_ok rfl) (by kernel_rfl) rfl rfl rfl) ?_
      refine TL.gyes 30 rfl rfl (lt_ok rfl) rfl (Step.call (f := 65) (xs := [.tmp 32]) (ps := [(.one (.d (.ints .u8 h.f4)))]) false (g := .func 65) rfl rfl (lt_ok rfl) rfl (by kernel_rfl) rfl (.cons (.one (.d _)) .nil) (ok_spec_l07Hash h.f4) (.inr rfl) rfl (by simp) rfl) ?_
      refine TL.cons rfl (Step.pick (b := true) (p := (.one (.d (.bool (decide ((h.f4.length : Int) = 32)))))) rfl rfl (lt_ok rfl) rfl rfl) ?_
      refine TL.cons rfl (Step.move (p := (.one (.d (.bool (decide ((h.f4.length : Int) = 32)))))) rfl rfl (lt_ok rfl) rfl) ?_
      rcases Bool.eq_false_or_eq_true (decide ((h.f4.length : Int) = 32)) with hb6 | hb6
      ·
       refine TL.known 35 hb6 rfl ?_
       refine TL.gyes 35 rfl rfl (lt_ok rfl) rfl (Step.load_box_agg (n := 5) (qs := [.d (.int .i64 l.f0), .d (.int .i64 l.f1), .d (.int .i64 l.f2), .d (.int .i64 l.f3), .d (.int .i64 l.f4)]) rfl rfl (lt_ok rfl) (by kernel_rfl) rfl rfl rfl rfl) ?_
       refine TL.gyes 35 rfl rfl (lt_ok rfl) rfl (Step.fieldAddr (q := 0) (off := 5) (n := 5) (one := false) rfl rfl (lt_ok rfl) (by kernel_rfl) (Nat.succ_ne_zero _) rfl) ?_
       refine TL.gyes 35 rfl rfl (lt_ok rfl) rfl (Step.load_box_agg (n := 5) (qs := [.d (.int .i64 h.f5.f0), .d (.int .i64 h.f5.f1), .d (.ints .u8 h.f5.f2), .d (.ints .u8 h.f5.f3), .d (.bss h.f5.f4)]) rfl rfl (lt_ok rfl) (by kernel_rfl) rfl rfl rfl rfl) ?_
       refine TL.gyes 35 rfl rfl (lt_ok rfl) rfl (Step.call (f := 95) (xs := [.tmp 36, .tmp 38]) (ps := [(.agg [.d (.int .i64 l.f0), .d (.int .i64 l.f1), .d (.int .i64 l.f2), .d (.int .i64 l.f3), .d (.int .i64 l.f4)]), (.agg [.d (.int .i64 h.f5.f0), .d (.int .i64 h.f5.f1), .d (.ints .u8 h.f5.f2), .d (.ints .u8 h.f5.f3), .d (.bss h.f5.f4)])]) false (g := .func 95) rfl rfl (lt_ok rfl) rfl (by kernel_rfl) rfl (.cons (.agg (.cons (.d _) (.cons (.d _) (.cons (.d _) (.cons (.d _) (.cons (.d _) .nil)))))) (.cons (.agg (.cons (.d _) (.cons (.d _) (.cons (.d _) (.cons (.d _) (.cons (.d _) .nil)))))) .nil)) (ok_spec_QcOk l h.f5 (by assumption) (by assumption)) (.inr rfl) rfl (by simp) rfl) ?_
       refine TL.cons rfl (Step.pick (b := true) (p := (.one (.d (.bool (qcOk l h.f5))))) rfl rfl (lt_ok rfl) rfl rfl) ?_
       refine TL.cons rfl (Step.move (p := (.one (.d (.bool (qcOk l h.f5))))) rfl rfl (lt_ok rfl) rfl) ?_
       rcases Bool.eq_false_or_eq_true (qcOk l h.f5) with hb7 | hb7
       ·
        refine TL.known 41 hb7 rfl ?_
        refine TL.gyes 41 rfl rfl (lt_ok rfl) rfl (Step.load_box_agg (n := 10) (qs := [.d (.int .i64 h.f0), .d (.int .i64 h.f1), .d (.int .i64 h.f2), .d (.ints .u8 h.f3), .d (.ints .u8 h.f4), .d (.int .i64 h.f5.f0), .d (.int .i64 h.f5.f1), .d (.ints .u8 h.f5.f2), .d (.ints .u8 h.f5.f3), .d (.bss h.f5.f4)]) rfl rfl (lt_ok rfl) (by kernel_rfl) rfl rfl rfl rfl) ?_
        refine TL.gyes 41 rfl rfl (lt_ok rfl) rfl (Step.call (f := 96) (xs := [.tmp 42]) (ps := [(.agg [.d (.int .i64 h.f0), .d (.int .i64 h.f1), .d (.int .i64 h.f2), .d (.ints .u8 h.f3), .d (.ints .u8 h.f4), .d (.int .i64 h.f5.f0), .d (.int .i64 h.f5.f1), .d (.ints .u8 h.f5.f2), .d (.ints .u8 h.f5.f3), .d (.bss h.f5.f4)])]) false (g := .func 96) rfl rfl (lt_ok rfl) rfl (by kernel_rfl) rfl (.cons (.agg (.cons (.d _) (.cons (.d _) (.cons (.d _) (.cons (.d _) (.cons (.d _) (.cons (.d _) (.cons (.d _) (.cons (.d _) (.cons (.d _) (.cons (.d _) .nil))))))))))) .nil) (ok_spec_l13Fits h (by first | assumption | exact rdHead_ok (l := l) (s := s) h0_)) (.inr rfl) rfl (by simp) rfl) ?_
        refine TL.cons rfl (Step.pick (b := true) (p := (.one (.d (.bool (headFits h))))) rfl rfl (lt_ok rfl) rfl rfl) ?_
        refine TL.cons rfl (Step.assign (p := (.one (.d (.bool (headFits h))))) rfl rfl (lt_ok rfl) rfl) ?_
        refine TL.nil ?_
        refine T.weaken (E' := { tm := [(4, (.one (.d (.bool (headFits h)))))], rows := [], boxes := [] }) (Env.le_mk ⟨by kernel_rfl, trivial⟩ trivial trivial) ?_
        refine T.ret ?_
        refine ⟨[(false, [.d (.bool (headFits h))])], (.cons rfl .nil), rfl, [], (RetC.rd' ?_ .nil)⟩ <;> (first | (congr 1; symm; unfold headOk; rw [qcOk_no (q := h.f5) (by assumption)]; simp only [Bool.false_and]; done) | first | rfl | (congr 1; symm; simp only [headOk, *, Bool.and_true, Bool.true_and, Bool.and_false, Bool.false_and, decide_true, decide_false, and_true, true_and, and_self, and_false, false_and, Bool.and_self, not_true, not_false, Bool.not_true, Bool.not_false, ge_iff_le, gt_iff_lt, if_true, if_false, Bool.false_eq_true, ite_true, ite_false, reduceIte]; done) | (congr 1; symm; simp_all [headOk]; done) | (congr 1; symm; simp_all [headOk]; omega))
       ·
        refine TL.known 41 hb7 rfl ?_
        refine TL.goff 41 rfl rfl (lt_ok rfl) rfl rfl rfl (lt_ok rfl) ?_
        refine TL.goff 41 rfl rfl (lt_ok rfl) rfl rfl rfl (lt_ok rfl) ?_
        refine TL.cons rfl (Step.pick (b := false) (p := (.one (.d (.bool false)))) rfl rfl (lt_ok rfl) rfl rfl) ?_
        refine TL.cons rfl (Step.assign (p := (.one (.d (.bool false)))) rfl rfl (lt_ok rfl) rfl) ?_
        refine TL.nil ?_
        refine T.weaken (E' := { tm := [(4, (.one (.d (.bool false))))], rows := [], boxes := [] }) (Env.le_mk ⟨by kernel_rfl, trivial⟩ trivial trivial) ?_
        refine T.ret ?_
        refine ⟨[(false, [.d (.bool false)])], (.cons rfl .nil), rfl, [], (RetC.rd' ?_ .nil)⟩ <;> (first | (congr 1; symm; unfold headOk; rw [qcOk_no (q := h.f5) (by assumption)]; simp only [Bool.false_and]; done) | first | rfl | (congr 1; symm; simp only [headOk, *, Bool.and_true, Bool.true_and, Bool.and_false, Bool.false_and, decide_true, decide_false, and_true, true_and, and_self, and_false, false_and, Bool.and_self, not_true, not_false, Bool.not_true, Bool.not_false, ge_iff_le, gt_iff_lt, if_true, if_false, Bool.false_eq_true, ite_true, ite_false, reduceIte]; done) | (congr 1; symm; simp_all [headOk]; done) | (congr 1; symm; simp_all [headOk]; omega))
      ·
       refine TL.known 35 hb6 rfl ?_
       refine TL.goff 35 rfl rfl (lt_ok rfl) rfl rfl rfl (lt_ok rfl) ?_
       refine TL.goff 35 rfl rfl (lt_ok rfl) rfl rfl rfl (lt_ok rfl) ?_
       refine TL.goff 35 rfl rfl (lt_ok rfl) rfl rfl rfl (lt_ok rfl) ?_
       refine TL.goff 35 rfl rfl (lt_ok rfl) rfl rfl rfl (lt_ok rfl) ?_
       refine TL.cons rfl (Step.pick (b := false) (p := (.one (.d (.bool false)))) rfl rfl (lt_ok rfl) rfl rfl) ?_
       refine TL.cons rfl (Step.move (p := (.one (.d (.bool false)))) rfl rfl (lt_ok rfl) rfl) ?_
       refine TL.goff 41 rfl rfl (lt_ok rfl) rfl rfl rfl (lt_ok rfl) ?_
       refine TL.goff 41 rfl rfl (lt_ok rfl) rfl rfl rfl (lt_ok rfl) ?_
       refine TL.cons rfl (Step.pick (b := false) (p := (.one (.d (.bool false)))) rfl rfl (lt_ok rfl) rfl rfl) ?_
       refine TL.cons rfl (Step.assign (p := (.one (.d (.bool false)))) rfl rfl (lt_ok rfl) rfl) ?_
       refine TL.nil ?_
       refine T.ret ?_
       refine ⟨[(false, [.d (.bool false)])], (.cons rfl .nil), rfl, [], (RetC.rd' ?_ .nil)⟩ <;> (first | (congr 1; symm; unfold headOk; rw [qcOk_no (q := h.f5) (by assumption)]; simp only [Bool.false_and]; done) | first | rfl | (congr 1; symm; simp only [headOk, *, Bool.and_true, Bool.true_and, Bool.and_false, Bool.false_and, decide_true, decide_false, and_true, true_and, and_self, and_false, false_and, Bool.and_self, not_true, not_false, Bool.not_true, Bool.not_false, ge_iff_le, gt_iff_lt, if_true, if_false, Bool.false_eq_true, ite_true, ite_false, reduceIte]; done) | (congr 1; symm; simp_all [headOk]; done) | (congr 1; symm; simp_all [headOk]; omega))
     ·
      refine TL.known 30 hb5 rfl ?_
      refine TL.goff 30 rfl rfl (lt_ok rfl) rfl rfl rfl (lt_ok rfl) ?_
      refine TL.goff 30 rfl rfl (lt_ok rfl) rfl rfl rfl (lt_ok rfl) ?_
      refine TL.goff 30 rfl rfl (lt_ok rfl) rfl rfl rfl (lt_ok rfl) ?_
      refine TL.cons rfl (Step.pick (b := false) (p := (.one (.d (.bool false)))) rfl rfl (lt_ok rfl) rfl rfl) ?_
      refine TL.cons rfl (Step.move (p := (.one (.d (.bool false)))) rfl rfl (lt_ok rfl) rfl) ?_
      refine TL.goff 35 rfl rfl (lt_ok rfl) rfl rfl rfl (lt_ok rfl) ?_
      refine TL.goff 35 rfl rfl (lt_ok rfl) rfl rfl rfl (lt_ok rfl) ?_
      refine TL.goff 35 rfl rfl (lt_ok rfl) rfl rfl rfl (lt_ok rfl) ?_
      refine TL.goff 35 rfl rfl (lt_ok rfl) rfl rfl rfl (lt_ok rfl) ?_
      refine TL.cons rfl (Step.pick (b := false) (p := (.one (.d (.bool false)))) rfl rfl (lt_ok rfl) rfl rfl) ?_
      refine TL.cons rfl (Step.move (p := (.one (.d (.bool false)))) rfl rfl (lt_ok rfl) rfl) ?_
      refine TL.goff 41 rfl rfl (lt_ok rfl) rfl rfl rfl (lt_ok rfl) ?_
      refine TL.goff 41 rfl rfl (lt_ok rfl) rfl rfl rfl (lt_ok rfl) ?_
      refine TL.cons rfl (Step.pick (b := false) (p := (.one (.d (.bool false)))) rfl rfl (lt_ok rfl) rfl rfl) ?_
      refine TL.cons rfl (Step.assign (p := (.one (.d (.bool false)))) rfl rfl (lt_ok rfl) rfl) ?_
      refine TL.nil ?_
      refine T.ret ?_
      refine ⟨[(false, [.d (.bool false)])], (.cons rfl .nil), rfl, [], (RetC.rd' ?_ .nil)⟩ <;> (first | (congr 1; symm; unfold headOk; rw [qcOk_no (q := h.f5) (by assumption)]; simp only [Bool.false_and]; done) | first | rfl | (congr 1; symm; simp only [headOk, *, Bool.and_true, Bool.true_and, Bool.and_false, Bool.false_and, decide_true, decide_false, and_true, true_and, and_self, and_false, false_and, Bool.and_self, not_true, not_false, Bool.not_true, Bool.not_false, ge_iff_le, gt_iff_lt, if_true, if_false, Bool.false_eq_true, ite_true, ite_false, reduceIte]; done) | (congr 1; symm; simp_all [headOk]; done) | (congr 1; symm; simp_all [headOk]; omega))
    ·
     refine TL.known 25 hb4 rfl ?_
     refine TL.goff 25 rfl rfl (lt_ok rfl) rfl rfl rfl (lt_ok rfl) ?_
     refine TL.goff 25 rfl rfl (lt_ok rfl) rfl rfl rfl (lt_ok rfl) ?_
     refine TL.goff 25 rfl rfl (lt_ok rfl) rfl rfl rfl (lt_ok rfl) ?_
     refine TL.cons rfl (Step.pick (b := false) (p := (.one (.d (.bool false)))) rfl rfl (lt_ok rfl) rfl rfl) ?_
     refine TL.cons rfl (Step.move (p := (.one (.d (.bool false)))) rfl rfl (lt_ok rfl) rfl) ?_
     refine TL.goff 30 rfl rfl (lt_ok rfl) rfl rfl rfl (lt_ok rfl) ?_
     refine TL.goff 30 rfl rfl (lt_ok rfl) rfl rfl rfl (lt_ok rfl) ?_
     refine TL.goff 30 rfl rfl (lt_ok rfl) rfl rfl rfl (lt_ok rfl) ?_
     refine TL.cons rfl (Step.pick (b := false) (p := (.one (.d (.bool false)))) rfl rfl (lt_ok rfl) rfl rfl) ?_
     refine TL.cons rfl (Step.move (p := (.one (.d (.bool false)))) rfl rfl (lt_ok rfl) rfl) ?_
     refine TL.goff 35 rfl rfl (lt_ok rfl) rfl rfl rfl (lt_ok rfl) ?_
     refine TL.goff 35 rfl rfl (lt_ok rfl) rfl rfl rfl (lt_ok rfl) ?_
     refine TL.goff 35 rfl rfl (lt_ok rfl) rfl rfl rfl (lt_ok rfl) ?_
     refine TL.goff 35 rfl rfl (lt_ok rfl) rfl rfl rfl (lt_ok rfl) ?_
     refine TL.cons rfl (Step.pick (b := false) (p := (.one (.d (.bool false)))) rfl rfl (lt_ok rfl) rfl rfl) ?_
     refine TL.cons rfl (Step.move (p := (.one (.d (.bool false)))) rfl rfl (lt_ok rfl) rfl) ?_
     refine TL.goff 41 rfl rfl (lt_ok rfl) rfl rfl rfl (lt_ok rfl) ?_
     refine TL.goff 41 rfl rfl (lt_ok rfl) rfl rfl rfl (lt_ok rfl) ?_
     refine TL.cons rfl (Step.pick (b := false) (p := (.one (.d (.bool false)))) rfl rfl (lt_ok rfl) rfl rfl) ?_
     refine TL.cons rfl (Step.assign (p := (.one (.d (.bool false)))) rfl rfl (lt_ok rfl) rfl) ?_
     refine TL.nil ?_
     refine T.ret ?_
     refine ⟨[(false, [.d (.bool false)])], (.cons rfl .nil), rfl, [], (RetC.rd' ?_ .nil)⟩ <;> (first | (congr 1; symm; unfold headOk; rw [qcOk_no (q := h.f5) (by assumption)]; simp only [Bool.false_and]; done) | first | rfl | (congr 1; symm; simp only [headOk, *, Bool.and_true, Bool.true_and, Bool.and_false, Bool.false_and, decide_true, decide_false, and_true, true_and, and_self, and_false, false_and, Bool.and_self, not_true, not_false, Bool.not_true, Bool.not_false, ge_iff_le, gt_iff_lt, if_true, if_false, Bool.false_eq_true, ite_true, ite_false, reduceIte]; done) | (congr 1; symm; simp_all [headOk]; done) | (congr 1; symm; simp_all [headOk]; omega))
   ·
    refine TL.known 17 hb3 rfl ?_
    refine TL.goff 17 rfl rfl (lt_ok rfl) rfl rfl rfl (lt_ok rfl) ?_
    refine TL.goff 17 rfl rfl (lt_ok rfl) rfl rfl rfl (lt_ok rfl) ?_
    refine TL.goff 17 rfl rfl (lt_ok rfl) rfl rfl rfl (lt_ok rfl) ?_
    refine TL.goff 17 rfl rfl (lt_ok rfl) rfl rfl rfl (lt_ok rfl) ?_
    refine TL.goff 17 rfl rfl (lt_ok rfl) rfl rfl rfl (lt_ok rfl) ?_
    refine TL.goff 17 rfl rfl (lt_ok rfl) rfl rfl rfl (lt_ok rfl) ?_
    refine TL.cons rfl (Step.pick (b := false) (p := (.one (.d (.bool false)))) rfl rfl (lt_ok rfl) rfl rfl) ?_
    refine TL.cons rfl (Step.move (p := (.one (.d (.bool false)))) rfl rfl (lt_ok rfl) rfl) ?_
    refine TL.goff 25 rfl rfl (lt_ok rfl) rfl rfl rfl (lt_ok rfl) ?_
    refine TL.goff 25 rfl rfl (lt_ok rfl) rfl rfl rfl (lt_ok rfl) ?_
    refine TL.goff 25 rfl rfl (lt_ok rfl) rfl rfl rfl (lt_ok rfl) ?_
    refine TL.cons rfl (Step.pick (b := false) (p := (.one (.d (.bool false)))) rfl rfl (lt_ok rfl) rfl rfl) ?_
    refine TL.cons rfl (Step.move (p := (.one (.d (.bool false)))) rfl rfl (lt_ok rfl) rfl) ?_
    refine TL.goff 30 rfl rfl (lt_ok rfl) rfl rfl rfl (lt_ok rfl) ?_
    refine TL.goff 30 rfl rfl (lt_ok rfl) rfl rfl rfl (lt_ok rfl) ?_
    refine TL.goff 30 rfl rfl (lt_ok rfl) rfl rfl rfl (lt_ok rfl) ?_
    refine TL.cons rfl (Step.pick (b := false) (p := (.one (.d (.bool false)))) rfl rfl (lt_ok rfl) rfl rfl) ?_
    refine TL.cons rfl (Step.move (p := (.one (.d (.bool false)))) rfl rfl (lt_ok rfl) rfl) ?_
    refine TL.goff 35 rfl rfl (lt_ok rfl) rfl rfl rfl (lt_ok rfl) ?_
    refine TL.goff 35 rfl rfl (lt_ok rfl) rfl rfl rfl (lt_ok rfl) ?_
    refine TL.goff 35 rfl rfl (lt_ok rfl) rfl rfl rfl (lt_ok rfl) ?_
    refine TL.goff 35 rfl rfl (lt_ok rfl) rfl rfl rfl (lt_ok rfl) ?_
    refine TL.cons rfl (Step.pick (b := false) (p := (.one (.d (.bool false)))) rfl rfl (lt_ok rfl) rfl rfl) ?_
    refine TL.cons rfl (Step.move (p := (.one (.d (.bool false)))) rfl rfl (lt_ok rfl) rfl) ?_
    refine TL.goff 41 rfl rfl (lt_ok rfl) rfl rfl rfl (lt_ok rfl) ?_
    refine TL.goff 41 rfl rfl (lt_ok rfl) rfl rfl rfl (lt_ok rfl) ?_
    refine TL.cons rfl (Step.pick (b := false) (p := (.one (.d (.bool false)))) rfl rfl (lt_ok rfl) rfl rfl) ?_
    refine TL.cons rfl (Step.assign (p := (.one (.d (.bool false)))) rfl rfl (lt_ok rfl) rfl) ?_
    refine TL.nil ?_
    refine T.ret ?_
    refine ⟨[(false, [.d (.bool false)])], (.cons rfl .nil), rfl, [], (RetC.rd' ?_ .nil)⟩ <;> (first | (congr 1; symm; unfold headOk; rw [qcOk_no (q := h.f5) (by assumption)]; simp only [Bool.false_and]; done) | first | rfl | (congr 1; symm; simp only [headOk, *, Bool.and_true, Bool.true_and, Bool.and_false, Bool.false_and, decide_true, decide_false, and_true, true_and, and_self, and_false, false_and, Bool.and_self, not_true, not_false, Bool.not_true, Bool.not_false, ge_iff_le, gt_iff_lt, if_true, if_false, Bool.false_eq_true, ite_true, ite_false, reduceIte]; done) | (congr 1; symm; simp_all [headOk]; done) | (congr 1; symm; simp_all [headOk]; omega))
  ·
   refine TL.known 12 hb2 rfl ?_
   refine TL.goff 12 rfl rfl (lt_ok rfl) rfl rfl rfl (lt_ok rfl) ?_
   refine TL.goff 12 rfl rfl (lt_ok rfl) rfl rfl rfl (lt_ok rfl) ?_
   refine TL.goff 12 rfl rfl (lt_ok rfl) rfl rfl rfl (lt_ok rfl) ?_
   refine TL.cons rfl (Step.pick (b := false) (p := (.one (.d (.bool false)))) rfl rfl (lt_ok rfl) rfl rfl) ?_
   refine TL.cons rfl (Step.move (p := (.one (.d (.bool false)))) rfl rfl (lt_ok rfl) rfl) ?_
   refine TL.goff 17 rfl rfl (lt_ok rfl) rfl rfl rfl (lt_ok rfl) ?_
   refine TL.goff 17 rfl rfl (lt_ok rfl) rfl rfl rfl (lt_ok rfl) ?_
   refine TL.goff 17 rfl rfl (lt_ok rfl) rfl rfl rfl (lt_ok rfl) ?_
   refine TL.goff 17 rfl rfl (lt_ok rfl) rfl rfl rfl (lt_ok rfl) ?_
   refine TL.goff 17 rfl rfl (lt_ok rfl) rfl rfl rfl (lt_ok rfl) ?_
   refine TL.goff 17 rfl rfl (lt_ok rfl) rfl rfl rfl (lt_ok rfl) ?_
   refine TL.cons rfl (Step.pick (b := false) (p := (.one (.d (.bool false)))) rfl rfl (lt_ok rfl) rfl rfl) ?_
   refine TL.cons rfl (Step.move (p := (.one (.d (.bool false)))) rfl rfl (lt_ok rfl) rfl) ?_
   refine TL.goff 25 rfl rfl (lt_ok rfl) rfl rfl rfl (lt_ok rfl) ?_
   refine TL.goff 25 rfl rfl (lt_ok rfl) rfl rfl rfl (lt_ok rfl) ?_
   refine TL.goff 25 rfl rfl (lt_ok rfl) rfl rfl rfl (lt_ok rfl) ?_
   refine TL.cons rfl (Step.pick (b := false) (p := (.one (.d (.bool false)))) rfl rfl (lt_ok rfl) rfl rfl) ?_
   refine TL.cons rfl (Step.move (p := (.one (.d (.bool false)))) rfl rfl (lt_ok rfl) rfl) ?_
   refine TL.goff 30 rfl rfl (lt_ok rfl) rfl rfl rfl (lt_ok rfl) ?_
   refine TL.goff 30 rfl rfl (lt_ok rfl) rfl rfl rfl (lt_ok rfl) ?_
   refine TL.goff 30 rfl rfl (lt_ok rfl) rfl rfl rfl (lt_ok rfl) ?_
   refine TL.cons rfl (Step.pick (b := false) (p := (.one (.d (.bool false)))) rfl rfl (lt_ok rfl) rfl rfl) ?_
   refine TL.cons rfl (Step.move (p := (.one (.d (.bool false)))) rfl rfl (lt_ok rfl) rfl) ?_
   refine TL.goff 35 rfl rfl (lt_ok rfl) rfl rfl rfl (lt_ok rfl) ?_
   refine TL.goff 35 rfl rfl (lt_ok rfl) rfl rfl rfl (lt_ok rfl) ?_
   refine TL.goff 35 rfl rfl (lt_ok rfl) rfl rfl rfl (lt_ok rfl) ?_
   refine TL.goff 35 rfl rfl (lt_ok rfl) rfl rfl rfl (lt_ok rfl) ?_
   refine TL.cons rfl (Step.pick (b := false) (p := (.one (.d (.bool false)))) rfl rfl (lt_ok rfl) rfl rfl) ?_
   refine TL.cons rfl (Step.move (p := (.one (.d (.bool false)))) rfl rfl (lt_ok rfl) rfl) ?_
   refine TL.goff 41 rfl rfl (lt_ok rfl) rfl rfl rfl (lt_ok rfl) ?_
   refine TL.goff 41 rfl rfl (lt_ok rfl) rfl rfl rfl (lt_ok rfl) ?_
   refine TL.cons rfl (Step.pick (b := false) (p := (.one (.d (.bool false)))) rfl rfl (lt_ok rfl) rfl rfl) ?_
   refine TL.cons rfl (Step.assign (p := (.one (.d (.bool false)))) rfl rfl (lt_ok rfl) rfl) ?_
   refine TL.nil ?_
   refine T.ret ?_
   refine ⟨[(false, [.d (.bool false)])], (.cons rfl .nil), rfl, [], (RetC.rd' ?_ .nil)⟩ <;> (first | (congr 1; symm; unfold headOk; rw [qcOk_no (q := h.f5) (by assumption)]; simp only [Bool.false_and]; done) | first | rfl | (congr 1; symm; simp only [headOk, *, Bool.and_true, Bool.true_and, Bool.and_false, Bool.false_and, decide_true, decide_false, and_true, true_and, and_self, and_false, false_and, Bool.and_self, not_true, not_false, Bool.not_true, Bool.not_false, ge_iff_le, gt_iff_lt, if_true, if_false, Bool.false_eq_true, ite_true, ite_false, reduceIte]; done) | (congr 1; symm; simp_all [headOk]; done) | (congr 1; symm; simp_all [headOk]; omega))
 ·
  refine TL.known 7 hb1 rfl ?_
  refine TL.goff 7 rfl rfl (lt_ok rfl) rfl rfl rfl (lt_ok rfl) ?_
  refine TL.goff 7 rfl rfl (lt_ok rfl) rfl rfl rfl (lt_ok rfl) ?_
  refine TL.goff 7 rfl rfl (lt_ok rfl) rfl rfl rfl (lt_ok rfl) ?_
  refine TL.cons rfl (Step.pick (b := false) (p := (.one (.d (.bool false)))) rfl rfl (lt_ok rfl) rfl rfl) ?_
  refine TL.cons rfl (Step.move (p := (.one (.d (.bool false)))) rfl rfl (lt_ok rfl) rfl) ?_
  refine TL.goff 12 rfl rfl (lt_ok rfl) rfl rfl rfl (lt_ok rfl) ?_
  refine TL.goff 12 rfl rfl (lt_ok rfl) rfl rfl rfl (lt_ok rfl) ?_
  refine TL.goff 12 rfl rfl (lt_ok rfl) rfl rfl rfl (lt_ok rfl) ?_
  refine TL.cons rfl (Step.pick (b := false) (p := (.one (.d (.bool false)))) rfl rfl (lt_ok rfl) rfl rfl) ?_
  refine TL.cons rfl (Step.move (p := (.one (.d (.bool false)))) rfl rfl (lt_ok rfl) rfl) ?_
  refine TL.goff 17 rfl rfl (lt_ok rfl) rfl rfl rfl (lt_ok rfl) ?_
  refine TL.goff 17 rfl rfl (lt_ok rfl) rfl rfl rfl (lt_ok rfl) ?_
  refine TL.goff 17 rfl rfl (lt_ok rfl) rfl rfl rfl (lt_ok rfl) ?_
  refine TL.goff 17 rfl rfl (lt_ok rfl) rfl rfl rfl (lt_ok rfl) ?_
  refine TL.goff 17 rfl rfl (lt_ok rfl) rfl rfl rfl (lt_ok rfl) ?_
  refine TL.goff 17 rfl rfl (lt_ok rfl) rfl rfl rfl (lt_ok rfl) ?_
  refine TL.cons rfl (Step.pick (b := false) (p := (.one (.d (.bool false)))) rfl rfl (lt_ok rfl) rfl rfl) ?_
  refine TL.cons rfl (Step.move (p := (.one (.d (.bool false)))) rfl rfl (lt_ok rfl) rfl) ?_
  refine TL.goff 25 rfl rfl (lt_ok rfl) rfl rfl rfl (lt_ok rfl) ?_
  refine TL.goff 25 rfl rfl (lt_ok rfl) rfl rfl rfl (lt_ok rfl) ?_
  refine TL.goff 25 rfl rfl (lt_ok rfl) rfl rfl rfl (lt_ok rfl) ?_
  refine TL.cons rfl (Step.pick (b := false) (p := (.one (.d (.bool false)))) rfl rfl (lt_ok rfl) rfl rfl) ?_
  refine TL.cons rfl (Step.move (p := (.one (.d (.bool false)))) rfl rfl (lt_ok rfl) rfl) ?_
  refine TL.goff 30 rfl rfl (lt_ok rfl) rfl rfl rfl (lt_ok rfl) ?_
  refine TL.goff 30 rfl rfl (lt_ok rfl) rfl rfl rfl (lt_ok rfl) ?_
  refine TL.goff 30 rfl rfl (lt_ok rfl) rfl rfl rfl (lt_ok rfl) ?_
  refine TL.cons rfl (Step.pick (b := false) (p := (.one (.d (.bool false)))) rfl rfl (lt_ok rfl) rfl rfl) ?_
  refine TL.cons rfl (Step.move (p := (.one (.d (.bool false)))) rfl rfl (lt_ok rfl) rfl) ?_
  refine TL.goff 35 rfl rfl (lt_ok rfl) rfl rfl rfl (lt_ok rfl) ?_
  refine TL.goff 35 rfl rfl (lt_ok rfl) rfl rfl rfl (lt_ok rfl) ?_
  refine TL.goff 35 rfl rfl (lt_ok rfl) rfl rfl rfl (lt_ok rfl) ?_
  refine TL.goff 35 rfl rfl (lt_ok rfl) rfl rfl rfl (lt_ok rfl) ?_
  refine TL.cons rfl (Step.pick (b := false) (p := (.one (.d (.bool false)))) rfl rfl (lt_ok rfl) rfl rfl) ?_
  refine TL.cons rfl (Step.move (p := (.one (.d (.bool false)))) rfl rfl (lt_ok rfl) rfl) ?_
  refine TL.goff 41 rfl rfl (lt_ok rfl) rfl rfl rfl (lt_ok rfl) ?_
  refine TL.goff 41 rfl rfl (lt_ok rfl) rfl rfl rfl (lt_ok rfl) ?_
  refine TL.cons rfl (Step.pick (b := false) (p := (.one (.d (.bool false)))) rfl rfl (lt_ok rfl) rfl rfl) ?_
  refine TL.cons rfl (Step.assign (p := (.one (.d (.bool false)))) rfl rfl (lt_ok rfl) rfl) ?_
  refine TL.nil ?_
  refine T.ret ?_
  refine ⟨[(false, [.d (.bool false)])], (.cons rfl .nil), rfl, [], (RetC.rd' ?_ .nil)⟩ <;> (first | (congr 1; symm; unfold headOk; rw [qcOk_no (q := h.f5) (by assumption)]; simp only [Bool.false_and]; done) | first | rfl | (congr 1; symm; simp only [headOk, *, Bool.and_true, Bool.true_and, Bool.and_false, Bool.false_and, decide_true, decide_false, and_true, true_and, and_self, and_false, false_and, Bool.and_self, not_true, not_false, Bool.not_true, Bool.not_false, ge_iff_le, gt_iff_lt, if_true, if_false, Bool.false_eq_true, ite_true, ite_false, reduceIte]; done) | (congr 1; symm; simp_all [headOk]; done) | (congr 1; symm; simp_all [headOk]; omega))
theorem ok_spec_BlockOk (l : SLimits) (x : SBlock) (h0_ : x.ok) (h1_ : x.sm) : RO Try.prog 38 [.agg l.cells, .agg x.cells] [(false, [.rd (.bool (blockOk l x))])] := by
 refine RO.intro Try.func38 rfl 40 rfl (le_ok rfl) fun w Z => ?_
 refine T.bnd 1 3 rfl rfl fun hb_1_3 => ?_
 simp only [D.size, List.length_map] at hb_1_3
 refine T.bnd 1 4 rfl rfl fun hb_1_4 => ?_
 simp only [D.size, List.length_map] at hb_1_4
 refine T.bnd 1 7 rfl rfl fun hb_1_7 => ?_
 simp only [D.size, List.length_map] at hb_1_7
 refine T.bnd 1 8 rfl rfl fun hb_1_8 => ?_
 simp only [D.size, List.length_map] at hb_1_8
 refine T.bnd 1 9 rfl rfl fun hb_1_9 => ?_
 simp only [D.size, List.length_map] at hb_1_9
 refine T.bnd 1 10 rfl rfl fun hb_1_10 => ?_
 simp only [D.size, List.length_map] at hb_1_10
 have hok_ := h0_
 have hsm_ := h1_
 obtain ⟨o0, o1⟩ := h0_
 obtain ⟨s0, s1⟩ := h1_
 have hrt_ := treeRoot_u8 x.f1
 have ho4_ := o0.2.2.2.2.1
 refine T.seq ?_
 refine T.region ?_
 refine TL.cons rfl (Step.box (p := (.agg [.d (.int .i64 l.f0), .d (.int .i64 l.f1), .d (.int .i64 l.f2), .d (.int .i64 l.f3), .d (.int .i64 l.f4)])) (ps := [.d (.int .i64 l.f0), .d (.int .i64 l.f1), .d (.int .i64 l.f2), .d (.int .i64 l.f3), .d (.int .i64 l.f4)]) rfl rfl (lt_ok rfl) rfl rfl rfl rfl rfl) ?_
 refine TL.cons rfl (Step.box (p := (.agg [.d (.int .i64 x.f0.f0), .d (.int .i64 x.f0.f1), .d (.int .i64 x.f0.f2), .d (.ints .u8 x.f0.f3), .d (.ints .u8 x.f0.f4), .d (.int .i64 x.f0.f5.f0), .d (.int .i64 x.f0.f5.f1), .d (.ints .u8 x.f0.f5.f2), .d (.ints .u8 x.f0.f5.f3), .d (.bss x.f0.f5.f4), .d (.bss x.f1)])) (ps := [.d (.int .i64 x.f0.f0), .d (.int .i64 x.f0.f1), .d (.int .i64 x.f0.f2), .d (.ints .u8 x.f0.f3), .d (.ints .u8 x.f0.f4), .d (.int .i64 x.f0.f5.f0), .d (.int .i64 x.f0.f5.f1), .d (.ints .u8 x.f0.f5.f2), .d (.ints .u8 x.f0.f5.f3), .d (.bss x.f0.f5.f4), .d (.bss x.f1)]) rfl rfl (lt_ok rfl) rfl rfl rfl rfl rfl) ?_
 refine TL.cons rfl (Step.assign (p := (.one (.d (.bool false)))) rfl rfl (lt_ok rfl) rfl) ?_
 refine TL.nil ?_
 refine T.seq ?_
 refine T.seq ?_
 refine T.region ?_
 refine TL.cons rfl (Step.load_box_agg (n := 5) (qs := [.d (.int .i64 l.f0), .d (.int .i64 l.f1), .d (.int .i64 l.f2), .d (.int .i64 l.f3), .d (.int .i64 l.f4)]) rfl rfl (lt_ok rfl) (by kernel_rfl) rfl rfl rfl rfl) ?_
 refine TL.cons rfl (Step.fieldAddr (q := 0) (off := 0) (n := 10) (one := false) rfl rfl (lt_ok rfl) (by kernel_rfl) (Nat.succ_ne_zero _) rfl) ?_
 refine TL.cons rfl (Step.load_box_agg (n := 10) (qs := [.d (.int .i64 x.f0.f0), .d (.int .i64 x.f0.f1), .d (.int .i64 x.f0.f2), .d (.ints .u8 x.f0.f3), .d (.ints .u8 x.f0.f4), .d (.int .i64 x.f0.f5.f0), .d (.int .i64 x.f0.f5.f1), .d (.ints .u8 x.f0.f5.f2), .d (.ints .u8 x.f0.f5.f3), .d (.bss x.f0.f5.f4)]) rfl rfl (lt_ok rfl) (by kernel_rfl) rfl rfl rfl rfl) ?_
 refine TL.cons rfl (Step.call (f := 77) (xs := [.tmp 7, .tmp 9]) (ps := [(.agg [.d (.int .i64 l.f0), .d (.int .i64 l.f1), .d (.int .i64 l.f2), .d (.int .i64 l.f3), .d (.int .i64 l.f4)]), (.agg [.d (.int .i64 x.f0.f0), .d (.int .i64 x.f0.f1), .d (.int .i64 x.f0.f2), .d (.ints .u8 x.f0.f3), .d (.ints .u8 x.f0.f4), .d (.int .i64 x.f0.f5.f0), .d (.int .i64 x.f0.f5.f1), .d (.ints .u8 x.f0.f5.f2), .d (.ints .u8 x.f0.f5.f3), .d (.bss x.f0.f5.f4)])]) false (g := .func 77) rfl rfl (lt_ok rfl) rfl (by kernel_rfl) rfl (.cons (.agg (.cons (.d _) (.cons (.d _) (.cons (.d _) (.cons (.d _) (.cons (.d _) .nil)))))) (.cons (.agg (.cons (.d _) (.cons (.d _) (.cons (.d _) (.cons (.d _) (.cons (.d _) (.cons (.d _) (.cons (.d _) (.cons (.d _) (.cons (.d _) (.cons (.d _) .nil))))))))))) .nil)) (ok_spec_HeadOk l x.f0 (by first | assumption | exact mem_getD o0 (by omega) | exact mem_getD h0_ (by omega)) (by first | assumption | exact mem_getD s0.2 (by omega) | exact mem_getD h1_ (by omega))) (.inr rfl) rfl (by simp) rfl) ?_
 refine TL.cons rfl (Step.not (b := (headOk l x.f0)) rfl rfl (lt_ok rfl) rfl) ?_
 refine TL.cons rfl (Step.move (p := (.one (.d (.bool (!(headOk l x.f0)))))) rfl rfl (lt_ok rfl) rfl) ?_
 rcases Bool.eq_false_or_eq_true (!(headOk l x.f0)) with hb1 | hb1
 ·
  refine TL.known 12 hb1 rfl ?_
  have hb1' := hb1
  replace hb1' : (headOk l x.f0) = false := by simpa only [Bool.not_eq_true', Bool.not_eq_false'] using hb1'
  refine TL.goff 12 rfl rfl (lt_ok rfl) rfl rfl rfl (lt_ok rfl) ?_
  refine TL.goff 12 rfl rfl (lt_ok rfl) rfl rfl rfl (lt_ok rfl) ?_
  refine TL.goff 12 rfl rfl (lt_ok rfl) rfl rfl rfl (lt_ok rfl) ?_
  refine TL.goff 12 rfl rfl (lt_ok rfl) rfl rfl rfl (lt_ok rfl) ?_
  refine TL.goff 12 rfl rfl (lt_ok rfl) rfl rfl rfl (lt_ok rfl) ?_
  refine TL.goff 12 rfl rfl (lt_ok rfl) rfl rfl rfl (lt_ok rfl) ?_
  refine TL.cons rfl (Step.pick (b := true) (p := (.one (.d (.bool true)))) rfl rfl (lt_ok rfl) rfl rfl) ?_
  refine TL.nil ?_
  refine T.cond (b := true) rfl (fun h2_ => ?_) (fun h2_ => absurd h2_ (by simp))
  refine T.seq ?_
  refine T.region ?_
  refine TL.cons rfl (Step.assign (p := (.one (.d (.bool false)))) rfl rfl (lt_ok rfl) rfl) ?_
  refine TL.nil ?_
  refine T.ret ?_
  refine ⟨[(false, [.d (.bool false)])], (.cons rfl .nil), rfl, [], (RetC.rd' ?_ .nil)⟩ <;> ((congr 1; symm; first | (unfold blockOk; rw [txsOk_no (i := i) (by omega) (by omega)]; simp; done) | (rw [List.take_of_length_le (by omega)] at hx2; rw [blockOk_mk (by assumption) (by omega) hx2]; first | done | rfl | assumption | exact decide_eq_true ‹_› | exact decide_eq_false ‹_›) | (rw [List.take_of_length_le (by omega)] at hx2; simp_all [blockOk]; done) | (simp_all [blockOk]; done) | (rw [List.take_of_length_le (by omega)] at hx2; simp_all [blockOk]; omega) | (simp_all [blockOk]; omega)))
 ·
  refine TL.known 12 hb1 rfl ?_
  have hb1' := hb1
  replace hb1' : (headOk l x.f0) = true := by simpa only [Bool.not_eq_true', Bool.not_eq_false'] using hb1'
  refine TL.gyes 12 rfl rfl (lt_ok rfl) rfl (Step.fieldAddr (q := 0) (off := 10) (n := 1) (one := true) rfl rfl (lt_ok rfl) (by kernel_rfl) (Nat.succ_ne_zero _) rfl) ?_
  refine TL.gyes 12 rfl rfl (lt_ok rfl) rfl (Step.load_box (c := .d (.bss x.f1)) rfl rfl (lt_ok rfl) (by kernel_rfl) rfl rfl rfl) ?_
  refine TL.gyes 12 rfl rfl (lt_ok rfl) rfl (Step.len (e := 22) (z := 1) (d := (.bss x.f1)) rfl rfl (lt_ok rfl) (by kernel_rfl) rfl rfl) ?_
  refine TL.gyes 12 rfl rfl (lt_ok rfl) rfl (Step.fieldAddr (q := 0) (off := 2) (n := 1) (one := true) rfl rfl (lt_ok rfl) (by kernel_rfl) (Nat.succ_ne_zero _) rfl) ?_
  refine TL.gyes 12 rfl rfl (lt_ok rfl) rfl (Step.load_box (c := .d (.int .i64 l.f2)) rfl rfl (lt_ok rfl) (by kernel_rfl) rfl rfl rfl) ?_
  refine TL.gyes 12 rfl rfl (lt_ok rfl) rfl (Step.bin rfl rfl (lt_ok rfl) rfl rfl (Bin.gtr (k := .i64) (a := (x.f1.length : Int)) (b := l.f2))) ?_
  refine TL.cons rfl (Step.pick (b := false) (p := (.one (.d (.bool (decide (l.f2 < (x.f1.length : Int))))))) rfl rfl (lt_ok rfl) rfl rfl) ?_
  refine TL.nil ?_
  refine T.cond (b := decide (l.f2 < (x.f1.length : Int))) rfl (fun h3 => ?_) (fun h3 => ?_)
  ·
   replace h3 := of_decide_eq_true h3
   refine T.seq ?_
   refine T.region ?_
   refine TL.cons rfl (Step.assign (p := (.one (.d (.bool false)))) rfl rfl (lt_ok rfl) rfl) ?_
   refine TL.nil ?_
   refine T.ret ?_
   refine ⟨[(false, [.d (.bool false)])], (.cons rfl .nil), rfl, [], (RetC.rd' ?_ .nil)⟩ <;> ((congr 1; symm; first | (unfold blockOk; rw [txsOk_no (i := i) (by omega) (by omega)]; simp; done) | (rw [List.take_of_length_le (by omega)] at hx2; rw [blockOk_mk (by assumption) (by omega) hx2]; first | done | rfl | assumption | exact decide_eq_true ‹_› | exact decide_eq_false ‹_›) | (rw [List.take_of_length_le (by omega)] at hx2; simp_all [blockOk]; done) | (simp_all [blockOk]; done) | (rw [List.take_of_length_le (by omega)] at hx2; simp_all [blockOk]; omega) | (simp_all [blockOk]; omega)))
  ·
   replace h3 := of_decide_eq_false h3
   refine T.skip ?_
   refine T.seq ?_
   refine T.seq ?_
   refine T.region ?_
   refine TL.cons rfl (Step.fieldAddr (q := 0) (off := 10) (n := 1) (one := true) rfl rfl (lt_ok rfl) (by kernel_rfl) (Nat.succ_ne_zero _) rfl) ?_
   refine TL.cons rfl (Step.load_box (c := .d (.bss x.f1)) rfl rfl (lt_ok rfl) (by kernel_rfl) rfl rfl rfl) ?_
   refine TL.cons rfl (Step.len (e := 22) (z := 1) (d := (.bss x.f1)) rfl rfl (lt_ok rfl) (by kernel_rfl) rfl rfl) ?_
   refine TL.cons rfl (Step.move (p := (.one (.d (.int .i64 0)))) rfl rfl (lt_ok rfl) rfl) ?_
   refine TL.nil ?_
   refine T.block ?_
   refine T.loop (ι := Nat) (fun xx_ => { tm := [(2, (.one (.ptr 2 0))), (3, (.one (.ptr 3 0))), (21, (.one (.d (.bss x.f1)))), (22, (.one (.d (.int .i64 (x.f1.length : Int))))), (23, (.one (.d (.int .i64 (xx_ : Int)))))], rows := [], boxes := [(2, (55, [.d (.int .i64 l.f0), .d (.int .i64 l.f1), .d (.int .i64 l.f2), .d (.int .i64 l.f3), .d (.int .i64 l.f4)])), (3, (61, [.d (.int .i64 x.f0.f0), .d (.int .i64 x.f0.f1), .d (.int .i64 x.f0.f2), .d (.ints .u8 x.f0.f3), .d (.ints .u8 x.f0.f4), .d (.int .i64 x.f0.f5.f0), .d (.int .i64 x.f0.f5.f1), .d (.ints .u8 x.f0.f5.f2), .d (.ints .u8 x.f0.f5.f3), .d (.bss x.f0.f5.f4), .d (.bss x.f1)]))] }) (fun xx_ => xx_ ≤ x.f1.length ∧ txsOk l (x.f1.take xx_) = true) (fun xx_ => x.f1.length - xx_) 0 ?_ ?_ ?_
   · refine Env.le_mk ⟨rfl, rfl, rfl, rfl, ?_, trivial⟩ trivial ⟨rfl, rfl, trivial⟩ <;> (first | rfl | (simp; done) | (congr 3; omega))
   · exact ⟨Nat.zero_le _, by rw [List.take_zero]; rfl⟩
   ·
    intro i hx
    try dsimp only at hx ⊢
    obtain ⟨hx1, hx2⟩ := hx
    refine T.seq ?_
    refine T.region ?_
    refine TL.cons rfl (Step.bin rfl rfl (lt_ok rfl) rfl rfl (Bin.lss (k := .i64) (a := (i : Int)) (b := (x.f1.length : Int)))) ?_
    refine TL.nil ?_
    refine T.seq ?_
    refine T.cond (b := decide ((i : Int) < (x.f1.length : Int))) rfl (fun h4 => ?_) (fun h4 => ?_)
    ·
     replace h4 := of_decide_eq_true h4
     refine T.skip ?_
     refine T.seq ?_
     refine T.block ?_
     refine T.seq ?_
     refine T.region ?_
     refine TL.cons rfl (Step.index (e := 22) (z := 1) (i := (i : Int)) rfl rfl (lt_ok rfl) (by kernel_rfl) rfl rfl rfl (lt_ok rfl) rfl (by first | omega | (simp; omega)) (by simp only [D.size]; first | omega | (simp; omega))) ?_
     refine TL.cons rfl (Step.load (e := (.ints .u8 (x.f1.getD i []))) rfl rfl (lt_ok rfl) (by kernel_rfl) rfl rfl) ?_
     refine TL.cons rfl (Step.assign (p := (.one (.d (.ints .u8 (x.f1.getD i []))))) rfl rfl (lt_ok rfl) rfl) ?_
     refine TL.nil ?_
     refine T.seq ?_
     refine T.region ?_
     refine TL.cons rfl (Step.move (p := (.one (.d (.ints .u8 (x.f1.getD i []))))) rfl rfl (lt_ok rfl) rfl) ?_
     refine TL.cons rfl (Step.len (e := 5) (z := 1) (d := (.ints .u8 (x.f1.getD i []))) rfl rfl (lt_ok rfl) (by kernel_rfl) rfl rfl) ?_
     refine TL.cons rfl (Step.fieldAddr (q := 0) (off := 1) (n := 1) (one := true) rfl rfl (lt_ok rfl) (by kernel_rfl) (Nat.succ_ne_zero _) rfl) ?_
     refine TL.cons rfl (Step.load_box (c := .d (.int .i64 l.f1)) rfl rfl (lt_ok rfl) (by kernel_rfl) rfl rfl rfl) ?_
     refine TL.cons rfl (Step.bin rfl rfl (lt_ok rfl) rfl rfl (Bin.gtr (k := .i64) (a := ((x.f1.getD i []).length : Int)) (b := l.f1))) ?_
     refine TL.nil ?_
     refine T.cond (b := decide (l.f1 < ((x.f1.getD i []).length : Int))) rfl (fun h5 => ?_) (fun h5 => ?_)
     ·
      replace h5 := of_decide_eq_true h5
      refine T.seq ?_
      refine T.region ?_
      refine TL.cons rfl (Step.assign (p := (.one (.d (.bool false)))) rfl rfl (lt_ok rfl) rfl) ?_
      refine TL.nil ?_
      refine T.ret ?_
      refine ⟨[(false, [.d (.bool false)])], (.cons rfl .nil), rfl, [], (RetC.rd' ?_ .nil)⟩ <;> ((congr 1; symm; first | (unfold blockOk; rw [txsOk_no (i := i) (by omega) (by omega)]; simp; done) | (rw [List.take_of_length_le (by omega)] at hx2; rw [blockOk_mk (by assumption) (by omega) hx2]; first | done | rfl | assumption | exact decide_eq_true ‹_› | exact decide_eq_false ‹_›) | (rw [List.take_of_length_le (by omega)] at hx2; simp_all [blockOk]; done) | (simp_all [blockOk]; done) | (rw [List.take_of_length_le (by omega)] at hx2; simp_all [blockOk]; omega) | (simp_all [blockOk]; omega)))
     ·
      replace h5 := of_decide_eq_false h5
      refine T.skip ?_
      refine T.region ?_
      refine TL.cons rfl (Step.bin (r := .int .i64 ((i : Int) + 1)) rfl rfl (lt_ok rfl) rfl rfl (Bin.add (a := (i : Int)) (b := 1) (by first | exact wrap_ok (by first | omega | (simp; omega)) (by first | omega | (simp; omega)) | rfl))) ?_
      refine TL.cons rfl (Step.move (p := (.one (.d (.int .i64 ((i : Int) + 1))))) rfl rfl (lt_ok rfl) rfl) ?_
      refine TL.nil ?_
      refine ⟨i + 1, by (refine ⟨by omega, txsOk_step (by omega) hx2 (by omega)⟩), by first | omega | (dsimp only; omega), Env.le_mk ⟨rfl, rfl, rfl, rfl, ?_, trivial⟩ trivial ⟨rfl, rfl, trivial⟩⟩ <;> (first | rfl | (simp; done) | (congr 3; omega))
    ·
     replace h4 := of_decide_eq_false h4
     refine T.exit ?_
     refine T.seq ?_
     have nn6 := treeRoot_len x.f1
     have nn7 := treeRoot_u8 x.f1
     refine T.draw [⟨33, (.one (.ptr 3 0)), []⟩, ⟨34, (.one (.ptr 3 4)), []⟩, ⟨35, (.one (.d (.ints .u8 x.f0.f4))), []⟩, ⟨36, (.one (.ptr 3 10)), []⟩, ⟨37, (.one (.d (.bss x.f1))), []⟩, ⟨38, (.one (.row 1038 [])), [(1038, (5, (.ints .u8 (treeRoot x.f1))))]⟩, ⟨39, (.one (.d (.bool (decide (x.f0.f4 = (treeRoot x.f1)))))), []⟩, ⟨4, (.one (.d (.bool (decide (x.f0.f4 = (treeRoot x.f1)))))), []⟩] (by kernel_rfl) (by kernel_rfl) ?_ ?_
     ·
      refine .cons (fun E hA_ => by have g3 := hA_.get 3 (by decide); exact OpStep.plain rfl (Step.fieldAddr (q := 0) (off := 0) (n := 10) (one := false) (t := 33) rfl rfl (by exact lt_ok rfl) (by kernel_rfl) (Nat.succ_ne_zero _) (show Env.ev E (.tmp 3) = _ from g3.trans rfl))) ?_
      refine .cons (fun E hA_ => by have g33 := hA_.get 33 (by decide); exact OpStep.plain rfl (Step.fieldAddr (q := 0) (off := 4) (n := 1) (one := true) (t := 34) rfl rfl (by exact lt_ok rfl) (by kernel_rfl) (Nat.succ_ne_zero _) (show Env.ev E (.tmp 33) = _ from g33.trans rfl))) ?_
      refine .cons (fun E hA_ => by have g34 := hA_.get 34 (by decide); exact OpStep.plain rfl (Step.load_box (c := .d (.ints .u8 x.f0.f4)) (t := 35) rfl rfl (by exact lt_ok rfl) (by kernel_rfl) (show Env.ev E (.tmp 34) = _ from g34.trans rfl) (by exact hA_.box rfl) rfl)) ?_
      refine .cons (fun E hA_ => by have g3 := hA_.get 3 (by decide); exact OpStep.plain rfl (Step.fieldAddr (q := 0) (off := 10) (n := 1) (one := true) (t := 36) rfl rfl (by exact lt_ok rfl) (by kernel_rfl) (Nat.succ_ne_zero _) (show Env.ev E (.tmp 3) = _ from g3.trans rfl))) ?_
      refine .cons (fun E hA_ => by have g36 := hA_.get 36 (by decide); exact OpStep.plain rfl (Step.load_box (c := .d (.bss x.f1)) (t := 37) rfl rfl (by exact lt_ok rfl) (by kernel_rfl) (show Env.ev E (.tmp 36) = _ from g36.trans rfl) (by exact hA_.box rfl) rfl)) ?_
      refine .cons (fun E hA_ => by have g37 := hA_.get 37 (by decide); exact OpStep.plain rfl (Step.call (f := 61) (xs := [.tmp 37]) (ps := [(.one (.d (.bss x.f1)))]) false (g := .func 61) (t := 38) rfl rfl (by exact lt_ok rfl) rfl (by kernel_rfl) (evs_cons (show Env.ev E (.tmp 37) = _ from g37.trans rfl) (rfl)) (.cons (.one (.d _)) .nil) (ok_spec_TreeRoot x.f1 (by first | assumption | exact mem_sub (by assumption) _ _ | exact s0.2 | exact o1) (by first | assumption | exact mem_sub (by assumption) _ _ | exact s0.2 | exact s1.2)) (.inr rfl) (At.freshRows hA_ rfl) (by simp) rfl)) ?_
      refine .cons (fun E hA_ => by have g35 := hA_.get 35 (by decide); have g38 := hA_.get 38 (by decide); exact OpStep.plain rfl (Step.call (f := 63) (xs := [.tmp 35, .tmp 38]) (ps := [(.one (.d (.ints .u8 x.f0.f4))), (.one (.row 1038 []))]) false (g := .func 63) (t := 39) rfl rfl (by exact lt_ok rfl) rfl (by kernel_rfl) (evs_cons (show Env.ev E (.tmp 35) = _ from g35.trans rfl) (evs_cons (show Env.ev E (.tmp 38) = _ from g38.trans rfl) (rfl))) (.cons (.one (.d _)) (.cons (.one (.row rfl (by exact (hA_.row 1038 (by kernel_rfl)).trans rfl) rfl rfl)) .nil)) (ok_spec_SameBytes x.f0.f4 (treeRoot x.f1) (by first | assumption | exact s1.2 | exact o1 | omega) (by first | assumption | exact s1.2 | exact o1 | omega)) (.inr rfl) (At.freshRows hA_ rfl) (by simp) rfl)) ?_
      refine .cons (fun E hA_ => by have g39 := hA_.get 39 (by decide); exact OpStep.plain rfl (Step.assign (p := (.one (.d (.bool (decide (x.f0.f4 = (treeRoot x.f1))))))) (t := 4) rfl rfl (by exact lt_ok rfl) (show Env.ev E (.tmp 39) = _ from g39.trans rfl))) ?_
      exact .nil _ _
     refine TL.nil ?_
     refine T.ret ?_
     refine ⟨[(false, [.d (.bool (decide (x.f0.f4 = (treeRoot x.f1))))])], (.cons rfl .nil), rfl, [], (RetC.rd' ?_ .nil)⟩ <;> ((congr 1; symm; first | (unfold blockOk; rw [txsOk_no (i := i) (by omega) (by omega)]; simp; done) | (rw [List.take_of_length_le (by omega)] at hx2; rw [blockOk_mk (by assumption) (by omega) hx2]; first | done | rfl | assumption | exact decide_eq_true ‹_› | exact decide_eq_false ‹_›) | (rw [List.take_of_length_le (by omega)] at hx2; simp_all [blockOk]; done) | (simp_all [blockOk]; done) | (rw [List.take_of_length_le (by omega)] at hx2; simp_all [blockOk]; omega) | (simp_all [blockOk]; omega)))
theorem ok_laws_toLimits (a : SLimits) : RO Try.prog 39 [.agg a.cells] [(true, [.rd (.int .i64 a.f0), .rd (.int .i64 a.f1), .rd (.int .i64 a.f2), .rd (.int .i64 a.f3), .rd (.int .i64 a.f4)])] := by
 refine RO.intro Try.func39 rfl 20 rfl (le_ok rfl) fun w Z => ?_
 refine T.seq ?_
 refine T.region ?_
 refine TL.cons rfl (Step.box (p := (.agg [.d (.int .i64 a.f0), .d (.int .i64 a.f1), .d (.int .i64 a.f2), .d (.int .i64 a.f3), .d (.int .i64 a.f4)])) (ps := [.d (.int .i64 a.f0), .d (.int .i64 a.f1), .d (.int .i64 a.f2), .d (.int .i64 a.f3), .d (.int .i64 a.f4)]) rfl rfl (lt_ok rfl) rfl rfl rfl rfl rfl) ?_
 refine TL.cons rfl (Step.alloc (cs := [.int .i64 0, .int .i64 0, .int .i64 0, .int .i64 0, .int .i64 0]) (ps := [.d (.int .i64 0), .d (.int .i64 0), .d (.int .i64 0), .d (.int .i64 0), .d (.int .i64 0)]) rfl rfl (lt_ok rfl) (by kernel_rfl) rfl rfl rfl rfl) ?_
 refine TL.nil ?_
 refine T.seq ?_
 refine T.region ?_
 refine TL.cons rfl (Step.alloc (cs := [.int .i64 0, .int .i64 0, .int .i64 0, .int .i64 0, .int .i64 0]) (ps := [.d (.int .i64 0), .d (.int .i64 0), .d (.int .i64 0), .d (.int .i64 0), .d (.int .i64 0)]) rfl rfl (lt_ok rfl) (by kernel_rfl) rfl rfl rfl rfl) ?_
 refine TL.nil ?_
 refine T.seq ?_
 refine T.region ?_
 refine TL.cons rfl (Step.fieldAddr (q := 0) (off := 0) (n := 1) (one := true) rfl rfl (lt_ok rfl) (by kernel_rfl) (Nat.succ_ne_zero _) rfl) ?_
 refine TL.cons rfl (Step.load_box (c := .d (.int .i64 a.f0)) rfl rfl (lt_ok rfl) (by kernel_rfl) rfl rfl rfl) ?_
 refine TL.cons rfl (Step.fieldAddr (q := 0) (off := 0) (n := 1) (one := true) rfl rfl (lt_ok rfl) (by kernel_rfl) (Nat.succ_ne_zero _) rfl) ?_
 refine TL.cons rfl (Step.store_box (n := 1) (p := (.one (.d (.int .i64 a.f0)))) (qs := [.d (.int .i64 a.f0)]) (ps' := [.d (.int .i64 a.f0), .d (.int .i64 0), .d (.int .i64 0), .d (.int .i64 0), .d (.int .i64 0)]) rfl rfl (by kernel_rfl) rfl rfl rfl rfl rfl rfl (le_ok rfl) rfl) ?_
 refine TL.nil ?_
 refine T.seq ?_
 refine T.region ?_
 refine TL.cons rfl (Step.fieldAddr (q := 0) (off := 1) (n := 1) (one := true) rfl rfl (lt_ok rfl) (by kernel_rfl) (Nat.succ_ne_zero _) rfl) ?_
 refine TL.cons rfl (Step.load_box (c := .d (.int .i64 a.f1)) rfl rfl (lt_ok rfl) (by kernel_rfl) rfl rfl rfl) ?_
 refine TL.cons rfl (Step.fieldAddr (q := 0) (off := 1) (n := 1) (one := true) rfl rfl (lt_ok rfl) (by kernel_rfl) (Nat.succ_ne_zero _) rfl) ?_
 refine TL.cons rfl (Step.store_box (n := 1) (p := (.one (.d (.int .i64 a.f1)))) (qs := [.d (.int .i64 a.f1)]) (ps' := [.d (.int .i64 a.f0), .d (.int .i64 a.f1), .d (.int .i64 0), .d (.int .i64 0), .d (.int .i64 0)]) rfl rfl (by kernel_rfl) rfl rfl rfl rfl rfl rfl (le_ok rfl) rfl) ?_
 refine TL.nil ?_
 refine T.seq ?_
 refine T.region ?_
 refine TL.cons rfl (Step.fieldAddr (q := 0) (off := 2) (n := 1) (one := true) rfl rfl (lt_ok rfl) (by kernel_rfl) (Nat.succ_ne_zero _) rfl) ?_
 refine TL.cons rfl (Step.load_box (c := .d (.int .i64 a.f2)) rfl rfl (lt_ok rfl) (by kernel_rfl) rfl rfl rfl) ?_
 refine TL.cons rfl (Step.fieldAddr (q := 0) (off := 2) (n := 1) (one := true) rfl rfl (lt_ok rfl) (by kernel_rfl) (Nat.succ_ne_zero _) rfl) ?_
 refine TL.cons rfl (Step.store_box (n := 1) (p := (.one (.d (.int .i64 a.f2)))) (qs := [.d (.int .i64 a.f2)]) (ps' := [.d (.int .i64 a.f0), .d (.int .i64 a.f1), .d (.int .i64 a.f2), .d (.int .i64 0), .d (.int .i64 0)]) rfl rfl (by kernel_rfl) rfl rfl rfl rfl rfl rfl (le_ok rfl) rfl) ?_
 refine TL.nil ?_
 refine T.seq ?_
 refine T.region ?_
 refine TL.cons rfl (Step.fieldAddr (q := 0) (off := 3) (n := 1) (one := true) rfl rfl (lt_ok rfl) (by kernel_rfl) (Nat.succ_ne_zero _) rfl) ?_
 refine TL.cons rfl (Step.load_box (c := .d (.int .i64 a.f3)) rfl rfl (lt_ok rfl) (by kernel_rfl) rfl rfl rfl) ?_
 refine TL.cons rfl (Step.fieldAddr (q := 0) (off := 3) (n := 1) (one := true) rfl rfl (lt_ok rfl) (by kernel_rfl) (Nat.succ_ne_zero _) rfl) ?_
 refine TL.cons rfl (Step.store_box (n := 1) (p := (.one (.d (.int .i64 a.f3)))) (qs := [.d (.int .i64 a.f3)]) (ps' := [.d (.int .i64 a.f0), .d (.int .i64 a.f1), .d (.int .i64 a.f2), .d (.int .i64 a.f3), .d (.int .i64 0)]) rfl rfl (by kernel_rfl) rfl rfl rfl rfl rfl rfl (le_ok rfl) rfl) ?_
 refine TL.nil ?_
 refine T.seq ?_
 refine T.region ?_
 refine TL.cons rfl (Step.fieldAddr (q := 0) (off := 4) (n := 1) (one := true) rfl rfl (lt_ok rfl) (by kernel_rfl) (Nat.succ_ne_zero _) rfl) ?_
 refine TL.cons rfl (Step.load_box (c := .d (.int .i64 a.f4)) rfl rfl (lt_ok rfl) (by kernel_rfl) rfl rfl rfl) ?_
 refine TL.cons rfl (Step.fieldAddr (q := 0) (off := 4) (n := 1) (one := true) rfl rfl (lt_ok rfl) (by kernel_rfl) (Nat.succ_ne_zero _) rfl) ?_
 refine TL.cons rfl (Step.store_box (n := 1) (p := (.one (.d (.int .i64 a.f4)))) (qs := [.d (.int .i64 a.f4)]) (ps' := [.d (.int .i64 a.f0), .d (.int .i64 a.f1), .d (.int .i64 a.f2), .d (.int .i64 a.f3), .d (.int .i64 a.f4)]) rfl rfl (by kernel_rfl) rfl rfl rfl rfl rfl rfl (le_ok rfl) rfl) ?_
 refine TL.nil ?_
 refine T.seq ?_
 refine T.region ?_
 refine TL.cons rfl (Step.load_box_agg (n := 5) (qs := [.d (.int .i64 a.f0), .d (.int .i64 a.f1), .d (.int .i64 a.f2), .d (.int .i64 a.f3), .d (.int .i64 a.f4)]) rfl rfl (lt_ok rfl) (by kernel_rfl) rfl rfl rfl rfl) ?_
 refine TL.cons rfl (Step.store_box (n := 5) (p := (.agg [.d (.int .i64 a.f0), .d (.int .i64 a.f1), .d (.int .i64 a.f2), .d (.int .i64 a.f3), .d (.int .i64 a.f4)])) (qs := [.d (.int .i64 a.f0), .d (.int .i64 a.f1), .d (.int .i64 a.f2), .d (.int .i64 a.f3), .d (.int .i64 a.f4)]) (ps' := [.d (.int .i64 a.f0), .d (.int .i64 a.f1), .d (.int .i64 a.f2), .d (.int .i64 a.f3), .d (.int .i64 a.f4)]) rfl rfl (by kernel_rfl) rfl rfl rfl rfl rfl rfl (le_ok rfl) rfl) ?_
 refine TL.nil ?_
 refine T.ret ?_
 exact ⟨[(true, [.d (.int .i64 a.f0), .d (.int .i64 a.f1), .d (.int .i64 a.f2), .d (.int .i64 a.f3), .d (.int .i64 a.f4)])], (.cons rfl .nil), rfl, [], (RetC.rd' rfl (RetC.rd' rfl (RetC.rd' rfl (RetC.rd' rfl (RetC.rd' rfl .nil)))))⟩
theorem ok_laws_toByteS (a : List Int) (h0_ : a.length ≤ 1048576) : RO Try.prog 27 [.one (.ints .u8 a)] [(false, [.own 5 (.ints .u8 a)])] := by
 refine RO.intro Try.func27 rfl 22 rfl (le_ok rfl) fun w Z => ?_
 refine T.bnd 0 0 rfl rfl fun hb_0_0 => ?_
 simp only [D.size, List.length_map] at hb_0_0
 have h0b := h0_
 refine T.seq ?_
 refine T.region ?_
 refine TL.cons rfl (Step.assign (p := (.one (.nil))) rfl rfl (lt_ok rfl) rfl) ?_
 refine TL.nil ?_
 refine T.seq ?_
 refine T.region ?_
 refine TL.cons rfl (Step.move (p := (.one (.d (.ints .u8 a)))) rfl rfl (lt_ok rfl) rfl) ?_
 refine TL.cons rfl (Step.len (e := 5) (z := 1) (d := (.ints .u8 a)) rfl rfl (lt_ok rfl) (by kernel_rfl) rfl rfl) ?_
 refine TL.cons rfl (Step.make (e := 5) (z := 1) (by_ := 1) (n := (a.length : Int)) (zs := [.int .u8 0]) (zd := [.int .u8 0]) (d := (.ints .u8 (List.replicate a.length 0))) rfl rfl (lt_ok rfl) (by kernel_rfl) (lt_ok rfl) rfl (by first | omega | (simp; omega)) (by first | omega | (simp; omega)) (by first | omega | (simp; omega)) (by kernel_rfl) (.val rfl .nil) rfl (by simp) (by simp [D.flat, List.flatten_replicate_singleton]) (by simp [D.size]) rfl trivial) ?_
 refine TL.cons rfl (Step.assign (p := (.one (.row 7 []))) rfl rfl (lt_ok rfl) rfl) ?_
 refine TL.nil ?_
 refine T.seq ?_
 refine T.seq ?_
 refine T.region ?_
 refine TL.cons rfl (Step.assign (p := (.one (.d (.int .i64 0)))) rfl rfl (lt_ok rfl) rfl) ?_
 refine TL.nil ?_
 refine T.block ?_
 refine T.loop (ι := Nat) (fun xx_ => { tm := [(0, (.one (.d (.ints .u8 a)))), (2, (.one (.nil))), (3, (.one (.row 7 []))), (4, (.one (.d (.int .i64 (xx_ : Int)))))], rows := [(7, (5, (.ints .u8 (a.take xx_ ++ List.replicate (a.length - xx_) 0 : List Int))))], boxes := [] }) (fun xx_ => xx_ ≤ a.length) (fun xx_ => a.length - xx_) 0 ?_ ?_ ?_
 · refine Env.le_mk ⟨rfl, rfl, rfl, ?_, trivial⟩ ⟨?_, trivial⟩ trivial <;> (first | rfl | exact congrArg (fun x => some (5, ((.ints .u8 x) : D))) (fill_set a 0 0 i (by omega)))
 · exact Nat.zero_le _
 ·
  intro i hx
  try dsimp only at hx ⊢
  refine T.seq ?_
  refine T.seq ?_
  refine T.region ?_
  refine TL.cons rfl (Step.move (p := (.one (.d (.int .i64 (i : Int))))) rfl rfl (lt_ok rfl) rfl) ?_
  refine TL.cons rfl (Step.move (p := (.one (.d (.ints .u8 a)))) rfl rfl (lt_ok rfl) rfl) ?_
  refine TL.cons rfl (Step.len (e := 5) (z := 1) (d := (.ints .u8 a)) rfl rfl (lt_ok rfl) (by kernel_rfl) rfl rfl) ?_
  refine TL.cons rfl (Step.bin rfl rfl (lt_ok rfl) rfl rfl (Bin.lss (k := .i64) (a := (i : Int)) (b := (a.length : Int)))) ?_
  refine TL.nil ?_
  refine T.cond (b := decide ((i : Int) < (a.length : Int))) rfl (fun h1 => ?_) (fun h1 => ?_)
  ·
   replace h1 := of_decide_eq_true h1
   refine T.skip ?_
   refine T.seq ?_
   refine T.block ?_
   refine T.region ?_
   refine TL.cons rfl (Step.move (p := (.one (.row 7 []))) rfl rfl (lt_ok rfl) rfl) ?_
   refine TL.cons rfl (Step.move (p := (.one (.d (.int .i64 (i : Int))))) rfl rfl (lt_ok rfl) rfl) ?_
   refine TL.cons rfl (Step.move (p := (.one (.d (.ints .u8 a)))) rfl rfl (lt_ok rfl) rfl) ?_
   refine TL.cons rfl (Step.move (p := (.one (.d (.int .i64 (i : Int))))) rfl rfl (lt_ok rfl) rfl) ?_
   refine TL.cons rfl (Step.index (e := 5) (z := 1) (i := (i : Int)) rfl rfl (lt_ok rfl) (by kernel_rfl) rfl rfl rfl (lt_ok rfl) rfl (by first | omega | (simp; omega)) (by simp only [D.size]; first | omega | (simp; omega))) ?_
   refine TL.cons rfl (Step.load (e := (.int .u8 (a.getD i 0))) rfl rfl (lt_ok rfl) (by kernel_rfl) rfl rfl) ?_
   refine TL.cons rfl (Step.index_row (e := 5) (z := 1) (i := (i : Int)) rfl rfl (lt_ok rfl) (by kernel_rfl) rfl rfl rfl rfl (lt_ok rfl) rfl (by first | omega | (simp; omega)) (by simp only [D.at_, D.cell, D.size]; first | omega | (simp; omega))) ?_
   refine TL.cons rfl (Step.store_row (n := 1) (p := (.one (.d (.int .u8 (a.getD i 0))))) (ps := [.d (.int .u8 (a.getD i 0))]) (es := [(.int .u8 (a.getD i 0))]) (ss := []) (d1 := (.ints .u8 ((a.take i ++ List.replicate (a.length - i) 0 : List Int).set i (a.getD i 0)))) (d' := (.ints .u8 ((a.take i ++ List.replicate (a.length - i) 0 : List Int).set i (a.getD i 0)))) rfl rfl (by kernel_rfl) rfl rfl rfl rfl rfl rfl (.val rfl .nil) (by simp) (Putd.one rfl trivial rfl (by simp only [D.at_, D.size, List.length_set, upTo_length]; first | omega | (simp; omega)) (lt_ok rfl)) rfl) ?_
   refine TL.nil ?_
   refine T.region ?_
   refine TL.cons rfl (Step.move (p := (.one (.d (.int .i64 (i : Int))))) rfl rfl (lt_ok rfl) rfl) ?_
   refine TL.cons rfl (Step.bin (r := .int .i64 ((i : Int) + 1)) rfl rfl (lt_ok rfl) rfl rfl (Bin.add (a := (i : Int)) (b := 1) (by first | exact wrap_ok (by first | omega | (simp; omega)) (by first | omega | (simp; omega)) | rfl))) ?_
   refine TL.cons rfl (Step.assign (p := (.one (.d (.int .i64 ((i : Int) + 1))))) rfl rfl (lt_ok rfl) rfl) ?_
   refine TL.nil ?_
   refine ⟨i + 1, by omega, by omega, Env.le_mk ⟨rfl, rfl, rfl, ?_, trivial⟩ ⟨?_, trivial⟩ trivial⟩ <;> (first | rfl | exact congrArg (fun x => some (5, ((.ints .u8 x) : D))) (fill_set a 0 0 i (by omega)))
  ·
   replace h1 := of_decide_eq_false h1
   refine T.exit ?_
   refine T.seq ?_
   refine T.region ?_
   refine TL.cons rfl (Step.move (p := (.one (.row 7 []))) rfl rfl (lt_ok rfl) rfl) ?_
   refine TL.cons rfl (Step.assign (p := (.one (.row 7 []))) rfl rfl (lt_ok rfl) rfl) ?_
   refine TL.nil ?_
   refine T.ret ?_
   refine ⟨[(false, [.row 7 []])], (.cons rfl .nil), rfl, [7], (RetC.own' rfl ?_ rfl .nil)⟩ <;> (first | rfl | (congr 1; rw [fill_all' _ _ _ (by omega)]) | (rw [fill_all' _ _ _ (by omega)]))
theorem ok_laws_toByteSS (a : List (List Int)) (h0_ : a.length ≤ 1048576 ∧ ∀ y ∈ a, y.length ≤ 1048576) : RO Try.prog 21 [.one (.bss a)] [(false, [.own 22 (.bss a)])] := by
 refine RO.intro Try.func21 rfl 23 rfl (le_ok rfl) fun w Z => ?_
 refine T.bnd 0 0 rfl rfl fun hb_0_0 => ?_
 simp only [D.size, List.length_map] at hb_0_0
 have h0b := h0_.1
 refine T.seq ?_
 refine T.region ?_
 refine TL.cons rfl (Step.assign (p := (.one (.nil))) rfl rfl (lt_ok rfl) rfl) ?_
 refine TL.nil ?_
 refine T.seq ?_
 refine T.region ?_
 refine TL.cons rfl (Step.move (p := (.one (.d (.bss a)))) rfl rfl (lt_ok rfl) rfl) ?_
 refine TL.cons rfl (Step.len (e := 22) (z := 1) (d := (.bss a)) rfl rfl (lt_ok rfl) (by kernel_rfl) rfl rfl) ?_
 refine TL.cons rfl (Step.make (e := 22) (z := 1) (by_ := 24) (n := (a.length : Int)) (zs := [.slice none 0 0]) (zd := [.ints .u8 []]) (d := (.bss (List.replicate a.length []))) rfl rfl (lt_ok rfl) (by kernel_rfl) (lt_ok rfl) rfl (by first | omega | (simp; omega)) (by first | omega | (simp; omega)) (by first | omega | (simp; omega)) (by kernel_rfl) (.empty rfl rfl trivial .nil) rfl (by simp) (by simp [D.flat, List.flatten_replicate_singleton]) (by simp [D.size]) rfl trivial) ?_
 refine TL.cons rfl (Step.assign (p := (.one (.row 7 []))) rfl rfl (lt_ok rfl) rfl) ?_
 refine TL.nil ?_
 refine T.seq ?_
 refine T.seq ?_
 refine T.region ?_
 refine TL.cons rfl (Step.assign (p := (.one (.d (.int .i64 0)))) rfl rfl (lt_ok rfl) rfl) ?_
 refine TL.nil ?_
 refine T.block ?_
 refine T.loop (ι := Nat) (fun xx_ => { tm := [(0, (.one (.d (.bss a)))), (2, (.one (.nil))), (3, (.one (.row 7 []))), (4, (.one (.d (.int .i64 (xx_ : Int)))))], rows := [(7, (22, (.bss (a.take xx_ ++ List.replicate (a.length - xx_) [] : List (List Int)))))], boxes := [] }) (fun xx_ => xx_ ≤ a.length) (fun xx_ => a.length - xx_) 0 ?_ ?_ ?_
 · refine Env.le_mk ⟨rfl, rfl, rfl, ?_, trivial⟩ ⟨?_, trivial⟩ trivial <;> (first | rfl | exact congrArg (fun x => some (22, ((.bss x) : D))) (fill_set a [] [] i (by omega)))
 · exact Nat.zero_le _
 ·
  intro i hx
  try dsimp only at hx ⊢
  refine T.seq ?_
  refine T.seq ?_
  refine T.region ?_
  refine TL.cons rfl (Step.move (p := (.one (.d (.int .i64 (i : Int))))) rfl rfl (lt_ok rfl) rfl) ?_
  refine TL.cons rfl (Step.move (p := (.one (.d (.bss a)))) rfl rfl (lt_ok rfl) rfl) ?_
  refine TL.cons rfl (Step.len (e := 22) (z := 1) (d := (.bss a)) rfl rfl (lt_ok rfl) (by kernel_rfl) rfl rfl) ?_
  refine TL.cons rfl (Step.bin rfl rfl (lt_ok rfl) rfl rfl (Bin.lss (k := .i64) (a := (i : Int)) (b := (a.length : Int)))) ?_
  refine TL.nil ?_
  refine T.cond (b := decide ((i : Int) < (a.length : Int))) rfl (fun h1 => ?_) (fun h1 => ?_)
  ·
   replace h1 := of_decide_eq_true h1
   refine T.skip ?_
   refine T.seq ?_
   refine T.block ?_
   refine T.region ?_
   refine TL.cons rfl (Step.move (p := (.one (.row 7 []))) rfl rfl (lt_ok rfl) rfl) ?_
   refine TL.cons rfl (Step.move (p := (.one (.d (.int .i64 (i : Int))))) rfl rfl (lt_ok rfl) rfl) ?_
   refine TL.cons rfl (Step.move (p := (.one (.d (.bss a)))) rfl rfl (lt_ok rfl) rfl) ?_
   refine TL.cons rfl (Step.move (p := (.one (.d (.int .i64 (i : Int))))) rfl rfl (lt_ok rfl) rfl) ?_
   refine TL.cons rfl (Step.index (e := 22) (z := 1) (i := (i : Int)) rfl rfl (lt_ok rfl) (by kernel_rfl) rfl rfl rfl (lt_ok rfl) rfl (by first | omega | (simp; omega)) (by simp only [D.size]; first | omega | (simp; omega))) ?_
   refine TL.cons rfl (Step.load (e := (.ints .u8 (a.getD i []))) rfl rfl (lt_ok rfl) (by kernel_rfl) rfl rfl) ?_
   refine TL.cons rfl (Step.call (f := 27) (xs := [.tmp 19]) (ps := [(.one (.d (.ints .u8 (a.getD i []))))]) false (g := .func 27) rfl rfl (lt_ok rfl) rfl (by kernel_rfl) rfl (.cons (.one (.d _)) .nil) (ok_laws_toByteS (a.getD i []) (by first | omega | assumption | exact mem_getD h0_.2 (by omega))) (.inr rfl) rfl (by simp) rfl) ?_
   refine TL.cons rfl (Step.index_row (e := 22) (z := 1) (i := (i : Int)) rfl rfl (lt_ok rfl) (by kernel_rfl) rfl rfl rfl rfl (lt_ok rfl) rfl (by first | omega | (simp; omega)) (by simp only [D.at_, D.cell, D.size]; first | omega | (simp; omega))) ?_
   refine TL.cons rfl (Step.store_row (n := 1) (p := (.one (.row 1020 []))) (ps := [.row 1020 []]) (es := [(.ints .u8 (a.getD i []))]) (ss := [1020]) (d1 := (.bss ((a.take i ++ List.replicate (a.length - i) [] : List (List Int)).set i (a.getD i [])))) (d' := (.bss ((a.take i ++ List.replicate (a.length - i) [] : List (List Int)).set i (a.getD i [])))) rfl rfl (by kernel_rfl) rfl rfl rfl rfl rfl rfl (.row rfl (by simp) .nil) (by simp) (Putd.one rfl trivial rfl (by simp only [D.at_, D.size, List.length_set, upTo_length]; first | omega | (simp; omega)) (lt_ok rfl)) rfl) ?_
   refine TL.nil ?_
   refine T.region ?_
   refine TL.cons rfl (Step.move (p := (.one (.d (.int .i64 (i : Int))))) rfl rfl (lt_ok rfl) rfl) ?_
   refine TL.cons rfl (Step.bin (r := .int .i64 ((i : Int) + 1)) rfl rfl (lt_ok rfl) rfl rfl (Bin.add (a := (i : Int)) (b := 1) (by first | exact wrap_ok (by first | omega | (simp; omega)) (by first | omega | (simp; omega)) | rfl))) ?_
   refine TL.cons rfl (Step.assign (p := (.one (.d (.int .i64 ((i : Int) + 1))))) rfl rfl (lt_ok rfl) rfl) ?_
   refine TL.nil ?_
   refine ⟨i + 1, by omega, by omega, Env.le_mk ⟨rfl, rfl, rfl, ?_, trivial⟩ ⟨?_, trivial⟩ trivial⟩ <;> (first | rfl | exact congrArg (fun x => some (22, ((.bss x) : D))) (fill_set a [] [] i (by omega)))
  ·
   replace h1 := of_decide_eq_false h1
   refine T.exit ?_
   refine T.seq ?_
   refine T.region ?_
   refine TL.cons rfl (Step.move (p := (.one (.row 7 []))) rfl rfl (lt_ok rfl) rfl) ?_
   refine TL.cons rfl (Step.assign (p := (.one (.row 7 []))) rfl rfl (lt_ok rfl) rfl) ?_
   refine TL.nil ?_
   refine T.ret ?_
   refine ⟨[(false, [.row 7 []])], (.cons rfl .nil), rfl, [7], (RetC.own' rfl ?_ rfl .nil)⟩ <;> (first | rfl | (congr 1; rw [fill_all' _ _ _ (by omega)]) | (rw [fill_all' _ _ _ (by omega)]))
theorem ok_laws_toQc (a : SQc) (h0_ : a.sm) : RO Try.prog 97 [.agg a.cells] [(true, [.rd (.int .i64 a.f0), .rd (.int .i64 a.f1), .own 5 (.ints .u8 a.f2), .own 5 (.ints .u8 a.f3), .own 22 (.bss a.f4)])] := by
 refine RO.intro Try.func97 rfl 23 rfl (le_ok rfl) fun w Z => ?_
 obtain ⟨s0, s1, s2⟩ := h0_
 refine T.seq ?_
 refine T.region ?_
 refine TL.cons rfl (Step.box (p := (.agg [.d (.int .i64 a.f0), .d (.int .i64 a.f1), .d (.ints .u8 a.f2), .d (.ints .u8 a.f3), .d (.bss a.f4)])) (ps := [.d (.int .i64 a.f0), .d (.int .i64 a.f1), .d (.ints .u8 a.f2), .d (.ints .u8 a.f3), .d (.bss a.f4)]) rfl rfl (lt_ok rfl) rfl rfl rfl rfl rfl) ?_
 refine TL.cons rfl (Step.alloc (cs := [.int .i64 0, .int .i64 0, .slice none 0 0, .slice none 0 0, .slice none 0 0]) (ps := [.d (.int .i64 0), .d (.int .i64 0), .nil, .nil, .nil]) rfl rfl (lt_ok rfl) (by kernel_rfl) rfl rfl rfl rfl) ?_
 refine TL.nil ?_
 refine T.seq ?_
 refine T.region ?_
 refine TL.cons rfl (Step.alloc (cs := [.int .i64 0, .int .i64 0, .slice none 0 0, .slice none 0 0, .slice none 0 0]) (ps := [.d (.int .i64 0), .d (.int .i64 0), .nil, .nil, .nil]) rfl rfl (lt_ok rfl) (by kernel_rfl) rfl rfl rfl rfl) ?_
 refine TL.nil ?_
 refine T.seq ?_
 refine T.region ?_
 refine TL.cons rfl (Step.fieldAddr (q := 0) (off := 0) (n := 1) (one := true) rfl rfl (lt_ok rfl) (by kernel_rfl) (Nat.succ_ne_zero _) rfl) ?_
 refine TL.cons rfl (Step.load_box (c := .d (.int .i64 a.f0)) rfl rfl (lt_ok rfl) (by kernel_rfl) rfl rfl rfl) ?_
 refine TL.cons rfl (Step.fieldAddr (q := 0) (off := 0) (n := 1) (one := true) rfl rfl (lt_ok rfl) (by kernel_rfl) (Nat.succ_ne_zero _) rfl) ?_
 refine TL.cons rfl (Step.store_box (n := 1) (p := (.one (.d (.int .i64 a.f0)))) (qs := [.d (.int .i64 a.f0)]) (ps' := [.d (.int .i64 a.f0), .d (.int .i64 0), .nil, .nil, .nil]) rfl rfl (by kernel_rfl) rfl rfl rfl rfl rfl rfl (le_ok rfl) rfl) ?_
 refine TL.nil ?_
 refine T.seq ?_
 refine T.region ?_
 refine TL.cons rfl (Step.fieldAddr (q := 0) (off := 1) (n := 1) (one := true) rfl rfl (lt_ok rfl) (by kernel_rfl) (Nat.succ_ne_zero _) rfl) ?_
 refine TL.cons rfl (Step.load_box (c := .d (.int .i64 a.f1)) rfl rfl (lt_ok rfl) (by kernel_rfl) rfl rfl rfl) ?_
 refine TL.cons rfl (Step.fieldAddr (q := 0) (off := 1) (n := 1) (one := true) rfl rfl (lt_ok rfl) (by kernel_rfl) (Nat.succ_ne_zero _) rfl) ?_
 refine TL.cons rfl (Step.store_box (n := 1) (p := (.one (.d (.int .i64 a.f1)))) (qs := [.d (.int .i64 a.f1)]) (ps' := [.d (.int .i64 a.f0), .d (.int .i64 a.f1), .nil, .nil, .nil]) rfl rfl (by kernel_rfl) rfl rfl rfl rfl rfl rfl (le_ok rfl) rfl) ?_
 refine TL.nil ?_
 refine T.seq ?_
 refine T.region ?_
 refine TL.cons rfl (Step.fieldAddr (q := 0) (off := 2) (n := 1) (one := true) rfl rfl (lt_ok rfl) (by kernel_rfl) (Nat.succ_ne_zero _) rfl) ?_
 refine TL.cons rfl (Step.load_box (c := .d (.ints .u8 a.f2)) rfl rfl (lt_ok rfl) (by kernel_rfl) rfl rfl rfl) ?_
 refine TL.cons rfl (Step.call (f := 27) (xs := [.tmp 11]) (ps := [(.one (.d (.ints .u8 a.f2)))]) false (g := .func 27) rfl rfl (lt_ok rfl) rfl (by kernel_rfl) rfl (.cons (.one (.d _)) .nil) (ok_laws_toByteS a.f2 (by first | omega | assumption | exact mem_getD h0_.2 (by omega))) (.inr rfl) rfl (by simp) rfl) ?_
 refine TL.cons rfl (Step.fieldAddr (q := 0) (off := 2) (n := 1) (one := true) rfl rfl (lt_ok rfl) (by kernel_rfl) (Nat.succ_ne_zero _) rfl) ?_
 refine TL.cons rfl (Step.store_box (n := 1) (p := (.one (.row 1012 []))) (qs := [.row 1012 []]) (ps' := [.d (.int .i64 a.f0), .d (.int .i64 a.f1), .row 1012 [], .nil, .nil]) rfl rfl (by kernel_rfl) rfl rfl rfl rfl rfl rfl (le_ok rfl) rfl) ?_
 refine TL.nil ?_
 refine T.seq ?_
 refine T.region ?_
 refine TL.cons rfl (Step.fieldAddr (q := 0) (off := 3) (n := 1) (one := true) rfl rfl (lt_ok rfl) (by kernel_rfl) (Nat.succ_ne_zero _) rfl) ?_
 refine TL.cons rfl (Step.load_box (c := .d (.ints .u8 a.f3)) rfl rfl (lt_ok rfl) (by kernel_rfl) rfl rfl rfl) ?_
 refine TL.cons rfl (Step.call (f := 27) (xs := [.tmp 15]) (ps := [(.one (.d (.ints .u8 a.f3)))]) false (g := .func 27) rfl rfl (lt_ok rfl) rfl (by kernel_rfl) rfl (.cons (.one (.d _)) .nil) (ok_laws_toByteS a.f3 (by first | omega | assumption | exact mem_getD h0_.2 (by omega))) (.inr rfl) rfl (by simp) rfl) ?_
 refine TL.cons rfl (Step.fieldAddr (q := 0) (off := 3) (n := 1) (one := true) rfl rfl (lt_ok rfl) (by kernel_rfl) (Nat.succ_ne_zero _) rfl) ?_
 refine TL.cons rfl (Step.store_box (n := 1) (p := (.one (.row 1016 []))) (qs := [.row 1016 []]) (ps' := [.d (.int .i64 a.f0), .d (.int .i64 a.f1), .row 1012 [], .row 1016 [], .nil]) rfl rfl (by kernel_rfl) rfl rfl rfl rfl rfl rfl (le_ok rfl) rfl) ?_
 refine TL.nil ?_
 refine T.seq ?_
 refine T.region ?_
 refine TL.cons rfl (Step.fieldAddr (q := 0) (off := 4) (n := 1) (one := true) rfl rfl (lt_ok rfl) (by kernel_rfl) (Nat.succ_ne_zero _) rfl) ?_
 refine TL.cons rfl (Step.load_box (c := .d (.bss a.f4)) rfl rfl (lt_ok rfl) (by kernel_rfl) rfl rfl rfl) ?_
 refine TL.cons rfl (Step.call (f := 21) (xs := [.tmp 19]) (ps := [(.one (.d (.bss a.f4)))]) false (g := .func 21) rfl rfl (lt_ok rfl) rfl (by kernel_rfl) rfl (.cons (.one (.d _)) .nil) (ok_laws_toByteSS a.f4 (by first | assumption | exact ⟨‹_›, ‹_›⟩ | exact mem_getD h0_.2 (by omega))) (.inr rfl) rfl (by simp) rfl) ?_
 refine TL.cons rfl (Step.fieldAddr (q := 0) (off := 4) (n := 1) (one := true) rfl rfl (lt_ok rfl) (by kernel_rfl) (Nat.succ_ne_zero _) rfl) ?_
 refine TL.cons rfl (Step.store_box (n := 1) (p := (.one (.row 1020 []))) (qs := [.row 1020 []]) (ps' := [.d (.int .i64 a.f0), .d (.int .i64 a.f1), .row 1012 [], .row 1016 [], .row 1020 []]) rfl rfl (by kernel_rfl) rfl rfl rfl rfl rfl rfl (le_ok rfl) rfl) ?_
 refine TL.nil ?_
 refine T.seq ?_
 refine T.region ?_
 refine TL.cons rfl (Step.load_box_agg (n := 5) (qs := [.d (.int .i64 a.f0), .d (.int .i64 a.f1), .row 1012 [], .row 1016 [], .row 1020 []]) rfl rfl (lt_ok rfl) (by kernel_rfl) rfl rfl rfl rfl) ?_
 refine TL.cons rfl (Step.store_box (n := 5) (p := (.agg [.d (.int .i64 a.f0), .d (.int .i64 a.f1), .row 1012 [], .row 1016 [], .row 1020 []])) (qs := [.d (.int .i64 a.f0), .d (.int .i64 a.f1), .row 1012 [], .row 1016 [], .row 1020 []]) (ps' := [.d (.int .i64 a.f0), .d (.int .i64 a.f1), .row 1012 [], .row 1016 [], .row 1020 []]) rfl rfl (by kernel_rfl) rfl rfl rfl rfl rfl rfl (le_ok rfl) rfl) ?_
 refine TL.nil ?_
 refine T.ret ?_
 refine ⟨[(true, [.d (.int .i64 a.f0), .d (.int .i64 a.f1), .row 1012 [], .row 1016 [], .row 1020 []])], (.cons rfl .nil), rfl, [1012, 1016, 1020], (RetC.rd' rfl (RetC.rd' rfl (RetC.own' rfl ?_ rfl (RetC.own' rfl ?_ rfl (RetC.own' rfl ?_ rfl .nil)))))⟩ <;> (rfl)
theorem ok_laws_toHead (a : SHead) (h0_ : a.sm) : RO Try.prog 78 [.agg a.cells] [(true, [.rd (.int .i64 a.f0), .rd (.int .i64 a.f1), .rd (.int .i64 a.f2), .own 5 (.ints .u8 a.f3), .own 5 (.ints .u8 a.f4), .rd (.int .i64 a.f5.f0), .rd (.int .i64 a.f5.f1), .own 5 (.ints .u8 a.f5.f2), .own 5 (.ints .u8 a.f5.f3), .own 22 (.bss a.f5.f4)])] := by
 refine RO.intro Try.func78 rfl 26 rfl (le_ok rfl) fun w Z => ?_
 obtain ⟨s0, s1, s2⟩ := h0_
 refine T.seq ?_
 refine T.region ?_
 refine TL.cons rfl (Step.box (p := (.agg [.d (.int .i64 a.f0), .d (.int .i64 a.f1), .d (.int .i64 a.f2), .d (.ints .u8 a.f3), .d (.ints .u8 a.f4), .d (.int .i64 a.f5.f0), .d (.int .i64 a.f5.f1), .d (.ints .u8 a.f5.f2), .d (.ints .u8 a.f5.f3), .d (.bss a.f5.f4)])) (ps := [.d (.int .i64 a.f0), .d (.int .i64 a.f1), .d (.int .i64 a.f2), .d (.ints .u8 a.f3), .d (.ints .u8 a.f4), .d (.int .i64 a.f5.f0), .d (.int .i64 a.f5.f1), .d (.ints .u8 a.f5.f2), .d (.ints .u8 a.f5.f3), .d (.bss a.f5.f4)]) rfl rfl (lt_ok rfl) rfl rfl rfl rfl rfl) ?_
 refine TL.cons rfl (Step.alloc (cs := [.int .i64 0, .int .i64 0, .int .i64 0, .slice none 0 0, .slice none 0 0, .int .i64 0, .int .i64 0, .slice none 0 0, .slice none 0 0, .slice none 0 0]) (ps := [.d (.int .i64 0), .d (.int .i64 0), .d (.int .i64 0), .nil, .nil, .d (.int .i64 0), .d (.int .i64 0), .nil, .nil, .nil]) rfl rfl (lt_ok rfl) (by kernel_rfl) rfl rfl rfl rfl) ?_
 refine TL.nil ?_
 refine T.seq ?_
 refine T.region ?_
 refine TL.cons rfl (Step.alloc (cs := [.int .i64 0, .int .i64 0, .int .i64 0, .slice none 0 0, .slice none 0 0, .int .i64 0, .int .i64 0, .slice none 0 0, .slice none 0 0, .slice none 0 0]) (ps := [.d (.int .i64 0), .d (.int .i64 0), .d (.int .i64 0), .nil, .nil, .d (.int .i64 0), .d (.int .i64 0), .nil, .nil, .nil]) rfl rfl (lt_ok rfl) (by kernel_rfl) rfl rfl rfl rfl) ?_
 refine TL.nil ?_
 refine T.seq ?_
 refine T.region ?_
 refine TL.cons rfl (Step.fieldAddr (q := 0) (off := 0) (n := 1) (one := true) rfl rfl (lt_ok rfl) (by kernel_rfl) (Nat.succ_ne_zero _) rfl) ?_
 refine TL.cons rfl (Step.load_box (c := .d (.int .i64 a.f0)) rfl rfl (lt_ok rfl) (by kernel_rfl) rfl rfl rfl) ?_
 refine TL.cons rfl (Step.fieldAddr (q := 0) (off := 0) (n := 1) (one := true) rfl rfl (lt_ok rfl) (by kernel_rfl) (Nat.succ_ne_zero _) rfl) ?_
 refine TL.cons rfl (Step.store_box (n := 1) (p := (.one (.d (.int .i64 a.f0)))) (qs := [.d (.int .i64 a.f0)]) (ps' := [.d (.int .i64 a.f0), .d (.int .i64 0), .d (.int .i64 0), .nil, .nil, .d (.int .i64 0), .d (.int .i64 0), .nil, .nil, .nil]) rfl rfl (by kernel_rfl) rfl rfl rfl rfl rfl rfl (le_ok rfl) rfl) ?_
 refine TL.nil ?_
 refine T.seq ?_
 refine T.region ?_
 refine TL.cons rfl (Step.fieldAddr (q := 0) (off := 1) (n := 1) (one := true) rfl rfl (lt_ok rfl) (by kernel_rfl) (Nat.succ_ne_zero _) rfl) ?_
 refine TL.cons rfl (Step.load_box (c := .d (.int .i64 a.f1)) rfl rfl (lt_ok rfl) (by kernel_rfl) rfl rfl rfl) ?_
 refine TL.cons rfl (Step.fieldAddr (q := 0) (off := 1) (n := 1) (one := true) rfl rfl (lt_ok rfl) (by kernel_rfl) (Nat.succ_ne_zero _) rfl) ?_
 refine TL.cons rfl (Step.store_box (n := 1) (p := (.one (.d (.int .i64 a.f1)))) (qs := [.d (.int .i64 a.f1)]) (ps' := [.d (.int .i64 a.f0), .d (.int .i64 a.f1), .d (.int .i64 0), .nil, .nil, .d (.int .i64 0), .d (.int .i64 0), .nil, .nil, .nil]) rfl rfl (by kernel_rfl) rfl rfl rfl rfl rfl rfl (le_ok rfl) rfl) ?_
 refine TL.nil ?_
 refine T.seq ?_
 refine T.region ?_
 refine TL.cons rfl (Step.fieldAddr (q := 0) (off := 2) (n := 1) (one := true) rfl rfl (lt_ok rfl) (by kernel_rfl) (Nat.succ_ne_zero _) rfl) ?_
 refine TL.cons rfl (Step.load_box (c := .d (.int .i64 a.f2)) rfl rfl (lt_ok rfl) (by kernel_rfl) rfl rfl rfl) ?_
 refine TL.cons rfl (Step.fieldAddr (q := 0) (off := 2) (n := 1) (one := true) rfl rfl (lt_ok rfl) (by kernel_rfl) (Nat.succ_ne_zero _) rfl) ?_
 refine TL.cons rfl (Step.store_box (n := 1) (p := (.one (.d (.int .i64 a.f2)))) (qs := [.d (.int .i64 a.f2)]) (ps' := [.d (.int .i64 a.f0), .d (.int .i64 a.f1), .d (.int .i64 a.f2), .nil, .nil, .d (.int .i64 0), .d (.int .i64 0), .nil, .nil, .nil]) rfl rfl (by kernel_rfl) rfl rfl rfl rfl rfl rfl (le_ok rfl) rfl) ?_
 refine TL.nil ?_
 refine T.seq ?_
 refine T.region ?_
 refine TL.cons rfl (Step.fieldAddr (q := 0) (off := 3) (n := 1) (one := true) rfl rfl (lt_ok rfl) (by kernel_rfl) (Nat.succ_ne_zero _) rfl) ?_
 refine TL.cons rfl (Step.load_box (c := .d (.ints .u8 a.f3)) rfl rfl (lt_ok rfl) (by kernel_rfl) rfl rfl rfl) ?_
 refine TL.cons rfl (Step.call (f := 27) (xs := [.tmp 14]) (ps := [(.one (.d (.ints .u8 a.f3)))]) false (g := .func 27) rfl rfl (lt_ok rfl) rfl (by kernel_rfl) rfl (.cons (.one (.d _)) .nil) (ok_laws_toByteS a.f3 (by first | omega | assumption | exact mem_getD h0_.2 (by omega))) (.inr rfl) rfl (by simp) rfl) ?_
 refine TL.cons rfl (Step.fieldAddr (q := 0) (off := 3) (n := 1) (one := true) rfl rfl (lt_ok rfl) (by kernel_rfl) (Nat.succ_ne_zero _) rfl) ?_
 refine TL.cons rfl (Step.store_box (n := 1) (p := (.one (.row 1015 []))) (qs := [.row 1015 []]) (ps' := [.d (.int .i64 a.f0), .d (.int .i64 a.f1), .d (.int .i64 a.f2), .row 1015 [], .nil, .d (.int .i64 0), .d (.int .i64 0), .nil, .nil, .nil]) rfl rfl (by kernel_rfl) rfl rfl rfl rfl rfl rfl (le_ok rfl) rfl) ?_
 refine TL.nil ?_
 refine T.seq ?_
 refine T.region ?_
 refine TL.cons rfl (Step.fieldAddr (q := 0) (off := 4) (n := 1) (one := true) rfl rfl (lt_ok rfl) (by kernel_rfl) (Nat.succ_ne_zero _) rfl) ?_
 refine TL.cons rfl (Step.load_box (c := .d (.ints .u8 a.f4)) rfl rfl (lt_ok rfl) (by kernel_rfl) rfl rfl rfl) ?_
 refine TL.cons rfl (Step.call (f := 27) (xs := [.tmp 18]) (ps := [(.one (.d (.ints .u8 a.f4)))]) false (g := .func 27) rfl rfl (lt_ok rfl) rfl (by kernel_rfl) rfl (.cons (.one (.d _)) .nil) (ok_laws_toByteS a.f4 (by first | omega | assumption | exact mem_getD h0_.2 (by omega))) (.inr rfl) rfl (by simp) rfl) ?_
 refine TL.cons rfl (Step.fieldAddr (q := 0) (off := 4) (n := 1) (one := true) rfl rfl (lt_ok rfl) (by kernel_rfl) (Nat.succ_ne_zero _) rfl) ?_
 refine TL.cons rfl (Step.store_box (n := 1) (p := (.one (.row 1019 []))) (qs := [.row 1019 []]) (ps' := [.d (.int .i64 a.f0), .d (.int .i64 a.f1), .d (.int .i64 a.f2), .row 1015 [], .row 1019 [], .d (.int .i64 0), .d (.int .i64 0), .nil, .nil, .nil]) rfl rfl (by kernel_rfl) rfl rfl rfl rfl rfl rfl (le_ok rfl) rfl) ?_
 refine TL.nil ?_
 refine T.seq ?_
 refine T.region ?_
 refine TL.cons rfl (Step.fieldAddr (q := 0) (off := 5) (n := 5) (one := false) rfl rfl (lt_ok rfl) (by kernel_rfl) (Nat.succ_ne_zero _) rfl) ?_
 refine TL.cons rfl (Step.load_box_agg (n := 5) (qs := [.d (.int .i64 a.f5.f0), .d (.int .i64 a.f5.f1), .d (.ints .u8 a.f5.f2), .d (.ints .u8 a.f5.f3), .d (.bss a.f5.f4)]) rfl rfl (lt_ok rfl) (by kernel_rfl) rfl rfl rfl rfl) ?_
 refine TL.cons rfl (Step.call (f := 97) (xs := [.tmp 22]) (ps := [(.agg [.d (.int .i64 a.f5.f0), .d (.int .i64 a.f5.f1), .d (.ints .u8 a.f5.f2), .d (.ints .u8 a.f5.f3), .d (.bss a.f5.f4)])]) false (g := .func 97) rfl rfl (lt_ok rfl) rfl (by kernel_rfl) rfl (.cons (.agg (.cons (.d _) (.cons (.d _) (.cons (.d _) (.cons (.d _) (.cons (.d _) .nil)))))) .nil) (ok_laws_toQc a.f5 (by first | assumption | exact ⟨‹_›, ‹_›⟩ | (refine mem_getD (p := SQc.sm) h0_.2 (by omega)) | exact mem_getD h0_.2 (by omega))) (.inr rfl) rfl (by simp) rfl) ?_
 refine TL.cons rfl (Step.fieldAddr (q := 0) (off := 5) (n := 5) (one := false) rfl rfl (lt_ok rfl) (by kernel_rfl) (Nat.succ_ne_zero _) rfl) ?_
 refine TL.cons rfl (Step.store_box (n := 5) (p := (.agg [.d (.int .i64 a.f5.f0), .d (.int .i64 a.f5.f1), .row 3023 [], .row 4023 [], .row 5023 []])) (qs := [.d (.int .i64 a.f5.f0), .d (.int .i64 a.f5.f1), .row 3023 [], .row 4023 [], .row 5023 []]) (ps' := [.d (.int .i64 a.f0), .d (.int .i64 a.f1), .d (.int .i64 a.f2), .row 1015 [], .row 1019 [], .d (.int .i64 a.f5.f0), .d (.int .i64 a.f5.f1), .row 3023 [], .row 4023 [], .row 5023 []]) rfl rfl (by kernel_rfl) rfl rfl rfl rfl rfl rfl (le_ok rfl) rfl) ?_
 refine TL.nil ?_
 refine T.seq ?_
 refine T.region ?_
 refine TL.cons rfl (Step.load_box_agg (n := 10) (qs := [.d (.int .i64 a.f0), .d (.int .i64 a.f1), .d (.int .i64 a.f2), .row 1015 [], .row 1019 [], .d (.int .i64 a.f5.f0), .d (.int .i64 a.f5.f1), .row 3023 [], .row 4023 [], .row 5023 []]) rfl rfl (lt_ok rfl) (by kernel_rfl) rfl rfl rfl rfl) ?_
 refine TL.cons rfl (Step.store_box (n := 10) (p := (.agg [.d (.int .i64 a.f0), .d (.int .i64 a.f1), .d (.int .i64 a.f2), .row 1015 [], .row 1019 [], .d (.int .i64 a.f5.f0), .d (.int .i64 a.f5.f1), .row 3023 [], .row 4023 [], .row 5023 []])) (qs := [.d (.int .i64 a.f0), .d (.int .i64 a.f1), .d (.int .i64 a.f2), .row 1015 [], .row 1019 [], .d (.int .i64 a.f5.f0), .d (.int .i64 a.f5.f1), .row 3023 [], .row 4023 [], .row 5023 []]) (ps' := [.d (.int .i64 a.f0), .d (.int .i64 a.f1), .d (.int .i64 a.f2), .row 1015 [], .row 1019 [], .d (.int .i64 a.f5.f0), .d (.int .i64 a.f5.f1), .row 3023 [], .row 4023 [], .row 5023 []]) rfl rfl (by kernel_rfl) rfl rfl rfl rfl rfl rfl (le_ok rfl) rfl) ?_
 refine TL.nil ?_
 refine T.ret ?_
 refine ⟨[(true, [.d (.int .i64 a.f0), .d (.int .i64 a.f1), .d (.int .i64 a.f2), .row 1015 [], .row 1019 [], .d (.int .i64 a.f5.f0), .d (.int .i64 a.f5.f1), .row 3023 [], .row 4023 [], .row 5023 []])], (.cons rfl .nil), rfl, [1015, 1019, 3023, 4023, 5023], (RetC.rd' rfl (RetC.rd' rfl (RetC.rd' rfl (RetC.own' rfl ?_ rfl (RetC.own' rfl ?_ rfl (RetC.rd' rfl (RetC.rd' rfl (RetC.own' rfl ?_ rfl (RetC.own' rfl ?_ rfl (RetC.own' rfl ?_ rfl .nil))))))))))⟩ <;> (rfl)
theorem ok_laws_toBlock (a : SBlock) (h0_ : a.sm) : RO Try.prog 40 [.agg a.cells] [(true, [.rd (.int .i64 a.f0.f0), .rd (.int .i64 a.f0.f1), .rd (.int .i64 a.f0.f2), .own 5 (.ints .u8 a.f0.f3), .own 5 (.ints .u8 a.f0.f4), .rd (.int .i64 a.f0.f5.f0), .rd (.int .i64 a.f0.f5.f1), .own 5 (.ints .u8 a.f0.f5.f2), .own 5 (.ints .u8 a.f0.f5.f3), .own 22 (.bss a.f0.f5.f4), .own 22 (.bss a.f1)])] := by
 refine RO.intro Try.func40 rfl 13 rfl (le_ok rfl) fun w Z => ?_
 obtain ⟨s0, s1⟩ := h0_
 refine T.seq ?_
 refine T.region ?_
 refine TL.cons rfl (Step.box (p := (.agg [.d (.int .i64 a.f0.f0), .d (.int .i64 a.f0.f1), .d (.int .i64 a.f0.f2), .d (.ints .u8 a.f0.f3), .d (.ints .u8 a.f0.f4), .d (.int .i64 a.f0.f5.f0), .d (.int .i64 a.f0.f5.f1), .d (.ints .u8 a.f0.f5.f2), .d (.ints .u8 a.f0.f5.f3), .d (.bss a.f0.f5.f4), .d (.bss a.f1)])) (ps := [.d (.int .i64 a.f0.f0), .d (.int .i64 a.f0.f1), .d (.int .i64 a.f0.f2), .d (.ints .u8 a.f0.f3), .d (.ints .u8 a.f0.f4), .d (.int .i64 a.f0.f5.f0), .d (.int .i64 a.f0.f5.f1), .d (.ints .u8 a.f0.f5.f2), .d (.ints .u8 a.f0.f5.f3), .d (.bss a.f0.f5.f4), .d (.bss a.f1)]) rfl rfl (lt_ok rfl) rfl rfl rfl rfl rfl) ?_
 refine TL.cons rfl (Step.alloc (cs := [.int .i64 0, .int .i64 0, .int .i64 0, .slice none 0 0, .slice none 0 0, .int .i64 0, .int .i64 0, .slice none 0 0, .slice none 0 0, .slice none 0 0, .slice none 0 0]) (ps := [.d (.int .i64 0), .d (.int .i64 0), .d (.int .i64 0), .nil, .nil, .d (.int .i64 0), .d (.int .i64 0), .nil, .nil, .nil, .nil]) rfl rfl (lt_ok rfl) (by kernel_rfl) rfl rfl rfl rfl) ?_
 refine TL.nil ?_
 refine T.seq ?_
 refine T.region ?_
 refine TL.cons rfl (Step.alloc (cs := [.int .i64 0, .int .i64 0, .int .i64 0, .slice none 0 0, .slice none 0 0, .int .i64 0, .int .i64 0, .slice none 0 0, .slice none 0 0, .slice none 0 0, .slice none 0 0]) (ps := [.d (.int .i64 0), .d (.int .i64 0), .d (.int .i64 0), .nil, .nil, .d (.int .i64 0), .d (.int .i64 0), .nil, .nil, .nil, .nil]) rfl rfl (lt_ok rfl) (by kernel_rfl) rfl rfl rfl rfl) ?_
 refine TL.nil ?_
 refine T.seq ?_
 refine T.region ?_
 refine TL.cons rfl (Step.fieldAddr (q := 0) (off := 0) (n := 10) (one := false) rfl rfl (lt_ok rfl) (by kernel_rfl) (Nat.succ_ne_zero _) rfl) ?_
 refine TL.cons rfl (Step.load_box_agg (n := 10) (qs := [.d (.int .i64 a.f0.f0), .d (.int .i64 a.f0.f1), .d (.int .i64 a.f0.f2), .d (.ints .u8 a.f0.f3), .d (.ints .u8 a.f0.f4), .d (.int .i64 a.f0.f5.f0), .d (.int .i64 a.f0.f5.f1), .d (.ints .u8 a.f0.f5.f2), .d (.ints .u8 a.f0.f5.f3), .d (.bss a.f0.f5.f4)]) rfl rfl (lt_ok rfl) (by kernel_rfl) rfl rfl rfl rfl) ?_
 refine TL.cons rfl (Step.call (f := 78) (xs := [.tmp 5]) (ps := [(.agg [.d (.int .i64 a.f0.f0), .d (.int .i64 a.f0.f1), .d (.int .i64 a.f0.f2), .d (.ints .u8 a.f0.f3), .d (.ints .u8 a.f0.f4), .d (.int .i64 a.f0.f5.f0), .d (.int .i64 a.f0.f5.f1), .d (.ints .u8 a.f0.f5.f2), .d (.ints .u8 a.f0.f5.f3), .d (.bss a.f0.f5.f4)])]) false (g := .func 78) rfl rfl (lt_ok rfl) rfl (by kernel_rfl) rfl (.cons (.agg (.cons (.d _) (.cons (.d _) (.cons (.d _) (.cons (.d _) (.cons (.d _) (.cons (.d _) (.cons (.d _) (.cons (.d _) (.cons (.d _) (.cons (.d _) .nil))))))))))) .nil) (ok_laws_toHead a.f0 (by first | assumption | exact ⟨‹_›, ‹_›⟩ | (refine mem_getD (p := SHead.sm) h0_.2 (by omega)) | exact mem_getD h0_.2 (by omega))) (.inr rfl) rfl (by simp) rfl) ?_
 refine TL.cons rfl (Step.fieldAddr (q := 0) (off := 0) (n := 10) (one := false) rfl rfl (lt_ok rfl) (by kernel_rfl) (Nat.succ_ne_zero _) rfl) ?_
 refine TL.cons rfl (Step.store_box (n := 10) (p := (.agg [.d (.int .i64 a.f0.f0), .d (.int .i64 a.f0.f1), .d (.int .i64 a.f0.f2), .row 4006 [], .row 5006 [], .d (.int .i64 a.f0.f5.f0), .d (.int .i64 a.f0.f5.f1), .row 8006 [], .row 9006 [], .row 10006 []])) (qs := [.d (.int .i64 a.f0.f0), .d (.int .i64 a.f0.f1), .d (.int .i64 a.f0.f2), .row 4006 [], .row 5006 [], .d (.int .i64 a.f0.f5.f0), .d (.int .i64 a.f0.f5.f1), .row 8006 [], .row 9006 [], .row 10006 []]) (ps' := [.d (.int .i64 a.f0.f0), .d (.int .i64 a.f0.f1), .d (.int .i64 a.f0.f2), .row 4006 [], .row 5006 [], .d (.int .i64 a.f0.f5.f0), .d (.int .i64 a.f0.f5.f1), .row 8006 [], .row 9006 [], .row 10006 [], .nil]) rfl rfl (by kernel_rfl) rfl rfl rfl rfl rfl rfl (le_ok rfl) rfl) ?_
 refine TL.nil ?_
 refine T.seq ?_
 refine T.region ?_
 refine TL.cons rfl (Step.fieldAddr (q := 0) (off := 10) (n := 1) (one := true) rfl rfl (lt_ok rfl) (by kernel_rfl) (Nat.succ_ne_zero _) rfl) ?_
 refine TL.cons rfl (Step.load_box (c := .d (.bss a.f1)) rfl rfl (lt_ok rfl) (by kernel_rfl) rfl rfl rfl) ?_
 refine TL.cons rfl (Step.call (f := 21) (xs := [.tmp 9]) (ps := [(.one (.d (.bss a.f1)))]) false (g := .func 21) rfl rfl (lt_ok rfl) rfl (by kernel_rfl) rfl (.cons (.one (.d _)) .nil) (ok_laws_toByteSS a.f1 (by first | assumption | exact ⟨‹_›, ‹_›⟩ | exact mem_getD h0_.2 (by omega))) (.inr rfl) rfl (by simp) rfl) ?_
 refine TL.cons rfl (Step.fieldAddr (q := 0) (off := 10) (n := 1) (one := true) rfl rfl (lt_ok rfl) (by kernel_rfl) (Nat.succ_ne_zero _) rfl) ?_
 refine TL.cons rfl (Step.store_box (n := 1) (p := (.one (.row 1010 []))) (qs := [.row 1010 []]) (ps' := [.d (.int .i64 a.f0.f0), .d (.int .i64 a.f0.f1), .d (.int .i64 a.f0.f2), .row 4006 [], .row 5006 [], .d (.int .i64 a.f0.f5.f0), .d (.int .i64 a.f0.f5.f1), .row 8006 [], .row 9006 [], .row 10006 [], .row 1010 []]) rfl rfl (by kernel_rfl) rfl rfl rfl rfl rfl rfl (le_ok rfl) rfl) ?_
 refine TL.nil ?_
 refine T.seq ?_
 refine T.region ?_
 refine TL.cons rfl (Step.load_box_agg (n := 11) (qs := [.d (.int .i64 a.f0.f0), .d (.int .i64 a.f0.f1), .d (.int .i64 a.f0.f2), .row 4006 [], .row 5006 [], .d (.int .i64 a.f0.f5.f0), .d (.int .i64 a.f0.f5.f1), .row 8006 [], .row 9006 [], .row 10006 [], .row 1010 []]) rfl rfl (lt_ok rfl) (by kernel_rfl) rfl rfl rfl rfl) ?_
 refine TL.cons rfl (Step.store_box (n := 11) (p := (.agg [.d (.int .i64 a.f0.f0), .d (.int .i64 a.f0.f1), .d (.int .i64 a.f0.f2), .row 4006 [], .row 5006 [], .d (.int .i64 a.f0.f5.f0), .d (.int .i64 a.f0.f5.f1), .row 8006 [], .row 9006 [], .row 10006 [], .row 1010 []])) (qs := [.d (.int .i64 a.f0.f0), .d (.int .i64 a.f0.f1), .d (.int .i64 a.f0.f2), .row 4006 [], .row 5006 [], .d (.int .i64 a.f0.f5.f0), .d (.int .i64 a.f0.f5.f1), .row 8006 [], .row 9006 [], .row 10006 [], .row 1010 []]) (ps' := [.d (.int .i64 a.f0.f0), .d (.int .i64 a.f0.f1), .d (.int .i64 a.f0.f2), .row 4006 [], .row 5006 [], .d (.int .i64 a.f0.f5.f0), .d (.int .i64 a.f0.f5.f1), .row 8006 [], .row 9006 [], .row 10006 [], .row 1010 []]) rfl rfl (by kernel_rfl) rfl rfl rfl rfl rfl rfl (le_ok rfl) rfl) ?_
 refine TL.nil ?_
 refine T.ret ?_
 refine ⟨[(true, [.d (.int .i64 a.f0.f0), .d (.int .i64 a.f0.f1), .d (.int .i64 a.f0.f2), .row 4006 [], .row 5006 [], .d (.int .i64 a.f0.f5.f0), .d (.int .i64 a.f0.f5.f1), .row 8006 [], .row 9006 [], .row 10006 [], .row 1010 []])], (.cons rfl .nil), rfl, [4006, 5006, 8006, 9006, 10006, 1010], (RetC.rd' rfl (RetC.rd' rfl (RetC.rd' rfl (RetC.own' rfl ?_ rfl (RetC.own' rfl ?_ rfl (RetC.rd' rfl (RetC.rd' rfl (RetC.own' rfl ?_ rfl (RetC.own' rfl ?_ rfl (RetC.own' rfl ?_ rfl (RetC.own' rfl ?_ rfl .nil)))))))))))⟩ <;> (rfl)
theorem ok_impl_ShaInit  : RO Try.prog 85 [] [(false, [.own 3 (.ints .i64 shaInit)])] := by
 refine RO.intro Try.func85 rfl 2 rfl (le_ok rfl) fun w Z => ?_
 refine T.seq ?_
 refine T.region ?_
 refine TL.cons rfl (Step.assign (p := (.one (.nil))) rfl rfl (lt_ok rfl) rfl) ?_
 refine TL.nil ?_
 refine T.seq ?_
 refine T.region ?_
 refine TL.cons rfl (Step.lit (e := 3) (z := 1) (by_ := 8) (xs := [.const (.int .i64 1779033703), .const (.int .i64 3144134277), .const (.int .i64 1013904242), .const (.int .i64 2773480762), .const (.int .i64 1359893119), .const (.int .i64 2600822924), .const (.int .i64 528734635), .const (.int .i64 1541459225)]) (pss := [[.d (.int .i64 1779033703)], [.d (.int .i64 3144134277)], [.d (.int .i64 1013904242)], [.d (.int .i64 2773480762)], [.d (.int .i64 1359893119)], [.d (.int .i64 2600822924)], [.d (.int .i64 528734635)], [.d (.int .i64 1541459225)]]) (es := [(.int .i64 1779033703), (.int .i64 3144134277), (.int .i64 1013904242), (.int .i64 2773480762), (.int .i64 1359893119), (.int .i64 2600822924), (.int .i64 528734635), (.int .i64 1541459225)]) (ss := []) (d := (.ints .i64 [1779033703, 3144134277, 1013904242, 2773480762, 1359893119, 2600822924, 528734635, 1541459225])) rfl rfl (lt_ok rfl) (by kernel_rfl) rfl rfl (.cons rfl (.cons rfl (.cons rfl (.cons rfl (.cons rfl (.cons rfl (.cons rfl (.cons rfl .nil)))))))) (by simp) (le_ok rfl) (le_ok rfl) rfl (.val rfl (.val rfl (.val rfl (.val rfl (.val rfl (.val rfl (.val rfl (.val rfl .nil)))))))) rfl (by simp) (by simp) rfl trivial rfl rfl) ?_
 refine TL.cons rfl (Step.assign (p := (.one (.row 1 []))) rfl rfl (lt_ok rfl) rfl) ?_
 refine TL.nil ?_
 refine T.ret ?_
 refine ⟨[(false, [.row 1 []])], (.cons rfl .nil), rfl, [1], (RetC.own' rfl ?_ rfl .nil)⟩ <;> (rfl)
theorem ok_impl_copyBytes (a : List Int) (h0_ : a.length ≤ 17592186044416) : RO Try.prog 88 [.one (.ints .u8 a)] [(false, [.own 5 (.ints .u8 a)])] := by
 refine RO.intro Try.func88 rfl 6 rfl (le_ok rfl) fun w Z => ?_
 refine T.bnd 0 0 rfl rfl fun hb_0_0 => ?_
 simp only [D.size, List.length_map] at hb_0_0
 refine T.seq ?_
 refine T.region ?_
 refine TL.cons rfl (Step.assign (p := (.one (.nil))) rfl rfl (lt_ok rfl) rfl) ?_
 refine TL.nil ?_
 refine T.seq ?_
 refine T.region ?_
 refine TL.cons rfl (Step.lit (e := 5) (z := 1) (by_ := 1) (xs := []) (pss := []) (es := []) (ss := []) (d := (.ints .u8 [])) rfl rfl (lt_ok rfl) (by kernel_rfl) rfl rfl .nil (by simp) (le_ok rfl) (le_ok rfl) rfl .nil rfl (by simp) (by simp) rfl trivial rfl rfl) ?_
 refine TL.cons rfl (Step.move (p := (.one (.d (.ints .u8 a)))) rfl rfl (lt_ok rfl) rfl) ?_
 refine TL.cons rfl (Step.append (e := 5) (z := 1) (by_ := 1) (d := (.ints .u8 [])) (dy := (.ints .u8 a)) (d' := (.ints .u8 ([] ++ a))) (ss := []) rfl rfl (lt_ok rfl) (by kernel_rfl) rfl rfl rfl (lt_ok rfl) rfl (.froz rfl (by simp [D.flat, D.val])) (by simp) rfl (by simp only [D.size, List.length_map]; first | omega | (simp only [List.length_append, List.length_cons, List.length_nil]; omega) | (simp; omega) | (simp only [List.length_append] at *; omega)) (by simp only [D.size, List.length_map]; first | omega | (simp only [List.length_append, List.length_cons, List.length_nil]; omega) | (simp; omega) | (simp only [List.length_append] at *; omega)) (by simp)) ?_
 refine TL.cons rfl (Step.assign (p := (.one (.row 3 []))) rfl rfl (lt_ok rfl) rfl) ?_
 refine TL.nil ?_
 refine T.ret ?_
 refine ⟨[(false, [.row 3 []])], (.cons rfl .nil), rfl, [3], (RetC.own' rfl ?_ rfl .nil)⟩ <;> (rfl)
theorem ok_impl_ShaPad (b : List Int) (h0_ : b.length ≤ 17592186040000) : RO Try.prog 86 [.one (.ints .u8 b)] [(false, [.own 5 (.ints .u8 (shaPad b))])] := by
 refine RO.intro Try.func86 rfl 31 rfl (le_ok rfl) fun w Z => ?_
 refine T.bnd 0 0 rfl rfl fun hb_0_0 => ?_
 simp only [D.size, List.length_map] at hb_0_0
 refine T.seq ?_
 refine T.region ?_
 refine TL.cons rfl (Step.assign (p := (.one (.nil))) rfl rfl (lt_ok rfl) rfl) ?_
 refine TL.nil ?_
 refine T.seq ?_
 refine T.region ?_
 refine TL.cons rfl (Step.move (p := (.one (.d (.ints .u8 b)))) rfl rfl (lt_ok rfl) rfl) ?_
 refine TL.cons rfl (Step.call (f := 88) (xs := [.tmp 5]) (ps := [(.one (.d (.ints .u8 b)))]) false (g := .func 88) rfl rfl (lt_ok rfl) rfl (by kernel_rfl) rfl (.cons (.one (.d _)) .nil) (ok_impl_copyBytes b (by first | omega | assumption | (simp only [List.length_take, List.length_drop]; omega))) (.inr rfl) rfl (by simp) rfl) ?_
 refine TL.cons rfl (Step.lit (e := 5) (z := 1) (by_ := 1) (xs := [.const (.int .u8 128)]) (pss := [[.d (.int .u8 128)]]) (es := [(.int .u8 128)]) (ss := []) (d := (.ints .u8 [128])) rfl rfl (lt_ok rfl) (by kernel_rfl) rfl rfl (.cons rfl .nil) (by simp) (le_ok rfl) (le_ok rfl) rfl (.val rfl .nil) rfl (by simp) (by simp) rfl trivial rfl rfl) ?_
 refine TL.cons rfl (Step.append (e := 5) (z := 1) (by_ := 1) (d := (.ints .u8 b)) (dy := (.ints .u8 [128])) (d' := (.ints .u8 (b ++ [128]))) (ss := []) rfl rfl (lt_ok rfl) (by kernel_rfl) rfl rfl rfl (lt_ok rfl) rfl (.copy rfl rfl rfl (by simp [D.flat, D.val])) (by simp) rfl (by simp only [D.size, List.length_map]; first | omega | (simp only [List.length_append, List.length_cons, List.length_nil]; omega) | (simp; omega) | (simp only [List.length_append] at *; omega)) (by simp only [D.size, List.length_map]; first | omega | (simp only [List.length_append, List.length_cons, List.length_nil]; omega) | (simp; omega) | (simp only [List.length_append] at *; omega)) (by simp)) ?_
 refine TL.cons rfl (Step.assign (p := (.one (.row 1006 []))) rfl rfl (lt_ok rfl) rfl) ?_
 refine TL.nil ?_
 refine T.seq ?_
 refine T.block ?_
 refine T.loop (ι := Nat) (fun xx_ => { tm := [(0, (.one (.d (.ints .u8 b)))), (2, (.one (.nil))), (3, (.one (.row 1006 [])))], rows := [(1006, (5, (.ints .u8 (b ++ [128] ++ List.replicate xx_ 0)))), (7, (5, (.ints .u8 [128])))], boxes := [] }) (fun xx_ => xx_ ≤ padK b.length) (fun xx_ => padK b.length - xx_) 0 ?_ ?_ ?_
 · refine Env.le_mk ⟨rfl, rfl, rfl, trivial⟩ ⟨?_, rfl, trivial⟩ trivial <;> (first | rfl | (refine congrArg (fun x => some (_, D.ints .u8 x)) ?_; first | (simp; done) | (rw [List.replicate_succ', List.append_assoc, List.append_assoc]; first | done | rfl) | (simp only [List.append_assoc, List.replicate_succ', padB]; done) | (rw [show i = padK b.length from by unfold padK; omega]; simp [padB]; done)) | (refine congrArg (fun n => PV.one (.d (.int .i64 n))) ?_; first | rfl | omega | (simp; done)))
 · exact Nat.zero_le _
 ·
  intro i hx
  try dsimp only at hx ⊢
  have hl_ : (b ++ [128] ++ List.replicate i 0).length = b.length + 1 + i := by simp; omega
  have hk_ : padK b.length ≤ 63 := by unfold padK; omega
  refine T.seq ?_
  refine T.seq ?_
  refine T.region ?_
  refine TL.cons rfl (Step.move (p := (.one (.row 1006 []))) rfl rfl (lt_ok rfl) rfl) ?_
  refine TL.cons rfl (Step.len (e := 5) (z := 1) (d := (.ints .u8 (b ++ [128] ++ List.replicate i 0))) rfl rfl (lt_ok rfl) (by kernel_rfl) rfl rfl) ?_
  refine TL.cons rfl (Step.bin (r := .int .i64 (((b ++ [128] ++ List.replicate i 0).length : Int) % 64)) rfl rfl (lt_ok rfl) rfl rfl (Bin.rem (k := .i64) (a := ((b ++ [128] ++ List.replicate i 0).length : Int)) (b := 64) (by decide) (Int.tmod_eq_emod_of_nonneg (by first | omega | (simp; omega))))) ?_
  refine TL.cons rfl (Step.bin rfl rfl (lt_ok rfl) rfl rfl (Bin.neq (k := .i64) (a := (((b ++ [128] ++ List.replicate i 0).length : Int) % 64)) (b := 56))) ?_
  refine TL.nil ?_
  refine T.cond (b := decide ((((b ++ [128] ++ List.replicate i 0).length : Int) % 64) ≠ 56)) rfl (fun h1 => ?_) (fun h1 => ?_)
  ·
   replace h1 := of_decide_eq_true h1
   refine T.skip ?_
   refine T.block ?_
   refine T.region ?_
   refine TL.cons rfl (Step.move (p := (.one (.row 1006 []))) rfl rfl (lt_ok rfl) rfl) ?_
   refine TL.cons rfl (Step.lit (e := 5) (z := 1) (by_ := 1) (xs := [.const (.int .u8 0)]) (pss := [[.d (.int .u8 0)]]) (es := [(.int .u8 0)]) (ss := []) (d := (.ints .u8 [0])) rfl rfl (lt_ok rfl) (by kernel_rfl) rfl rfl (.cons rfl .nil) (by simp) (le_ok rfl) (le_ok rfl) rfl (.val rfl .nil) rfl (by simp) (by simp) rfl trivial rfl rfl) ?_
   refine TL.cons rfl (Step.append (e := 5) (z := 1) (by_ := 1) (d := (.ints .u8 (b ++ [128] ++ List.replicate i 0))) (dy := (.ints .u8 [0])) (d' := (.ints .u8 ((b ++ [128] ++ List.replicate i 0) ++ [0]))) (ss := []) rfl rfl (lt_ok rfl) (by kernel_rfl) rfl rfl rfl (lt_ok rfl) rfl (.copy rfl rfl rfl (by simp [D.flat, D.val])) (by simp) rfl (by simp only [D.size, List.length_map]; first | omega | (simp only [List.length_append, List.length_cons, List.length_nil]; omega) | (simp; omega) | (simp only [List.length_append] at *; omega)) (by simp only [D.size, List.length_map]; first | omega | (simp only [List.length_append, List.length_cons, List.length_nil]; omega) | (simp; omega) | (simp only [List.length_append] at *; omega)) (by simp)) ?_
   refine TL.cons rfl (Step.assign (p := (.one (.row 1006 []))) rfl rfl (lt_ok rfl) rfl) ?_
   refine TL.nil ?_
   refine ⟨i + 1, by (unfold padK at *; omega), by (unfold padK at *; omega), Env.le_mk ⟨rfl, rfl, rfl, trivial⟩ ⟨?_, rfl, trivial⟩ trivial⟩ <;> (first | rfl | (refine congrArg (fun x => some (_, D.ints .u8 x)) ?_; first | (simp; done) | (rw [List.replicate_succ', List.append_assoc, List.append_assoc]; first | done | rfl) | (simp only [List.append_assoc, List.replicate_succ', padB]; done) | (rw [show i = padK b.length from by unfold padK; omega]; simp [padB]; done)) | (refine congrArg (fun n => PV.one (.d (.int .i64 n))) ?_; first | rfl | omega | (simp; done)))
  ·
   replace h1 := of_decide_eq_false h1
   refine T.exit ?_
   refine T.seq ?_
   refine T.seq ?_
   refine T.region ?_
   refine TL.cons rfl (Step.assign (p := (.one (.d (.int .i64 7)))) rfl rfl (lt_ok rfl) rfl) ?_
   refine TL.nil ?_
   refine T.block ?_
   refine T.loop (ι := Nat) (fun xx_ => { tm := [(0, (.one (.d (.ints .u8 b)))), (2, (.one (.nil))), (3, (.one (.row 1006 []))), (4, (.one (.d (.int .i64 (7 - (xx_ : Int))))))], rows := [(1006, (5, (.ints .u8 (b ++ [128] ++ List.replicate (padK b.length) 0 ++ padB b.length xx_)))), (7, (5, (.ints .u8 [128])))], boxes := [] }) (fun xx_ => xx_ ≤ 8) (fun xx_ => 8 - xx_) 0 ?_ ?_ ?_
   · refine Env.le_mk ⟨rfl, rfl, rfl, ?_, trivial⟩ ⟨?_, rfl, trivial⟩ trivial <;> (first | rfl | (refine congrArg (fun x => some (_, D.ints .u8 x)) ?_; first | (simp; done) | (rw [List.replicate_succ', List.append_assoc, List.append_assoc]; first | done | rfl) | (simp only [List.append_assoc, List.replicate_succ', padB]; done) | (rw [show i = padK b.length from by unfold padK at *; omega]; simp [padB]; done)) | (refine congrArg (fun n => PV.one (.d (.int .i64 n))) ?_; first | rfl | omega | (simp; done)))
   · exact Nat.zero_le _
   ·
    intro i hx
    try dsimp only at hx ⊢
    have hl_ : (b ++ [128] ++ List.replicate (padK b.length) 0 ++ padB b.length i).length = b.length + 1 + padK b.length + i := by simp [padB_len]; omega
    have hl3_ := padB_len b.length i
    have hk_ : padK b.length ≤ 63 := by unfold padK; omega
    refine T.seq ?_
    refine T.seq ?_
    refine T.region ?_
    refine TL.cons rfl (Step.move (p := (.one (.d (.int .i64 (7 - (i : Int)))))) rfl rfl (lt_ok rfl) rfl) ?_
    refine TL.cons rfl (Step.bin rfl rfl (lt_ok rfl) rfl rfl (Bin.geq (k := .i64) (a := (7 - (i : Int))) (b := 0))) ?_
    refine TL.nil ?_
    refine T.cond (b := decide (0 ≤ (7 - (i : Int)))) rfl (fun h2 => ?_) (fun h2 => ?_)
    ·
     replace h2 := of_decide_eq_true h2
     refine T.skip ?_
     refine T.seq ?_
     refine T.block ?_
     refine T.region ?_
     refine TL.cons rfl (Step.move (p := (.one (.row 1006 []))) rfl rfl (lt_ok rfl) rfl) ?_
     refine TL.cons rfl (Step.move (p := (.one (.d (.ints .u8 b)))) rfl rfl (lt_ok rfl) rfl) ?_
     refine TL.cons rfl (Step.len (e := 5) (z := 1) (d := (.ints .u8 b)) rfl rfl (lt_ok rfl) (by kernel_rfl) rfl rfl) ?_
     refine TL.cons rfl (Step.bin (r := .int .i64 (8 * (b.length : Int))) rfl rfl (lt_ok rfl) rfl rfl (Bin.mul (a := 8) (b := (b.length : Int)) (by first | exact wrap_ok (by first | omega | (simp; omega)) (by first | omega | (simp; omega)) | rfl))) ?_
     refine TL.cons rfl (Step.move (p := (.one (.d (.int .i64 (7 - (i : Int)))))) rfl rfl (lt_ok rfl) rfl) ?_
     refine TL.cons rfl (Step.bin (r := .int .i64 (8 * (7 - (i : Int)))) rfl rfl (lt_ok rfl) rfl rfl (Bin.mul (a := 8) (b := (7 - (i : Int))) (by first | exact wrap_ok (by first | omega | (simp; omega)) (by first | omega | (simp; omega)) | rfl))) ?_
     refine TL.cons rfl (Step.bin (r := .int .i64 (bshr (8 * (b.length : Int)) (8 * (7 - (i : Int))))) rfl rfl (lt_ok rfl) rfl rfl (Bin.shr (k := .i64) (k' := .i64) (a := (8 * (b.length : Int))) (b := (8 * (7 - (i : Int)))) (by first | omega | (simp; omega)) (rfl))) ?_
     refine TL.cons rfl (Step.conv (c := ((bshr (8 * (b.length : Int)) (8 * (7 - (i : Int)))) % 256)) rfl rfl (lt_ok rfl) (by kernel_rfl) (by kernel_rfl) rfl (wrap_byte _)) ?_
     refine TL.cons rfl (Step.lit (e := 5) (z := 1) (by_ := 1) (xs := [.tmp 27]) (pss := [[.d (.int .u8 ((bshr (8 * (b.length : Int)) (8 * (7 - (i : Int)))) % 256))]]) (es := [(.int .u8 ((bshr (8 * (b.length : Int)) (8 * (7 - (i : Int)))) % 256))]) (ss := []) (d := (.ints .u8 [(bshr (8 * (b.length : Int)) (8 * (7 - (i : Int)))) % 256])) rfl rfl (lt_ok rfl) (by kernel_rfl) rfl rfl (.cons rfl .nil) (by simp) (le_ok rfl) (le_ok rfl) rfl (.val rfl .nil) rfl (by simp) (by simp) rfl trivial rfl rfl) ?_
     refine TL.cons rfl (Step.append (e := 5) (z := 1) (by_ := 1) (d := (.ints .u8 (b ++ [128] ++ List.replicate (padK b.length) 0 ++ padB b.length i))) (dy := (.ints .u8 [(bshr (8 * (b.length : Int)) (8 * (7 - (i : Int)))) % 256])) (d' := (.ints .u8 ((b ++ [128] ++ List.replicate (padK b.length) 0 ++ padB b.length i) ++ [(bshr (8 * (b.length : Int)) (8 * (7 - (i : Int)))) % 256]))) (ss := []) rfl rfl (lt_ok rfl) (by kernel_rfl) rfl rfl rfl (lt_ok rfl) rfl (.copy rfl rfl rfl (by simp [D.flat, D.val])) (by simp) rfl (by simp only [D.size, List.length_map]; first | omega | (simp only [List.length_append, List.length_cons, List.length_nil]; omega) | (simp; omega) | (simp only [List.length_append] at *; omega)) (by simp only [D.size, List.length_map]; first | omega | (simp only [List.length_append, List.length_cons, List.length_nil]; omega) | (simp; omega) | (simp only [List.length_append] at *; omega)) (by simp)) ?_
     refine TL.cons rfl (Step.assign (p := (.one (.row 1006 []))) rfl rfl (lt_ok rfl) rfl) ?_
     refine TL.nil ?_
     refine T.region ?_
     refine TL.cons rfl (Step.move (p := (.one (.d (.int .i64 (7 - (i : Int)))))) rfl rfl (lt_ok rfl) rfl) ?_
     refine TL.cons rfl (Step.bin (r := .int .i64 ((7 - (i : Int)) - 1)) rfl rfl (lt_ok rfl) rfl rfl (Bin.sub (a := (7 - (i : Int))) (b := 1) (by first | exact wrap_ok (by first | omega | (simp; omega)) (by first | omega | (simp; omega)) | rfl))) ?_
     refine TL.cons rfl (Step.assign (p := (.one (.d (.int .i64 ((7 - (i : Int)) - 1))))) rfl rfl (lt_ok rfl) rfl) ?_
     refine TL.nil ?_
     refine ⟨i + 1, by omega, by omega, Env.le_mk ⟨rfl, rfl, rfl, ?_, trivial⟩ ⟨?_, rfl, trivial⟩ trivial⟩ <;> (first | rfl | (refine congrArg (fun x => some (_, D.ints .u8 x)) ?_; first | (simp; done) | (rw [List.replicate_succ', List.append_assoc, List.append_assoc]; first | done | rfl) | (simp only [List.append_assoc, List.replicate_succ', padB]; done) | (rw [show i = padK b.length from by unfold padK at *; omega]; simp [padB]; done)) | (refine congrArg (fun n => PV.one (.d (.int .i64 n))) ?_; first | rfl | omega | (simp; done)))
    ·
     replace h2 := of_decide_eq_false h2
     refine T.exit ?_
     refine T.seq ?_
     refine T.region ?_
     refine TL.cons rfl (Step.move (p := (.one (.row 1006 []))) rfl rfl (lt_ok rfl) rfl) ?_
     refine TL.cons rfl (Step.assign (p := (.one (.row 1006 []))) rfl rfl (lt_ok rfl) rfl) ?_
     refine TL.nil ?_
     refine T.ret ?_
     refine ⟨[(false, [.row 1006 []])], (.cons rfl .nil), rfl, [1006], (RetC.own' rfl ?_ rfl .nil)⟩ <;> ((congr 1; unfold shaPad; rw [show i = 8 from by omega]))
theorem ok_impl_within (n : Int) (low : Int) (high : Int) : RO Try.prog 52 [.one (.int .i64 n), .one (.int .i64 low), .one (.int .i64 high)] [(false, [.rd (.bool (decide (low ≤ n ∧ n ≤ high)))])] := by
 refine RO.intro Try.func52 rfl 15 rfl (le_ok rfl) fun w Z => ?_
 refine T.seq ?_
 refine T.region ?_
 refine TL.cons rfl (Step.assign (p := (.one (.d (.bool false)))) rfl rfl (lt_ok rfl) rfl) ?_
 refine TL.nil ?_
 refine T.seq ?_
 refine T.region ?_
 refine TL.cons rfl (Step.move (p := (.one (.d (.int .i64 low)))) rfl rfl (lt_ok rfl) rfl) ?_
 refine TL.cons rfl (Step.move (p := (.one (.d (.int .i64 n)))) rfl rfl (lt_ok rfl) rfl) ?_
 refine TL.cons rfl (Step.bin rfl rfl (lt_ok rfl) rfl rfl (Bin.leq (k := .i64) (a := low) (b := n))) ?_
 refine TL.cons rfl (Step.move (p := (.one (.d (.bool (decide (low ≤ n)))))) rfl rfl (lt_ok rfl) rfl) ?_
 rcases Bool.eq_false_or_eq_true (decide (low ≤ n)) with hb1 | hb1
 ·
  refine TL.known 10 hb1 rfl ?_
  refine TL.gyes 10 rfl rfl (lt_ok rfl) rfl (Step.move (p := (.one (.d (.int .i64 n)))) rfl rfl (lt_ok rfl) rfl) ?_
  refine TL.gyes 10 rfl rfl (lt_ok rfl) rfl (Step.move (p := (.one (.d (.int .i64 high)))) rfl rfl (lt_ok rfl) rfl) ?_
  refine TL.gyes 10 rfl rfl (lt_ok rfl) rfl (Step.bin rfl rfl (lt_ok rfl) rfl rfl (Bin.leq (k := .i64) (a := n) (b := high))) ?_
  refine TL.cons rfl (Step.pick (b := true) (p := (.one (.d (.bool (decide (n ≤ high)))))) rfl rfl (lt_ok rfl) rfl rfl) ?_
  refine TL.cons rfl (Step.assign (p := (.one (.d (.bool (decide (n ≤ high)))))) rfl rfl (lt_ok rfl) rfl) ?_
  refine TL.nil ?_
  refine T.ret ?_
  refine ⟨[(false, [.d (.bool (decide (n ≤ high)))])], (.cons rfl .nil), rfl, [], (RetC.rd' ?_ .nil)⟩ <;> (first | (congr 1; simp_all; done) | (congr 1; simp_all; omega))
 ·
  refine TL.known 10 hb1 rfl ?_
  refine TL.goff 10 rfl rfl (lt_ok rfl) rfl rfl rfl (lt_ok rfl) ?_
  refine TL.goff 10 rfl rfl (lt_ok rfl) rfl rfl rfl (lt_ok rfl) ?_
  refine TL.goff 10 rfl rfl (lt_ok rfl) rfl rfl rfl (lt_ok rfl) ?_
  refine TL.cons rfl (Step.pick (b := false) (p := (.one (.d (.bool false)))) rfl rfl (lt_ok rfl) rfl rfl) ?_
  refine TL.cons rfl (Step.assign (p := (.one (.d (.bool false)))) rfl rfl (lt_ok rfl) rfl) ?_
  refine TL.nil ?_
  refine T.ret ?_
  refine ⟨[(false, [.d (.bool false)])], (.cons rfl .nil), rfl, [], (RetC.rd' ?_ .nil)⟩ <;> (first | (congr 1; simp_all; done) | (congr 1; simp_all; omega))
theorem ok_impl_isWord (x : Int) : RO Try.prog 104 [.one (.int .i64 x)] [(false, [.rd (.bool (decide (0 ≤ x ∧ x ≤ 4294967295)))])] := by
 refine RO.intro Try.func104 rfl 5 rfl (le_ok rfl) fun w Z => ?_
 refine T.seq ?_
 refine T.region ?_
 refine TL.cons rfl (Step.assign (p := (.one (.d (.bool false)))) rfl rfl (lt_ok rfl) rfl) ?_
 refine TL.nil ?_
 refine T.seq ?_
 refine T.region ?_
 refine TL.cons rfl (Step.move (p := (.one (.d (.int .i64 x)))) rfl rfl (lt_ok rfl) rfl) ?_
 refine TL.cons rfl (Step.call (f := 52) (xs := [.tmp 3, .const (.int .i64 0), .const (.int .i64 4294967295)]) (ps := [(.one (.d (.int .i64 x))), (.one (.d (.int .i64 0))), (.one (.d (.int .i64 4294967295)))]) false (g := .func 52) rfl rfl (lt_ok rfl) rfl (by kernel_rfl) rfl (.cons (.one (.d _)) (.cons (.one (.d _)) (.cons (.one (.d _)) .nil))) (ok_impl_within x 0 4294967295) (.inr rfl) rfl (by simp) rfl) ?_
 refine TL.cons rfl (Step.assign (p := (.one (.d (.bool (decide (0 ≤ x ∧ x ≤ 4294967295)))))) rfl rfl (lt_ok rfl) rfl) ?_
 refine TL.nil ?_
 refine T.ret ?_
 exact ⟨[(false, [.d (.bool (decide (0 ≤ x ∧ x ≤ 4294967295)))])], (.cons rfl .nil), rfl, [], (RetC.rd' rfl .nil)⟩
theorem ok_impl_rounds  : RO Try.prog 105 [] [(false, [.own 3 (.ints .i64 shaK)])] := by
 refine RO.intro Try.func105 rfl 2 rfl (le_ok rfl) fun w Z => ?_
 refine T.seq ?_
 refine T.region ?_
 refine TL.cons rfl (Step.assign (p := (.one (.nil))) rfl rfl (lt_ok rfl) rfl) ?_
 refine TL.nil ?_
 refine T.seq ?_
 refine T.region ?_
 refine TL.cons rfl (Step.lit (e := 3) (z := 1) (by_ := 8) (xs := [.const (.int .i64 1116352408), .const (.int .i64 1899447441), .const (.int .i64 3049323471), .const (.int .i64 3921009573), .const (.int .i64 961987163), .const (.int .i64 1508970993), .const (.int .i64 2453635748), .const (.int .i64 2870763221), .const (.int .i64 3624381080), .const (.int .i64 310598401), .const (.int .i64 607225278), .const (.int .i64 1426881987), .const (.int .i64 1925078388), .const (.int .i64 2162078206), .const (.int .i64 2614888103), .const (.int .i64 3248222580), .const (.int .i64 3835390401), .const (.int .i64 4022224774), .const (.int .i64 264347078), .const (.int .i64 604807628), .const (.int .i64 770255983), .const (.int .i64 1249150122), .const (.int .i64 1555081692), .const (.int .i64 1996064986), .const (.int .i64 2554220882), .const (.int .i64 2821834349), .const (.int .i64 2952996808), .const (.int .i64 3210313671), .const (.int .i64 3336571891), .const (.int .i64 3584528711), .const (.int .i64 113926993), .const (.int .i64 338241895), .const (.int .i64 666307205), .const (.int .i64 773529912), .const (.int .i64 1294757372), .const (.int .i64 1396182291), .const (.int .i64 1695183700), .const (.int .i64 1986661051), .const (.int .i64 2177026350), .const (.int .i64 2456956037), .const (.int .i64 2730485921), .const (.int .i64 2820302411), .const (.int .i64 3259730800), .const (.int .i64 3345764771), .const (.int .i64 3516065817), .const (.int .i64 3600352804), .const (.int .i64 4094571909), .const (.int .i64 275423344), .const (.int .i64 430227734), .const (.int .i64 506948616), .const (.int .i64 659060556), .const (.int .i64 883997877), .const (.int .i64 958139571), .const (.int .i64 1322822218), .const (.int .i64 1537002063), .const (.int .i64 1747873779), .const (.int .i64 1955562222), .const (.int .i64 2024104815), .const (.int .i64 2227730452), .const (.int .i64 2361852424), .const (.int .i64 2428436474), .const (.int .i64 2756734187), .const (.int .i64 3204031479), .const (.int .i64 3329325298)]) (pss := [[.d (.int .i64 1116352408)], [.d (.int .i64 1899447441)], [.d (.int .i64 3049323471)], [.d (.int .i64 3921009573)], [.d (.int .i64 961987163)], [.d (.int .i64 1508970993)], [.d (.int .i64 2453635748)], [.d (.int .i64 2870763221)], [.d (.int .i64 3624381080)], [.d (.int .i64 310598401)], [.d (.int .i64 607225278)], [.d (.int .i64 1426881987)], [.d (.int .i64 1925078388)], [.d (.int .i64 2162078206)], [.d (.int .i64 2614888103)], [.d (.int .i64 3248222580)], [.d (.int .i64 3835390401)], [.d (.int .i64 4022224774)], [.d (.int .i64 264347078)], [.d (.int .i64 604807628)], [.d (.int .i64 770255983)], [.d (.int .i64 1249150122)], [.d (.int .i64 1555081692)], [.d (.int .i64 1996064986)], [.d (.int .i64 2554220882)], [.d (.int .i64 2821834349)], [.d (.int .i64 2952996808)], [.d (.int .i64 3210313671)], [.d (.int .i64 3336571891)], [.d (.int .i64 3584528711)], [.d (.int .i64 113926993)], [.d (.int .i64 338241895)], [.d (.int .i64 666307205)], [.d (.int .i64 773529912)], [.d (.int .i64 1294757372)], [.d (.int .i64 1396182291)], [.d (.int .i64 1695183700)], [.d (.int .i64 1986661051)], [.d (.int .i64 2177026350)], [.d (.int .i64 2456956037)], [.d (.int .i64 2730485921)], [.d (.int .i64 2820302411)], [.d (.int .i64 3259730800)], [.d (.int .i64 3345764771)], [.d (.int .i64 3516065817)], [.d (.int .i64 3600352804)], [.d (.int .i64 4094571909)], [.d (.int .i64 275423344)], [.d (.int .i64 430227734)], [.d (.int .i64 506948616)], [.d (.int .i64 659060556)], [.d (.int .i64 883997877)], [.d (.int .i64 958139571)], [.d (.int .i64 1322822218)], [.d (.int .i64 1537002063)], [.d (.int .i64 1747873779)], [.d (.int .i64 1955562222)], [.d (.int .i64 2024104815)], [.d (.int .i64 2227730452)], [.d (.int .i64 2361852424)], [.d (.int .i64 2428436474)], [.d (.int .i64 2756734187)], [.d (.int .i64 3204031479)], [.d (.int .i64 3329325298)]]) (es := [(.int .i64 1116352408), (.int .i64 1899447441), (.int .i64 3049323471), (.int .i64 3921009573), (.int .i64 961987163), (.int .i64 1508970993), (.int .i64 2453635748), (.int .i64 2870763221), (.int .i64 3624381080), (.int .i64 310598401), (.int .i64 607225278), (.int .i64 1426881987), (.int .i64 1925078388), (.int .i64 2162078206), (.int .i64 2614888103), (.int .i64 3248222580), (.int .i64 3835390401), (.int .i64 4022224774), (.int .i64 264347078), (.int .i64 604807628), (.int .i64 770255983), (.int .i64 1249150122), (.int .i64 1555081692), (.int .i64 1996064986), (.int .i64 2554220882), (.int .i64 2821834349), (.int .i64 2952996808), (.int .i64 3210313671), (.int .i64 3336571891), (.int .i64 3584528711), (.int .i64 113926993), (.int .i64 338241895), (.int .i64 666307205), (.int .i64 773529912), (.int .i64 1294757372), (.int .i64 1396182291), (.int .i64 1695183700), (.int .i64 1986661051), (.int .i64 2177026350), (.int .i64 2456956037), (.int .i64 2730485921), (.int .i64 2820302411), (.int .i64 3259730800), (.int .i64 3345764771), (.int .i64 3516065817), (.int .i64 3600352804), (.int .i64 4094571909), (.int .i64 275423344), (.int .i64 430227734), (.int .i64 506948616), (.int .i64 659060556), (.int .i64 883997877), (.int .i64 958139571), (.int .i64 1322822218), (.int .i64 1537002063), (.int .i64 1747873779), (.int .i64 1955562222), (.int .i64 2024104815), (.int .i64 2227730452), (.int .i64 2361852424), (.int .i64 2428436474), (.int .i64 2756734187), (.int .i64 3204031479), (.int .i64 3329325298)]) (ss := []) (d := (.ints .i64 [1116352408, 1899447441, 3049323471, 3921009573, 961987163, 1508970993, 2453635748, 2870763221, 3624381080, 310598401, 607225278, 1426881987, 1925078388, 2162078206, 2614888103, 3248222580, 3835390401, 4022224774, 264347078, 604807628, 770255983, 1249150122, 1555081692, 1996064986, 2554220882, 2821834349, 2952996808, 3210313671, 3336571891, 3584528711, 113926993, 338241895, 666307205, 773529912, 1294757372, 1396182291, 1695183700, 1986661051, 2177026350, 2456956037, 2730485921, 2820302411, 3259730800, 3345764771, 3516065817, 3600352804, 4094571909, 275423344, 430227734, 506948616, 659060556, 883997877, 958139571, 1322822218, 1537002063, 1747873779, 1955562222, 2024104815, 2227730452, 2361852424, 2428436474, 2756734187, 3204031479, 3329325298])) rfl rfl (lt_ok rfl) (by kernel_rfl) rfl rfl (.cons rfl (.cons rfl (.cons rfl (.cons rfl (.cons rfl (.cons rfl (.cons rfl (.cons rfl (.cons rfl (.cons rfl (.cons rfl (.cons rfl (.cons rfl (.cons rfl (.cons rfl (.cons rfl (.cons rfl (.cons rfl (.cons rfl (.cons rfl (.cons rfl (.cons rfl (.cons rfl (.cons rfl (.cons rfl (.cons rfl (.cons rfl (.cons rfl (.cons rfl (.cons rfl (.cons rfl (.cons rfl (.cons rfl (.cons rfl (.cons rfl (.cons rfl (.cons rfl (.cons rfl (.cons rfl (.cons rfl (.cons rfl (.cons rfl (.cons rfl (.cons rfl (.cons rfl (.cons rfl (.cons rfl (.cons rfl (.cons rfl (.cons rfl (.cons rfl (.cons rfl (.cons rfl (.cons rfl (.cons rfl (.cons rfl (.cons rfl (.cons rfl (.cons rfl (.cons rfl (.cons rfl (.cons rfl (.cons rfl (.cons rfl .nil)))))))))))))))))))))))))))))))))))))))))))))))))))))))))))))))) (by simp) (le_ok rfl) (le_ok rfl) rfl (.val rfl (.val rfl (.val rfl (.val rfl (.val rfl (.val rfl (.val rfl (.val rfl (.val rfl (.val rfl (.val rfl (.val rfl (.val rfl (.val rfl (.val rfl (.val rfl (.val rfl (.val rfl (.val rfl (.val rfl (.val rfl (.val rfl (.val rfl (.val rfl (.val rfl (.val rfl (.val rfl (.val rfl (.val rfl (.val rfl (.val rfl (.val rfl (.val rfl (.val rfl (.val rfl (.val rfl (.val rfl (.val rfl (.val rfl (.val rfl (.val rfl (.val rfl (.val rfl (.val rfl (.val rfl (.val rfl (.val rfl (.val rfl (.val rfl (.val rfl (.val rfl (.val rfl (.val rfl (.val rfl (.val rfl (.val rfl (.val rfl (.val rfl (.val rfl (.val rfl (.val rfl (.val rfl (.val rfl (.val rfl .nil)))))))))))))))))))))))))))))))))))))))))))))))))))))))))))))))) rfl (by simp) (by simp) rfl trivial rfl rfl) ?_
 refine TL.cons rfl (Step.assign (p := (.one (.row 1 []))) rfl rfl (lt_ok rfl) rfl) ?_
 refine TL.nil ?_
 refine T.ret ?_
 refine ⟨[(false, [.row 1 []])], (.cons rfl .nil), rfl, [1], (RetC.own' rfl ?_ rfl .nil)⟩ <;> (rfl)
end Go.Proofs.Ytmdojlglemnijaa.Rf
