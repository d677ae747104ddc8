/- The functions that FnExactEventsSame calls, each held to what it answers. Printed by a program of this session; Lean checks it. -/
import Derived.Test.YtppldhkkhadngaaProg
import Derived.Test.YtppldhkkhadngaaRf16
import Derived.Test.YtppldhkkhadngaaRFnExactEventsSamex2
namespace Go.Proofs.Ytppldhkkhadngaa.Rf
open Go.RowKit
set_option linter.unusedVariables false
set_option linter.unnecessarySimpa false
set_option linter.unusedSimpArgs false
set_option maxRecDepth 100000
set_option maxHeartbeats 4000000
theorem ok_laws_eqQc (a : SQc) (b : SQc) : RO Try.prog 41 [.agg a.cells, .agg b.cells] [(false, [.rd (.bool (decide (a = b)))])] := by
 refine RO.intro Try.func41 rfl 33 rfl (le_ok rfl) fun w Z => ?_
 refine T.seq ?_
 refine T.region ?_
 refine TL.cons rfl (Step.box (p := (.agg [.d (.int .i64 a.f0), .d (.int .i64 a.f1), .d (.ints .u8 a.f2), .d (.ints .u8 a.f3), .d (.bss a.f4)])) (ps := [.d (.int .i64 a.f0), .d (.int .i64 a.f1), .d (.ints .u8 a.f2), .d (.ints .u8 a.f3), .d (.bss a.f4)]) rfl rfl (lt_ok rfl) rfl rfl rfl rfl rfl) ?_
 refine TL.cons rfl (Step.box (p := (.agg [.d (.int .i64 b.f0), .d (.int .i64 b.f1), .d (.ints .u8 b.f2), .d (.ints .u8 b.f3), .d (.bss b.f4)])) (ps := [.d (.int .i64 b.f0), .d (.int .i64 b.f1), .d (.ints .u8 b.f2), .d (.ints .u8 b.f3), .d (.bss b.f4)]) rfl rfl (lt_ok rfl) rfl rfl rfl rfl rfl) ?_
 refine TL.cons rfl (Step.assign (p := (.one (.d (.bool false)))) rfl rfl (lt_ok rfl) rfl) ?_
 refine TL.nil ?_
 refine T.seq ?_
 refine T.seq ?_
 refine T.region ?_
 refine TL.cons rfl (Step.fieldAddr (q := 0) (off := 0) (n := 1) (one := true) rfl rfl (lt_ok rfl) (by kernel_rfl) (Nat.succ_ne_zero _) rfl) ?_
 refine TL.cons rfl (Step.load_box (c := .d (.int .i64 a.f0)) rfl rfl (lt_ok rfl) (by kernel_rfl) rfl rfl rfl) ?_
 refine TL.cons rfl (Step.fieldAddr (q := 0) (off := 0) (n := 1) (one := true) rfl rfl (lt_ok rfl) (by kernel_rfl) (Nat.succ_ne_zero _) rfl) ?_
 refine TL.cons rfl (Step.load_box (c := .d (.int .i64 b.f0)) rfl rfl (lt_ok rfl) (by kernel_rfl) rfl rfl rfl) ?_
 refine TL.cons rfl (Step.bin rfl rfl (lt_ok rfl) rfl rfl (Bin.neq (k := .i64) (a := a.f0) (b := b.f0))) ?_
 refine TL.nil ?_
 refine T.cond (b := decide (a.f0 ≠ b.f0)) rfl (fun h1 => ?_) (fun h1 => ?_)
 ·
  replace h1 := of_decide_eq_true h1
  refine T.seq ?_
  refine T.region ?_
  refine TL.cons rfl (Step.assign (p := (.one (.d (.bool false)))) rfl rfl (lt_ok rfl) rfl) ?_
  refine TL.nil ?_
  refine T.ret ?_
  exact ⟨[(false, [.d (.bool false)])], (.cons rfl .nil), rfl, [], (RetC.rd' (by (congr 1; symm; first | (apply decide_eq_false; rintro rfl; first | exact absurd rfl ‹¬ _ = _› | contradiction) | (apply decide_eq_true; apply SQc.ext <;> first | assumption | exact Decidable.not_not.1 (by assumption)))) .nil)⟩
 ·
  replace h1 := of_decide_eq_false h1
  refine T.skip ?_
  refine T.seq ?_
  refine T.seq ?_
  refine T.region ?_
  refine TL.cons rfl (Step.fieldAddr (q := 0) (off := 1) (n := 1) (one := true) rfl rfl (lt_ok rfl) (by kernel_rfl) (Nat.succ_ne_zero _) rfl) ?_
  refine TL.cons rfl (Step.load_box (c := .d (.int .i64 a.f1)) rfl rfl (lt_ok rfl) (by kernel_rfl) rfl rfl rfl) ?_
  refine TL.cons rfl (Step.fieldAddr (q := 0) (off := 1) (n := 1) (one := true) rfl rfl (lt_ok rfl) (by kernel_rfl) (Nat.succ_ne_zero _) rfl) ?_
  refine TL.cons rfl (Step.load_box (c := .d (.int .i64 b.f1)) rfl rfl (lt_ok rfl) (by kernel_rfl) rfl rfl rfl) ?_
  refine TL.cons rfl (Step.bin rfl rfl (lt_ok rfl) rfl rfl (Bin.neq (k := .i64) (a := a.f1) (b := b.f1))) ?_
  refine TL.nil ?_
  refine T.cond (b := decide (a.f1 ≠ b.f1)) rfl (fun h2 => ?_) (fun h2 => ?_)
  ·
   replace h2 := of_decide_eq_true h2
   refine T.seq ?_
   refine T.region ?_
   refine TL.cons rfl (Step.assign (p := (.one (.d (.bool false)))) rfl rfl (lt_ok rfl) rfl) ?_
   refine TL.nil ?_
   refine T.ret ?_
   exact ⟨[(false, [.d (.bool false)])], (.cons rfl .nil), rfl, [], (RetC.rd' (by (congr 1; symm; first | (apply decide_eq_false; rintro rfl; first | exact absurd rfl ‹¬ _ = _› | contradiction) | (apply decide_eq_true; apply SQc.ext <;> first | assumption | exact Decidable.not_not.1 (by assumption)))) .nil)⟩
  ·
   replace h2 := of_decide_eq_false h2
   refine T.skip ?_
   refine T.seq ?_
   refine T.seq ?_
   refine T.region ?_
   refine TL.cons rfl (Step.fieldAddr (q := 0) (off := 2) (n := 1) (one := true) rfl rfl (lt_ok rfl) (by kernel_rfl) (Nat.succ_ne_zero _) rfl) ?_
   refine TL.cons rfl (Step.load_box (c := .d (.ints .u8 a.f2)) rfl rfl (lt_ok rfl) (by kernel_rfl) rfl rfl rfl) ?_
   refine TL.cons rfl (Step.fieldAddr (q := 0) (off := 2) (n := 1) (one := true) rfl rfl (lt_ok rfl) (by kernel_rfl) (Nat.succ_ne_zero _) rfl) ?_
   refine TL.cons rfl (Step.load_box (c := .d (.ints .u8 b.f2)) rfl rfl (lt_ok rfl) (by kernel_rfl) rfl rfl rfl) ?_
   refine TL.cons rfl (Step.call (f := 35) (xs := [.tmp 16, .tmp 18]) (ps := [(.one (.d (.ints .u8 a.f2))), (.one (.d (.ints .u8 b.f2)))]) false (g := .func 35) rfl rfl (lt_ok rfl) rfl (by kernel_rfl) rfl (.cons (.one (.d _)) (.cons (.one (.d _)) .nil)) (ok_laws_eqByteS a.f2 b.f2) (.inr rfl) rfl (by simp) rfl) ?_
   refine TL.cons rfl (Step.not (b := (decide (a.f2 = b.f2))) rfl rfl (lt_ok rfl) rfl) ?_
   refine TL.nil ?_
   refine T.cond (b := !(decide (a.f2 = b.f2))) rfl (fun h3 => ?_) (fun h3 => ?_)
   ·
    replace h3 : (decide (a.f2 = b.f2)) = false := by simpa only [Bool.not_eq_true', Bool.not_eq_false'] using h3
    replace h3 := of_decide_eq_false h3
    refine T.seq ?_
    refine T.region ?_
    refine TL.cons rfl (Step.assign (p := (.one (.d (.bool false)))) rfl rfl (lt_ok rfl) rfl) ?_
    refine TL.nil ?_
    refine T.ret ?_
    exact ⟨[(false, [.d (.bool false)])], (.cons rfl .nil), rfl, [], (RetC.rd' (by (congr 1; symm; first | (apply decide_eq_false; rintro rfl; first | exact absurd rfl ‹¬ _ = _› | contradiction) | (apply decide_eq_true; apply SQc.ext <;> first | assumption | exact Decidable.not_not.1 (by assumption)))) .nil)⟩
   ·
    replace h3 : (decide (a.f2 = b.f2)) = true := by simpa only [Bool.not_eq_true', Bool.not_eq_false'] using h3
    replace h3 := of_decide_eq_true h3
    refine T.skip ?_
    refine T.seq ?_
    refine T.seq ?_
    refine T.region ?_
    refine TL.cons rfl (Step.fieldAddr (q := 0) (off := 3) (n := 1) (one := true) rfl rfl (lt_ok rfl) (by kernel_rfl) (Nat.succ_ne_zero _) rfl) ?_
    refine TL.cons rfl (Step.load_box (c := .d (.ints .u8 a.f3)) rfl rfl (lt_ok rfl) (by kernel_rfl) rfl rfl rfl) ?_
    refine TL.cons rfl (Step.fieldAddr (q := 0) (off := 3) (n := 1) (one := true) rfl rfl (lt_ok rfl) (by kernel_rfl) (Nat.succ_ne_zero _) rfl) ?_
    refine TL.cons rfl (Step.load_box (c := .d (.ints .u8 b.f3)) rfl rfl (lt_ok rfl) (by kernel_rfl) rfl rfl rfl) ?_
    refine TL.cons rfl (Step.call (f := 35) (xs := [.tmp 22, .tmp 24]) (ps := [(.one (.d (.ints .u8 a.f3))), (.one (.d (.ints .u8 b.f3)))]) false (g := .func 35) rfl rfl (lt_ok rfl) rfl (by kernel_rfl) rfl (.cons (.one (.d _)) (.cons (.one (.d _)) .nil)) (ok_laws_eqByteS a.f3 b.f3) (.inr rfl) rfl (by simp) rfl) ?_
    refine TL.cons rfl (Step.not (b := (decide (a.f3 = b.f3))) rfl rfl (lt_ok rfl) rfl) ?_
    refine TL.nil ?_
    refine T.cond (b := !(decide (a.f3 = b.f3))) rfl (fun h4 => ?_) (fun h4 => ?_)
    ·
     replace h4 : (decide (a.f3 = b.f3)) = false := by simpa only [Bool.not_eq_true', Bool.not_eq_false'] using h4
     replace h4 := of_decide_eq_false h4
     refine T.seq ?_
     refine T.region ?_
     refine TL.cons rfl (Step.assign (p := (.one (.d (.bool false)))) rfl rfl (lt_ok rfl) rfl) ?_
     refine TL.nil ?_
     refine T.ret ?_
     exact ⟨[(false, [.d (.bool false)])], (.cons rfl .nil), rfl, [], (RetC.rd' (by (congr 1; symm; first | (apply decide_eq_false; rintro rfl; first | exact absurd rfl ‹¬ _ = _› | contradiction) | (apply decide_eq_true; apply SQc.ext <;> first | assumption | exact Decidable.not_not.1 (by assumption)))) .nil)⟩
    ·
     replace h4 : (decide (a.f3 = b.f3)) = true := by simpa only [Bool.not_eq_true', Bool.not_eq_false'] using h4
     replace h4 := of_decide_eq_true h4
     refine T.skip ?_
     refine T.seq ?_
     refine T.seq ?_
     refine T.region ?_
     refine TL.cons rfl (Step.fieldAddr (q := 0) (off := 4) (n := 1) (one := true) rfl rfl (lt_ok rfl) (by kernel_rfl) (Nat.succ_ne_zero _) rfl) ?_
     refine TL.cons rfl (Step.load_box (c := .d (.bss a.f4)) rfl rfl (lt_ok rfl) (by kernel_rfl) rfl rfl rfl) ?_
     refine TL.cons rfl (Step.fieldAddr (q := 0) (off := 4) (n := 1) (one := true) rfl rfl (lt_ok rfl) (by kernel_rfl) (Nat.succ_ne_zero _) rfl) ?_
     refine TL.cons rfl (Step.load_box (c := .d (.bss b.f4)) rfl rfl (lt_ok rfl) (by kernel_rfl) rfl rfl rfl) ?_
     refine TL.cons rfl (Step.call (f := 88) (xs := [.tmp 28, .tmp 30]) (ps := [(.one (.d (.bss a.f4))), (.one (.d (.bss b.f4)))]) false (g := .func 88) rfl rfl (lt_ok rfl) rfl (by kernel_rfl) rfl (.cons (.one (.d _)) (.cons (.one (.d _)) .nil)) (ok_laws_eqByteSS a.f4 b.f4) (.inr rfl) rfl (by simp) rfl) ?_
     refine TL.cons rfl (Step.not (b := (decide (a.f4 = b.f4))) rfl rfl (lt_ok rfl) rfl) ?_
     refine TL.nil ?_
     refine T.cond (b := !(decide (a.f4 = b.f4))) rfl (fun h5 => ?_) (fun h5 => ?_)
     ·
      replace h5 : (decide (a.f4 = b.f4)) = false := by simpa only [Bool.not_eq_true', Bool.not_eq_false'] using h5
      replace h5 := of_decide_eq_false h5
      refine T.seq ?_
      refine T.region ?_
      refine TL.cons rfl (Step.assign (p := (.one (.d (.bool false)))) rfl rfl (lt_ok rfl) rfl) ?_
      refine TL.nil ?_
      refine T.ret ?_
      exact ⟨[(false, [.d (.bool false)])], (.cons rfl .nil), rfl, [], (RetC.rd' (by (congr 1; symm; first | (apply decide_eq_false; rintro rfl; first | exact absurd rfl ‹¬ _ = _› | contradiction) | (apply decide_eq_true; apply SQc.ext <;> first | assumption | exact Decidable.not_not.1 (by assumption)))) .nil)⟩
     ·
      replace h5 : (decide (a.f4 = b.f4)) = true := by simpa only [Bool.not_eq_true', Bool.not_eq_false'] using h5
      replace h5 := of_decide_eq_true h5
      refine T.skip ?_
      refine T.seq ?_
      refine T.region ?_
      refine TL.cons rfl (Step.assign (p := (.one (.d (.bool true)))) rfl rfl (lt_ok rfl) rfl) ?_
      refine TL.nil ?_
      refine T.ret ?_
      exact ⟨[(false, [.d (.bool true)])], (.cons rfl .nil), rfl, [], (RetC.rd' (by (congr 1; symm; first | (apply decide_eq_false; rintro rfl; first | exact absurd rfl ‹¬ _ = _› | contradiction) | (apply decide_eq_true; apply SQc.ext <;> first | assumption | exact Decidable.not_not.1 (by assumption)))) .nil)⟩
theorem ok_laws_eqHead (a : SHead) (b : SHead) : RO Try.prog 42 [.agg a.cells, .agg b.cells] [(false, [.rd (.bool (decide (a = b)))])] := by
 refine RO.intro Try.func42 rfl 38 rfl (le_ok rfl) fun w Z => ?_
 refine T.seq ?_
 refine T.region ?_
 refine TL.cons rfl (Step.box (p := (.agg [.d (.int .i64 a.f0), .d (.int .i64 a.f1), .d (.int .i64 a.f2), .d (.ints .u8 a.f3), .d (.ints .u8 a.f4), .d (.int .i64 a.f5.f0), .d (.int .i64 a.f5.f1), .d (.ints .u8 a.f5.f2), .d (.ints .u8 a.f5.f3), .d (.bss a.f5.f4)])) (ps := [.d (.int .i64 a.f0), .d (.int .i64 a.f1), .d (.int .i64 a.f2), .d (.ints .u8 a.f3), .d (.ints .u8 a.f4), .d (.int .i64 a.f5.f0), .d (.int .i64 a.f5.f1), .d (.ints .u8 a.f5.f2), .d (.ints .u8 a.f5.f3), .d (.bss a.f5.f4)]) rfl rfl (lt_ok rfl) rfl rfl rfl rfl rfl) ?_
 refine TL.cons rfl (Step.box (p := (.agg [.d (.int .i64 b.f0), .d (.int .i64 b.f1), .d (.int .i64 b.f2), .d (.ints .u8 b.f3), .d (.ints .u8 b.f4), .d (.int .i64 b.f5.f0), .d (.int .i64 b.f5.f1), .d (.ints .u8 b.f5.f2), .d (.ints .u8 b.f5.f3), .d (.bss b.f5.f4)])) (ps := [.d (.int .i64 b.f0), .d (.int .i64 b.f1), .d (.int .i64 b.f2), .d (.ints .u8 b.f3), .d (.ints .u8 b.f4), .d (.int .i64 b.f5.f0), .d (.int .i64 b.f5.f1), .d (.ints .u8 b.f5.f2), .d (.ints .u8 b.f5.f3), .d (.bss b.f5.f4)]) rfl rfl (lt_ok rfl) rfl rfl rfl rfl rfl) ?_
 refine TL.cons rfl (Step.assign (p := (.one (.d (.bool false)))) rfl rfl (lt_ok rfl) rfl) ?_
 refine TL.nil ?_
 refine T.seq ?_
 refine T.seq ?_
 refine T.region ?_
 refine TL.cons rfl (Step.fieldAddr (q := 0) (off := 0) (n := 1) (one := true) rfl rfl (lt_ok rfl) (by kernel_rfl) (Nat.succ_ne_zero _) rfl) ?_
 refine TL.cons rfl (Step.load_box (c := .d (.int .i64 a.f0)) rfl rfl (lt_ok rfl) (by kernel_rfl) rfl rfl rfl) ?_
 refine TL.cons rfl (Step.fieldAddr (q := 0) (off := 0) (n := 1) (one := true) rfl rfl (lt_ok rfl) (by kernel_rfl) (Nat.succ_ne_zero _) rfl) ?_
 refine TL.cons rfl (Step.load_box (c := .d (.int .i64 b.f0)) rfl rfl (lt_ok rfl) (by kernel_rfl) rfl rfl rfl) ?_
 refine TL.cons rfl (Step.bin rfl rfl (lt_ok rfl) rfl rfl (Bin.neq (k := .i64) (a := a.f0) (b := b.f0))) ?_
 refine TL.nil ?_
 refine T.cond (b := decide (a.f0 ≠ b.f0)) rfl (fun h1 => ?_) (fun h1 => ?_)
 ·
  replace h1 := of_decide_eq_true h1
  refine T.seq ?_
  refine T.region ?_
  refine TL.cons rfl (Step.assign (p := (.one (.d (.bool false)))) rfl rfl (lt_ok rfl) rfl) ?_
  refine TL.nil ?_
  refine T.ret ?_
  exact ⟨[(false, [.d (.bool false)])], (.cons rfl .nil), rfl, [], (RetC.rd' (by (congr 1; symm; first | (apply decide_eq_false; rintro rfl; first | exact absurd rfl ‹¬ _ = _› | contradiction) | (apply decide_eq_true; apply SHead.ext <;> first | assumption | exact Decidable.not_not.1 (by assumption)))) .nil)⟩
 ·
  replace h1 := of_decide_eq_false h1
  refine T.skip ?_
  refine T.seq ?_
  refine T.seq ?_
  refine T.region ?_
  refine TL.cons rfl (Step.fieldAddr (q := 0) (off := 1) (n := 1) (one := true) rfl rfl (lt_ok rfl) (by kernel_rfl) (Nat.succ_ne_zero _) rfl) ?_
  refine TL.cons rfl (Step.load_box (c := .d (.int .i64 a.f1)) rfl rfl (lt_ok rfl) (by kernel_rfl) rfl rfl rfl) ?_
  refine TL.cons rfl (Step.fieldAddr (q := 0) (off := 1) (n := 1) (one := true) rfl rfl (lt_ok rfl) (by kernel_rfl) (Nat.succ_ne_zero _) rfl) ?_
  refine TL.cons rfl (Step.load_box (c := .d (.int .i64 b.f1)) rfl rfl (lt_ok rfl) (by kernel_rfl) rfl rfl rfl) ?_
  refine TL.cons rfl (Step.bin rfl rfl (lt_ok rfl) rfl rfl (Bin.neq (k := .i64) (a := a.f1) (b := b.f1))) ?_
  refine TL.nil ?_
  refine T.cond (b := decide (a.f1 ≠ b.f1)) rfl (fun h2 => ?_) (fun h2 => ?_)
  ·
   replace h2 := of_decide_eq_true h2
   refine T.seq ?_
   refine T.region ?_
   refine TL.cons rfl (Step.assign (p := (.one (.d (.bool false)))) rfl rfl (lt_ok rfl) rfl) ?_
   refine TL.nil ?_
   refine T.ret ?_
   exact ⟨[(false, [.d (.bool false)])], (.cons rfl .nil), rfl, [], (RetC.rd' (by (congr 1; symm; first | (apply decide_eq_false; rintro rfl; first | exact absurd rfl ‹¬ _ = _› | contradiction) | (apply decide_eq_true; apply SHead.ext <;> first | assumption | exact Decidable.not_not.1 (by assumption)))) .nil)⟩
  ·
   replace h2 := of_decide_eq_false h2
   refine T.skip ?_
   refine T.seq ?_
   refine T.seq ?_
   refine T.region ?_
   refine TL.cons rfl (Step.fieldAddr (q := 0) (off := 2) (n := 1) (one := true) rfl rfl (lt_ok rfl) (by kernel_rfl) (Nat.succ_ne_zero _) rfl) ?_
   refine TL.cons rfl (Step.load_box (c := .d (.int .i64 a.f2)) rfl rfl (lt_ok rfl) (by kernel_rfl) rfl rfl rfl) ?_
   refine TL.cons rfl (Step.fieldAddr (q := 0) (off := 2) (n := 1) (one := true) rfl rfl (lt_ok rfl) (by kernel_rfl) (Nat.succ_ne_zero _) rfl) ?_
   refine TL.cons rfl (Step.load_box (c := .d (.int .i64 b.f2)) rfl rfl (lt_ok rfl) (by kernel_rfl) rfl rfl rfl) ?_
   refine TL.cons rfl (Step.bin rfl rfl (lt_ok rfl) rfl rfl (Bin.neq (k := .i64) (a := a.f2) (b := b.f2))) ?_
   refine TL.nil ?_
   refine T.cond (b := decide (a.f2 ≠ b.f2)) rfl (fun h3 => ?_) (fun h3 => ?_)
   ·
    replace h3 := of_decide_eq_true h3
    refine T.seq ?_
    refine T.region ?_
    refine TL.cons rfl (Step.assign (p := (.one (.d (.bool false)))) rfl rfl (lt_ok rfl) rfl) ?_
    refine TL.nil ?_
    refine T.ret ?_
    exact ⟨[(false, [.d (.bool false)])], (.cons rfl .nil), rfl, [], (RetC.rd' (by (congr 1; symm; first | (apply decide_eq_false; rintro rfl; first | exact absurd rfl ‹¬ _ = _› | contradiction) | (apply decide_eq_true; apply SHead.ext <;> first | assumption | exact Decidable.not_not.1 (by assumption)))) .nil)⟩
   ·
    replace h3 := of_decide_eq_false h3
    refine T.skip ?_
    refine T.seq ?_
    refine T.seq ?_
    refine T.region ?_
    refine TL.cons rfl (Step.fieldAddr (q := 0) (off := 3) (n := 1) (one := true) rfl rfl (lt_ok rfl) (by kernel_rfl) (Nat.succ_ne_zero _) rfl) ?_
    refine TL.cons rfl (Step.load_box (c := .d (.ints .u8 a.f3)) rfl rfl (lt_ok rfl) (by kernel_rfl) rfl rfl rfl) ?_
    refine TL.cons rfl (Step.fieldAddr (q := 0) (off := 3) (n := 1) (one := true) rfl rfl (lt_ok rfl) (by kernel_rfl) (Nat.succ_ne_zero _) rfl) ?_
    refine TL.cons rfl (Step.load_box (c := .d (.ints .u8 b.f3)) rfl rfl (lt_ok rfl) (by kernel_rfl) rfl rfl rfl) ?_
    refine TL.cons rfl (Step.call (f := 35) (xs := [.tmp 21, .tmp 23]) (ps := [(.one (.d (.ints .u8 a.f3))), (.one (.d (.ints .u8 b.f3)))]) false (g := .func 35) rfl rfl (lt_ok rfl) rfl (by kernel_rfl) rfl (.cons (.one (.d _)) (.cons (.one (.d _)) .nil)) (ok_laws_eqByteS a.f3 b.f3) (.inr rfl) rfl (by simp) rfl) ?_
    refine TL.cons rfl (Step.not (b := (decide (a.f3 = b.f3))) rfl rfl (lt_ok rfl) rfl) ?_
    refine TL.nil ?_
    refine T.cond (b := !(decide (a.f3 = b.f3))) rfl (fun h4 => ?_) (fun h4 => ?_)
    ·
     replace h4 : (decide (a.f3 = b.f3)) = false := by simpa only [Bool.not_eq_true', Bool.not_eq_false'] using h4
     replace h4 := of_decide_eq_false h4
     refine T.seq ?_
     refine T.region ?_
     refine TL.cons rfl (Step.assign (p := (.one (.d (.bool false)))) rfl rfl (lt_ok rfl) rfl) ?_
     refine TL.nil ?_
     refine T.ret ?_
     exact ⟨[(false, [.d (.bool false)])], (.cons rfl .nil), rfl, [], (RetC.rd' (by (congr 1; symm; first | (apply decide_eq_false; rintro rfl; first | exact absurd rfl ‹¬ _ = _› | contradiction) | (apply decide_eq_true; apply SHead.ext <;> first | assumption | exact Decidable.not_not.1 (by assumption)))) .nil)⟩
    ·
     replace h4 : (decide (a.f3 = b.f3)) = true := by simpa only [Bool.not_eq_true', Bool.not_eq_false'] using h4
     replace h4 := of_decide_eq_true h4
     refine T.skip ?_
     refine T.seq ?_
     refine T.seq ?_
     refine T.region ?_
     refine TL.cons rfl (Step.fieldAddr (q := 0) (off := 4) (n := 1) (one := true) rfl rfl (lt_ok rfl) (by kernel_rfl) (Nat.succ_ne_zero _) rfl) ?_
     refine TL.cons rfl (Step.load_box (c := .d (.ints .u8 a.f4)) rfl rfl (lt_ok rfl) (by kernel_rfl) rfl rfl rfl) ?_
     refine TL.cons rfl (Step.fieldAddr (q := 0) (off := 4) (n := 1) (one := true) rfl rfl (lt_ok rfl) (by kernel_rfl) (Nat.succ_ne_zero _) rfl) ?_
     refine TL.cons rfl (Step.load_box (c := .d (.ints .u8 b.f4)) rfl rfl (lt_ok rfl) (by kernel_rfl) rfl rfl rfl) ?_
     refine TL.cons rfl (Step.call (f := 35) (xs := [.tmp 27, .tmp 29]) (ps := [(.one (.d (.ints .u8 a.f4))), (.one (.d (.ints .u8 b.f4)))]) false (g := .func 35) rfl rfl (lt_ok rfl) rfl (by kernel_rfl) rfl (.cons (.one (.d _)) (.cons (.one (.d _)) .nil)) (ok_laws_eqByteS a.f4 b.f4) (.inr rfl) rfl (by simp) rfl) ?_
     refine TL.cons rfl (Step.not (b := (decide (a.f4 = b.f4))) rfl rfl (lt_ok rfl) rfl) ?_
     refine TL.nil ?_
     refine T.cond (b := !(decide (a.f4 = b.f4))) rfl (fun h5 => ?_) (fun h5 => ?_)
     ·
      replace h5 : (decide (a.f4 = b.f4)) = false := by simpa only [Bool.not_eq_true', Bool.not_eq_false'] using h5
      replace h5 := of_decide_eq_false h5
      refine T.seq ?_
      refine T.region ?_
      refine TL.cons rfl (Step.assign (p := (.one (.d (.bool false)))) rfl rfl (lt_ok rfl) rfl) ?_
      refine TL.nil ?_
      refine T.ret ?_
      exact ⟨[(false, [.d (.bool false)])], (.cons rfl .nil), rfl, [], (RetC.rd' (by (congr 1; symm; first | (apply decide_eq_false; rintro rfl; first | exact absurd rfl ‹¬ _ = _› | contradiction) | (apply decide_eq_true; apply SHead.ext <;> first | assumption | exact Decidable.not_not.1 (by assumption)))) .nil)⟩
     ·
      replace h5 : (decide (a.f4 = b.f4)) = true := by simpa only [Bool.not_eq_true', Bool.not_eq_false'] using h5
      replace h5 := of_decide_eq_true h5
      refine T.skip ?_
      refine T.seq ?_
      refine T.seq ?_
      refine T.region ?_
      refine TL.cons rfl (Step.fieldAddr (q := 0) (off := 5) (n := 5) (one := false) rfl rfl (lt_ok rfl) (by kernel_rfl) (Nat.succ_ne_zero _) rfl) ?_
      refine TL.cons rfl (Step.load_box_agg (n := 5) (qs := [.d (.int .i64 a.f5.f0), .d (.int .i64 a.f5.f1), .d (.ints .u8 a.f5.f2), .d (.ints .u8 a.f5.f3), .d (.bss a.f5.f4)]) rfl rfl (lt_ok rfl) (by kernel_rfl) rfl rfl rfl rfl) ?_
      refine TL.cons rfl (Step.fieldAddr (q := 0) (off := 5) (n := 5) (one := false) rfl rfl (lt_ok rfl) (by kernel_rfl) (Nat.succ_ne_zero _) rfl) ?_
      refine TL.cons rfl (Step.load_box_agg (n := 5) (qs := [.d (.int .i64 b.f5.f0), .d (.int .i64 b.f5.f1), .d (.ints .u8 b.f5.f2), .d (.ints .u8 b.f5.f3), .d (.bss b.f5.f4)]) rfl rfl (lt_ok rfl) (by kernel_rfl) rfl rfl rfl rfl) ?_
      refine TL.cons rfl (Step.call (f := 41) (xs := [.tmp 33, .tmp 35]) (ps := [(.agg [.d (.int .i64 a.f5.f0), .d (.int .i64 a.f5.f1), .d (.ints .u8 a.f5.f2), .d (.ints .u8 a.f5.f3), .d (.bss a.f5.f4)]), (.agg [.d (.int .i64 b.f5.f0), .d (.int .i64 b.f5.f1), .d (.ints .u8 b.f5.f2), .d (.ints .u8 b.f5.f3), .d (.bss b.f5.f4)])]) false (g := .func 41) rfl rfl (lt_ok rfl) rfl (by kernel_rfl) rfl (.cons (.agg (.cons (.d _) (.cons (.d _) (.cons (.d _) (.cons (.d _) (.cons (.d _) .nil)))))) (.cons (.agg (.cons (.d _) (.cons (.d _) (.cons (.d _) (.cons (.d _) (.cons (.d _) .nil)))))) .nil)) (ok_laws_eqQc a.f5 b.f5) (.inr rfl) rfl (by simp) rfl) ?_
      refine TL.cons rfl (Step.not (b := (decide (a.f5 = b.f5))) rfl rfl (lt_ok rfl) rfl) ?_
      refine TL.nil ?_
      refine T.weaken (E' := { tm := [(4, (.one (.d (.bool false)))), (37, (.one (.d (.bool (!(decide (a.f5 = b.f5)))))))], rows := [], boxes := [] }) (Env.le_mk ⟨by kernel_rfl, by kernel_rfl, trivial⟩ trivial trivial) ?_
      refine T.cond (b := !(decide (a.f5 = b.f5))) rfl (fun h6 => ?_) (fun h6 => ?_)
      ·
       replace h6 : (decide (a.f5 = b.f5)) = false := by simpa only [Bool.not_eq_true', Bool.not_eq_false'] using h6
       replace h6 := of_decide_eq_false h6
       refine T.seq ?_
       refine T.region ?_
       refine TL.cons rfl (Step.assign (p := (.one (.d (.bool false)))) rfl rfl (lt_ok rfl) rfl) ?_
       refine TL.nil ?_
       refine T.ret ?_
       exact ⟨[(false, [.d (.bool false)])], (.cons rfl .nil), rfl, [], (RetC.rd' (by (congr 1; symm; first | (apply decide_eq_false; rintro rfl; first | exact absurd rfl ‹¬ _ = _› | contradiction) | (apply decide_eq_true; apply SHead.ext <;> first | assumption | exact Decidable.not_not.1 (by assumption)))) .nil)⟩
      ·
       replace h6 : (decide (a.f5 = b.f5)) = true := by simpa only [Bool.not_eq_true', Bool.not_eq_false'] using h6
       replace h6 := of_decide_eq_true h6
       refine T.skip ?_
       refine T.seq ?_
       refine T.region ?_
       refine TL.cons rfl (Step.assign (p := (.one (.d (.bool true)))) rfl rfl (lt_ok rfl) rfl) ?_
       refine TL.nil ?_
       refine T.ret ?_
       exact ⟨[(false, [.d (.bool true)])], (.cons rfl .nil), rfl, [], (RetC.rd' (by (congr 1; symm; first | (apply decide_eq_false; rintro rfl; first | exact absurd rfl ‹¬ _ = _› | contradiction) | (apply decide_eq_true; apply SHead.ext <;> first | assumption | exact Decidable.not_not.1 (by assumption)))) .nil)⟩
theorem ok_laws_eqBlock (a : SBlock) (b : SBlock) : RO Try.prog 43 [.agg a.cells, .agg b.cells] [(false, [.rd (.bool (decide (a = b)))])] := by
 refine RO.intro Try.func43 rfl 17 rfl (le_ok rfl) fun w Z => ?_
 refine T.seq ?_
 refine T.region ?_
 refine TL.cons rfl (Step.box (p := (.agg [.d (.int .i64 a.f0.f0), .d (.int .i64 a.f0.f1), .d (.int .i64 a.f0.f2), .d (.ints .u8 a.f0.f3), .d (.ints .u8 a.f0.f4), .d (.int .i64 a.f0.f5.f0), .d (.int .i64 a.f0.f5.f1), .d (.ints .u8 a.f0.f5.f2), .d (.ints .u8 a.f0.f5.f3), .d (.bss a.f0.f5.f4), .d (.bss a.f1)])) (ps := [.d (.int .i64 a.f0.f0), .d (.int .i64 a.f0.f1), .d (.int .i64 a.f0.f2), .d (.ints .u8 a.f0.f3), .d (.ints .u8 a.f0.f4), .d (.int .i64 a.f0.f5.f0), .d (.int .i64 a.f0.f5.f1), .d (.ints .u8 a.f0.f5.f2), .d (.ints .u8 a.f0.f5.f3), .d (.bss a.f0.f5.f4), .d (.bss a.f1)]) rfl rfl (lt_ok rfl) rfl rfl rfl rfl rfl) ?_
 refine TL.cons rfl (Step.box (p := (.agg [.d (.int .i64 b.f0.f0), .d (.int .i64 b.f0.f1), .d (.int .i64 b.f0.f2), .d (.ints .u8 b.f0.f3), .d (.ints .u8 b.f0.f4), .d (.int .i64 b.f0.f5.f0), .d (.int .i64 b.f0.f5.f1), .d (.ints .u8 b.f0.f5.f2), .d (.ints .u8 b.f0.f5.f3), .d (.bss b.f0.f5.f4), .d (.bss b.f1)])) (ps := [.d (.int .i64 b.f0.f0), .d (.int .i64 b.f0.f1), .d (.int .i64 b.f0.f2), .d (.ints .u8 b.f0.f3), .d (.ints .u8 b.f0.f4), .d (.int .i64 b.f0.f5.f0), .d (.int .i64 b.f0.f5.f1), .d (.ints .u8 b.f0.f5.f2), .d (.ints .u8 b.f0.f5.f3), .d (.bss b.f0.f5.f4), .d (.bss b.f1)]) rfl rfl (lt_ok rfl) rfl rfl rfl rfl rfl) ?_
 refine TL.cons rfl (Step.assign (p := (.one (.d (.bool false)))) rfl rfl (lt_ok rfl) rfl) ?_
 refine TL.nil ?_
 refine T.seq ?_
 refine T.seq ?_
 refine T.region ?_
 refine TL.cons rfl (Step.fieldAddr (q := 0) (off := 0) (n := 10) (one := false) rfl rfl (lt_ok rfl) (by kernel_rfl) (Nat.succ_ne_zero _) rfl) ?_
 refine TL.cons rfl (Step.load_box_agg (n := 10) (qs := [.d (.int .i64 a.f0.f0), .d (.int .i64 a.f0.f1), .d (.int .i64 a.f0.f2), .d (.ints .u8 a.f0.f3), .d (.ints .u8 a.f0.f4), .d (.int .i64 a.f0.f5.f0), .d (.int .i64 a.f0.f5.f1), .d (.ints .u8 a.f0.f5.f2), .d (.ints .u8 a.f0.f5.f3), .d (.bss a.f0.f5.f4)]) rfl rfl (lt_ok rfl) (by kernel_rfl) rfl rfl rfl rfl) ?_
 refine TL.cons rfl (Step.fieldAddr (q := 0) (off := 0) (n := 10) (one := false) rfl rfl (lt_ok rfl) (by kernel_rfl) (Nat.succ_ne_zero _) rfl) ?_
 refine TL.cons rfl (Step.load_box_agg (n := 10) (qs := [.d (.int .i64 b.f0.f0), .d (.int .i64 b.f0.f1), .d (.int .i64 b.f0.f2), .d (.ints .u8 b.f0.f3), .d (.ints .u8 b.f0.f4), .d (.int .i64 b.f0.f5.f0), .d (.int .i64 b.f0.f5.f1), .d (.ints .u8 b.f0.f5.f2), .d (.ints .u8 b.f0.f5.f3), .d (.bss b.f0.f5.f4)]) rfl rfl (lt_ok rfl) (by kernel_rfl) rfl rfl rfl rfl) ?_
 refine TL.cons rfl (Step.call (f := 42) (xs := [.tmp 6, .tmp 8]) (ps := [(.agg [.d (.int .i64 a.f0.f0), .d (.int .i64 a.f0.f1), .d (.int .i64 a.f0.f2), .d (.ints .u8 a.f0.f3), .d (.ints .u8 a.f0.f4), .d (.int .i64 a.f0.f5.f0), .d (.int .i64 a.f0.f5.f1), .d (.ints .u8 a.f0.f5.f2), .d (.ints .u8 a.f0.f5.f3), .d (.bss a.f0.f5.f4)]), (.agg [.d (.int .i64 b.f0.f0), .d (.int .i64 b.f0.f1), .d (.int .i64 b.f0.f2), .d (.ints .u8 b.f0.f3), .d (.ints .u8 b.f0.f4), .d (.int .i64 b.f0.f5.f0), .d (.int .i64 b.f0.f5.f1), .d (.ints .u8 b.f0.f5.f2), .d (.ints .u8 b.f0.f5.f3), .d (.bss b.f0.f5.f4)])]) false (g := .func 42) rfl rfl (lt_ok rfl) rfl (by kernel_rfl) rfl (.cons (.agg (.cons (.d _) (.cons (.d _) (.cons (.d _) (.cons (.d _) (.cons (.d _) (.cons (.d _) (.cons (.d _) (.cons (.d _) (.cons (.d _) (.cons (.d _) .nil))))))))))) (.cons (.agg (.cons (.d _) (.cons (.d _) (.cons (.d _) (.cons (.d _) (.cons (.d _) (.cons (.d _) (.cons (.d _) (.cons (.d _) (.cons (.d _) (.cons (.d _) .nil))))))))))) .nil)) (ok_laws_eqHead a.f0 b.f0) (.inr rfl) rfl (by simp) rfl) ?_
 refine TL.cons rfl (Step.not (b := (decide (a.f0 = b.f0))) rfl rfl (lt_ok rfl) rfl) ?_
 refine TL.nil ?_
 refine T.cond (b := !(decide (a.f0 = b.f0))) rfl (fun h1 => ?_) (fun h1 => ?_)
 ·
  replace h1 : (decide (a.f0 = b.f0)) = false := by simpa only [Bool.not_eq_true', Bool.not_eq_false'] using h1
  replace h1 := of_decide_eq_false h1
  refine T.seq ?_
  refine T.region ?_
  refine TL.cons rfl (Step.assign (p := (.one (.d (.bool false)))) rfl rfl (lt_ok rfl) rfl) ?_
  refine TL.nil ?_
  refine T.ret ?_
  exact ⟨[(false, [.d (.bool false)])], (.cons rfl .nil), rfl, [], (RetC.rd' (by (congr 1; symm; first | (apply decide_eq_false; rintro rfl; first | exact absurd rfl ‹¬ _ = _› | contradiction) | (apply decide_eq_true; apply SBlock.ext <;> first | assumption | exact Decidable.not_not.1 (by assumption)))) .nil)⟩
 ·
  replace h1 : (decide (a.f0 = b.f0)) = true := by simpa only [Bool.not_eq_true', Bool.not_eq_false'] using h1
  replace h1 := of_decide_eq_true h1
  refine T.skip ?_
  refine T.seq ?_
  refine T.seq ?_
  refine T.region ?_
  refine TL.cons rfl (Step.fieldAddr (q := 0) (off := 10) (n := 1) (one := true) rfl rfl (lt_ok rfl) (by kernel_rfl) (Nat.succ_ne_zero _) rfl) ?_
  refine TL.cons rfl (Step.load_box (c := .d (.bss a.f1)) rfl rfl (lt_ok rfl) (by kernel_rfl) rfl rfl rfl) ?_
  refine TL.cons rfl (Step.fieldAddr (q := 0) (off := 10) (n := 1) (one := true) rfl rfl (lt_ok rfl) (by kernel_rfl) (Nat.succ_ne_zero _) rfl) ?_
  refine TL.cons rfl (Step.load_box (c := .d (.bss b.f1)) rfl rfl (lt_ok rfl) (by kernel_rfl) rfl rfl rfl) ?_
  refine TL.cons rfl (Step.call (f := 88) (xs := [.tmp 12, .tmp 14]) (ps := [(.one (.d (.bss a.f1))), (.one (.d (.bss b.f1)))]) false (g := .func 88) rfl rfl (lt_ok rfl) rfl (by kernel_rfl) rfl (.cons (.one (.d _)) (.cons (.one (.d _)) .nil)) (ok_laws_eqByteSS a.f1 b.f1) (.inr rfl) rfl (by simp) rfl) ?_
  refine TL.cons rfl (Step.not (b := (decide (a.f1 = b.f1))) rfl rfl (lt_ok rfl) rfl) ?_
  refine TL.nil ?_
  refine T.cond (b := !(decide (a.f1 = b.f1))) rfl (fun h2 => ?_) (fun h2 => ?_)
  ·
   replace h2 : (decide (a.f1 = b.f1)) = false := by simpa only [Bool.not_eq_true', Bool.not_eq_false'] using h2
   replace h2 := of_decide_eq_false h2
   refine T.seq ?_
   refine T.region ?_
   refine TL.cons rfl (Step.assign (p := (.one (.d (.bool false)))) rfl rfl (lt_ok rfl) rfl) ?_
   refine TL.nil ?_
   refine T.ret ?_
   exact ⟨[(false, [.d (.bool false)])], (.cons rfl .nil), rfl, [], (RetC.rd' (by (congr 1; symm; first | (apply decide_eq_false; rintro rfl; first | exact absurd rfl ‹¬ _ = _› | contradiction) | (apply decide_eq_true; apply SBlock.ext <;> first | assumption | exact Decidable.not_not.1 (by assumption)))) .nil)⟩
  ·
   replace h2 : (decide (a.f1 = b.f1)) = true := by simpa only [Bool.not_eq_true', Bool.not_eq_false'] using h2
   replace h2 := of_decide_eq_true h2
   refine T.skip ?_
   refine T.seq ?_
   refine T.region ?_
   refine TL.cons rfl (Step.assign (p := (.one (.d (.bool true)))) rfl rfl (lt_ok rfl) rfl) ?_
   refine TL.nil ?_
   refine T.ret ?_
   exact ⟨[(false, [.d (.bool true)])], (.cons rfl .nil), rfl, [], (RetC.rd' (by (congr 1; symm; first | (apply decide_eq_false; rintro rfl; first | exact absurd rfl ‹¬ _ = _› | contradiction) | (apply decide_eq_true; apply SBlock.ext <;> first | assumption | exact Decidable.not_not.1 (by assumption)))) .nil)⟩
theorem ok_laws_eqEntry (a : SEntry) (b : SEntry) : RO Try.prog 117 [.agg a.cells, .agg b.cells] [(false, [.rd (.bool (decide (a = b)))])] := by
 refine RO.intro Try.func117 rfl 21 rfl (le_ok rfl) fun w Z => ?_
 refine T.seq ?_
 refine T.region ?_
 refine TL.cons rfl (Step.box (p := (.agg [.d (.int .i64 a.f0), .d (.int .i64 a.f1), .d (.ints .u8 a.f2)])) (ps := [.d (.int .i64 a.f0), .d (.int .i64 a.f1), .d (.ints .u8 a.f2)]) rfl rfl (lt_ok rfl) rfl rfl rfl rfl rfl) ?_
 refine TL.cons rfl (Step.box (p := (.agg [.d (.int .i64 b.f0), .d (.int .i64 b.f1), .d (.ints .u8 b.f2)])) (ps := [.d (.int .i64 b.f0), .d (.int .i64 b.f1), .d (.ints .u8 b.f2)]) rfl rfl (lt_ok rfl) rfl rfl rfl rfl rfl) ?_
 refine TL.cons rfl (Step.assign (p := (.one (.d (.bool false)))) rfl rfl (lt_ok rfl) rfl) ?_
 refine TL.nil ?_
 refine T.seq ?_
 refine T.seq ?_
 refine T.region ?_
 refine TL.cons rfl (Step.fieldAddr (q := 0) (off := 0) (n := 1) (one := true) rfl rfl (lt_ok rfl) (by kernel_rfl) (Nat.succ_ne_zero _) rfl) ?_
 refine TL.cons rfl (Step.load_box (c := .d (.int .i64 a.f0)) rfl rfl (lt_ok rfl) (by kernel_rfl) rfl rfl rfl) ?_
 refine TL.cons rfl (Step.fieldAddr (q := 0) (off := 0) (n := 1) (one := true) rfl rfl (lt_ok rfl) (by kernel_rfl) (Nat.succ_ne_zero _) rfl) ?_
 refine TL.cons rfl (Step.load_box (c := .d (.int .i64 b.f0)) rfl rfl (lt_ok rfl) (by kernel_rfl) rfl rfl rfl) ?_
 refine TL.cons rfl (Step.bin rfl rfl (lt_ok rfl) rfl rfl (Bin.neq (k := .i64) (a := a.f0) (b := b.f0))) ?_
 refine TL.nil ?_
 refine T.cond (b := decide (a.f0 ≠ b.f0)) rfl (fun h1 => ?_) (fun h1 => ?_)
 ·
  replace h1 := of_decide_eq_true h1
  refine T.seq ?_
  refine T.region ?_
  refine TL.cons rfl (Step.assign (p := (.one (.d (.bool false)))) rfl rfl (lt_ok rfl) rfl) ?_
  refine TL.nil ?_
  refine T.ret ?_
  exact ⟨[(false, [.d (.bool false)])], (.cons rfl .nil), rfl, [], (RetC.rd' (by (congr 1; symm; first | (apply decide_eq_false; rintro rfl; first | exact absurd rfl ‹¬ _ = _› | contradiction) | (apply decide_eq_true; apply SEntry.ext <;> first | assumption | exact Decidable.not_not.1 (by assumption)))) .nil)⟩
 ·
  replace h1 := of_decide_eq_false h1
  refine T.skip ?_
  refine T.seq ?_
  refine T.seq ?_
  refine T.region ?_
  refine TL.cons rfl (Step.fieldAddr (q := 0) (off := 1) (n := 1) (one := true) rfl rfl (lt_ok rfl) (by kernel_rfl) (Nat.succ_ne_zero _) rfl) ?_
  refine TL.cons rfl (Step.load_box (c := .d (.int .i64 a.f1)) rfl rfl (lt_ok rfl) (by kernel_rfl) rfl rfl rfl) ?_
  refine TL.cons rfl (Step.fieldAddr (q := 0) (off := 1) (n := 1) (one := true) rfl rfl (lt_ok rfl) (by kernel_rfl) (Nat.succ_ne_zero _) rfl) ?_
  refine TL.cons rfl (Step.load_box (c := .d (.int .i64 b.f1)) rfl rfl (lt_ok rfl) (by kernel_rfl) rfl rfl rfl) ?_
  refine TL.cons rfl (Step.bin rfl rfl (lt_ok rfl) rfl rfl (Bin.neq (k := .i64) (a := a.f1) (b := b.f1))) ?_
  refine TL.nil ?_
  refine T.cond (b := decide (a.f1 ≠ b.f1)) rfl (fun h2 => ?_) (fun h2 => ?_)
  ·
   replace h2 := of_decide_eq_true h2
   refine T.seq ?_
   refine T.region ?_
   refine TL.cons rfl (Step.assign (p := (.one (.d (.bool false)))) rfl rfl (lt_ok rfl) rfl) ?_
   refine TL.nil ?_
   refine T.ret ?_
   exact ⟨[(false, [.d (.bool false)])], (.cons rfl .nil), rfl, [], (RetC.rd' (by (congr 1; symm; first | (apply decide_eq_false; rintro rfl; first | exact absurd rfl ‹¬ _ = _› | contradiction) | (apply decide_eq_true; apply SEntry.ext <;> first | assumption | exact Decidable.not_not.1 (by assumption)))) .nil)⟩
  ·
   replace h2 := of_decide_eq_false h2
   refine T.skip ?_
   refine T.seq ?_
   refine T.seq ?_
   refine T.region ?_
   refine TL.cons rfl (Step.fieldAddr (q := 0) (off := 2) (n := 1) (one := true) rfl rfl (lt_ok rfl) (by kernel_rfl) (Nat.succ_ne_zero _) rfl) ?_
   refine TL.cons rfl (Step.load_box (c := .d (.ints .u8 a.f2)) rfl rfl (lt_ok rfl) (by kernel_rfl) rfl rfl rfl) ?_
   refine TL.cons rfl (Step.fieldAddr (q := 0) (off := 2) (n := 1) (one := true) rfl rfl (lt_ok rfl) (by kernel_rfl) (Nat.succ_ne_zero _) rfl) ?_
   refine TL.cons rfl (Step.load_box (c := .d (.ints .u8 b.f2)) rfl rfl (lt_ok rfl) (by kernel_rfl) rfl rfl rfl) ?_
   refine TL.cons rfl (Step.call (f := 35) (xs := [.tmp 16, .tmp 18]) (ps := [(.one (.d (.ints .u8 a.f2))), (.one (.d (.ints .u8 b.f2)))]) false (g := .func 35) rfl rfl (lt_ok rfl) rfl (by kernel_rfl) rfl (.cons (.one (.d _)) (.cons (.one (.d _)) .nil)) (ok_laws_eqByteS a.f2 b.f2) (.inr rfl) rfl (by simp) rfl) ?_
   refine TL.cons rfl (Step.not (b := (decide (a.f2 = b.f2))) rfl rfl (lt_ok rfl) rfl) ?_
   refine TL.nil ?_
   refine T.cond (b := !(decide (a.f2 = b.f2))) rfl (fun h3 => ?_) (fun h3 => ?_)
   ·
    replace h3 : (decide (a.f2 = b.f2)) = false := by simpa only [Bool.not_eq_true', Bool.not_eq_false'] using h3
    replace h3 := of_decide_eq_false h3
    refine T.seq ?_
    refine T.region ?_
    refine TL.cons rfl (Step.assign (p := (.one (.d (.bool false)))) rfl rfl (lt_ok rfl) rfl) ?_
    refine TL.nil ?_
    refine T.ret ?_
    exact ⟨[(false, [.d (.bool false)])], (.cons rfl .nil), rfl, [], (RetC.rd' (by (congr 1; symm; first | (apply decide_eq_false; rintro rfl; first | exact absurd rfl ‹¬ _ = _› | contradiction) | (apply decide_eq_true; apply SEntry.ext <;> first | assumption | exact Decidable.not_not.1 (by assumption)))) .nil)⟩
   ·
    replace h3 : (decide (a.f2 = b.f2)) = true := by simpa only [Bool.not_eq_true', Bool.not_eq_false'] using h3
    replace h3 := of_decide_eq_true h3
    refine T.skip ?_
    refine T.seq ?_
    refine T.region ?_
    refine TL.cons rfl (Step.assign (p := (.one (.d (.bool true)))) rfl rfl (lt_ok rfl) rfl) ?_
    refine TL.nil ?_
    refine T.ret ?_
    exact ⟨[(false, [.d (.bool true)])], (.cons rfl .nil), rfl, [], (RetC.rd' (by (congr 1; symm; first | (apply decide_eq_false; rintro rfl; first | exact absurd rfl ‹¬ _ = _› | contradiction) | (apply decide_eq_true; apply SEntry.ext <;> first | assumption | exact Decidable.not_not.1 (by assumption)))) .nil)⟩
theorem ok_laws_eqEntryS (a : List SEntry) (b : List SEntry) : RO Try.prog 89 [.one (.sl 3 (a.map SEntry.cells)), .one (.sl 3 (b.map SEntry.cells))] [(false, [.rd (.bool (decide (a = b)))])] := by
 refine RO.intro Try.func89 rfl 27 rfl (le_ok rfl) fun w Z => ?_
 refine T.bnd 0 0 rfl rfl fun hb_0_0 => ?_
 simp only [D.size, List.length_map] at hb_0_0
 refine T.bnd 1 0 rfl rfl fun hb_1_0 => ?_
 simp only [D.size, List.length_map] at hb_1_0
 refine T.seq ?_
 refine T.region ?_
 refine TL.cons rfl (Step.assign (p := (.one (.d (.bool false)))) rfl rfl (lt_ok rfl) rfl) ?_
 refine TL.nil ?_
 refine T.seq ?_
 refine T.seq ?_
 refine T.region ?_
 refine TL.cons rfl (Step.move (p := (.one (.d (.sl 3 (a.map SEntry.cells))))) rfl rfl (lt_ok rfl) rfl) ?_
 refine TL.cons rfl (Step.len' (e := 127) (z := 3) (d := (.sl 3 (a.map SEntry.cells))) (n := a.length) rfl rfl (lt_ok rfl) (by kernel_rfl) rfl rfl (by simp [D.size])) ?_
 refine TL.cons rfl (Step.move (p := (.one (.d (.sl 3 (b.map SEntry.cells))))) rfl rfl (lt_ok rfl) rfl) ?_
 refine TL.cons rfl (Step.len' (e := 127) (z := 3) (d := (.sl 3 (b.map SEntry.cells))) (n := b.length) rfl rfl (lt_ok rfl) (by kernel_rfl) rfl rfl (by simp [D.size])) ?_
 refine TL.cons rfl (Step.bin rfl rfl (lt_ok rfl) rfl rfl (Bin.neq (k := .i64) (a := (a.length : Int)) (b := (b.length : Int)))) ?_
 refine TL.nil ?_
 refine T.cond (b := decide ((a.length : Int) ≠ (b.length : Int))) rfl (fun h1 => ?_) (fun h1 => ?_)
 ·
  replace h1 := of_decide_eq_true h1
  refine T.seq ?_
  refine T.region ?_
  refine TL.cons rfl (Step.assign (p := (.one (.d (.bool false)))) rfl rfl (lt_ok rfl) rfl) ?_
  refine TL.nil ?_
  refine T.ret ?_
  exact ⟨[(false, [.d (.bool false)])], (.cons rfl .nil), rfl, [], (RetC.rd' (by (congr 1; symm; first | (apply decide_eq_false; rintro rfl; first | exact absurd rfl ‹¬ _ = _› | exact absurd rfl (of_decide_eq_false (by assumption)) | contradiction | simp_all) | (apply decide_eq_true; exact take_all hx2 (by omega) hx3))) .nil)⟩
 ·
  replace h1 := of_decide_eq_false h1
  refine T.skip ?_
  refine T.seq ?_
  refine T.seq ?_
  refine T.region ?_
  refine TL.cons rfl (Step.assign (p := (.one (.d (.int .i64 0)))) rfl rfl (lt_ok rfl) rfl) ?_
  refine TL.nil ?_
  refine T.block ?_
  refine T.loop (ι := Nat) (fun x => { tm := [(0, (.one (.d (.sl 3 (a.map SEntry.cells))))), (1, (.one (.d (.sl 3 (b.map SEntry.cells))))), (5, (.one (.d (.int .i64 (x : Int)))))], rows := [], boxes := [] }) (fun x => x ≤ a.length ∧ a.length = b.length ∧ a.take x = b.take x) (fun x => a.length - x) 0 ?_ ?_ ?_
  · exact Env.le_mk ⟨rfl, rfl, by first | rfl | (simp; done) | (congr 3; omega), trivial⟩ trivial trivial
  · (refine ⟨Nat.zero_le _, by omega, by simp⟩)
  ·
   intro i hx
   try dsimp only at hx ⊢
   obtain ⟨hx1, hx2, hx3⟩ := hx
   refine T.seq ?_
   refine T.seq ?_
   refine T.region ?_
   refine TL.cons rfl (Step.move (p := (.one (.d (.int .i64 (i : Int))))) rfl rfl (lt_ok rfl) rfl) ?_
   refine TL.cons rfl (Step.move (p := (.one (.d (.sl 3 (a.map SEntry.cells))))) rfl rfl (lt_ok rfl) rfl) ?_
   refine TL.cons rfl (Step.len' (e := 127) (z := 3) (d := (.sl 3 (a.map SEntry.cells))) (n := a.length) rfl rfl (lt_ok rfl) (by kernel_rfl) rfl rfl (by simp [D.size])) ?_
   refine TL.cons rfl (Step.bin rfl rfl (lt_ok rfl) rfl rfl (Bin.lss (k := .i64) (a := (i : Int)) (b := (a.length : Int)))) ?_
   refine TL.nil ?_
   refine T.cond (b := decide ((i : Int) < (a.length : Int))) rfl (fun h2 => ?_) (fun h2 => ?_)
   ·
    replace h2 := of_decide_eq_true h2
    refine T.skip ?_
    refine T.seq ?_
    refine T.block ?_
    refine T.seq ?_
    refine T.draw [⟨17, (.one (.d (.sl 3 (a.map SEntry.cells)))), []⟩, ⟨18, (.one (.d (.int .i64 (i : Int)))), []⟩, ⟨19, (.one (.eptr (.sl 3 (a.map SEntry.cells)) i 0)), []⟩, ⟨20, (.agg [.d (.int .i64 (a.getD i default).f0), .d (.int .i64 (a.getD i default).f1), .d (.ints .u8 (a.getD i default).f2)]), []⟩, ⟨21, (.one (.d (.sl 3 (b.map SEntry.cells)))), []⟩, ⟨22, (.one (.d (.int .i64 (i : Int)))), []⟩, ⟨23, (.one (.eptr (.sl 3 (b.map SEntry.cells)) i 0)), []⟩, ⟨24, (.agg [.d (.int .i64 (b.getD i default).f0), .d (.int .i64 (b.getD i default).f1), .d (.ints .u8 (b.getD i default).f2)]), []⟩, ⟨25, (.one (.d (.bool (decide ((a.getD i default) = (b.getD i default)))))), []⟩, ⟨26, (.one (.d (.bool (!(decide ((a.getD i default) = (b.getD i default))))))), []⟩] (by kernel_rfl) (by kernel_rfl) ?_ ?_
    ·
     refine .cons (fun E h => by have g0 := h.get 0 (by decide); exact OpStep.plain rfl (Step.move (p := (.one (.d (.sl 3 (a.map SEntry.cells))))) (t := 17) rfl rfl (by exact lt_ok rfl) (show Env.ev E (.tmp 0) = _ from g0.trans rfl))) ?_
     refine .cons (fun E h => by have g5 := h.get 5 (by decide); exact OpStep.plain rfl (Step.move (p := (.one (.d (.int .i64 (i : Int))))) (t := 18) rfl rfl (by exact lt_ok rfl) (show Env.ev E (.tmp 5) = _ from g5.trans rfl))) ?_
     refine .cons (fun E h => by have g17 := h.get 17 (by decide); have g18 := h.get 18 (by decide); exact OpStep.plain rfl (Step.index (e := 127) (z := 3) (i := (i : Int)) (t := 19) rfl rfl (by exact lt_ok rfl) (by kernel_rfl) (show Env.ev E (.tmp 17) = _ from g17.trans rfl) rfl rfl (lt_ok rfl) (show Env.ev E (.tmp 18) = _ from g18.trans rfl) (by first | omega | (simp; omega)) (by simp only [D.size]; first | omega | (simp; omega)))) ?_
     refine .cons (fun E h => by have g19 := h.get 19 (by decide); exact OpStep.plain rfl (Step.load_agg (n := 3) (cs := [.d (.int .i64 (a.getD i default).f0), .d (.int .i64 (a.getD i default).f1), .d (.ints .u8 (a.getD i default).f2)]) (t := 20) rfl rfl (by exact lt_ok rfl) (by kernel_rfl) (show Env.ev E (.tmp 19) = _ from g19.trans rfl) rfl (by simp only [List.range, List.range.loop, List.map_cons, List.map_nil]; rw [cell_map default (by first | omega | (simp; omega)), cell_map default (by first | omega | (simp; omega)), cell_map default (by first | omega | (simp; omega))]; rfl))) ?_
     refine .cons (fun E h => by have g1 := h.get 1 (by decide); exact OpStep.plain rfl (Step.move (p := (.one (.d (.sl 3 (b.map SEntry.cells))))) (t := 21) rfl rfl (by exact lt_ok rfl) (show Env.ev E (.tmp 1) = _ from g1.trans rfl))) ?_
     refine .cons (fun E h => by have g5 := h.get 5 (by decide); exact OpStep.plain rfl (Step.move (p := (.one (.d (.int .i64 (i : Int))))) (t := 22) rfl rfl (by exact lt_ok rfl) (show Env.ev E (.tmp 5) = _ from g5.trans rfl))) ?_
     refine .cons (fun E h => by have g21 := h.get 21 (by decide); have g22 := h.get 22 (by decide); exact OpStep.plain rfl (Step.index (e := 127) (z := 3) (i := (i : Int)) (t := 23) rfl rfl (by exact lt_ok rfl) (by kernel_rfl) (show Env.ev E (.tmp 21) = _ from g21.trans rfl) rfl rfl (lt_ok rfl) (show Env.ev E (.tmp 22) = _ from g22.trans rfl) (by first | omega | (simp; omega)) (by simp only [D.size]; first | omega | (simp; omega)))) ?_
     refine .cons (fun E h => by have g23 := h.get 23 (by decide); exact OpStep.plain rfl (Step.load_agg (n := 3) (cs := [.d (.int .i64 (b.getD i default).f0), .d (.int .i64 (b.getD i default).f1), .d (.ints .u8 (b.getD i default).f2)]) (t := 24) rfl rfl (by exact lt_ok rfl) (by kernel_rfl) (show Env.ev E (.tmp 23) = _ from g23.trans rfl) rfl (by simp only [List.range, List.range.loop, List.map_cons, List.map_nil]; rw [cell_map default (by first | omega | (simp; omega)), cell_map default (by first | omega | (simp; omega)), cell_map default (by first | omega | (simp; omega))]; rfl))) ?_
     refine .cons (fun E h => by have g20 := h.get 20 (by decide); have g24 := h.get 24 (by decide); exact OpStep.plain rfl (Step.call (f := 117) (xs := [.tmp 20, .tmp 24]) (ps := [(.agg [.d (.int .i64 (a.getD i default).f0), .d (.int .i64 (a.getD i default).f1), .d (.ints .u8 (a.getD i default).f2)]), (.agg [.d (.int .i64 (b.getD i default).f0), .d (.int .i64 (b.getD i default).f1), .d (.ints .u8 (b.getD i default).f2)])]) false (g := .func 117) (t := 25) rfl rfl (by exact lt_ok rfl) rfl (by kernel_rfl) (evs_cons (show Env.ev E (.tmp 20) = _ from g20.trans rfl) (evs_cons (show Env.ev E (.tmp 24) = _ from g24.trans rfl) (rfl))) (.cons (.agg (.cons (.d _) (.cons (.d _) (.cons (.d _) .nil)))) (.cons (.agg (.cons (.d _) (.cons (.d _) (.cons (.d _) .nil)))) .nil)) (ok_laws_eqEntry (a.getD i default) (b.getD i default)) (.inr rfl) (At.freshRows h rfl) (by simp) rfl)) ?_
     refine .cons (fun E h => by have g25 := h.get 25 (by decide); exact OpStep.plain rfl (Step.not (b := (decide ((a.getD i default) = (b.getD i default)))) (t := 26) rfl rfl (by exact lt_ok rfl) (show Env.ev E (.tmp 25) = _ from g25.trans rfl))) ?_
     exact .nil _ _
    refine TL.nil ?_
    refine T.cond (b := !(decide ((a.getD i default) = (b.getD i default)))) rfl (fun h3 => ?_) (fun h3 => ?_)
    ·
     replace h3 : (decide ((a.getD i default) = (b.getD i default))) = false := by simpa only [Bool.not_eq_true', Bool.not_eq_false'] using h3
     replace h3 := of_decide_eq_false h3
     refine T.seq ?_
     refine T.region ?_
     refine TL.cons rfl (Step.assign (p := (.one (.d (.bool false)))) rfl rfl (lt_ok rfl) rfl) ?_
     refine TL.nil ?_
     refine T.ret ?_
     exact ⟨[(false, [.d (.bool false)])], (.cons rfl .nil), rfl, [], (RetC.rd' (by (congr 1; symm; first | (apply decide_eq_false; rintro rfl; first | exact absurd rfl ‹¬ _ = _› | exact absurd rfl (of_decide_eq_false (by assumption)) | contradiction | simp_all) | (apply decide_eq_true; exact take_all hx2 (by omega) hx3))) .nil)⟩
    ·
     replace h3 : (decide ((a.getD i default) = (b.getD i default))) = true := by simpa only [Bool.not_eq_true', Bool.not_eq_false'] using h3
     replace h3 := of_decide_eq_true h3
     refine T.skip ?_
     refine T.region ?_
     refine TL.cons rfl (Step.move (p := (.one (.d (.int .i64 (i : Int))))) rfl rfl (lt_ok rfl) rfl) ?_
     refine TL.cons rfl (Step.bin (r := .int .i64 ((i : Int) + 1)) rfl rfl (lt_ok rfl) rfl rfl (Bin.add (a := (i : Int)) (b := 1) (by first | exact wrap_ok (by first | omega | (simp; omega)) (by first | omega | (simp; omega)) | rfl))) ?_
     refine TL.cons rfl (Step.assign (p := (.one (.d (.int .i64 ((i : Int) + 1))))) rfl rfl (lt_ok rfl) rfl) ?_
     refine TL.nil ?_
     exact ⟨i + 1, by (refine ⟨by omega, hx2, take_step (d := default) hx2 (by omega) hx3 (by first | assumption | exact Decidable.not_not.1 (by assumption) | omega)⟩), by omega, Env.le_mk ⟨rfl, rfl, by first | rfl | (simp; done) | (congr 3; omega), trivial⟩ trivial trivial⟩
   ·
    replace h2 := of_decide_eq_false h2
    refine T.exit ?_
    refine T.seq ?_
    refine T.region ?_
    refine TL.cons rfl (Step.assign (p := (.one (.d (.bool true)))) rfl rfl (lt_ok rfl) rfl) ?_
    refine TL.nil ?_
    refine T.ret ?_
    exact ⟨[(false, [.d (.bool true)])], (.cons rfl .nil), rfl, [], (RetC.rd' (by (congr 1; symm; first | (apply decide_eq_false; rintro rfl; first | exact absurd rfl ‹¬ _ = _› | exact absurd rfl (of_decide_eq_false (by assumption)) | contradiction | simp_all) | (apply decide_eq_true; exact take_all hx2 (by omega) hx3))) .nil)⟩
theorem ok_laws_eqTc (a : STc) (b : STc) : RO Try.prog 44 [.agg a.cells, .agg b.cells] [(false, [.rd (.bool (decide (a = b)))])] := by
 refine RO.intro Try.func44 rfl 16 rfl (le_ok rfl) fun w Z => ?_
 refine T.seq ?_
 refine T.region ?_
 refine TL.cons rfl (Step.box (p := (.agg [.d (.int .i64 a.f0), .d (.sl 3 (a.f1.map SEntry.cells))])) (ps := [.d (.int .i64 a.f0), .d (.sl 3 (a.f1.map SEntry.cells))]) rfl rfl (lt_ok rfl) rfl rfl rfl rfl rfl) ?_
 refine TL.cons rfl (Step.box (p := (.agg [.d (.int .i64 b.f0), .d (.sl 3 (b.f1.map SEntry.cells))])) (ps := [.d (.int .i64 b.f0), .d (.sl 3 (b.f1.map SEntry.cells))]) rfl rfl (lt_ok rfl) rfl rfl rfl rfl rfl) ?_
 refine TL.cons rfl (Step.assign (p := (.one (.d (.bool false)))) rfl rfl (lt_ok rfl) rfl) ?_
 refine TL.nil ?_
 refine T.seq ?_
 refine T.seq ?_
 refine T.region ?_
 refine TL.cons rfl (Step.fieldAddr (q := 0) (off := 0) (n := 1) (one := true) rfl rfl (lt_ok rfl) (by kernel_rfl) (Nat.succ_ne_zero _) rfl) ?_
 refine TL.cons rfl (Step.load_box (c := .d (.int .i64 a.f0)) rfl rfl (lt_ok rfl) (by kernel_rfl) rfl rfl rfl) ?_
 refine TL.cons rfl (Step.fieldAddr (q := 0) (off := 0) (n := 1) (one := true) rfl rfl (lt_ok rfl) (by kernel_rfl) (Nat.succ_ne_zero _) rfl) ?_
 refine TL.cons rfl (Step.load_box (c := .d (.int .i64 b.f0)) rfl rfl (lt_ok rfl) (by kernel_rfl) rfl rfl rfl) ?_
 refine TL.cons rfl (Step.bin rfl rfl (lt_ok rfl) rfl rfl (Bin.neq (k := .i64) (a := a.f0) (b := b.f0))) ?_
 refine TL.nil ?_
 refine T.cond (b := decide (a.f0 ≠ b.f0)) rfl (fun h1 => ?_) (fun h1 => ?_)
 ·
  replace h1 := of_decide_eq_true h1
  refine T.seq ?_
  refine T.region ?_
  refine TL.cons rfl (Step.assign (p := (.one (.d (.bool false)))) rfl rfl (lt_ok rfl) rfl) ?_
  refine TL.nil ?_
  refine T.ret ?_
  exact ⟨[(false, [.d (.bool false)])], (.cons rfl .nil), rfl, [], (RetC.rd' (by (congr 1; symm; first | (apply decide_eq_false; rintro rfl; first | exact absurd rfl ‹¬ _ = _› | contradiction) | (apply decide_eq_true; apply STc.ext <;> first | assumption | exact Decidable.not_not.1 (by assumption)))) .nil)⟩
 ·
  replace h1 := of_decide_eq_false h1
  refine T.skip ?_
  refine T.seq ?_
  refine T.seq ?_
  refine T.region ?_
  refine TL.cons rfl (Step.fieldAddr (q := 0) (off := 1) (n := 1) (one := true) rfl rfl (lt_ok rfl) (by kernel_rfl) (Nat.succ_ne_zero _) rfl) ?_
  refine TL.cons rfl (Step.load_box (c := .d (.sl 3 (a.f1.map SEntry.cells))) rfl rfl (lt_ok rfl) (by kernel_rfl) rfl rfl rfl) ?_
  refine TL.cons rfl (Step.fieldAddr (q := 0) (off := 1) (n := 1) (one := true) rfl rfl (lt_ok rfl) (by kernel_rfl) (Nat.succ_ne_zero _) rfl) ?_
  refine TL.cons rfl (Step.load_box (c := .d (.sl 3 (b.f1.map SEntry.cells))) rfl rfl (lt_ok rfl) (by kernel_rfl) rfl rfl rfl) ?_
  refine TL.cons rfl (Step.call (f := 89) (xs := [.tmp 11, .tmp 13]) (ps := [(.one (.d (.sl 3 (a.f1.map SEntry.cells)))), (.one (.d (.sl 3 (b.f1.map SEntry.cells))))]) false (g := .func 89) rfl rfl (lt_ok rfl) rfl (by kernel_rfl) rfl (.cons (.one (.d _)) (.cons (.one (.d _)) .nil)) (ok_laws_eqEntryS a.f1 b.f1) (.inr rfl) rfl (by simp) rfl) ?_
  refine TL.cons rfl (Step.not (b := (decide (a.f1 = b.f1))) rfl rfl (lt_ok rfl) rfl) ?_
  refine TL.nil ?_
  refine T.cond (b := !(decide (a.f1 = b.f1))) rfl (fun h2 => ?_) (fun h2 => ?_)
  ·
   replace h2 : (decide (a.f1 = b.f1)) = false := by simpa only [Bool.not_eq_true', Bool.not_eq_false'] using h2
   replace h2 := of_decide_eq_false h2
   refine T.seq ?_
   refine T.region ?_
   refine TL.cons rfl (Step.assign (p := (.one (.d (.bool false)))) rfl rfl (lt_ok rfl) rfl) ?_
   refine TL.nil ?_
   refine T.ret ?_
   exact ⟨[(false, [.d (.bool false)])], (.cons rfl .nil), rfl, [], (RetC.rd' (by (congr 1; symm; first | (apply decide_eq_false; rintro rfl; first | exact absurd rfl ‹¬ _ = _› | contradiction) | (apply decide_eq_true; apply STc.ext <;> first | assumption | exact Decidable.not_not.1 (by assumption)))) .nil)⟩
  ·
   replace h2 : (decide (a.f1 = b.f1)) = true := by simpa only [Bool.not_eq_true', Bool.not_eq_false'] using h2
   replace h2 := of_decide_eq_true h2
   refine T.skip ?_
   refine T.seq ?_
   refine T.region ?_
   refine TL.cons rfl (Step.assign (p := (.one (.d (.bool true)))) rfl rfl (lt_ok rfl) rfl) ?_
   refine TL.nil ?_
   refine T.ret ?_
   exact ⟨[(false, [.d (.bool true)])], (.cons rfl .nil), rfl, [], (RetC.rd' (by (congr 1; symm; first | (apply decide_eq_false; rintro rfl; first | exact absurd rfl ‹¬ _ = _› | contradiction) | (apply decide_eq_true; apply STc.ext <;> first | assumption | exact Decidable.not_not.1 (by assumption)))) .nil)⟩
theorem ok_laws_eqHeadS (a : List SHead) (b : List SHead) : RO Try.prog 90 [.one (.sl 10 (a.map SHead.cells)), .one (.sl 10 (b.map SHead.cells))] [(false, [.rd (.bool (decide (a = b)))])] := by
 refine RO.intro Try.func90 rfl 27 rfl (le_ok rfl) fun w Z => ?_
 refine T.bnd 0 0 rfl rfl fun hb_0_0 => ?_
 simp only [D.size, List.length_map] at hb_0_0
 refine T.bnd 1 0 rfl rfl fun hb_1_0 => ?_
 simp only [D.size, List.length_map] at hb_1_0
 refine T.seq ?_
 refine T.region ?_
 refine TL.cons rfl (Step.assign (p := (.one (.d (.bool false)))) rfl rfl (lt_ok rfl) rfl) ?_
 refine TL.nil ?_
 refine T.seq ?_
 refine T.seq ?_
 refine T.region ?_
 refine TL.cons rfl (Step.move (p := (.one (.d (.sl 10 (a.map SHead.cells))))) rfl rfl (lt_ok rfl) rfl) ?_
 refine TL.cons rfl (Step.len' (e := 31) (z := 10) (d := (.sl 10 (a.map SHead.cells))) (n := a.length) rfl rfl (lt_ok rfl) (by kernel_rfl) rfl rfl (by simp [D.size])) ?_
 refine TL.cons rfl (Step.move (p := (.one (.d (.sl 10 (b.map SHead.cells))))) rfl rfl (lt_ok rfl) rfl) ?_
 refine TL.cons rfl (Step.len' (e := 31) (z := 10) (d := (.sl 10 (b.map SHead.cells))) (n := b.length) rfl rfl (lt_ok rfl) (by kernel_rfl) rfl rfl (by simp [D.size])) ?_
 refine TL.cons rfl (Step.bin rfl rfl (lt_ok rfl) rfl rfl (Bin.neq (k := .i64) (a := (a.length : Int)) (b := (b.length : Int)))) ?_
 refine TL.nil ?_
 refine T.cond (b := decide ((a.length : Int) ≠ (b.length : Int))) rfl (fun h1 => ?_) (fun h1 => ?_)
 ·
  replace h1 := of_decide_eq_true h1
  refine T.seq ?_
  refine T.region ?_
  refine TL.cons rfl (Step.assign (p := (.one (.d (.bool false)))) rfl rfl (lt_ok rfl) rfl) ?_
  refine TL.nil ?_
  refine T.ret ?_
  exact ⟨[(false, [.d (.bool false)])], (.cons rfl .nil), rfl, [], (RetC.rd' (by (congr 1; symm; first | (apply decide_eq_false; rintro rfl; first | exact absurd rfl ‹¬ _ = _› | exact absurd rfl (of_decide_eq_false (by assumption)) | contradiction | simp_all) | (apply decide_eq_true; exact take_all hx2 (by omega) hx3))) .nil)⟩
 ·
  replace h1 := of_decide_eq_false h1
  refine T.skip ?_
  refine T.seq ?_
  refine T.seq ?_
  refine T.region ?_
  refine TL.cons rfl (Step.assign (p := (.one (.d (.int .i64 0)))) rfl rfl (lt_ok rfl) rfl) ?_
  refine TL.nil ?_
  refine T.block ?_
  refine T.loop (ι := Nat) (fun x => { tm := [(0, (.one (.d (.sl 10 (a.map SHead.cells))))), (1, (.one (.d (.sl 10 (b.map SHead.cells))))), (5, (.one (.d (.int .i64 (x : Int)))))], rows := [], boxes := [] }) (fun x => x ≤ a.length ∧ a.length = b.length ∧ a.take x = b.take x) (fun x => a.length - x) 0 ?_ ?_ ?_
  · exact Env.le_mk ⟨rfl, rfl, by first | rfl | (simp; done) | (congr 3; omega), trivial⟩ trivial trivial
  · (refine ⟨Nat.zero_le _, by omega, by simp⟩)
  ·
   intro i hx
   try dsimp only at hx ⊢
   obtain ⟨hx1, hx2, hx3⟩ := hx
   refine T.seq ?_
   refine T.seq ?_
   refine T.region ?_
   refine TL.cons rfl (Step.move (p := (.one (.d (.int .i64 (i : Int))))) rfl rfl (lt_ok rfl) rfl) ?_
   refine TL.cons rfl (Step.move (p := (.one (.d (.sl 10 (a.map SHead.cells))))) rfl rfl (lt_ok rfl) rfl) ?_
   refine TL.cons rfl (Step.len' (e := 31) (z := 10) (d := (.sl 10 (a.map SHead.cells))) (n := a.length) rfl rfl (lt_ok rfl) (by kernel_rfl) rfl rfl (by simp [D.size])) ?_
   refine TL.cons rfl (Step.bin rfl rfl (lt_ok rfl) rfl rfl (Bin.lss (k := .i64) (a := (i : Int)) (b := (a.length : Int)))) ?_
   refine TL.nil ?_
   refine T.cond (b := decide ((i : Int) < (a.length : Int))) rfl (fun h2 => ?_) (fun h2 => ?_)
   ·
    replace h2 := of_decide_eq_true h2
    refine T.skip ?_
    refine T.seq ?_
    refine T.block ?_
    refine T.seq ?_
    refine T.draw [⟨17, (.one (.d (.sl 10 (a.map SHead.cells)))), []⟩, ⟨18, (.one (.d (.int .i64 (i : Int)))), []⟩, ⟨19, (.one (.eptr (.sl 10 (a.map SHead.cells)) i 0)), []⟩, ⟨20, (.agg [.d (.int .i64 (a.getD i default).f0), .d (.int .i64 (a.getD i default).f1), .d (.int .i64 (a.getD i default).f2), .d (.ints .u8 (a.getD i default).f3), .d (.ints .u8 (a.getD i default).f4), .d (.int .i64 (a.getD i default).f5.f0), .d (.int .i64 (a.getD i default).f5.f1), .d (.ints .u8 (a.getD i default).f5.f2), .d (.ints .u8 (a.getD i default).f5.f3), .d (.bss (a.getD i default).f5.f4)]), []⟩, ⟨21, (.one (.d (.sl 10 (b.map SHead.cells)))), []⟩, ⟨22, (.one (.d (.int .i64 (i : Int)))), []⟩, ⟨23, (.one (.eptr (.sl 10 (b.map SHead.cells)) i 0)), []⟩, ⟨24, (.agg [.d (.int .i64 (b.getD i default).f0), .d (.int .i64 (b.getD i default).f1), .d (.int .i64 (b.getD i default).f2), .d (.ints .u8 (b.getD i default).f3), .d (.ints .u8 (b.getD i default).f4), .d (.int .i64 (b.getD i default).f5.f0), .d (.int .i64 (b.getD i default).f5.f1), .d (.ints .u8 (b.getD i default).f5.f2), .d (.ints .u8 (b.getD i default).f5.f3), .d (.bss (b.getD i default).f5.f4)]), []⟩, ⟨25, (.one (.d (.bool (decide ((a.getD i default) = (b.getD i default)))))), []⟩, ⟨26, (.one (.d (.bool (!(decide ((a.getD i default) = (b.getD i default))))))), []⟩] (by kernel_rfl) (by kernel_rfl) ?_ ?_
    ·
     refine .cons (fun E h => by have g0 := h.get 0 (by decide); exact OpStep.plain rfl (Step.move (p := (.one (.d (.sl 10 (a.map SHead.cells))))) (t := 17) rfl rfl (by exact lt_ok rfl) (show Env.ev E (.tmp 0) = _ from g0.trans rfl))) ?_
     refine .cons (fun E h => by have g5 := h.get 5 (by decide); exact OpStep.plain rfl (Step.move (p := (.one (.d (.int .i64 (i : Int))))) (t := 18) rfl rfl (by exact lt_ok rfl) (show Env.ev E (.tmp 5) = _ from g5.trans rfl))) ?_
     refine .cons (fun E h => by have g17 := h.get 17 (by decide); have g18 := h.get 18 (by decide); exact OpStep.plain rfl (Step.index (e := 31) (z := 10) (i := (i : Int)) (t := 19) rfl rfl (by exact lt_ok rfl) (by kernel_rfl) (show Env.ev E (.tmp 17) = _ from g17.trans rfl) rfl rfl (lt_ok rfl) (show Env.ev E (.tmp 18) = _ from g18.trans rfl) (by first | omega | (simp; omega)) (by simp only [D.size]; first | omega | (simp; omega)))) ?_
     refine .cons (fun E h => by have g19 := h.get 19 (by decide); exact OpStep.plain rfl (Step.load_agg (n := 10) (cs := [.d (.int .i64 (a.getD i default).f0), .d (.int .i64 (a.getD i default).f1), .d (.int .i64 (a.getD i default).f2), .d (.ints .u8 (a.getD i default).f3), .d (.ints .u8 (a.getD i default).f4), .d (.int .i64 (a.getD i default).f5.f0), .d (.int .i64 (a.getD i default).f5.f1), .d (.ints .u8 (a.getD i default).f5.f2), .d (.ints .u8 (a.getD i default).f5.f3), .d (.bss (a.getD i default).f5.f4)]) (t := 20) rfl rfl (by exact lt_ok rfl) (by kernel_rfl) (show Env.ev E (.tmp 19) = _ from g19.trans rfl) rfl (by simp only [List.range, List.range.loop, List.map_cons, List.map_nil]; rw [cell_map default (by first | omega | (simp; omega)), cell_map default (by first | omega | (simp; omega)), cell_map default (by first | omega | (simp; omega)), cell_map default (by first | omega | (simp; omega)), cell_map default (by first | omega | (simp; omega)), cell_map default (by first | omega | (simp; omega)), cell_map default (by first | omega | (simp; omega)), cell_map default (by first | omega | (simp; omega)), cell_map default (by first | omega | (simp; omega)), cell_map default (by first | omega | (simp; omega))]; rfl))) ?_
     refine .cons (fun E h => by have g1 := h.get 1 (by decide); exact OpStep.plain rfl (Step.move (p := (.one (.d (.sl 10 (b.map SHead.cells))))) (t := 21) rfl rfl (by exact lt_ok rfl) (show Env.ev E (.tmp 1) = _ from g1.trans rfl))) ?_
     refine .cons (fun E h => by have g5 := h.get 5 (by decide); exact OpStep.plain rfl (Step.move (p := (.one (.d (.int .i64 (i : Int))))) (t := 22) rfl rfl (by exact lt_ok rfl) (show Env.ev E (.tmp 5) = _ from g5.trans rfl))) ?_
     refine .cons (fun E h => by have g21 := h.get 21 (by decide); have g22 := h.get 22 (by decide); exact OpStep.plain rfl (Step.index (e := 31) (z := 10) (i := (i : Int)) (t := 23) rfl rfl (by exact lt_ok rfl) (by kernel_rfl) (show Env.ev E (.tmp 21) = _ from g21.trans rfl) rfl rfl (lt_ok rfl) (show Env.ev E (.tmp 22) = _ from g22.trans rfl) (by first | omega | (simp; omega)) (by simp only [D.size]; first | omega | (simp; omega)))) ?_
     refine .cons (fun E h => by have g23 := h.get 23 (by decide); exact OpStep.plain rfl (Step.load_agg (n := 10) (cs := [.d (.int .i64 (b.getD i default).f0), .d (.int .i64 (b.getD i default).f1), .d (.int .i64 (b.getD i default).f2), .d (.ints .u8 (b.getD i default).f3), .d (.ints .u8 (b.getD i default).f4), .d (.int .i64 (b.getD i default).f5.f0), .d (.int .i64 (b.getD i default).f5.f1), .d (.ints .u8 (b.getD i default).f5.f2), .d (.ints .u8 (b.getD i default).f5.f3), .d (.bss (b.getD i default).f5.f4)]) (t := 24) rfl rfl (by exact lt_ok rfl) (by kernel_rfl) (show Env.ev E (.tmp 23) = _ from g23.trans rfl) rfl (by simp only [List.range, List.range.loop, List.map_cons, List.map_nil]; rw [cell_map default (by first | omega | (simp; omega)), cell_map default (by first | omega | (simp; omega)), cell_map default (by first | omega | (simp; omega)), cell_map default (by first | omega | (simp; omega)), cell_map default (by first | omega | (simp; omega)), cell_map default (by first | omega | (simp; omega)), cell_map default (by first | omega | (simp; omega)), cell_map default (by first | omega | (simp; omega)), cell_map default (by first | omega | (simp; omega)), cell_map default (by first | omega | (simp; omega))]; rfl))) ?_
     refine .cons (fun E h => by have g20 := h.get 20 (by decide); have g24 := h.get 24 (by decide); exact OpStep.plain rfl (Step.call (f := 42) (xs := [.tmp 20, .tmp 24]) (ps := [(.agg [.d (.int .i64 (a.getD i default).f0), .d (.int .i64 (a.getD i default).f1), .d (.int .i64 (a.getD i default).f2), .d (.ints .u8 (a.getD i default).f3), .d (.ints .u8 (a.getD i default).f4), .d (.int .i64 (a.getD i default).f5.f0), .d (.int .i64 (a.getD i default).f5.f1), .d (.ints .u8 (a.getD i default).f5.f2), .d (.ints .u8 (a.getD i default).f5.f3), .d (.bss (a.getD i default).f5.f4)]), (.agg [.d (.int .i64 (b.getD i default).f0), .d (.int .i64 (b.getD i default).f1), .d (.int .i64 (b.getD i default).f2), .d (.ints .u8 (b.getD i default).f3), .d (.ints .u8 (b.getD i default).f4), .d (.int .i64 (b.getD i default).f5.f0), .d (.int .i64 (b.getD i default).f5.f1), .d (.ints .u8 (b.getD i default).f5.f2), .d (.ints .u8 (b.getD i default).f5.f3), .d (.bss (b.getD i default).f5.f4)])]) false (g := .func 42) (t := 25) rfl rfl (by exact lt_ok rfl) rfl (by kernel_rfl) (evs_cons (show Env.ev E (.tmp 20) = _ from g20.trans rfl) (evs_cons (show Env.ev E (.tmp 24) = _ from g24.trans rfl) (rfl))) (.cons (.agg (.cons (.d _) (.cons (.d _) (.cons (.d _) (.cons (.d _) (.cons (.d _) (.cons (.d _) (.cons (.d _) (.cons (.d _) (.cons (.d _) (.cons (.d _) .nil))))))))))) (.cons (.agg (.cons (.d _) (.cons (.d _) (.cons (.d _) (.cons (.d _) (.cons (.d _) (.cons (.d _) (.cons (.d _) (.cons (.d _) (.cons (.d _) (.cons (.d _) .nil))))))))))) .nil)) (ok_laws_eqHead (a.getD i default) (b.getD i default)) (.inr rfl) (At.freshRows h rfl) (by simp) rfl)) ?_
     refine .cons (fun E h => by have g25 := h.get 25 (by decide); exact OpStep.plain rfl (Step.not (b := (decide ((a.getD i default) = (b.getD i default)))) (t := 26) rfl rfl (by exact lt_ok rfl) (show Env.ev E (.tmp 25) = _ from g25.trans rfl))) ?_
     exact .nil _ _
    refine TL.nil ?_
    refine T.cond (b := !(decide ((a.getD i default) = (b.getD i default)))) rfl (fun h3 => ?_) (fun h3 => ?_)
    ·
     replace h3 : (decide ((a.getD i default) = (b.getD i default))) = false := by simpa only [Bool.not_eq_true', Bool.not_eq_false'] using h3
     replace h3 := of_decide_eq_false h3
     refine T.seq ?_
     refine T.region ?_
     refine TL.cons rfl (Step.assign (p := (.one (.d (.bool false)))) rfl rfl (lt_ok rfl) rfl) ?_
     refine TL.nil ?_
     refine T.ret ?_
     exact ⟨[(false, [.d (.bool false)])], (.cons rfl .nil), rfl, [], (RetC.rd' (by (congr 1; symm; first | (apply decide_eq_false; rintro rfl; first | exact absurd rfl ‹¬ _ = _› | exact absurd rfl (of_decide_eq_false (by assumption)) | contradiction | simp_all) | (apply decide_eq_true; exact take_all hx2 (by omega) hx3))) .nil)⟩
    ·
     replace h3 : (decide ((a.getD i default) = (b.getD i default))) = true := by simpa only [Bool.not_eq_true', Bool.not_eq_false'] using h3
     replace h3 := of_decide_eq_true h3
     refine T.skip ?_
     refine T.region ?_
     refine TL.cons rfl (Step.move (p := (.one (.d (.int .i64 (i : Int))))) rfl rfl (lt_ok rfl) rfl) ?_
     refine TL.cons rfl (Step.bin (r := .int .i64 ((i : Int) + 1)) rfl rfl (lt_ok rfl) rfl rfl (Bin.add (a := (i : Int)) (b := 1) (by first | exact wrap_ok (by first | omega | (simp; omega)) (by first | omega | (simp; omega)) | rfl))) ?_
     refine TL.cons rfl (Step.assign (p := (.one (.d (.int .i64 ((i : Int) + 1))))) rfl rfl (lt_ok rfl) rfl) ?_
     refine TL.nil ?_
     exact ⟨i + 1, by (refine ⟨by omega, hx2, take_step (d := default) hx2 (by omega) hx3 (by first | assumption | exact Decidable.not_not.1 (by assumption) | omega)⟩), by omega, Env.le_mk ⟨rfl, rfl, by first | rfl | (simp; done) | (congr 3; omega), trivial⟩ trivial trivial⟩
   ·
    replace h2 := of_decide_eq_false h2
    refine T.exit ?_
    refine T.seq ?_
    refine T.region ?_
    refine TL.cons rfl (Step.assign (p := (.one (.d (.bool true)))) rfl rfl (lt_ok rfl) rfl) ?_
    refine TL.nil ?_
    refine T.ret ?_
    exact ⟨[(false, [.d (.bool true)])], (.cons rfl .nil), rfl, [], (RetC.rd' (by (congr 1; symm; first | (apply decide_eq_false; rintro rfl; first | exact absurd rfl ‹¬ _ = _› | exact absurd rfl (of_decide_eq_false (by assumption)) | contradiction | simp_all) | (apply decide_eq_true; exact take_all hx2 (by omega) hx3))) .nil)⟩
theorem ok_laws_eqProof (a : SProof) (b : SProof) : RO Try.prog 45 [.agg a.cells, .agg b.cells] [(false, [.rd (.bool (decide (a = b)))])] := by
 refine RO.intro Try.func45 rfl 17 rfl (le_ok rfl) fun w Z => ?_
 refine T.seq ?_
 refine T.region ?_
 refine TL.cons rfl (Step.box (p := (.agg [.d (.sl 10 (a.f0.map SHead.cells)), .d (.int .i64 a.f1.f0), .d (.int .i64 a.f1.f1), .d (.ints .u8 a.f1.f2), .d (.ints .u8 a.f1.f3), .d (.bss a.f1.f4)])) (ps := [.d (.sl 10 (a.f0.map SHead.cells)), .d (.int .i64 a.f1.f0), .d (.int .i64 a.f1.f1), .d (.ints .u8 a.f1.f2), .d (.ints .u8 a.f1.f3), .d (.bss a.f1.f4)]) rfl rfl (lt_ok rfl) rfl rfl rfl rfl rfl) ?_
 refine TL.cons rfl (Step.box (p := (.agg [.d (.sl 10 (b.f0.map SHead.cells)), .d (.int .i64 b.f1.f0), .d (.int .i64 b.f1.f1), .d (.ints .u8 b.f1.f2), .d (.ints .u8 b.f1.f3), .d (.bss b.f1.f4)])) (ps := [.d (.sl 10 (b.f0.map SHead.cells)), .d (.int .i64 b.f1.f0), .d (.int .i64 b.f1.f1), .d (.ints .u8 b.f1.f2), .d (.ints .u8 b.f1.f3), .d (.bss b.f1.f4)]) rfl rfl (lt_ok rfl) rfl rfl rfl rfl rfl) ?_
 refine TL.cons rfl (Step.assign (p := (.one (.d (.bool false)))) rfl rfl (lt_ok rfl) rfl) ?_
 refine TL.nil ?_
 refine T.seq ?_
 refine T.seq ?_
 refine T.region ?_
 refine TL.cons rfl (Step.fieldAddr (q := 0) (off := 0) (n := 1) (one := true) rfl rfl (lt_ok rfl) (by kernel_rfl) (Nat.succ_ne_zero _) rfl) ?_
 refine TL.cons rfl (Step.load_box (c := .d (.sl 10 (a.f0.map SHead.cells))) rfl rfl (lt_ok rfl) (by kernel_rfl) rfl rfl rfl) ?_
 refine TL.cons rfl (Step.fieldAddr (q := 0) (off := 0) (n := 1) (one := true) rfl rfl (lt_ok rfl) (by kernel_rfl) (Nat.succ_ne_zero _) rfl) ?_
 refine TL.cons rfl (Step.load_box (c := .d (.sl 10 (b.f0.map SHead.cells))) rfl rfl (lt_ok rfl) (by kernel_rfl) rfl rfl rfl) ?_
 refine TL.cons rfl (Step.call (f := 90) (xs := [.tmp 6, .tmp 8]) (ps := [(.one (.d (.sl 10 (a.f0.map SHead.cells)))), (.one (.d (.sl 10 (b.f0.map SHead.cells))))]) false (g := .func 90) rfl rfl (lt_ok rfl) rfl (by kernel_rfl) rfl (.cons (.one (.d _)) (.cons (.one (.d _)) .nil)) (ok_laws_eqHeadS a.f0 b.f0) (.inr rfl) rfl (by simp) rfl) ?_
 refine TL.cons rfl (Step.not (b := (decide (a.f0 = b.f0))) rfl rfl (lt_ok rfl) rfl) ?_
 refine TL.nil ?_
 refine T.cond (b := !(decide (a.f0 = b.f0))) rfl (fun h1 => ?_) (fun h1 => ?_)
 ·
  replace h1 : (decide (a.f0 = b.f0)) = false := by simpa only [Bool.not_eq_true', Bool.not_eq_false'] using h1
  replace h1 := of_decide_eq_false h1
  refine T.seq ?_
  refine T.region ?_
  refine TL.cons rfl (Step.assign (p := (.one (.d (.bool false)))) rfl rfl (lt_ok rfl) rfl) ?_
  refine TL.nil ?_
  refine T.ret ?_
  exact ⟨[(false, [.d (.bool false)])], (.cons rfl .nil), rfl, [], (RetC.rd' (by (congr 1; symm; first | (apply decide_eq_false; rintro rfl; first | exact absurd rfl ‹¬ _ = _› | contradiction) | (apply decide_eq_true; apply SProof.ext <;> first | assumption | exact Decidable.not_not.1 (by assumption)))) .nil)⟩
 ·
  replace h1 : (decide (a.f0 = b.f0)) = true := by simpa only [Bool.not_eq_true', Bool.not_eq_false'] using h1
  replace h1 := of_decide_eq_true h1
  refine T.skip ?_
  refine T.seq ?_
  refine T.seq ?_
  refine T.region ?_
  refine TL.cons rfl (Step.fieldAddr (q := 0) (off := 1) (n := 5) (one := false) rfl rfl (lt_ok rfl) (by kernel_rfl) (Nat.succ_ne_zero _) rfl) ?_
  refine TL.cons rfl (Step.load_box_agg (n := 5) (qs := [.d (.int .i64 a.f1.f0), .d (.int .i64 a.f1.f1), .d (.ints .u8 a.f1.f2), .d (.ints .u8 a.f1.f3), .d (.bss a.f1.f4)]) rfl rfl (lt_ok rfl) (by kernel_rfl) rfl rfl rfl rfl) ?_
  refine TL.cons rfl (Step.fieldAddr (q := 0) (off := 1) (n := 5) (one := false) rfl rfl (lt_ok rfl) (by kernel_rfl) (Nat.succ_ne_zero _) rfl) ?_
  refine TL.cons rfl (Step.load_box_agg (n := 5) (qs := [.d (.int .i64 b.f1.f0), .d (.int .i64 b.f1.f1), .d (.ints .u8 b.f1.f2), .d (.ints .u8 b.f1.f3), .d (.bss b.f1.f4)]) rfl rfl (lt_ok rfl) (by kernel_rfl) rfl rfl rfl rfl) ?_
  refine TL.cons rfl (Step.call (f := 41) (xs := [.tmp 12, .tmp 14]) (ps := [(.agg [.d (.int .i64 a.f1.f0), .d (.int .i64 a.f1.f1), .d (.ints .u8 a.f1.f2), .d (.ints .u8 a.f1.f3), .d (.bss a.f1.f4)]), (.agg [.d (.int .i64 b.f1.f0), .d (.int .i64 b.f1.f1), .d (.ints .u8 b.f1.f2), .d (.ints .u8 b.f1.f3), .d (.bss b.f1.f4)])]) false (g := .func 41) rfl rfl (lt_ok rfl) rfl (by kernel_rfl) rfl (.cons (.agg (.cons (.d _) (.cons (.d _) (.cons (.d _) (.cons (.d _) (.cons (.d _) .nil)))))) (.cons (.agg (.cons (.d _) (.cons (.d _) (.cons (.d _) (.cons (.d _) (.cons (.d _) .nil)))))) .nil)) (ok_laws_eqQc a.f1 b.f1) (.inr rfl) rfl (by simp) rfl) ?_
  refine TL.cons rfl (Step.not (b := (decide (a.f1 = b.f1))) rfl rfl (lt_ok rfl) rfl) ?_
  refine TL.nil ?_
  refine T.cond (b := !(decide (a.f1 = b.f1))) rfl (fun h2 => ?_) (fun h2 => ?_)
  ·
   replace h2 : (decide (a.f1 = b.f1)) = false := by simpa only [Bool.not_eq_true', Bool.not_eq_false'] using h2
   replace h2 := of_decide_eq_false h2
   refine T.seq ?_
   refine T.region ?_
   refine TL.cons rfl (Step.assign (p := (.one (.d (.bool false)))) rfl rfl (lt_ok rfl) rfl) ?_
   refine TL.nil ?_
   refine T.ret ?_
   exact ⟨[(false, [.d (.bool false)])], (.cons rfl .nil), rfl, [], (RetC.rd' (by (congr 1; symm; first | (apply decide_eq_false; rintro rfl; first | exact absurd rfl ‹¬ _ = _› | contradiction) | (apply decide_eq_true; apply SProof.ext <;> first | assumption | exact Decidable.not_not.1 (by assumption)))) .nil)⟩
  ·
   replace h2 : (decide (a.f1 = b.f1)) = true := by simpa only [Bool.not_eq_true', Bool.not_eq_false'] using h2
   replace h2 := of_decide_eq_true h2
   refine T.skip ?_
   refine T.seq ?_
   refine T.region ?_
   refine TL.cons rfl (Step.assign (p := (.one (.d (.bool true)))) rfl rfl (lt_ok rfl) rfl) ?_
   refine TL.nil ?_
   refine T.ret ?_
   exact ⟨[(false, [.d (.bool true)])], (.cons rfl .nil), rfl, [], (RetC.rd' (by (congr 1; symm; first | (apply decide_eq_false; rintro rfl; first | exact absurd rfl ‹¬ _ = _› | contradiction) | (apply decide_eq_true; apply SProof.ext <;> first | assumption | exact Decidable.not_not.1 (by assumption)))) .nil)⟩
theorem ok_laws_eqIncl (a : SIncl) (b : SIncl) : RO Try.prog 46 [.agg a.cells, .agg b.cells] [(false, [.rd (.bool (decide (a = b)))])] := by
 refine RO.intro Try.func46 rfl 32 rfl (le_ok rfl) fun w Z => ?_
 refine T.seq ?_
 refine T.region ?_
 refine TL.cons rfl (Step.box (p := (.agg [.d (.int .i64 a.f0), .d (.int .i64 a.f1), .d (.int .i64 a.f2), .d (.ints .u8 a.f3), .d (.bss a.f4)])) (ps := [.d (.int .i64 a.f0), .d (.int .i64 a.f1), .d (.int .i64 a.f2), .d (.ints .u8 a.f3), .d (.bss a.f4)]) rfl rfl (lt_ok rfl) rfl rfl rfl rfl rfl) ?_
 refine TL.cons rfl (Step.box (p := (.agg [.d (.int .i64 b.f0), .d (.int .i64 b.f1), .d (.int .i64 b.f2), .d (.ints .u8 b.f3), .d (.bss b.f4)])) (ps := [.d (.int .i64 b.f0), .d (.int .i64 b.f1), .d (.int .i64 b.f2), .d (.ints .u8 b.f3), .d (.bss b.f4)]) rfl rfl (lt_ok rfl) rfl rfl rfl rfl rfl) ?_
 refine TL.cons rfl (Step.assign (p := (.one (.d (.bool false)))) rfl rfl (lt_ok rfl) rfl) ?_
 refine TL.nil ?_
 refine T.seq ?_
 refine T.seq ?_
 refine T.region ?_
 refine TL.cons rfl (Step.fieldAddr (q := 0) (off := 0) (n := 1) (one := true) rfl rfl (lt_ok rfl) (by kernel_rfl) (Nat.succ_ne_zero _) rfl) ?_
 refine TL.cons rfl (Step.load_box (c := .d (.int .i64 a.f0)) rfl rfl (lt_ok rfl) (by kernel_rfl) rfl rfl rfl) ?_
 refine TL.cons rfl (Step.fieldAddr (q := 0) (off := 0) (n := 1) (one := true) rfl rfl (lt_ok rfl) (by kernel_rfl) (Nat.succ_ne_zero _) rfl) ?_
 refine TL.cons rfl (Step.load_box (c := .d (.int .i64 b.f0)) rfl rfl (lt_ok rfl) (by kernel_rfl) rfl rfl rfl) ?_
 refine TL.cons rfl (Step.bin rfl rfl (lt_ok rfl) rfl rfl (Bin.neq (k := .i64) (a := a.f0) (b := b.f0))) ?_
 refine TL.nil ?_
 refine T.cond (b := decide (a.f0 ≠ b.f0)) rfl (fun h1 => ?_) (fun h1 => ?_)
 ·
  replace h1 := of_decide_eq_true h1
  refine T.seq ?_
  refine T.region ?_
  refine TL.cons rfl (Step.assign (p := (.one (.d (.bool false)))) rfl rfl (lt_ok rfl) rfl) ?_
  refine TL.nil ?_
  refine T.ret ?_
  exact ⟨[(false, [.d (.bool false)])], (.cons rfl .nil), rfl, [], (RetC.rd' (by (congr 1; symm; first | (apply decide_eq_false; rintro rfl; first | exact absurd rfl ‹¬ _ = _› | contradiction) | (apply decide_eq_true; apply SIncl.ext <;> first | assumption | exact Decidable.not_not.1 (by assumption)))) .nil)⟩
 ·
  replace h1 := of_decide_eq_false h1
  refine T.skip ?_
  refine T.seq ?_
  refine T.seq ?_
  refine T.region ?_
  refine TL.cons rfl (Step.fieldAddr (q := 0) (off := 1) (n := 1) (one := true) rfl rfl (lt_ok rfl) (by kernel_rfl) (Nat.succ_ne_zero _) rfl) ?_
  refine TL.cons rfl (Step.load_box (c := .d (.int .i64 a.f1)) rfl rfl (lt_ok rfl) (by kernel_rfl) rfl rfl rfl) ?_
  refine TL.cons rfl (Step.fieldAddr (q := 0) (off := 1) (n := 1) (one := true) rfl rfl (lt_ok rfl) (by kernel_rfl) (Nat.succ_ne_zero _) rfl) ?_
  refine TL.cons rfl (Step.load_box (c := .d (.int .i64 b.f1)) rfl rfl (lt_ok rfl) (by kernel_rfl) rfl rfl rfl) ?_
  refine TL.cons rfl (Step.bin rfl rfl (lt_ok rfl) rfl rfl (Bin.neq (k := .i64) (a := a.f1) (b := b.f1))) ?_
  refine TL.nil ?_
  refine T.cond (b := decide (a.f1 ≠ b.f1)) rfl (fun h2 => ?_) (fun h2 => ?_)
  ·
   replace h2 := of_decide_eq_true h2
   refine T.seq ?_
   refine T.region ?_
   refine TL.cons rfl (Step.assign (p := (.one (.d (.bool false)))) rfl rfl (lt_ok rfl) rfl) ?_
   refine TL.nil ?_
   refine T.ret ?_
   exact ⟨[(false, [.d (.bool false)])], (.cons rfl .nil), rfl, [], (RetC.rd' (by (congr 1; symm; first | (apply decide_eq_false; rintro rfl; first | exact absurd rfl ‹¬ _ = _› | contradiction) | (apply decide_eq_true; apply SIncl.ext <;> first | assumption | exact Decidable.not_not.1 (by assumption)))) .nil)⟩
  ·
   replace h2 := of_decide_eq_false h2
   refine T.skip ?_
   refine T.seq ?_
   refine T.seq ?_
   refine T.region ?_
   refine TL.cons rfl (Step.fieldAddr (q := 0) (off := 2) (n := 1) (one := true) rfl rfl (lt_ok rfl) (by kernel_rfl) (Nat.succ_ne_zero _) rfl) ?_
   refine TL.cons rfl (Step.load_box (c := .d (.int .i64 a.f2)) rfl rfl (lt_ok rfl) (by kernel_rfl) rfl rfl rfl) ?_
   refine TL.cons rfl (Step.fieldAddr (q := 0) (off := 2) (n := 1) (one := true) rfl rfl (lt_ok rfl) (by kernel_rfl) (Nat.succ_ne_zero _) rfl) ?_
   refine TL.cons rfl (Step.load_box (c := .d (.int .i64 b.f2)) rfl rfl (lt_ok rfl) (by kernel_rfl) rfl rfl rfl) ?_
   refine TL.cons rfl (Step.bin rfl rfl (lt_ok rfl) rfl rfl (Bin.neq (k := .i64) (a := a.f2) (b := b.f2))) ?_
   refine TL.nil ?_
   refine T.cond (b := decide (a.f2 ≠ b.f2)) rfl (fun h3 => ?_) (fun h3 => ?_)
   ·
    replace h3 := of_decide_eq_true h3
    refine T.seq ?_
    refine T.region ?_
    refine TL.cons rfl (Step.assign (p := (.one (.d (.bool false)))) rfl rfl (lt_ok rfl) rfl) ?_
    refine TL.nil ?_
    refine T.ret ?_
    exact ⟨[(false, [.d (.bool false)])], (.cons rfl .nil), rfl, [], (RetC.rd' (by (congr 1; symm; first | (apply decide_eq_false; rintro rfl; first | exact absurd rfl ‹¬ _ = _› | contradiction) | (apply decide_eq_true; apply SIncl.ext <;> first | assumption | exact Decidable.not_not.1 (by assumption)))) .nil)⟩
   ·
    replace h3 := of_decide_eq_false h3
    refine T.skip ?_
    refine T.seq ?_
    refine T.seq ?_
    refine T.region ?_
    refine TL.cons rfl (Step.fieldAddr (q := 0) (off := 3) (n := 1) (one := true) rfl rfl (lt_ok rfl) (by kernel_rfl) (Nat.succ_ne_zero _) rfl) ?_
    refine TL.cons rfl (Step.load_box (c := .d (.ints .u8 a.f3)) rfl rfl (lt_ok rfl) (by kernel_rfl) rfl rfl rfl) ?_
    refine TL.cons rfl (Step.fieldAddr (q := 0) (off := 3) (n := 1) (one := true) rfl rfl (lt_ok rfl) (by kernel_rfl) (Nat.succ_ne_zero _) rfl) ?_
    refine TL.cons rfl (Step.load_box (c := .d (.ints .u8 b.f3)) rfl rfl (lt_ok rfl) (by kernel_rfl) rfl rfl rfl) ?_
    refine TL.cons rfl (Step.call (f := 35) (xs := [.tmp 21, .tmp 23]) (ps := [(.one (.d (.ints .u8 a.f3))), (.one (.d (.ints .u8 b.f3)))]) false (g := .func 35) rfl rfl (lt_ok rfl) rfl (by kernel_rfl) rfl (.cons (.one (.d _)) (.cons (.one (.d _)) .nil)) (ok_laws_eqByteS a.f3 b.f3) (.inr rfl) rfl (by simp) rfl) ?_
    refine TL.cons rfl (Step.not (b := (decide (a.f3 = b.f3))) rfl rfl (lt_ok rfl) rfl) ?_
    refine TL.nil ?_
    refine T.cond (b := !(decide (a.f3 = b.f3))) rfl (fun h4 => ?_) (fun h4 => ?_)
    ·
     replace h4 : (decide (a.f3 = b.f3)) = false := by simpa only [Bool.not_eq_true', Bool.not_eq_false'] using h4
     replace h4 := of_decide_eq_false h4
     refine T.seq ?_
     refine T.region ?_
     refine TL.cons rfl (Step.assign (p := (.one (.d (.bool false)))) rfl rfl (lt_ok rfl) rfl) ?_
     refine TL.nil ?_
     refine T.ret ?_
     exact ⟨[(false, [.d (.bool false)])], (.cons rfl .nil), rfl, [], (RetC.rd' (by (congr 1; symm; first | (apply decide_eq_false; rintro rfl; first | exact absurd rfl ‹¬ _ = _› | contradiction) | (apply decide_eq_true; apply SIncl.ext <;> first | assumption | exact Decidable.not_not.1 (by assumption)))) .nil)⟩
    ·
     replace h4 : (decide (a.f3 = b.f3)) = true := by simpa only [Bool.not_eq_true', Bool.not_eq_false'] using h4
     replace h4 := of_decide_eq_true h4
     refine T.skip ?_
     refine T.seq ?_
     refine T.seq ?_
     refine T.region ?_
     refine TL.cons rfl (Step.fieldAddr (q := 0) (off := 4) (n := 1) (one := true) rfl rfl (lt_ok rfl) (by kernel_rfl) (Nat.succ_ne_zero _) rfl) ?_
     refine TL.cons rfl (Step.load_box (c := .d (.bss a.f4)) rfl rfl (lt_ok rfl) (by kernel_rfl) rfl rfl rfl) ?_
     refine TL.cons rfl (Step.fieldAddr (q := 0) (off := 4) (n := 1) (one := true) rfl rfl (lt_ok rfl) (by kernel_rfl) (Nat.succ_ne_zero _) rfl) ?_
     refine TL.cons rfl (Step.load_box (c := .d (.bss b.f4)) rfl rfl (lt_ok rfl) (by kernel_rfl) rfl rfl rfl) ?_
     refine TL.cons rfl (Step.call (f := 88) (xs := [.tmp 27, .tmp 29]) (ps := [(.one (.d (.bss a.f4))), (.one (.d (.bss b.f4)))]) false (g := .func 88) rfl rfl (lt_ok rfl) rfl (by kernel_rfl) rfl (.cons (.one (.d _)) (.cons (.one (.d _)) .nil)) (ok_laws_eqByteSS a.f4 b.f4) (.inr rfl) rfl (by simp) rfl) ?_
     refine TL.cons rfl (Step.not (b := (decide (a.f4 = b.f4))) rfl rfl (lt_ok rfl) rfl) ?_
     refine TL.nil ?_
     refine T.cond (b := !(decide (a.f4 = b.f4))) rfl (fun h5 => ?_) (fun h5 => ?_)
     ·
      replace h5 : (decide (a.f4 = b.f4)) = false := by simpa only [Bool.not_eq_true', Bool.not_eq_false'] using h5
      replace h5 := of_decide_eq_false h5
      refine T.seq ?_
      refine T.region ?_
      refine TL.cons rfl (Step.assign (p := (.one (.d (.bool false)))) rfl rfl (lt_ok rfl) rfl) ?_
      refine TL.nil ?_
      refine T.ret ?_
      exact ⟨[(false, [.d (.bool false)])], (.cons rfl .nil), rfl, [], (RetC.rd' (by (congr 1; symm; first | (apply decide_eq_false; rintro rfl; first | exact absurd rfl ‹¬ _ = _› | contradiction) | (apply decide_eq_true; apply SIncl.ext <;> first | assumption | exact Decidable.not_not.1 (by assumption)))) .nil)⟩
     ·
      replace h5 : (decide (a.f4 = b.f4)) = true := by simpa only [Bool.not_eq_true', Bool.not_eq_false'] using h5
      replace h5 := of_decide_eq_true h5
      refine T.skip ?_
      refine T.seq ?_
      refine T.region ?_
      refine TL.cons rfl (Step.assign (p := (.one (.d (.bool true)))) rfl rfl (lt_ok rfl) rfl) ?_
      refine TL.nil ?_
      refine T.ret ?_
      exact ⟨[(false, [.d (.bool true)])], (.cons rfl .nil), rfl, [], (RetC.rd' (by (congr 1; symm; first | (apply decide_eq_false; rintro rfl; first | exact absurd rfl ‹¬ _ = _› | contradiction) | (apply decide_eq_true; apply SIncl.ext <;> first | assumption | exact Decidable.not_not.1 (by assumption)))) .nil)⟩
theorem ok_laws_eqMsg (a : SMsg) (b : SMsg) : RO Try.prog 12 [.agg a.cells, .agg b.cells] [(false, [.rd (.bool (decide (a = b)))])] := by
 refine RO.intro Try.func12 rfl 52 rfl (le_ok rfl) fun w Z => ?_
 refine T.seq ?_
 refine T.region ?_
 refine TL.cons rfl (Step.box (p := (.agg [.d (.int .i64 a.f0), .d (.int .i64 a.f1.f0), .d (.int .i64 a.f1.f1), .d (.ints .u8 a.f1.f2), .d (.int .i64 a.f1.f3), .d (.ints .u8 a.f1.f4), .d (.int .i64 a.f2.f0), .d (.int .i64 a.f2.f1), .d (.ints .u8 a.f2.f2), .d (.ints .u8 a.f2.f3), .d (.bss a.f2.f4), .d (.int .i64 a.f3.f0), .d (.int .i64 a.f3.f1), .d (.int .i64 a.f3.f2), .d (.ints .u8 a.f3.f3), .d (.ints .u8 a.f3.f4), .d (.int .i64 a.f3.f5.f0), .d (.int .i64 a.f3.f5.f1), .d (.ints .u8 a.f3.f5.f2), .d (.ints .u8 a.f3.f5.f3), .d (.bss a.f3.f5.f4), .d (.int .i64 a.f4.f0.f0), .d (.int .i64 a.f4.f0.f1), .d (.int .i64 a.f4.f0.f2), .d (.ints .u8 a.f4.f0.f3), .d (.ints .u8 a.f4.f0.f4), .d (.int .i64 a.f4.f0.f5.f0), .d (.int .i64 a.f4.f0.f5.f1), .d (.ints .u8 a.f4.f0.f5.f2), .d (.ints .u8 a.f4.f0.f5.f3), .d (.bss a.f4.f0.f5.f4), .d (.bss a.f4.f1), .d (.int .i64 a.f5.f0), .d (.sl 3 (a.f5.f1.map SEntry.cells)), .d (.sl 10 (a.f6.f0.map SHead.cells)), .d (.int .i64 a.f6.f1.f0), .d (.int .i64 a.f6.f1.f1), .d (.ints .u8 a.f6.f1.f2), .d (.ints .u8 a.f6.f1.f3), .d (.bss a.f6.f1.f4), .d (.int .i64 a.f7.f0), .d (.int .i64 a.f7.f1), .d (.int .i64 a.f7.f2), .d (.ints .u8 a.f7.f3), .d (.bss a.f7.f4)])) (ps := [.d (.int .i64 a.f0), .d (.int .i64 a.f1.f0), .d (.int .i64 a.f1.f1), .d (.ints .u8 a.f1.f2), .d (.int .i64 a.f1.f3), .d (.ints .u8 a.f1.f4), .d (.int .i64 a.f2.f0), .d (.int .i64 a.f2.f1), .d (.ints .u8 a.f2.f2), .d (.ints .u8 a.f2.f3), .d (.bss a.f2.f4), .d (.int .i64 a.f3.f0), .d (.int .i64 a.f3.f1), .d (.int .i64 a.f3.f2), .d (.ints .u8 a.f3.f3), .d (.ints .u8 a.f3.f4), .d (.int .i64 a.f3.f5.f0), .d (.int .i64 a.f3.f5.f1), .d (.ints .u8 a.f3.f5.f2), .d (.ints .u8 a.f3.f5.f3), .d (.bss a.f3.f5.f4), .d (.int .i64 a.f4.f0.f0), .d (.int .i64 a.f4.f0.f1), .d (.int .i64 a.f4.f0.f2), .d (.ints .u8 a.f4.f0.f3), .d (.ints .u8 a.f4.f0.f4), .d (.int .i64 a.f4.f0.f5.f0), .d (.int .i64 a.f4.f0.f5.f1), .d (.ints .u8 a.f4.f0.f5.f2), .d (.ints .u8 a.f4.f0.f5.f3), .d (.bss a.f4.f0.f5.f4), .d (.bss a.f4.f1), .d (.int .i64 a.f5.f0), .d (.sl 3 (a.f5.f1.map SEntry.cells)), .d (.sl 10 (a.f6.f0.map SHead.cells)), .d (.int .i64 a.f6.f1.f0), .d (.int .i64 a.f6.f1.f1), .d (.ints .u8 a.f6.f1.f2), .d (.ints .u8 a.f6.f1.f3), .d (.bss a.f6.f1.f4), .d (.int .i64 a.f7.f0), .d (.int .i64 a.f7.f1), .d (.int .i64 a.f7.f2), .d (.ints .u8 a.f7.f3), .d (.bss a.f7.f4)]) rfl rfl (lt_ok rfl) rfl rfl rfl rfl rfl) ?_
 refine TL.cons rfl (Step.box (p := (.agg [.d (.int .i64 b.f0), .d (.int .i64 b.f1.f0), .d (.int .i64 b.f1.f1), .d (.ints .u8 b.f1.f2), .d (.int .i64 b.f1.f3), .d (.ints .u8 b.f1.f4), .d (.int .i64 b.f2.f0), .d (.int .i64 b.f2.f1), .d (.ints .u8 b.f2.f2), .d (.ints .u8 b.f2.f3), .d (.bss b.f2.f4), .d (.int .i64 b.f3.f0), .d (.int .i64 b.f3.f1), .d (.int .i64 b.f3.f2), .d (.ints .u8 b.f3.f3), .d (.ints .u8 b.f3.f4), .d (.int .i64 b.f3.f5.f0), .d (.int .i64 b.f3.f5.f1), .d (.ints .u8 b.f3.f5.f2), .d (.ints .u8 b.f3.f5.f3), .d (.bss b.f3.f5.f4), .d (.int .i64 b.f4.f0.f0), .d (.int .i64 b.f4.f0.f1), .d (.int .i64 b.f4.f0.f2), .d (.ints .u8 b.f4.f0.f3), .d (.ints .u8 b.f4.f0.f4), .d (.int .i64 b.f4.f0.f5.f0), .d (.int .i64 b.f4.f0.f5.f1), .d (.ints .u8 b.f4.f0.f5.f2), .d (.ints .u8 b.f4.f0.f5.f3), .d (.bss b.f4.f0.f5.f4), .d (.bss b.f4.f1), .d (.int .i64 b.f5.f0), .d (.sl 3 (b.f5.f1.map SEntry.cells)), .d (.sl 10 (b.f6.f0.map SHead.cells)), .d (.int .i64 b.f6.f1.f0), .d (.int .i64 b.f6.f1.f1), .d (.ints .u8 b.f6.f1.f2), .d (.ints .u8 b.f6.f1.f3), .d (.bss b.f6.f1.f4), .d (.int .i64 b.f7.f0), .d (.int .i64 b.f7.f1), .d (.int .i64 b.f7.f2), .d (.ints .u8 b.f7.f3), .d (.bss b.f7.f4)])) (ps := [.d (.int .i64 b.f0), .d (.int .i64 b.f1.f0), .d (.int .i64 b.f1.f1), .d (.ints .u8 b.f1.f2), .d (.int .i64 b.f1.f3), .d (.ints .u8 b.f1.f4), .d (.int .i64 b.f2.f0), .d (.int .i64 b.f2.f1), .d (.ints .u8 b.f2.f2), .d (.ints .u8 b.f2.f3), .d (.bss b.f2.f4), .d (.int .i64 b.f3.f0), .d (.int .i64 b.f3.f1), .d (.int .i64 b.f3.f2), .d (.ints .u8 b.f3.f3), .d (.ints .u8 b.f3.f4), .d (.int .i64 b.f3.f5.f0), .d (.int .i64 b.f3.f5.f1), .d (.ints .u8 b.f3.f5.f2), .d (.ints .u8 b.f3.f5.f3), .d (.bss b.f3.f5.f4), .d (.int .i64 b.f4.f0.f0), .d (.int .i64 b.f4.f0.f1), .d (.int .i64 b.f4.f0.f2), .d (.ints .u8 b.f4.f0.f3), .d (.ints .u8 b.f4.f0.f4), .d (.int .i64 b.f4.f0.f5.f0), .d (.int .i64 b.f4.f0.f5.f1), .d (.ints .u8 b.f4.f0.f5.f2), .d (.ints .u8 b.f4.f0.f5.f3), .d (.bss b.f4.f0.f5.f4), .d (.bss b.f4.f1), .d (.int .i64 b.f5.f0), .d (.sl 3 (b.f5.f1.map SEntry.cells)), .d (.sl 10 (b.f6.f0.map SHead.cells)), .d (.int .i64 b.f6.f1.f0), .d (.int .i64 b.f6.f1.f1), .d (.ints .u8 b.f6.f1.f2), .d (.ints .u8 b.f6.f1.f3), .d (.bss b.f6.f1.f4), .d (.int .i64 b.f7.f0), .d (.int .i64 b.f7.f1), .d (.int .i64 b.f7.f2), .d (.ints .u8 b.f7.f3), .d (.bss b.f7.f4)]) rfl rfl (lt_ok rfl) rfl rfl rfl rfl rfl) ?_
 refine TL.cons rfl (Step.assign (p := (.one (.d (.bool false)))) rfl rfl (lt_ok rfl) rfl) ?_
 refine TL.nil ?_
 refine T.weaken (E' := { tm := [(2, (.one (.ptr 2 0))), (3, (.one (.ptr 3 0))), (4, (.one (.d (.bool false))))], rows := [], boxes := [(2, (43, [.d (.int .i64 a.f0), .d (.int .i64 a.f1.f0), .d (.int .i64 a.f1.f1), .d (.ints .u8 a.f1.f2), .d (.int .i64 a.f1.f3), .d (.ints .u8 a.f1.f4), .d (.int .i64 a.f2.f0), .d (.int .i64 a.f2.f1), .d (.ints .u8 a.f2.f2), .d (.ints .u8 a.f2.f3), .d (.bss a.f2.f4), .d (.int .i64 a.f3.f0), .d (.int .i64 a.f3.f1), .d (.int .i64 a.f3.f2), .d (.ints .u8 a.f3.f3), .d (.ints .u8 a.f3.f4), .d (.int .i64 a.f3.f5.f0), .d (.int .i64 a.f3.f5.f1), .d (.ints .u8 a.f3.f5.f2), .d (.ints .u8 a.f3.f5.f3), .d (.bss a.f3.f5.f4), .d (.int .i64 a.f4.f0.f0), .d (.int .i64 a.f4.f0.f1), .d (.int .i64 a.f4.f0.f2), .d (.ints .u8 a.f4.f0.f3), .d (.ints .u8 a.f4.f0.f4), .d (.int .i64 a.f4.f0.f5.f0), .d (.int .i64 a.f4.f0.f5.f1), .d (.ints .u8 a.f4.f0.f5.f2), .d (.ints .u8 a.f4.f0.f5.f3), .d (.bss a.f4.f0.f5.f4), .d (.bss a.f4.f1), .d (.int .i64 a.f5.f0), .d (.sl 3 (a.f5.f1.map SEntry.cells)), .d (.sl 10 (a.f6.f0.map SHead.cells)), .d (.int .i64 a.f6.f1.f0), .d (.int .i64 a.f6.f1.f1), .d (.ints .u8 a.f6.f1.f2), .d (.ints .u8 a.f6.f1.f3), .d (.bss a.f6.f1.f4), .d (.int .i64 a.f7.f0), .d (.int .i64 a.f7.f1), .d (.int .i64 a.f7.f2), .d (.ints .u8 a.f7.f3), .d (.bss a.f7.f4)])), (3, (43, [.d (.int .i64 b.f0), .d (.int .i64 b.f1.f0), .d (.int .i64 b.f1.f1), .d (.ints .u8 b.f1.f2), .d (.int .i64 b.f1.f3), .d (.ints .u8 b.f1.f4), .d (.int .i64 b.f2.f0), .d (.int .i64 b.f2.f1), .d (.ints .u8 b.f2.f2), .d (.ints .u8 b.f2.f3), .d (.bss b.f2.f4), .d (.int .i64 b.f3.f0), .d (.int .i64 b.f3.f1), .d (.int .i64 b.f3.f2), .d (.ints .u8 b.f3.f3), .d (.ints .u8 b.f3.f4), .d (.int .i64 b.f3.f5.f0), .d (.int .i64 b.f3.f5.f1), .d (.ints .u8 b.f3.f5.f2), .d (.ints .u8 b.f3.f5.f3), .d (.bss b.f3.f5.f4), .d (.int .i64 b.f4.f0.f0), .d (.int .i64 b.f4.f0.f1), .d (.int .i64 b.f4.f0.f2), .d (.ints .u8 b.f4.f0.f3), .d (.ints .u8 b.f4.f0.f4), .d (.int .i64 b.f4.f0.f5.f0), .d (.int .i64 b.f4.f0.f5.f1), .d (.ints .u8 b.f4.f0.f5.f2), .d (.ints .u8 b.f4.f0.f5.f3), .d (.bss b.f4.f0.f5.f4), .d (.bss b.f4.f1), .d (.int .i64 b.f5.f0), .d (.sl 3 (b.f5.f1.map SEntry.cells)), .d (.sl 10 (b.f6.f0.map SHead.cells)), .d (.int .i64 b.f6.f1.f0), .d (.int .i64 b.f6.f1.f1), .d (.ints .u8 b.f6.f1.f2), .d (.ints .u8 b.f6.f1.f3), .d (.bss b.f6.f1.f4), .d (.int .i64 b.f7.f0), .d (.int .i64 b.f7.f1), .d (.int .i64 b.f7.f2), .d (.ints .u8 b.f7.f3), .d (.bss b.f7.f4)]))] }) (Env.le_mk ⟨by kernel_rfl, by kernel_rfl, by kernel_rfl, trivial⟩ trivial ⟨by kernel_rfl, by kernel_rfl, trivial⟩) ?_
 refine T.seq ?_
 refine T.seq ?_
 refine T.region ?_
 refine TL.cons rfl (Step.fieldAddr (q := 0) (off := 0) (n := 1) (one := true) rfl rfl (lt_ok rfl) (by kernel_rfl) (Nat.succ_ne_zero _) rfl) ?_
 refine TL.cons rfl (Step.load_box (c := .d (.int .i64 a.f0)) rfl rfl (lt_ok rfl) (by kernel_rfl) rfl rfl rfl) ?_
 refine TL.cons rfl (Step.fieldAddr (q := 0) (off := 0) (n := 1) (one := true) rfl rfl (lt_ok rfl) (by kernel_rfl) (Nat.succ_ne_zero _) rfl) ?_
 refine TL.cons rfl (Step.load_box (c := .d (.int .i64 b.f0)) rfl rfl (lt_ok rfl) (by kernel_rfl) rfl rfl rfl) ?_
 refine TL.cons rfl (Step.bin rfl rfl (lt_ok rfl) rfl rfl (Bin.neq (k := .i64) (a := a.f0) (b := b.f0))) ?_
 refine TL.nil ?_
 refine T.cond (b := decide (a.f0 ≠ b.f0)) rfl (fun h1 => ?_) (fun h1 => ?_)
 ·
  replace h1 := of_decide_eq_true h1
  refine T.seq ?_
  refine T.region ?_
  refine TL.cons rfl (Step.assign (p := (.one (.d (.bool false)))) rfl rfl (lt_ok rfl) rfl) ?_
  refine TL.nil ?_
  refine T.ret ?_
  exact ⟨[(false, [.d (.bool false)])], (.cons rfl .nil), rfl, [], (RetC.rd' (by (congr 1; symm; first | (apply decide_eq_false; rintro rfl; first | exact absurd rfl ‹¬ _ = _› | contradiction) | (apply decide_eq_true; apply SMsg.ext <;> first | assumption | exact Decidable.not_not.1 (by assumption)))) .nil)⟩
 ·
  replace h1 := of_decide_eq_false h1
  refine T.skip ?_
  refine T.seq ?_
  refine T.seq ?_
  refine T.region ?_
  refine TL.cons rfl (Step.fieldAddr (q := 0) (off := 1) (n := 5) (one := false) rfl rfl (lt_ok rfl) (by kernel_rfl) (Nat.succ_ne_zero _) rfl) ?_
  refine TL.cons rfl (Step.load_box_agg (n := 5) (qs := [.d (.int .i64 a.f1.f0), .d (.int .i64 a.f1.f1), .d (.ints .u8 a.f1.f2), .d (.int .i64 a.f1.f3), .d (.ints .u8 a.f1.f4)]) rfl rfl (lt_ok rfl) (by kernel_rfl) rfl rfl rfl rfl) ?_
  refine TL.cons rfl (Step.fieldAddr (q := 0) (off := 1) (n := 5) (one := false) rfl rfl (lt_ok rfl) (by kernel_rfl) (Nat.succ_ne_zero _) rfl) ?_
  refine TL.cons rfl (Step.load_box_agg (n := 5) (qs := [.d (.int .i64 b.f1.f0), .d (.int .i64 b.f1.f1), .d (.ints .u8 b.f1.f2), .d (.int .i64 b.f1.f3), .d (.ints .u8 b.f1.f4)]) rfl rfl (lt_ok rfl) (by kernel_rfl) rfl rfl rfl rfl) ?_
  refine TL.cons rfl (Step.call (f := 13) (xs := [.tmp 11, .tmp 13]) (ps := [(.agg [.d (.int .i64 a.f1.f0), .d (.int .i64 a.f1.f1), .d (.ints .u8 a.f1.f2), .d (.int .i64 a.f1.f3), .d (.ints .u8 a.f1.f4)]), (.agg [.d (.int .i64 b.f1.f0), .d (.int .i64 b.f1.f1), .d (.ints .u8 b.f1.f2), .d (.int .i64 b.f1.f3), .d (.ints .u8 b.f1.f4)])]) false (g := .func 13) rfl rfl (lt_ok rfl) rfl (by kernel_rfl) rfl (.cons (.agg (.cons (.d _) (.cons (.d _) (.cons (.d _) (.cons (.d _) (.cons (.d _) .nil)))))) (.cons (.agg (.cons (.d _) (.cons (.d _) (.cons (.d _) (.cons (.d _) (.cons (.d _) .nil)))))) .nil)) (ok_laws_eqVote a.f1 b.f1) (.inr rfl) rfl (by simp) rfl) ?_
  refine TL.cons rfl (Step.not (b := (decide (a.f1 = b.f1))) rfl rfl (lt_ok rfl) rfl) ?_
  refine TL.nil ?_
  refine T.cond (b := !(decide (a.f1 = b.f1))) rfl (fun h2 => ?_) (fun h2 => ?_)
  ·
   replace h2 : (decide (a.f1 = b.f1)) = false := by simpa only [Bool.not_eq_true', Bool.not_eq_false'] using h2
   replace h2 := of_decide_eq_false h2
   refine T.seq ?_
   refine T.region ?_
   refine TL.cons rfl (Step.assign (p := (.one (.d (.bool false)))) rfl rfl (lt_ok rfl) rfl) ?_
   refine TL.nil ?_
   refine T.ret ?_
   exact ⟨[(false, [.d (.bool false)])], (.cons rfl .nil), rfl, [], (RetC.rd' (by (congr 1; symm; first | (apply decide_eq_false; rintro rfl; first | exact absurd rfl ‹¬ _ = _› | contradiction) | (apply decide_eq_true; apply SMsg.ext <;> first | assumption | exact Decidable.not_not.1 (by assumption)))) .nil)⟩
  ·
   replace h2 : (decide (a.f1 = b.f1)) = true := by simpa only [Bool.not_eq_true', Bool.not_eq_false'] using h2
   replace h2 := of_decide_eq_true h2
   refine T.skip ?_
   refine T.seq ?_
   refine T.seq ?_
   refine T.region ?_
   refine TL.cons rfl (Step.fieldAddr (q := 0) (off := 6) (n := 5) (one := false) rfl rfl (lt_ok rfl) (by kernel_rfl) (Nat.succ_ne_zero _) rfl) ?_
   refine TL.cons rfl (Step.load_box_agg (n := 5) (qs := [.d (.int .i64 a.f2.f0), .d (.int .i64 a.f2.f1), .d (.ints .u8 a.f2.f2), .d (.ints .u8 a.f2.f3), .d (.bss a.f2.f4)]) rfl rfl (lt_ok rfl) (by kernel_rfl) rfl rfl rfl rfl) ?_
   refine TL.cons rfl (Step.fieldAddr (q := 0) (off := 6) (n := 5) (one := false) rfl rfl (lt_ok rfl) (by kernel_rfl) (Nat.succ_ne_zero _) rfl) ?_
   refine TL.cons rfl (Step.load_box_agg (n := 5) (qs := [.d (.int .i64 b.f2.f0), .d (.int .i64 b.f2.f1), .d (.ints .u8 b.f2.f2), .d (.ints .u8 b.f2.f3), .d (.bss b.f2.f4)]) rfl rfl (lt_ok rfl) (by kernel_rfl) rfl rfl rfl rfl) ?_
   refine TL.cons rfl (Step.call (f := 41) (xs := [.tmp 17, .tmp 19]) (ps := [(.agg [.d (.int .i64 a.f2.f0), .d (.int .i64 a.f2.f1), .d (.ints .u8 a.f2.f2), .d (.ints .u8 a.f2.f3), .d (.bss a.f2.f4)]), (.agg [.d (.int .i64 b.f2.f0), .d (.int .i64 b.f2.f1), .d (.ints .u8 b.f2.f2), .d (.ints .u8 b.f2.f3), .d (.bss b.f2.f4)])]) false (g := .func 41) rfl rfl (lt_ok rfl) rfl (by kernel_rfl) rfl (.cons (.agg (.cons (.d _) (.cons (.d _) (.cons (.d _) (.cons (.d _) (.cons (.d _) .nil)))))) (.cons (.agg (.cons (.d _) (.cons (.d _) (.cons (.d _) (.cons (.d _) (.cons (.d _) .nil)))))) .nil)) (ok_laws_eqQc a.f2 b.f2) (.inr rfl) rfl (by simp) rfl) ?_
   refine TL.cons rfl (Step.not (b := (decide (a.f2 = b.f2))) rfl rfl (lt_ok rfl) rfl) ?_
   refine TL.nil ?_
   refine T.cond (b := !(decide (a.f2 = b.f2))) rfl (fun h3 => ?_) (fun h3 => ?_)
   ·
    replace h3 : (decide (a.f2 = b.f2)) = false := by simpa only [Bool.not_eq_true', Bool.not_eq_false'] using h3
    replace h3 := of_decide_eq_false h3
    refine T.seq ?_
    refine T.region ?_
    refine TL.cons rfl (Step.assign (p := (.one (.d (.bool false)))) rfl rfl (lt_ok rfl) rfl) ?_
    refine TL.nil ?_
    refine T.ret ?_
    exact ⟨[(false, [.d (.bool false)])], (.cons rfl .nil), rfl, [], (RetC.rd' (by (congr 1; symm; first | (apply decide_eq_false; rintro rfl; first | exact absurd rfl ‹¬ _ = _› | contradiction) | (apply decide_eq_true; apply SMsg.ext <;> first | assumption | exact Decidable.not_not.1 (by assumption)))) .nil)⟩
   ·
    replace h3 : (decide (a.f2 = b.f2)) = true := by simpa only [Bool.not_eq_true', Bool.not_eq_false'] using h3
    replace h3 := of_decide_eq_true h3
    refine T.skip ?_
    refine T.seq ?_
    refine T.seq ?_
    refine T.region ?_
    refine TL.cons rfl (Step.fieldAddr (q := 0) (off := 11) (n := 10) (one := false) rfl rfl (lt_ok rfl) (by kernel_rfl) (Nat.succ_ne_zero _) rfl) ?_
    refine TL.cons rfl (Step.load_box_agg (n := 10) (qs := [.d (.int .i64 a.f3.f0), .d (.int .i64 a.f3.f1), .d (.int .i64 a.f3.f2), .d (.ints .u8 a.f3.f3), .d (.ints .u8 a.f3.f4), .d (.int .i64 a.f3.f5.f0), .d (.int .i64 a.f3.f5.f1), .d (.ints .u8 a.f3.f5.f2), .d (.ints .u8 a.f3.f5.f3), .d (.bss a.f3.f5.f4)]) rfl rfl (lt_ok rfl) (by kernel_rfl) rfl rfl rfl rfl) ?_
    refine TL.cons rfl (Step.fieldAddr (q := 0) (off := 11) (n := 10) (one := false) rfl rfl (lt_ok rfl) (by kernel_rfl) (Nat.succ_ne_zero _) rfl) ?_
    refine TL.cons rfl (Step.load_box_agg (n := 10) (qs := [.d (.int .i64 b.f3.f0), .d (.int .i64 b.f3.f1), .d (.int .i64 b.f3.f2), .d (.ints .u8 b.f3.f3), .d (.ints .u8 b.f3.f4), .d (.int .i64 b.f3.f5.f0), .d (.int .i64 b.f3.f5.f1), .d (.ints .u8 b.f3.f5.f2), .d (.ints .u8 b.f3.f5.f3), .d (.bss b.f3.f5.f4)]) rfl rfl (lt_ok rfl) (by kernel_rfl) rfl rfl rfl rfl) ?_
    refine TL.cons rfl (Step.call (f := 42) (xs := [.tmp 23, .tmp 25]) (ps := [(.agg [.d (.int .i64 a.f3.f0), .d (.int .i64 a.f3.f1), .d (.int .i64 a.f3.f2), .d (.ints .u8 a.f3.f3), .d (.ints .u8 a.f3.f4), .d (.int .i64 a.f3.f5.f0), .d (.int .i64 a.f3.f5.f1), .d (.ints .u8 a.f3.f5.f2), .d (.ints .u8 a.f3.f5.f3), .d (.bss a.f3.f5.f4)]), (.agg [.d (.int .i64 b.f3.f0), .d (.int .i64 b.f3.f1), .d (.int .i64 b.f3.f2), .d (.ints .u8 b.f3.f3), .d (.ints .u8 b.f3.f4), .d (.int .i64 b.f3.f5.f0), .d (.int .i64 b.f3.f5.f1), .d (.ints .u8 b.f3.f5.f2), .d (.ints .u8 b.f3.f5.f3), .d (.bss b.f3.f5.f4)])]) false (g := .func 42) rfl rfl (lt_ok rfl) rfl (by kernel_rfl) rfl (.cons (.agg (.cons (.d _) (.cons (.d _) (.cons (.d _) (.cons (.d _) (.cons (.d _) (.cons (.d _) (.cons (.d _) (.cons (.d _) (.cons (.d _) (.cons (.d _) .nil))))))))))) (.cons (.agg (.cons (.d _) (.cons (.d _) (.cons (.d _) (.cons (.d _) (.cons (.d _) (.cons (.d _) (.cons (.d _) (.cons (.d _) (.cons (.d _) (.cons (.d _) .nil))))))))))) .nil)) (ok_laws_eqHead a.f3 b.f3) (.inr rfl) rfl (by simp) rfl) ?_
    refine TL.cons rfl (Step.not (b := (decide (a.f3 = b.f3))) rfl rfl (lt_ok rfl) rfl) ?_
    refine TL.nil ?_
    refine T.cond (b := !(decide (a.f3 = b.f3))) rfl (fun h4 => ?_) (fun h4 => ?_)
    ·
     replace h4 : (decide (a.f3 = b.f3)) = false := by simpa only [Bool.not_eq_true', Bool.not_eq_false'] using h4
     replace h4 := of_decide_eq_false h4
     refine T.seq ?_
     refine T.region ?_
     refine TL.cons rfl (Step.assign (p := (.one (.d (.bool false)))) rfl rfl (lt_ok rfl) rfl) ?_
     refine TL.nil ?_
     refine T.ret ?_
     exact ⟨[(false, [.d (.bool false)])], (.cons rfl .nil), rfl, [], (RetC.rd' (by (congr 1; symm; first | (apply decide_eq_false; rintro rfl; first | exact absurd rfl ‹¬ _ = _› | contradiction) | (apply decide_eq_true; apply SMsg.ext <;> first | assumption | exact Decidable.not_not.1 (by assumption)))) .nil)⟩
    ·
     replace h4 : (decide (a.f3 = b.f3)) = true := by simpa only [Bool.not_eq_true', Bool.not_eq_false'] using h4
     replace h4 := of_decide_eq_true h4
     refine T.skip ?_
     refine T.seq ?_
     refine T.seq ?_
     refine T.region ?_
     refine TL.cons rfl (Step.fieldAddr (q := 0) (off := 21) (n := 11) (one := false) rfl rfl (lt_ok rfl) (by kernel_rfl) (Nat.succ_ne_zero _) rfl) ?_
     refine TL.cons rfl (Step.load_box_agg (n := 11) (qs := [.d (.int .i64 a.f4.f0.f0), .d (.int .i64 a.f4.f0.f1), .d (.int .i64 a.f4.f0.f2), .d (.ints .u8 a.f4.f0.f3), .d (.ints .u8 a.f4.f0.f4), .d (.int .i64 a.f4.f0.f5.f0), .d (.int .i64 a.f4.f0.f5.f1), .d (.ints .u8 a.f4.f0.f5.f2), .d (.ints .u8 a.f4.f0.f5.f3), .d (.bss a.f4.f0.f5.f4), .d (.bss a.f4.f1)]) rfl rfl (lt_ok rfl) (by kernel_rfl) rfl rfl rfl rfl) ?_
     refine TL.cons rfl (Step.fieldAddr (q := 0) (off := 21) (n := 11) (one := false) rfl rfl (lt_ok rfl) (by kernel_rfl) (Nat.succ_ne_zero _) rfl) ?_
     refine TL.cons rfl (Step.load_box_agg (n := 11) (qs := [.d (.int .i64 b.f4.f0.f0), .d (.int .i64 b.f4.f0.f1), .d (.int .i64 b.f4.f0.f2), .d (.ints .u8 b.f4.f0.f3), .d (.ints .u8 b.f4.f0.f4), .d (.int .i64 b.f4.f0.f5.f0), .d (.int .i64 b.f4.f0.f5.f1), .d (.ints .u8 b.f4.f0.f5.f2), .d (.ints .u8 b.f4.f0.f5.f3), .d (.bss b.f4.f0.f5.f4), .d (.bss b.f4.f1)]) rfl rfl (lt_ok rfl) (by kernel_rfl) rfl rfl rfl rfl) ?_
     refine TL.cons rfl (Step.call (f := 43) (xs := [.tmp 29, .tmp 31]) (ps := [(.agg [.d (.int .i64 a.f4.f0.f0), .d (.int .i64 a.f4.f0.f1), .d (.int .i64 a.f4.f0.f2), .d (.ints .u8 a.f4.f0.f3), .d (.ints .u8 a.f4.f0.f4), .d (.int .i64 a.f4.f0.f5.f0), .d (.int .i64 a.f4.f0.f5.f1), .d (.ints .u8 a.f4.f0.f5.f2), .d (.ints .u8 a.f4.f0.f5.f3), .d (.bss a.f4.f0.f5.f4), .d (.bss a.f4.f1)]), (.agg [.d (.int .i64 b.f4.f0.f0), .d (.int .i64 b.f4.f0.f1), .d (.int .i64 b.f4.f0.f2), .d (.ints .u8 b.f4.f0.f3), .d (.ints .u8 b.f4.f0.f4), .d (.int .i64 b.f4.f0.f5.f0), .d (.int .i64 b.f4.f0.f5.f1), .d (.ints .u8 b.f4.f0.f5.f2), .d (.ints .u8 b.f4.f0.f5.f3), .d (.bss b.f4.f0.f5.f4), .d (.bss b.f4.f1)])]) false (g := .func 43) rfl rfl (lt_ok rfl) rfl (by kernel_rfl) rfl (.cons (.agg (.cons (.d _) (.cons (.d _) (.cons (.d _) (.cons (.d _) (.cons (.d _) (.cons (.d _) (.cons (.d _) (.cons (.d _) (.cons (.d _) (.cons (.d _) (.cons (.d _) .nil)))))))))))) (.cons (.agg (.cons (.d _) (.cons (.d _) (.cons (.d _) (.cons (.d _) (.cons (.d _) (.cons (.d _) (.cons (.d _) (.cons (.d _) (.cons (.d _) (.cons (.d _) (.cons (.d _) .nil)))))))))))) .nil)) (ok_laws_eqBlock a.f4 b.f4) (.inr rfl) rfl (by simp) rfl) ?_
     refine TL.cons rfl (Step.not (b := (decide (a.f4 = b.f4))) rfl rfl (lt_ok rfl) rfl) ?_
     refine TL.nil ?_
     refine T.weaken (E' := { tm := [(2, (.one (.ptr 2 0))), (3, (.one (.ptr 3 0))), (4, (.one (.d (.bool false)))), (33, (.one (.d (.bool (!(decide (a.f4 = b.f4)))))))], rows := [], boxes := [(2, (43, [.d (.int .i64 a.f0), .d (.int .i64 a.f1.f0), .d (.int .i64 a.f1.f1), .d (.ints .u8 a.f1.f2), .d (.int .i64 a.f1.f3), .d (.ints .u8 a.f1.f4), .d (.int .i64 a.f2.f0), .d (.int .i64 a.f2.f1), .d (.ints .u8 a.f2.f2), .d (.ints .u8 a.f2.f3), .d (.bss a.f2.f4), .d (.int .i64 a.f3.f0), .d (.int .i64 a.f3.f1), .d (.int .i64 a.f3.f2), .d (.ints .u8 a.f3.f3), .d (.ints .u8 a.f3.f4), .d (.int .i64 a.f3.f5.f0), .d (.int .i64 a.f3.f5.f1), .d (.ints .u8 a.f3.f5.f2), .d (.ints .u8 a.f3.f5.f3), .d (.bss a.f3.f5.f4), .d (.int .i64 a.f4.f0.f0), .d (.int .i64 a.f4.f0.f1), .d (.int .i64 a.f4.f0.f2), .d (.ints .u8 a.f4.f0.f3), .d (.ints .u8 a.f4.f0.f4), .d (.int .i64 a.f4.f0.f5.f0), .d (.int .i64 a.f4.f0.f5.f1), .d (.ints .u8 a.f4.f0.f5.f2), .d (.ints .u8 a.f4.f0.f5.f3), .d (.bss a.f4.f0.f5.f4), .d (.bss a.f4.f1), .d (.int .i64 a.f5.f0), .d (.sl 3 (a.f5.f1.map SEntry.cells)), .d (.sl 10 (a.f6.f0.map SHead.cells)), .d (.int .i64 a.f6.f1.f0), .d (.int .i64 a.f6.f1.f1), .d (.ints .u8 a.f6.f1.f2), .d (.ints .u8 a.f6.f1.f3), .d (.bss a.f6.f1.f4), .d (.int .i64 a.f7.f0), .d (.int .i64 a.f7.f1), .d (.int .i64 a.f7.f2), .d (.ints .u8 a.f7.f3), .d (.bss a.f7.f4)])), (3, (43, [.d (.int .i64 b.f0), .d (.int .i64 b.f1.f0), .d (.int .i64 b.f1.f1), .d (.ints .u8 b.f1.f2), .d (.int .i64 b.f1.f3), .d (.ints .u8 b.f1.f4), .d (.int .i64 b.f2.f0), .d (.int .i64 b.f2.f1), .d (.ints .u8 b.f2.f2), .d (.ints .u8 b.f2.f3), .d (.bss b.f2.f4), .d (.int .i64 b.f3.f0), .d (.int .i64 b.f3.f1), .d (.int .i64 b.f3.f2), .d (.ints .u8 b.f3.f3), .d (.ints .u8 b.f3.f4), .d (.int .i64 b.f3.f5.f0), .d (.int .i64 b.f3.f5.f1), .d (.ints .u8 b.f3.f5.f2), .d (.ints .u8 b.f3.f5.f3), .d (.bss b.f3.f5.f4), .d (.int .i64 b.f4.f0.f0), .d (.int .i64 b.f4.f0.f1), .d (.int .i64 b.f4.f0.f2), .d (.ints .u8 b.f4.f0.f3), .d (.ints .u8 b.f4.f0.f4), .d (.int .i64 b.f4.f0.f5.f0), .d (.int .i64 b.f4.f0.f5.f1), .d (.ints .u8 b.f4.f0.f5.f2), .d (.ints .u8 b.f4.f0.f5.f3), .d (.bss b.f4.f0.f5.f4), .d (.bss b.f4.f1), .d (.int .i64 b.f5.f0), .d (.sl 3 (b.f5.f1.map SEntry.cells)), .d (.sl 10 (b.f6.f0.map SHead.cells)), .d (.int .i64 b.f6.f1.f0), .d (.int .i64 b.f6.f1.f1), .d (.ints .u8 b.f6.f1.f2), .d (.ints .u8 b.f6.f1.f3), .d (.bss b.f6.f1.f4), .d (.int .i64 b.f7.f0), .d (.int .i64 b.f7.f1), .d (.int .i64 b.f7.f2), .d (.ints .u8 b.f7.f3), .d (.bss b.f7.f4)]))] }) (Env.le_mk ⟨by kernel_rfl, by kernel_rfl, by kernel_rfl, by kernel_rfl, trivial⟩ trivial ⟨by kernel_rfl, by kernel_rfl, trivial⟩) ?_
     refine T.cond (b := !(decide (a.f4 = b.f4))) rfl (fun h5 => ?_) (fun h5 => ?_)
     ·
      replace h5 : (decide (a.f4 = b.f4)) = false := by simpa only [Bool.not_eq_true', Bool.not_eq_false'] using h5
      replace h5 := of_decide_eq_false h5
      refine T.seq ?_
      refine T.region ?_
      refine TL.cons rfl (Step.assign (p := (.one (.d (.bool false)))) rfl rfl (lt_ok rfl) rfl) ?_
      refine TL.nil ?_
      refine T.ret ?_
      exact ⟨[(false, [.d (.bool false)])], (.cons rfl .nil), rfl, [], (RetC.rd' (by (congr 1; symm; first | (apply decide_eq_false; rintro rfl; first | exact absurd rfl ‹¬ _ = _› | contradiction) | (apply decide_eq_true; apply SMsg.ext <;> first | assumption | exact Decidable.not_not.1 (by assumption)))) .nil)⟩
     ·
      replace h5 : (decide (a.f4 = b.f4)) = true := by simpa only [Bool.not_eq_true', Bool.not_eq_false'] using h5
      replace h5 := of_decide_eq_true h5
      refine T.skip ?_
      refine T.seq ?_
      refine T.seq ?_
      refine T.region ?_
      refine TL.cons rfl (Step.fieldAddr (q := 0) (off := 32) (n := 2) (one := false) rfl rfl (lt_ok rfl) (by kernel_rfl) (Nat.succ_ne_zero _) rfl) ?_
      refine TL.cons rfl (Step.load_box_agg (n := 2) (qs := [.d (.int .i64 a.f5.f0), .d (.sl 3 (a.f5.f1.map SEntry.cells))]) rfl rfl (lt_ok rfl) (by kernel_rfl) rfl rfl rfl rfl) ?_
      refine TL.cons rfl (Step.fieldAddr (q := 0) (off := 32) (n := 2) (one := false) rfl rfl (lt_ok rfl) (by kernel_rfl) (Nat.succ_ne_zero _) rfl) ?_
      refine TL.cons rfl (Step.load_box_agg (n := 2) (qs := [.d (.int .i64 b.f5.f0), .d (.sl 3 (b.f5.f1.map SEntry.cells))]) rfl rfl (lt_ok rfl) (by kernel_rfl) rfl rfl rfl rfl) ?_
      refine TL.cons rfl (Step.call (f := 44) (xs := [.tmp 35, .tmp 37]) (ps := [(.agg [.d (.int .i64 a.f5.f0), .d (.sl 3 (a.f5.f1.map SEntry.cells))]), (.agg [.d (.int .i64 b.f5.f0), .d (.sl 3 (b.f5.f1.map SEntry.cells))])]) false (g := .func 44) rfl rfl (lt_ok rfl) rfl (by kernel_rfl) rfl (.cons (.agg (.cons (.d _) (.cons (.d _) .nil))) (.cons (.agg (.cons (.d _) (.cons (.d _) .nil))) .nil)) (ok_laws_eqTc a.f5 b.f5) (.inr rfl) rfl (by simp) rfl) ?_
      refine TL.cons rfl (Step.not (b := (decide (a.f5 = b.f5))) rfl rfl (lt_ok rfl) rfl) ?_
      refine TL.nil ?_
      refine T.cond (b := !(decide (a.f5 = b.f5))) rfl (fun h6 => ?_) (fun h6 => ?_)
      ·
       replace h6 : (decide (a.f5 = b.f5)) = false := by simpa only [Bool.not_eq_true', Bool.not_eq_false'] using h6
       replace h6 := of_decide_eq_false h6
       refine T.seq ?_
       refine T.region ?_
       refine TL.cons rfl (Step.assign (p := (.one (.d (.bool false)))) rfl rfl (lt_ok rfl) rfl) ?_
       refine TL.nil ?_
       refine T.ret ?_
       exact ⟨[(false, [.d (.bool false)])], (.cons rfl .nil), rfl, [], (RetC.rd' (by (congr 1; symm; first | (apply decide_eq_false; rintro rfl; first | exact absurd rfl ‹¬ _ = _› | contradiction) | (apply decide_eq_true; apply SMsg.ext <;> first | assumption | exact Decidable.not_not.1 (by assumption)))) .nil)⟩
      ·
       replace h6 : (decide (a.f5 = b.f5)) = true := by simpa only [Bool.not_eq_true', Bool.not_eq_false'] using h6
       replace h6 := of_decide_eq_true h6
       refine T.skip ?_
       refine T.seq ?_
       refine T.seq ?_
       refine T.region ?_
       refine TL.cons rfl (Step.fieldAddr (q := 0) (off := 34) (n := 6) (one := false) rfl rfl (lt_ok rfl) (by kernel_rfl) (Nat.succ_ne_zero _) rfl) ?_
       refine TL.cons rfl (Step.load_box_agg (n := 6) (qs := [.d (.sl 10 (a.f6.f0.map SHead.cells)), .d (.int .i64 a.f6.f1.f0), .d (.int .i64 a.f6.f1.f1), .d (.ints .u8 a.f6.f1.f2), .d (.ints .u8 a.f6.f1.f3), .d (.bss a.f6.f1.f4)]) rfl rfl (lt_ok rfl) (by kernel_rfl) rfl rfl rfl rfl) ?_
       refine TL.cons rfl (Step.fieldAddr (q := 0) (off := 34) (n := 6) (one := false) rfl rfl (lt_ok rfl) (by kernel_rfl) (Nat.succ_ne_zero _) rfl) ?_
       refine TL.cons rfl (Step.load_box_agg (n := 6) (qs := [.d (.sl 10 (b.f6.f0.map SHead.cells)), .d (.int .i64 b.f6.f1.f0), .d (.int .i64 b.f6.f1.f1), .d (.ints .u8 b.f6.f1.f2), .d (.ints .u8 b.f6.f1.f3), .d (.bss b.f6.f1.f4)]) rfl rfl (lt_ok rfl) (by kernel_rfl) rfl rfl rfl rfl) ?_
       refine TL.cons rfl (Step.call (f := 45) (xs := [.tmp 41, .tmp 43]) (ps := [(.agg [.d (.sl 10 (a.f6.f0.map SHead.cells)), .d (.int .i64 a.f6.f1.f0), .d (.int .i64 a.f6.f1.f1), .d (.ints .u8 a.f6.f1.f2), .d (.ints .u8 a.f6.f1.f3), .d (.bss a.f6.f1.f4)]), (.agg [.d (.sl 10 (b.f6.f0.map SHead.cells)), .d (.int .i64 b.f6.f1.f0), .d (.int .i64 b.f6.f1.f1), .d (.ints .u8 b.f6.f1.f2), .d (.ints .u8 b.f6.f1.f3), .d (.bss b.f6.f1.f4)])]) false (g := .func 45) rfl rfl (lt_ok rfl) rfl (by kernel_rfl) rfl (.cons (.agg (.cons (.d _) (.cons (.d _) (.cons (.d _) (.cons (.d _) (.cons (.d _) (.cons (.d _) .nil))))))) (.cons (.agg (.cons (.d _) (.cons (.d _) (.cons (.d _) (.cons (.d _) (.cons (.d _) (.cons (.d _) .nil))))))) .nil)) (ok_laws_eqProof a.f6 b.f6) (.inr rfl) rfl (by simp) rfl) ?_
       refine TL.cons rfl (Step.not (b := (decide (a.f6 = b.f6))) rfl rfl (lt_ok rfl) rfl) ?_
       refine TL.nil ?_
       refine T.cond (b := !(decide (a.f6 = b.f6))) rfl (fun h7 => ?_) (fun h7 => ?_)
       ·
        replace h7 : (decide (a.f6 = b.f6)) = false := by simpa only [Bool.not_eq_true', Bool.not_eq_false'] using h7
        replace h7 := of_decide_eq_false h7
        refine T.seq ?_
        refine T.region ?_
        refine TL.cons rfl (Step.assign (p := (.one (.d (.bool false)))) rfl rfl (lt_ok rfl) rfl) ?_
        refine TL.nil ?_
        refine T.ret ?_
        exact ⟨[(false, [.d (.bool false)])], (.cons rfl .nil), rfl, [], (RetC.rd' (by (congr 1; symm; first | (apply decide_eq_false; rintro rfl; first | exact absurd rfl ‹¬ _ = _› | contradiction) | (apply decide_eq_true; apply SMsg.ext <;> first | assumption | exact Decidable.not_not.1 (by assumption)))) .nil)⟩
       ·
        replace h7 : (decide (a.f6 = b.f6)) = true := by simpa only [Bool.not_eq_true', Bool.not_eq_false'] using h7
        replace h7 := of_decide_eq_true h7
        refine T.skip ?_
        refine T.seq ?_
        refine T.seq ?_
        refine T.region ?_
        refine TL.cons rfl (Step.fieldAddr (q := 0) (off := 40) (n := 5) (one := false) rfl rfl (lt_ok rfl) (by kernel_rfl) (Nat.succ_ne_zero _) rfl) ?_
        refine TL.cons rfl (Step.load_box_agg (n := 5) (qs := [.d (.int .i64 a.f7.f0), .d (.int .i64 a.f7.f1), .d (.int .i64 a.f7.f2), .d (.ints .u8 a.f7.f3), .d (.bss a.f7.f4)]) rfl rfl (lt_ok rfl) (by kernel_rfl) rfl rfl rfl rfl) ?_
        refine TL.cons rfl (Step.fieldAddr (q := 0) (off := 40) (n := 5) (one := false) rfl rfl (lt_ok rfl) (by kernel_rfl) (Nat.succ_ne_zero _) rfl) ?_
        refine TL.cons rfl (Step.load_box_agg (n := 5) (qs := [.d (.int .i64 b.f7.f0), .d (.int .i64 b.f7.f1), .d (.int .i64 b.f7.f2), .d (.ints .u8 b.f7.f3), .d (.bss b.f7.f4)]) rfl rfl (lt_ok rfl) (by kernel_rfl) rfl rfl rfl rfl) ?_
        refine TL.cons rfl (Step.call (f := 46) (xs := [.tmp 47, .tmp 49]) (ps := [(.agg [.d (.int .i64 a.f7.f0), .d (.int .i64 a.f7.f1), .d (.int .i64 a.f7.f2), .d (.ints .u8 a.f7.f3), .d (.bss a.f7.f4)]), (.agg [.d (.int .i64 b.f7.f0), .d (.int .i64 b.f7.f1), .d (.int .i64 b.f7.f2), .d (.ints .u8 b.f7.f3), .d (.bss b.f7.f4)])]) false (g := .func 46) rfl rfl (lt_ok rfl) rfl (by kernel_rfl) rfl (.cons (.agg (.cons (.d _) (.cons (.d _) (.cons (.d _) (.cons (.d _) (.cons (.d _) .nil)))))) (.cons (.agg (.cons (.d _) (.cons (.d _) (.cons (.d _) (.cons (.d _) (.cons (.d _) .nil)))))) .nil)) (ok_laws_eqIncl a.f7 b.f7) (.inr rfl) rfl (by simp) rfl) ?_
        refine TL.cons rfl (Step.not (b := (decide (a.f7 = b.f7))) rfl rfl (lt_ok rfl) rfl) ?_
        refine TL.nil ?_
        refine T.cond (b := !(decide (a.f7 = b.f7))) rfl (fun h8 => ?_) (fun h8 => ?_)
        ·
         replace h8 : (decide (a.f7 = b.f7)) = false := by simpa only [Bool.not_eq_true', Bool.not_eq_false'] using h8
         replace h8 := of_decide_eq_false h8
         refine T.seq ?_
         refine T.region ?_
         refine TL.cons rfl (Step.assign (p := (.one (.d (.bool false)))) rfl rfl (lt_ok rfl) rfl) ?_
         refine TL.nil ?_
         refine T.ret ?_
         exact ⟨[(false, [.d (.bool false)])], (.cons rfl .nil), rfl, [], (RetC.rd' (by (congr 1; symm; first | (apply decide_eq_false; rintro rfl; first | exact absurd rfl ‹¬ _ = _› | contradiction) | (apply decide_eq_true; apply SMsg.ext <;> first | assumption | exact Decidable.not_not.1 (by assumption)))) .nil)⟩
        ·
         replace h8 : (decide (a.f7 = b.f7)) = true := by simpa only [Bool.not_eq_true', Bool.not_eq_false'] using h8
         replace h8 := of_decide_eq_true h8
         refine T.skip ?_
         refine T.seq ?_
         refine T.region ?_
         refine TL.cons rfl (Step.assign (p := (.one (.d (.bool true)))) rfl rfl (lt_ok rfl) rfl) ?_
         refine TL.nil ?_
         refine T.ret ?_
         exact ⟨[(false, [.d (.bool true)])], (.cons rfl .nil), rfl, [], (RetC.rd' (by (congr 1; symm; first | (apply decide_eq_false; rintro rfl; first | exact absurd rfl ‹¬ _ = _› | contradiction) | (apply decide_eq_true; apply SMsg.ext <;> first | assumption | exact Decidable.not_not.1 (by assumption)))) .nil)⟩
theorem ok_laws_eqEvent (a : SEvent) (b : SEvent) : RO Try.prog 25 [.agg a.cells, .agg b.cells] [(false, [.rd (.bool (decide (a = b)))])] := by
 refine RO.intro Try.func25 rfl 21 rfl (le_ok rfl) fun w Z => ?_
 refine T.seq ?_
 refine T.region ?_
 refine TL.cons rfl (Step.box (p := (.agg [.d (.int .i64 a.f0), .d (.int .i64 a.f1), .d (.int .i64 a.f2.f0), .d (.int .i64 a.f2.f1.f0), .d (.int .i64 a.f2.f1.f1), .d (.ints .u8 a.f2.f1.f2), .d (.int .i64 a.f2.f1.f3), .d (.ints .u8 a.f2.f1.f4), .d (.int .i64 a.f2.f2.f0), .d (.int .i64 a.f2.f2.f1), .d (.ints .u8 a.f2.f2.f2), .d (.ints .u8 a.f2.f2.f3), .d (.bss a.f2.f2.f4), .d (.int .i64 a.f2.f3.f0), .d (.int .i64 a.f2.f3.f1), .d (.int .i64 a.f2.f3.f2), .d (.ints .u8 a.f2.f3.f3), .d (.ints .u8 a.f2.f3.f4), .d (.int .i64 a.f2.f3.f5.f0), .d (.int .i64 a.f2.f3.f5.f1), .d (.ints .u8 a.f2.f3.f5.f2), .d (.ints .u8 a.f2.f3.f5.f3), .d (.bss a.f2.f3.f5.f4), .d (.int .i64 a.f2.f4.f0.f0), .d (.int .i64 a.f2.f4.f0.f1), .d (.int .i64 a.f2.f4.f0.f2), .d (.ints .u8 a.f2.f4.f0.f3), .d (.ints .u8 a.f2.f4.f0.f4), .d (.int .i64 a.f2.f4.f0.f5.f0), .d (.int .i64 a.f2.f4.f0.f5.f1), .d (.ints .u8 a.f2.f4.f0.f5.f2), .d (.ints .u8 a.f2.f4.f0.f5.f3), .d (.bss a.f2.f4.f0.f5.f4), .d (.bss a.f2.f4.f1), .d (.int .i64 a.f2.f5.f0), .d (.sl 3 (a.f2.f5.f1.map SEntry.cells)), .d (.sl 10 (a.f2.f6.f0.map SHead.cells)), .d (.int .i64 a.f2.f6.f1.f0), .d (.int .i64 a.f2.f6.f1.f1), .d (.ints .u8 a.f2.f6.f1.f2), .d (.ints .u8 a.f2.f6.f1.f3), .d (.bss a.f2.f6.f1.f4), .d (.int .i64 a.f2.f7.f0), .d (.int .i64 a.f2.f7.f1), .d (.int .i64 a.f2.f7.f2), .d (.ints .u8 a.f2.f7.f3), .d (.bss a.f2.f7.f4)])) (ps := [.d (.int .i64 a.f0), .d (.int .i64 a.f1), .d (.int .i64 a.f2.f0), .d (.int .i64 a.f2.f1.f0), .d (.int .i64 a.f2.f1.f1), .d (.ints .u8 a.f2.f1.f2), .d (.int .i64 a.f2.f1.f3), .d (.ints .u8 a.f2.f1.f4), .d (.int .i64 a.f2.f2.f0), .d (.int .i64 a.f2.f2.f1), .d (.ints .u8 a.f2.f2.f2), .d (.ints .u8 a.f2.f2.f3), .d (.bss a.f2.f2.f4), .d (.int .i64 a.f2.f3.f0), .d (.int .i64 a.f2.f3.f1), .d (.int .i64 a.f2.f3.f2), .d (.ints .u8 a.f2.f3.f3), .d (.ints .u8 a.f2.f3.f4), .d (.int .i64 a.f2.f3.f5.f0), .d (.int .i64 a.f2.f3.f5.f1), .d (.ints .u8 a.f2.f3.f5.f2), .d (.ints .u8 a.f2.f3.f5.f3), .d (.bss a.f2.f3.f5.f4), .d (.int .i64 a.f2.f4.f0.f0), .d (.int .i64 a.f2.f4.f0.f1), .d (.int .i64 a.f2.f4.f0.f2), .d (.ints .u8 a.f2.f4.f0.f3), .d (.ints .u8 a.f2.f4.f0.f4), .d (.int .i64 a.f2.f4.f0.f5.f0), .d (.int .i64 a.f2.f4.f0.f5.f1), .d (.ints .u8 a.f2.f4.f0.f5.f2), .d (.ints .u8 a.f2.f4.f0.f5.f3), .d (.bss a.f2.f4.f0.f5.f4), .d (.bss a.f2.f4.f1), .d (.int .i64 a.f2.f5.f0), .d (.sl 3 (a.f2.f5.f1.map SEntry.cells)), .d (.sl 10 (a.f2.f6.f0.map SHead.cells)), .d (.int .i64 a.f2.f6.f1.f0), .d (.int .i64 a.f2.f6.f1.f1), .d (.ints .u8 a.f2.f6.f1.f2), .d (.ints .u8 a.f2.f6.f1.f3), .d (.bss a.f2.f6.f1.f4), .d (.int .i64 a.f2.f7.f0), .d (.int .i64 a.f2.f7.f1), .d (.int .i64 a.f2.f7.f2), .d (.ints .u8 a.f2.f7.f3), .d (.bss a.f2.f7.f4)]) rfl rfl (lt_ok rfl) rfl rfl rfl rfl rfl) ?_
 refine TL.cons rfl (Step.box (p := (.agg [.d (.int .i64 b.f0), .d (.int .i64 b.f1), .d (.int .i64 b.f2.f0), .d (.int .i64 b.f2.f1.f0), .d (.int .i64 b.f2.f1.f1), .d (.ints .u8 b.f2.f1.f2), .d (.int .i64 b.f2.f1.f3), .d (.ints .u8 b.f2.f1.f4), .d (.int .i64 b.f2.f2.f0), .d (.int .i64 b.f2.f2.f1), .d (.ints .u8 b.f2.f2.f2), .d (.ints .u8 b.f2.f2.f3), .d (.bss b.f2.f2.f4), .d (.int .i64 b.f2.f3.f0), .d (.int .i64 b.f2.f3.f1), .d (.int .i64 b.f2.f3.f2), .d (.ints .u8 b.f2.f3.f3), .d (.ints .u8 b.f2.f3.f4), .d (.int .i64 b.f2.f3.f5.f0), .d (.int .i64 b.f2.f3.f5.f1), .d (.ints .u8 b.f2.f3.f5.f2), .d (.ints .u8 b.f2.f3.f5.f3), .d (.bss b.f2.f3.f5.f4), .d (.int .i64 b.f2.f4.f0.f0), .d (.int .i64 b.f2.f4.f0.f1), .d (.int .i64 b.f2.f4.f0.f2), .d (.ints .u8 b.f2.f4.f0.f3), .d (.ints .u8 b.f2.f4.f0.f4), .d (.int .i64 b.f2.f4.f0.f5.f0), .d (.int .i64 b.f2.f4.f0.f5.f1), .d (.ints .u8 b.f2.f4.f0.f5.f2), .d (.ints .u8 b.f2.f4.f0.f5.f3), .d (.bss b.f2.f4.f0.f5.f4), .d (.bss b.f2.f4.f1), .d (.int .i64 b.f2.f5.f0), .d (.sl 3 (b.f2.f5.f1.map SEntry.cells)), .d (.sl 10 (b.f2.f6.f0.map SHead.cells)), .d (.int .i64 b.f2.f6.f1.f0), .d (.int .i64 b.f2.f6.f1.f1), .d (.ints .u8 b.f2.f6.f1.f2), .d (.ints .u8 b.f2.f6.f1.f3), .d (.bss b.f2.f6.f1.f4), .d (.int .i64 b.f2.f7.f0), .d (.int .i64 b.f2.f7.f1), .d (.int .i64 b.f2.f7.f2), .d (.ints .u8 b.f2.f7.f3), .d (.bss b.f2.f7.f4)])) (ps := [.d (.int .i64 b.f0), .d (.int .i64 b.f1), .d (.int .i64 b.f2.f0), .d (.int .i64 b.f2.f1.f0), .d (.int .i64 b.f2.f1.f1), .d (.ints .u8 b.f2.f1.f2), .d (.int .i64 b.f2.f1.f3), .d (.ints .u8 b.f2.f1.f4), .d (.int .i64 b.f2.f2.f0), .d (.int .i64 b.f2.f2.f1), .d (.ints .u8 b.f2.f2.f2), .d (.ints .u8 b.f2.f2.f3), .d (.bss b.f2.f2.f4), .d (.int .i64 b.f2.f3.f0), .d (.int .i64 b.f2.f3.f1), .d (.int .i64 b.f2.f3.f2), .d (.ints .u8 b.f2.f3.f3), .d (.ints .u8 b.f2.f3.f4), .d (.int .i64 b.f2.f3.f5.f0), .d (.int .i64 b.f2.f3.f5.f1), .d (.ints .u8 b.f2.f3.f5.f2), .d (.ints .u8 b.f2.f3.f5.f3), .d (.bss b.f2.f3.f5.f4), .d (.int .i64 b.f2.f4.f0.f0), .d (.int .i64 b.f2.f4.f0.f1), .d (.int .i64 b.f2.f4.f0.f2), .d (.ints .u8 b.f2.f4.f0.f3), .d (.ints .u8 b.f2.f4.f0.f4), .d (.int .i64 b.f2.f4.f0.f5.f0), .d (.int .i64 b.f2.f4.f0.f5.f1), .d (.ints .u8 b.f2.f4.f0.f5.f2), .d (.ints .u8 b.f2.f4.f0.f5.f3), .d (.bss b.f2.f4.f0.f5.f4), .d (.bss b.f2.f4.f1), .d (.int .i64 b.f2.f5.f0), .d (.sl 3 (b.f2.f5.f1.map SEntry.cells)), .d (.sl 10 (b.f2.f6.f0.map SHead.cells)), .d (.int .i64 b.f2.f6.f1.f0), .d (.int .i64 b.f2.f6.f1.f1), .d (.ints .u8 b.f2.f6.f1.f2), .d (.ints .u8 b.f2.f6.f1.f3), .d (.bss b.f2.f6.f1.f4), .d (.int .i64 b.f2.f7.f0), .d (.int .i64 b.f2.f7.f1), .d (.int .i64 b.f2.f7.f2), .d (.ints .u8 b.f2.f7.f3), .d (.bss b.f2.f7.f4)]) rfl rfl (lt_ok rfl) rfl rfl rfl rfl rfl) ?_
 refine TL.cons rfl (Step.assign (p := (.one (.d (.bool false)))) rfl rfl (lt_ok rfl) rfl) ?_
 refine TL.nil ?_
 refine T.weaken (E' := { tm := [(2, (.one (.ptr 2 0))), (3, (.one (.ptr 3 0))), (4, (.one (.d (.bool false))))], rows := [], boxes := [(2, (73, [.d (.int .i64 a.f0), .d (.int .i64 a.f1), .d (.int .i64 a.f2.f0), .d (.int .i64 a.f2.f1.f0), .d (.int .i64 a.f2.f1.f1), .d (.ints .u8 a.f2.f1.f2), .d (.int .i64 a.f2.f1.f3), .d (.ints .u8 a.f2.f1.f4), .d (.int .i64 a.f2.f2.f0), .d (.int .i64 a.f2.f2.f1), .d (.ints .u8 a.f2.f2.f2), .d (.ints .u8 a.f2.f2.f3), .d (.bss a.f2.f2.f4), .d (.int .i64 a.f2.f3.f0), .d (.int .i64 a.f2.f3.f1), .d (.int .i64 a.f2.f3.f2), .d (.ints .u8 a.f2.f3.f3), .d (.ints .u8 a.f2.f3.f4), .d (.int .i64 a.f2.f3.f5.f0), .d (.int .i64 a.f2.f3.f5.f1), .d (.ints .u8 a.f2.f3.f5.f2), .d (.ints .u8 a.f2.f3.f5.f3), .d (.bss a.f2.f3.f5.f4), .d (.int .i64 a.f2.f4.f0.f0), .d (.int .i64 a.f2.f4.f0.f1), .d (.int .i64 a.f2.f4.f0.f2), .d (.ints .u8 a.f2.f4.f0.f3), .d (.ints .u8 a.f2.f4.f0.f4), .d (.int .i64 a.f2.f4.f0.f5.f0), .d (.int .i64 a.f2.f4.f0.f5.f1), .d (.ints .u8 a.f2.f4.f0.f5.f2), .d (.ints .u8 a.f2.f4.f0.f5.f3), .d (.bss a.f2.f4.f0.f5.f4), .d (.bss a.f2.f4.f1), .d (.int .i64 a.f2.f5.f0), .d (.sl 3 (a.f2.f5.f1.map SEntry.cells)), .d (.sl 10 (a.f2.f6.f0.map SHead.cells)), .d (.int .i64 a.f2.f6.f1.f0), .d (.int .i64 a.f2.f6.f1.f1), .d (.ints .u8 a.f2.f6.f1.f2), .d (.ints .u8 a.f2.f6.f1.f3), .d (.bss a.f2.f6.f1.f4), .d (.int .i64 a.f2.f7.f0), .d (.int .i64 a.f2.f7.f1), .d (.int .i64 a.f2.f7.f2), .d (.ints .u8 a.f2.f7.f3), .d (.bss a.f2.f7.f4)])), (3, (73, [.d (.int .i64 b.f0), .d (.int .i64 b.f1), .d (.int .i64 b.f2.f0), .d (.int .i64 b.f2.f1.f0), .d (.int .i64 b.f2.f1.f1), .d (.ints .u8 b.f2.f1.f2), .d (.int .i64 b.f2.f1.f3), .d (.ints .u8 b.f2.f1.f4), .d (.int .i64 b.f2.f2.f0), .d (.int .i64 b.f2.f2.f1), .d (.ints .u8 b.f2.f2.f2), .d (.ints .u8 b.f2.f2.f3), .d (.bss b.f2.f2.f4), .d (.int .i64 b.f2.f3.f0), .d (.int .i64 b.f2.f3.f1), .d (.int .i64 b.f2.f3.f2), .d (.ints .u8 b.f2.f3.f3), .d (.ints .u8 b.f2.f3.f4), .d (.int .i64 b.f2.f3.f5.f0), .d (.int .i64 b.f2.f3.f5.f1), .d (.ints .u8 b.f2.f3.f5.f2), .d (.ints .u8 b.f2.f3.f5.f3), .d (.bss b.f2.f3.f5.f4), .d (.int .i64 b.f2.f4.f0.f0), .d (.int .i64 b.f2.f4.f0.f1), .d (.int .i64 b.f2.f4.f0.f2), .d (.ints .u8 b.f2.f4.f0.f3), .d (.ints .u8 b.f2.f4.f0.f4), .d (.int .i64 b.f2.f4.f0.f5.f0), .d (.int .i64 b.f2.f4.f0.f5.f1), .d (.ints .u8 b.f2.f4.f0.f5.f2), .d (.ints .u8 b.f2.f4.f0.f5.f3), .d (.bss b.f2.f4.f0.f5.f4), .d (.bss b.f2.f4.f1), .d (.int .i64 b.f2.f5.f0), .d (.sl 3 (b.f2.f5.f1.map SEntry.cells)), .d (.sl 10 (b.f2.f6.f0.map SHead.cells)), .d (.int .i64 b.f2.f6.f1.f0), .d (.int .i64 b.f2.f6.f1.f1), .d (.ints .u8 b.f2.f6.f1.f2), .d (.ints .u8 b.f2.f6.f1.f3), .d (.bss b.f2.f6.f1.f4), .d (.int .i64 b.f2.f7.f0), .d (.int .i64 b.f2.f7.f1), .d (.int .i64 b.f2.f7.f2), .d (.ints .u8 b.f2.f7.f3), .d (.bss b.f2.f7.f4)]))] }) (Env.le_mk ⟨by kernel_rfl, by kernel_rfl, by kernel_rfl, trivial⟩ trivial ⟨by kernel_rfl, by kernel_rfl, trivial⟩) ?_
 refine T.seq ?_
 refine T.seq ?_
 refine T.region ?_
 refine TL.cons rfl (Step.fieldAddr (q := 0) (off := 0) (n := 1) (one := true) rfl rfl (lt_ok rfl) (by kernel_rfl) (Nat.succ_ne_zero _) rfl) ?_
 refine TL.cons rfl (Step.load_box (c := .d (.int .i64 a.f0)) rfl rfl (lt_ok rfl) (by kernel_rfl) rfl rfl rfl) ?_
 refine TL.cons rfl (Step.fieldAddr (q := 0) (off := 0) (n := 1) (one := true) rfl rfl (lt_ok rfl) (by kernel_rfl) (Nat.succ_ne_zero _) rfl) ?_
 refine TL.cons rfl (Step.load_box (c := .d (.int .i64 b.f0)) rfl rfl (lt_ok rfl) (by kernel_rfl) rfl rfl rfl) ?_
 refine TL.cons rfl (Step.bin rfl rfl (lt_ok rfl) rfl rfl (Bin.neq (k := .i64) (a := a.f0) (b := b.f0))) ?_
 refine TL.nil ?_
 refine T.cond (b := decide (a.f0 ≠ b.f0)) rfl (fun h1 => ?_) (fun h1 => ?_)
 ·
  replace h1 := of_decide_eq_true h1
  refine T.seq ?_
  refine T.region ?_
  refine TL.cons rfl (Step.assign (p := (.one (.d (.bool false)))) rfl rfl (lt_ok rfl) rfl) ?_
  refine TL.nil ?_
  refine T.ret ?_
  exact ⟨[(false, [.d (.bool false)])], (.cons rfl .nil), rfl, [], (RetC.rd' (by (congr 1; symm; first | (apply decide_eq_false; rintro rfl; first | exact absurd rfl ‹¬ _ = _› | contradiction) | (apply decide_eq_true; apply SEvent.ext <;> first | assumption | exact Decidable.not_not.1 (by assumption)))) .nil)⟩
 ·
  replace h1 := of_decide_eq_false h1
  refine T.skip ?_
  refine T.seq ?_
  refine T.seq ?_
  refine T.region ?_
  refine TL.cons rfl (Step.fieldAddr (q := 0) (off := 1) (n := 1) (one := true) rfl rfl (lt_ok rfl) (by kernel_rfl) (Nat.succ_ne_zero _) rfl) ?_
  refine TL.cons rfl (Step.load_box (c := .d (.int .i64 a.f1)) rfl rfl (lt_ok rfl) (by kernel_rfl) rfl rfl rfl) ?_
  refine TL.cons rfl (Step.fieldAddr (q := 0) (off := 1) (n := 1) (one := true) rfl rfl (lt_ok rfl) (by kernel_rfl) (Nat.succ_ne_zero _) rfl) ?_
  refine TL.cons rfl (Step.load_box (c := .d (.int .i64 b.f1)) rfl rfl (lt_ok rfl) (by kernel_rfl) rfl rfl rfl) ?_
  refine TL.cons rfl (Step.bin rfl rfl (lt_ok rfl) rfl rfl (Bin.neq (k := .i64) (a := a.f1) (b := b.f1))) ?_
  refine TL.nil ?_
  refine T.cond (b := decide (a.f1 ≠ b.f1)) rfl (fun h2 => ?_) (fun h2 => ?_)
  ·
   replace h2 := of_decide_eq_true h2
   refine T.seq ?_
   refine T.region ?_
   refine TL.cons rfl (Step.assign (p := (.one (.d (.bool false)))) rfl rfl (lt_ok rfl) rfl) ?_
   refine TL.nil ?_
   refine T.ret ?_
   exact ⟨[(false, [.d (.bool false)])], (.cons rfl .nil), rfl, [], (RetC.rd' (by (congr 1; symm; first | (apply decide_eq_false; rintro rfl; first | exact absurd rfl ‹¬ _ = _› | contradiction) | (apply decide_eq_true; apply SEvent.ext <;> first | assumption | exact Decidable.not_not.1 (by assumption)))) .nil)⟩
  ·
   replace h2 := of_decide_eq_false h2
   refine T.skip ?_
   refine T.seq ?_
   refine T.seq ?_
   refine T.region ?_
   refine TL.cons rfl (Step.fieldAddr (q := 0) (off := 2) (n := 45) (one := false) rfl rfl (lt_ok rfl) (by kernel_rfl) (Nat.succ_ne_zero _) rfl) ?_
   refine TL.cons rfl (Step.load_box_agg (n := 45) (qs := [.d (.int .i64 a.f2.f0), .d (.int .i64 a.f2.f1.f0), .d (.int .i64 a.f2.f1.f1), .d (.ints .u8 a.f2.f1.f2), .d (.int .i64 a.f2.f1.f3), .d (.ints .u8 a.f2.f1.f4), .d (.int .i64 a.f2.f2.f0), .d (.int .i64 a.f2.f2.f1), .d (.ints .u8 a.f2.f2.f2), .d (.ints .u8 a.f2.f2.f3), .d (.bss a.f2.f2.f4), .d (.int .i64 a.f2.f3.f0), .d (.int .i64 a.f2.f3.f1), .d (.int .i64 a.f2.f3.f2), .d (.ints .u8 a.f2.f3.f3), .d (.ints .u8 a.f2.f3.f4), .d (.int .i64 a.f2.f3.f5.f0), .d (.int .i64 a.f2.f3.f5.f1), .d (.ints .u8 a.f2.f3.f5.f2), .d (.ints .u8 a.f2.f3.f5.f3), .d (.bss a.f2.f3.f5.f4), .d (.int .i64 a.f2.f4.f0.f0), .d (.int .i64 a.f2.f4.f0.f1), .d (.int .i64 a.f2.f4.f0.f2), .d (.ints .u8 a.f2.f4.f0.f3), .d (.ints .u8 a.f2.f4.f0.f4), .d (.int .i64 a.f2.f4.f0.f5.f0), .d (.int .i64 a.f2.f4.f0.f5.f1), .d (.ints .u8 a.f2.f4.f0.f5.f2), .d (.ints .u8 a.f2.f4.f0.f5.f3), .d (.bss a.f2.f4.f0.f5.f4), .d (.bss a.f2.f4.f1), .d (.int .i64 a.f2.f5.f0), .d (.sl 3 (a.f2.f5.f1.map SEntry.cells)), .d (.sl 10 (a.f2.f6.f0.map SHead.cells)), .d (.int .i64 a.f2.f6.f1.f0), .d (.int .i64 a.f2.f6.f1.f1), .d (.ints .u8 a.f2.f6.f1.f2), .d (.ints .u8 a.f2.f6.f1.f3), .d (.bss a.f2.f6.f1.f4), .d (.int .i64 a.f2.f7.f0), .d (.int .i64 a.f2.f7.f1), .d (.int .i64 a.f2.f7.f2), .d (.ints .u8 a.f2.f7.f3), .d (.bss a.f2.f7.f4)]) rfl rfl (lt_ok rfl) (by kernel_rfl) rfl rfl rfl rfl) ?_
   refine TL.cons rfl (Step.fieldAddr (q := 0) (off := 2) (n := 45) (one := false) rfl rfl (lt_ok rfl) (by kernel_rfl) (Nat.succ_ne_zero _) rfl) ?_
   refine TL.cons rfl (Step.load_box_agg (n := 45) (qs := [.d (.int .i64 b.f2.f0), .d (.int .i64 b.f2.f1.f0), .d (.int .i64 b.f2.f1.f1), .d (.ints .u8 b.f2.f1.f2), .d (.int .i64 b.f2.f1.f3), .d (.ints .u8 b.f2.f1.f4), .d (.int .i64 b.f2.f2.f0), .d (.int .i64 b.f2.f2.f1), .d (.ints .u8 b.f2.f2.f2), .d (.ints .u8 b.f2.f2.f3), .d (.bss b.f2.f2.f4), .d (.int .i64 b.f2.f3.f0), .d (.int .i64 b.f2.f3.f1), .d (.int .i64 b.f2.f3.f2), .d (.ints .u8 b.f2.f3.f3), .d (.ints .u8 b.f2.f3.f4), .d (.int .i64 b.f2.f3.f5.f0), .d (.int .i64 b.f2.f3.f5.f1), .d (.ints .u8 b.f2.f3.f5.f2), .d (.ints .u8 b.f2.f3.f5.f3), .d (.bss b.f2.f3.f5.f4), .d (.int .i64 b.f2.f4.f0.f0), .d (.int .i64 b.f2.f4.f0.f1), .d (.int .i64 b.f2.f4.f0.f2), .d (.ints .u8 b.f2.f4.f0.f3), .d (.ints .u8 b.f2.f4.f0.f4), .d (.int .i64 b.f2.f4.f0.f5.f0), .d (.int .i64 b.f2.f4.f0.f5.f1), .d (.ints .u8 b.f2.f4.f0.f5.f2), .d (.ints .u8 b.f2.f4.f0.f5.f3), .d (.bss b.f2.f4.f0.f5.f4), .d (.bss b.f2.f4.f1), .d (.int .i64 b.f2.f5.f0), .d (.sl 3 (b.f2.f5.f1.map SEntry.cells)), .d (.sl 10 (b.f2.f6.f0.map SHead.cells)), .d (.int .i64 b.f2.f6.f1.f0), .d (.int .i64 b.f2.f6.f1.f1), .d (.ints .u8 b.f2.f6.f1.f2), .d (.ints .u8 b.f2.f6.f1.f3), .d (.bss b.f2.f6.f1.f4), .d (.int .i64 b.f2.f7.f0), .d (.int .i64 b.f2.f7.f1), .d (.int .i64 b.f2.f7.f2), .d (.ints .u8 b.f2.f7.f3), .d (.bss b.f2.f7.f4)]) rfl rfl (lt_ok rfl) (by kernel_rfl) rfl rfl rfl rfl) ?_
   refine TL.cons rfl (Step.call (f := 12) (xs := [.tmp 16, .tmp 18]) (ps := [(.agg [.d (.int .i64 a.f2.f0), .d (.int .i64 a.f2.f1.f0), .d (.int .i64 a.f2.f1.f1), .d (.ints .u8 a.f2.f1.f2), .d (.int .i64 a.f2.f1.f3), .d (.ints .u8 a.f2.f1.f4), .d (.int .i64 a.f2.f2.f0), .d (.int .i64 a.f2.f2.f1), .d (.ints .u8 a.f2.f2.f2), .d (.ints .u8 a.f2.f2.f3), .d (.bss a.f2.f2.f4), .d (.int .i64 a.f2.f3.f0), .d (.int .i64 a.f2.f3.f1), .d (.int .i64 a.f2.f3.f2), .d (.ints .u8 a.f2.f3.f3), .d (.ints .u8 a.f2.f3.f4), .d (.int .i64 a.f2.f3.f5.f0), .d (.int .i64 a.f2.f3.f5.f1), .d (.ints .u8 a.f2.f3.f5.f2), .d (.ints .u8 a.f2.f3.f5.f3), .d (.bss a.f2.f3.f5.f4), .d (.int .i64 a.f2.f4.f0.f0), .d (.int .i64 a.f2.f4.f0.f1), .d (.int .i64 a.f2.f4.f0.f2), .d (.ints .u8 a.f2.f4.f0.f3), .d (.ints .u8 a.f2.f4.f0.f4), .d (.int .i64 a.f2.f4.f0.f5.f0), .d (.int .i64 a.f2.f4.f0.f5.f1), .d (.ints .u8 a.f2.f4.f0.f5.f2), .d (.ints .u8 a.f2.f4.f0.f5.f3), .d (.bss a.f2.f4.f0.f5.f4), .d (.bss a.f2.f4.f1), .d (.int .i64 a.f2.f5.f0), .d (.sl 3 (a.f2.f5.f1.map SEntry.cells)), .d (.sl 10 (a.f2.f6.f0.map SHead.cells)), .d (.int .i64 a.f2.f6.f1.f0), .d (.int .i64 a.f2.f6.f1.f1), .d (.ints .u8 a.f2.f6.f1.f2), .d (.ints .u8 a.f2.f6.f1.f3), .d (.bss a.f2.f6.f1.f4), .d (.int .i64 a.f2.f7.f0), .d (.int .i64 a.f2.f7.f1), .d (.int .i64 a.f2.f7.f2), .d (.ints .u8 a.f2.f7.f3), .d (.bss a.f2.f7.f4)]), (.agg [.d (.int .i64 b.f2.f0), .d (.int .i64 b.f2.f1.f0), .d (.int .i64 b.f2.f1.f1), .d (.ints .u8 b.f2.f1.f2), .d (.int .i64 b.f2.f1.f3), .d (.ints .u8 b.f2.f1.f4), .d (.int .i64 b.f2.f2.f0), .d (.int .i64 b.f2.f2.f1), .d (.ints .u8 b.f2.f2.f2), .d (.ints .u8 b.f2.f2.f3), .d (.bss b.f2.f2.f4), .d (.int .i64 b.f2.f3.f0), .d (.int .i64 b.f2.f3.f1), .d (.int .i64 b.f2.f3.f2), .d (.ints .u8 b.f2.f3.f3), .d (.ints .u8 b.f2.f3.f4), .d (.int .i64 b.f2.f3.f5.f0), .d (.int .i64 b.f2.f3.f5.f1), .d (.ints .u8 b.f2.f3.f5.f2), .d (.ints .u8 b.f2.f3.f5.f3), .d (.bss b.f2.f3.f5.f4), .d (.int .i64 b.f2.f4.f0.f0), .d (.int .i64 b.f2.f4.f0.f1), .d (.int .i64 b.f2.f4.f0.f2), .d (.ints .u8 b.f2.f4.f0.f3), .d (.ints .u8 b.f2.f4.f0.f4), .d (.int .i64 b.f2.f4.f0.f5.f0), .d (.int .i64 b.f2.f4.f0.f5.f1), .d (.ints .u8 b.f2.f4.f0.f5.f2), .d (.ints .u8 b.f2.f4.f0.f5.f3), .d (.bss b.f2.f4.f0.f5.f4), .d (.bss b.f2.f4.f1), .d (.int .i64 b.f2.f5.f0), .d (.sl 3 (b.f2.f5.f1.map SEntry.cells)), .d (.sl 10 (b.f2.f6.f0.map SHead.cells)), .d (.int .i64 b.f2.f6.f1.f0), .d (.int .i64 b.f2.f6.f1.f1), .d (.ints .u8 b.f2.f6.f1.f2), .d (.ints .u8 b.f2.f6.f1.f3), .d (.bss b.f2.f6.f1.f4), .d (.int .i64 b.f2.f7.f0), .d (.int .i64 b.f2.f7.f1), .d (.int .i64 b.f2.f7.f2), .d (.ints .u8 b.f2.f7.f3), .d (.bss b.f2.f7.f4)])]) false (g := .func 12) rfl rfl (lt_ok rfl) rfl (by kernel_rfl) rfl (.cons (.agg (.cons (.d _) (.cons (.d _) (.cons (.d _) (.cons (.d _) (.cons (.d _) (.cons (.d _) (.cons (.d _) (.cons (.d _) (.cons (.d _) (.cons (.d _) (.cons (.d _) (.cons (.d _) (.cons (.d _) (.cons (.d _) (.cons (.d _) (.cons (.d _) (.cons (.d _) (.cons (.d _) (.cons (.d _) (.cons (.d _) (.cons (.d _) (.cons (.d _) (.cons (.d _) (.cons (.d _) (.cons (.d _) (.cons (.d _) (.cons (.d _) (.cons (.d _) (.cons (.d _) (.cons (.d _) (.cons (.d _) (.cons (.d _) (.cons (.d _) (.cons (.d _) (.cons (.d _) (.cons (.d _) (.cons (.d _) (.cons (.d _) (.cons (.d _) (.cons (.d _) (.cons (.d _) (.cons (.d _) (.cons (.d _) (.cons (.d _) (.cons (.d _) .nil)))))))))))))))))))))))))))))))))))))))))))))) (.cons (.agg (.cons (.d _) (.cons (.d _) (.cons (.d _) (.cons (.d _) (.cons (.d _) (.cons (.d _) (.cons (.d _) (.cons (.d _) (.cons (.d _) (.cons (.d _) (.cons (.d _) (.cons (.d _) (.cons (.d _) (.cons (.d _) (.cons (.d _) (.cons (.d _) (.cons (.d _) (.cons (.d _) (.cons (.d _) (.cons (.d _) (.cons (.d _) (.cons (.d _) (.cons (.d _) (.cons (.d _) (.cons (.d _) (.cons (.d _) (.cons (.d _) (.cons (.d _) (.cons (.d _) (.cons (.d _) (.cons (.d _) (.cons (.d _) (.cons (.d _) (.cons (.d _) (.cons (.d _) (.cons (.d _) (.cons (.d _) (.cons (.d _) (.cons (.d _) (.cons (.d _) (.cons (.d _) (.cons (.d _) (.cons (.d _) (.cons (.d _) (.cons (.d _) .nil)))))))))))))))))))))))))))))))))))))))))))))) .nil)) (ok_laws_eqMsg a.f2 b.f2) (.inr rfl) rfl (by simp) rfl) ?_
   refine TL.cons rfl (Step.not (b := (decide (a.f2 = b.f2))) rfl rfl (lt_ok rfl) rfl) ?_
   refine TL.nil ?_
   refine T.weaken (E' := { tm := [(4, (.one (.d (.bool false)))), (20, (.one (.d (.bool (!(decide (a.f2 = b.f2)))))))], rows := [], boxes := [] }) (Env.le_mk ⟨by kernel_rfl, by kernel_rfl, trivial⟩ trivial trivial) ?_
   refine T.cond (b := !(decide (a.f2 = b.f2))) rfl (fun h3 => ?_) (fun h3 => ?_)
   ·
    replace h3 : (decide (a.f2 = b.f2)) = false := by simpa only [Bool.not_eq_true', Bool.not_eq_false'] using h3
    replace h3 := of_decide_eq_false h3
    refine T.seq ?_
    refine T.region ?_
    refine TL.cons rfl (Step.assign (p := (.one (.d (.bool false)))) rfl rfl (lt_ok rfl) rfl) ?_
    refine TL.nil ?_
    refine T.ret ?_
    exact ⟨[(false, [.d (.bool false)])], (.cons rfl .nil), rfl, [], (RetC.rd' (by (congr 1; symm; first | (apply decide_eq_false; rintro rfl; first | exact absurd rfl ‹¬ _ = _› | contradiction) | (apply decide_eq_true; apply SEvent.ext <;> first | assumption | exact Decidable.not_not.1 (by assumption)))) .nil)⟩
   ·
    replace h3 : (decide (a.f2 = b.f2)) = true := by simpa only [Bool.not_eq_true', Bool.not_eq_false'] using h3
    replace h3 := of_decide_eq_true h3
    refine T.skip ?_
    refine T.seq ?_
    refine T.region ?_
    refine TL.cons rfl (Step.assign (p := (.one (.d (.bool true)))) rfl rfl (lt_ok rfl) rfl) ?_
    refine TL.nil ?_
    refine T.ret ?_
    exact ⟨[(false, [.d (.bool true)])], (.cons rfl .nil), rfl, [], (RetC.rd' (by (congr 1; symm; first | (apply decide_eq_false; rintro rfl; first | exact absurd rfl ‹¬ _ = _› | contradiction) | (apply decide_eq_true; apply SEvent.ext <;> first | assumption | exact Decidable.not_not.1 (by assumption)))) .nil)⟩
theorem ok_laws_eqEventS (a : List SEvent) (b : List SEvent) : RO Try.prog 30 [.one (.sl 47 (a.map SEvent.cells)), .one (.sl 47 (b.map SEvent.cells))] [(false, [.rd (.bool (decide (a = b)))])] := by
 refine RO.intro Try.func30 rfl 27 rfl (le_ok rfl) fun w Z => ?_
 refine T.bnd 0 0 rfl rfl fun hb_0_0 => ?_
 simp only [D.size, List.length_map] at hb_0_0
 refine T.bnd 1 0 rfl rfl fun hb_1_0 => ?_
 simp only [D.size, List.length_map] at hb_1_0
 refine T.seq ?_
 refine T.region ?_
 refine TL.cons rfl (Step.assign (p := (.one (.d (.bool false)))) rfl rfl (lt_ok rfl) rfl) ?_
 refine TL.nil ?_
 refine T.seq ?_
 refine T.seq ?_
 refine T.region ?_
 refine TL.cons rfl (Step.move (p := (.one (.d (.sl 47 (a.map SEvent.cells))))) rfl rfl (lt_ok rfl) rfl) ?_
 refine TL.cons rfl (Step.len' (e := 73) (z := 47) (d := (.sl 47 (a.map SEvent.cells))) (n := a.length) rfl rfl (lt_ok rfl) (by kernel_rfl) rfl rfl (by simp [D.size])) ?_
 refine TL.cons rfl (Step.move (p := (.one (.d (.sl 47 (b.map SEvent.cells))))) rfl rfl (lt_ok rfl) rfl) ?_
 refine TL.cons rfl (Step.len' (e := 73) (z := 47) (d := (.sl 47 (b.map SEvent.cells))) (n := b.length) rfl rfl (lt_ok rfl) (by kernel_rfl) rfl rfl (by simp [D.size])) ?_
 refine TL.cons rfl (Step.bin rfl rfl (lt_ok rfl) rfl rfl (Bin.neq (k := .i64) (a := (a.length : Int)) (b := (b.length : Int)))) ?_
 refine TL.nil ?_
 refine T.cond (b := decide ((a.length : Int) ≠ (b.length : Int))) rfl (fun h1 => ?_) (fun h1 => ?_)
 ·
  replace h1 := of_decide_eq_true h1
  refine T.seq ?_
  refine T.region ?_
  refine TL.cons rfl (Step.assign (p := (.one (.d (.bool false)))) rfl rfl (lt_ok rfl) rfl) ?_
  refine TL.nil ?_
  refine T.ret ?_
  exact ⟨[(false, [.d (.bool false)])], (.cons rfl .nil), rfl, [], (RetC.rd' (by (congr 1; symm; first | (apply decide_eq_false; rintro rfl; first | exact absurd rfl ‹¬ _ = _› | exact absurd rfl (of_decide_eq_false (by assumption)) | contradiction | simp_all) | (apply decide_eq_true; exact take_all hx2 (by omega) hx3))) .nil)⟩
 ·
  replace h1 := of_decide_eq_false h1
  refine T.skip ?_
  refine T.seq ?_
  refine T.seq ?_
  refine T.region ?_
  refine TL.cons rfl (Step.assign (p := (.one (.d (.int .i64 0)))) rfl rfl (lt_ok rfl) rfl) ?_
  refine TL.nil ?_
  refine T.block ?_
  refine T.loop (ι := Nat) (fun x => { tm := [(0, (.one (.d (.sl 47 (a.map SEvent.cells))))), (1, (.one (.d (.sl 47 (b.map SEvent.cells))))), (5, (.one (.d (.int .i64 (x : Int)))))], rows := [], boxes := [] }) (fun x => x ≤ a.length ∧ a.length = b.length ∧ a.take x = b.take x) (fun x => a.length - x) 0 ?_ ?_ ?_
  · exact Env.le_mk ⟨rfl, rfl, by first | rfl | (simp; done) | (congr 3; omega), trivial⟩ trivial trivial
  · (refine ⟨Nat.zero_le _, by omega, by simp⟩)
  ·
   intro i hx
   try dsimp only at hx ⊢
   obtain ⟨hx1, hx2, hx3⟩ := hx
   refine T.seq ?_
   refine T.seq ?_
   refine T.region ?_
   refine TL.cons rfl (Step.move (p := (.one (.d (.int .i64 (i : Int))))) rfl rfl (lt_ok rfl) rfl) ?_
   refine TL.cons rfl (Step.move (p := (.one (.d (.sl 47 (a.map SEvent.cells))))) rfl rfl (lt_ok rfl) rfl) ?_
   refine TL.cons rfl (Step.len' (e := 73) (z := 47) (d := (.sl 47 (a.map SEvent.cells))) (n := a.length) rfl rfl (lt_ok rfl) (by kernel_rfl) rfl rfl (by simp [D.size])) ?_
   refine TL.cons rfl (Step.bin rfl rfl (lt_ok rfl) rfl rfl (Bin.lss (k := .i64) (a := (i : Int)) (b := (a.length : Int)))) ?_
   refine TL.nil ?_
   refine T.cond (b := decide ((i : Int) < (a.length : Int))) rfl (fun h2 => ?_) (fun h2 => ?_)
   ·
    replace h2 := of_decide_eq_true h2
    refine T.skip ?_
    refine T.seq ?_
    refine T.block ?_
    refine T.seq ?_
    refine T.draw [⟨17, (.one (.d (.sl 47 (a.map SEvent.cells)))), []⟩, ⟨18, (.one (.d (.int .i64 (i : Int)))), []⟩, ⟨19, (.one (.eptr (.sl 47 (a.map SEvent.cells)) i 0)), []⟩, ⟨20, (.agg [.d (.int .i64 (a.getD i default).f0), .d (.int .i64 (a.getD i default).f1), .d (.int .i64 (a.getD i default).f2.f0), .d (.int .i64 (a.getD i default).f2.f1.f0), .d (.int .i64 (a.getD i default).f2.f1.f1), .d (.ints .u8 (a.getD i default).f2.f1.f2), .d (.int .i64 (a.getD i default).f2.f1.f3), .d (.ints .u8 (a.getD i default).f2.f1.f4), .d (.int .i64 (a.getD i default).f2.f2.f0), .d (.int .i64 (a.getD i default).f2.f2.f1), .d (.ints .u8 (a.getD i default).f2.f2.f2), .d (.ints .u8 (a.getD i default).f2.f2.f3), .d (.bss (a.getD i default).f2.f2.f4), .d (.int .i64 (a.getD i default).f2.f3.f0), .d (.int .i64 (a.getD i default).f2.f3.f1), .d (.int .i64 (a.getD i default).f2.f3.f2), .d (.ints .u8 (a.getD i default).f2.f3.f3), .d (.ints .u8 (a.getD i default).f2.f3.f4), .d (.int .i64 (a.getD i default).f2.f3.f5.f0), .d (.int .i64 (a.getD i default).f2.f3.f5.f1), .d (.ints .u8 (a.getD i default).f2.f3.f5.f2), .d (.ints .u8 (a.getD i default).f2.f3.f5.f3), .d (.bss (a.getD i default).f2.f3.f5.f4), .d (.int .i64 (a.getD i default).f2.f4.f0.f0), .d (.int .i64 (a.getD i default).f2.f4.f0.f1), .d (.int .i64 (a.getD i default).f2.f4.f0.f2), .d (.ints .u8 (a.getD i default).f2.f4.f0.f3), .d (.ints .u8 (a.getD i default).f2.f4.f0.f4), .d (.int .i64 (a.getD i default).f2.f4.f0.f5.f0), .d (.int .i64 (a.getD i default).f2.f4.f0.f5.f1), .d (.ints .u8 (a.getD i default).f2.f4.f0.f5.f2), .d (.ints .u8 (a.getD i default).f2.f4.f0.f5.f3), .d (.bss (a.getD i default).f2.f4.f0.f5.f4), .d (.bss (a.getD i default).f2.f4.f1), .d (.int .i64 (a.getD i default).f2.f5.f0), .d (.sl 3 ((a.getD i default).f2.f5.f1.map SEntry.cells)), .d (.sl 10 ((a.getD i default).f2.f6.f0.map SHead.cells)), .d (.int .i64 (a.getD i default).f2.f6.f1.f0), .d (.int .i64 (a.getD i default).f2.f6.f1.f1), .d (.ints .u8 (a.getD i default).f2.f6.f1.f2), .d (.ints .u8 (a.getD i default).f2.f6.f1.f3), .d (.bss (a.getD i default).f2.f6.f1.f4), .d (.int .i64 (a.getD i default).f2.f7.f0), .d (.int .i64 (a.getD i default).f2.f7.f1), .d (.int .i64 (a.getD i default).f2.f7.f2), .d (.ints .u8 (a.getD i default).f2.f7.f3), .d (.bss (a.getD i default).f2.f7.f4)]), []⟩, ⟨21, (.one (.d (.sl 47 (b.map SEvent.cells)))), []⟩, ⟨22, (.one (.d (.int .i64 (i : Int)))), []⟩, ⟨23, (.one (.eptr (.sl 47 (b.map SEvent.cells)) i 0)), []⟩, ⟨24, (.agg [.d (.int .i64 (b.getD i default).f0), .d (.int .i64 (b.getD i default).f1), .d (.int .i64 (b.getD i default).f2.f0), .d (.int .i64 (b.getD i default).f2.f1.f0), .d (.int .i64 (b.getD i default).f2.f1.f1), .d (.ints .u8 (b.getD i default).f2.f1.f2), .d (.int .i64 (b.getD i default).f2.f1.f3), .d (.ints .u8 (b.getD i default).f2.f1.f4), .d (.int .i64 (b.getD i default).f2.f2.f0), .d (.int .i64 (b.getD i default).f2.f2.f1), .d (.ints .u8 (b.getD i default).f2.f2.f2), .d (.ints .u8 (b.getD i default).f2.f2.f3), .d (.bss (b.getD i default).f2.f2.f4), .d (.int .i64 (b.getD i default).f2.f3.f0), .d (.int .i64 (b.getD i default).f2.f3.f1), .d (.int .i64 (b.getD i default).f2.f3.f2), .d (.ints .u8 (b.getD i default).f2.f3.f3), .d (.ints .u8 (b.getD i default).f2.f3.f4), .d (.int .i64 (b.getD i default).f2.f3.f5.f0), .d (.int .i64 (b.getD i default).f2.f3.f5.f1), .d (.ints .u8 (b.getD i default).f2.f3.f5.f2), .d (.ints .u8 (b.getD i default).f2.f3.f5.f3), .d (.bss (b.getD i default).f2.f3.f5.f4), .d (.int .i64 (b.getD i default).f2.f4.f0.f0), .d (.int .i64 (b.getD i default).f2.f4.f0.f1), .d (.int .i64 (b.getD i default).f2.f4.f0.f2), .d (.ints .u8 (b.getD i default).f2.f4.f0.f3), .d (.ints .u8 (b.getD i default).f2.f4.f0.f4), .d (.int .i64 (b.getD i default).f2.f4.f0.f5.f0), .d (.int .i64 (b.getD i default).f2.f4.f0.f5.f1), .d (.ints .u8 (b.getD i default).f2.f4.f0.f5.f2), .d (.ints .u8 (b.getD i default).f2.f4.f0.f5.f3), .d (.bss (b.getD i default).f2.f4.f0.f5.f4), .d (.bss (b.getD i default).f2.f4.f1), .d (.int .i64 (b.getD i default).f2.f5.f0), .d (.sl 3 ((b.getD i default).f2.f5.f1.map SEntry.cells)), .d (.sl 10 ((b.getD i default).f2.f6.f0.map SHead.cells)), .d (.int .i64 (b.getD i default).f2.f6.f1.f0), .d (.int .i64 (b.getD i default).f2.f6.f1.f1), .d (.ints .u8 (b.getD i default).f2.f6.f1.f2), .d (.ints .u8 (b.getD i default).f2.f6.f1.f3), .d (.bss (b.getD i default).f2.f6.f1.f4), .d (.int .i64 (b.getD i default).f2.f7.f0), .d (.int .i64 (b.getD i default).f2.f7.f1), .d (.int .i64 (b.getD i default).f2.f7.f2), .d (.ints .u8 (b.getD i default).f2.f7.f3), .d (.bss (b.getD i default).f2.f7.f4)]), []⟩, ⟨25, (.one (.d (.bool (decide ((a.getD i default) = (b.getD i default)))))), []⟩, ⟨26, (.one (.d (.bool (!(decide ((a.getD i default) = (b.getD i default))))))), []⟩] (by kernel_rfl) (by kernel_rfl) ?_ ?_
    ·
     refine .cons (fun E h => by have g0 := h.get 0 (by decide); exact OpStep.plain rfl (Step.move (p := (.one (.d (.sl 47 (a.map SEvent.cells))))) (t := 17) rfl rfl (by exact lt_ok rfl) (show Env.ev E (.tmp 0) = _ from g0.trans rfl))) ?_
     refine .cons (fun E h => by have g5 := h.get 5 (by decide); exact OpStep.plain rfl (Step.move (p := (.one (.d (.int .i64 (i : Int))))) (t := 18) rfl rfl (by exact lt_ok rfl) (show Env.ev E (.tmp 5) = _ from g5.trans rfl))) ?_
     refine .cons (fun E h => by have g17 := h.get 17 (by decide); have g18 := h.get 18 (by decide); exact OpStep.plain rfl (Step.index (e := 73) (z := 47) (i := (i : Int)) (t := 19) rfl rfl (by exact lt_ok rfl) (by kernel_rfl) (show Env.ev E (.tmp 17) = _ from g17.trans rfl) rfl rfl (lt_ok rfl) (show Env.ev E (.tmp 18) = _ from g18.trans rfl) (by first | omega | (simp; omega)) (by simp only [D.size]; first | omega | (simp; omega)))) ?_
     refine .cons (fun E h => by have g19 := h.get 19 (by decide); exact OpStep.plain rfl (Step.load_agg (n := 47) (cs := [.d (.int .i64 (a.getD i default).f0), .d (.int .i64 (a.getD i default).f1), .d (.int .i64 (a.getD i default).f2.f0), .d (.int .i64 (a.getD i default).f2.f1.f0), .d (.int .i64 (a.getD i default).f2.f1.f1), .d (.ints .u8 (a.getD i default).f2.f1.f2), .d (.int .i64 (a.getD i default).f2.f1.f3), .d (.ints .u8 (a.getD i default).f2.f1.f4), .d (.int .i64 (a.getD i default).f2.f2.f0), .d (.int .i64 (a.getD i default).f2.f2.f1), .d (.ints .u8 (a.getD i default).f2.f2.f2), .d (.ints .u8 (a.getD i default).f2.f2.f3), .d (.bss (a.getD i default).f2.f2.f4), .d (.int .i64 (a.getD i default).f2.f3.f0), .d (.int .i64 (a.getD i default).f2.f3.f1), .d (.int .i64 (a.getD i default).f2.f3.f2), .d (.ints .u8 (a.getD i default).f2.f3.f3), .d (.ints .u8 (a.getD i default).f2.f3.f4), .d (.int .i64 (a.getD i default).f2.f3.f5.f0), .d (.int .i64 (a.getD i default).f2.f3.f5.f1), .d (.ints .u8 (a.getD i default).f2.f3.f5.f2), .d (.ints .u8 (a.getD i default).f2.f3.f5.f3), .d (.bss (a.getD i default).f2.f3.f5.f4), .d (.int .i64 (a.getD i default).f2.f4.f0.f0), .d (.int .i64 (a.getD i default).f2.f4.f0.f1), .d (.int .i64 (a.getD i default).f2.f4.f0.f2), .d (.ints .u8 (a.getD i default).f2.f4.f0.f3), .d (.ints .u8 (a.getD i default).f2.f4.f0.f4), .d (.int .i64 (a.getD i default).f2.f4.f0.f5.f0), .d (.int .i64 (a.getD i default).f2.f4.f0.f5.f1), .d (.ints .u8 (a.getD i default).f2.f4.f0.f5.f2), .d (.ints .u8 (a.getD i default).f2.f4.f0.f5.f3), .d (.bss (a.getD i default).f2.f4.f0.f5.f4), .d (.bss (a.getD i default).f2.f4.f1), .d (.int .i64 (a.getD i default).f2.f5.f0), .d (.sl 3 ((a.getD i default).f2.f5.f1.map SEntry.cells)), .d (.sl 10 ((a.getD i default).f2.f6.f0.map SHead.cells)), .d (.int .i64 (a.getD i default).f2.f6.f1.f0), .d (.int .i64 (a.getD i default).f2.f6.f1.f1), .d (.ints .u8 (a.getD i default).f2.f6.f1.f2), .d (.ints .u8 (a.getD i default).f2.f6.f1.f3), .d (.bss (a.getD i default).f2.f6.f1.f4), .d (.int .i64 (a.getD i default).f2.f7.f0), .d (.int .i64 (a.getD i default).f2.f7.f1), .d (.int .i64 (a.getD i default).f2.f7.f2), .d (.ints .u8 (a.getD i default).f2.f7.f3), .d (.bss (a.getD i default).f2.f7.f4)]) (t := 20) rfl rfl (by exact lt_ok rfl) (by kernel_rfl) (show Env.ev E (.tmp 19) = _ from g19.trans rfl) rfl (by simp only [List.range, List.range.loop, List.map_cons, List.map_nil]; rw [cell_map default (by first | omega | (simp; omega)), cell_map default (by first | omega | (simp; omega)), cell_map default (by first | omega | (simp; omega)), cell_map default (by first | omega | (simp; omega)), cell_map default (by first | omega | (simp; omega)), cell_map default (by first | omega | (simp; omega)), cell_map default (by first | omega | (simp; omega)), cell_map default (by first | omega | (simp; omega)), cell_map default (by first | omega | (simp; omega)), cell_map default (by first | omega | (simp; omega)), cell_map default (by first | omega | (simp; omega)), cell_map default (by first | omega | (simp; omega)), cell_map default (by first | omega | (simp; omega)), cell_map default (by first | omega | (simp; omega)), cell_map default (by first | omega | (simp; omega)), cell_map default (by first | omega | (simp; omega)), cell_map default (by first | omega | (simp; omega)), cell_map default (by first | omega | (simp; omega)), cell_map default (by first | omega | (simp; omega)), cell_map default (by first | omega | (simp; omega)), cell_map default (by first | omega | (simp; omega)), cell_map default (by first | omega | (simp; omega)), cell_map default (by first | omega | (simp; omega)), cell_map default (by first | omega | (simp; omega)), cell_map default (by first | omega | (simp; omega)), cell_map default (by first | omega | (simp; omega)), cell_map default (by first | omega | (simp; omega)), cell_map default (by first | omega | (simp; omega)), cell_map default (by first | omega | (simp; omega)), cell_map default (by first | omega | (simp; omega)), cell_map default (by first | omega | (simp; omega)), cell_map default (by first | omega | (simp; omega)), cell_map default (by first | omega | (simp; omega)), cell_map default (by first | omega | (simp; omega)), cell_map default (by first | omega | (simp; omega)), cell_map default (by first | omega | (simp; omega)), cell_map default (by first | omega | (simp; omega)), cell_map default (by first | omega | (simp; omega)), cell_map default (by first | omega | (simp; omega)), cell_map default (by first | omega | (simp; omega)), cell_map default (by first | omega | (simp; omega)), cell_map default (by first | omega | (simp; omega)), cell_map default (by first | omega | (simp; omega)), cell_map default (by first | omega | (simp; omega)), cell_map default (by first | omega | (simp; omega)), cell_map default (by first | omega | (simp; omega)), cell_map default (by first | omega | (simp; omega))]; rfl))) ?_
     refine .cons (fun E h => by have g1 := h.get 1 (by decide); exact OpStep.plain rfl (Step.move (p := (.one (.d (.sl 47 (b.map SEvent.cells))))) (t := 21) rfl rfl (by exact lt_ok rfl) (show Env.ev E (.tmp 1) = _ from g1.trans rfl))) ?_
     refine .cons (fun E h => by have g5 := h.get 5 (by decide); exact OpStep.plain rfl (Step.move (p := (.one (.d (.int .i64 (i : Int))))) (t := 22) rfl rfl (by exact lt_ok rfl) (show Env.ev E (.tmp 5) = _ from g5.trans rfl))) ?_
     refine .cons (fun E h => by have g21 := h.get 21 (by decide); have g22 := h.get 22 (by decide); exact OpStep.plain rfl (Step.index (e := 73) (z := 47) (i := (i : Int)) (t := 23) rfl rfl (by exact lt_ok rfl) (by kernel_rfl) (show Env.ev E (.tmp 21) = _ from g21.trans rfl) rfl rfl (lt_ok rfl) (show Env.ev E (.tmp 22) = _ from g22.trans rfl) (by first | omega | (simp; omega)) (by simp only [D.size]; first | omega | (simp; omega)))) ?_
     refine .cons (fun E h => by have g23 := h.get 23 (by decide); exact OpStep.plain rfl (Step.load_agg (n := 47) (cs := [.d (.int .i64 (b.getD i default).f0), .d (.int .i64 (b.getD i default).f1), .d (.int .i64 (b.getD i default).f2.f0), .d (.int .i64 (b.getD i default).f2.f1.f0), .d (.int .i64 (b.getD i default).f2.f1.f1), .d (.ints .u8 (b.getD i default).f2.f1.f2), .d (.int .i64 (b.getD i default).f2.f1.f3), .d (.ints .u8 (b.getD i default).f2.f1.f4), .d (.int .i64 (b.getD i default).f2.f2.f0), .d (.int .i64 (b.getD i default).f2.f2.f1), .d (.ints .u8 (b.getD i default).f2.f2.f2), .d (.ints .u8 (b.getD i default).f2.f2.f3), .d (.bss (b.getD i default).f2.f2.f4), .d (.int .i64 (b.getD i default).f2.f3.f0), .d (.int .i64 (b.getD i default).f2.f3.f1), .d (.int .i64 (b.getD i default).f2.f3.f2), .d (.ints .u8 (b.getD i default).f2.f3.f3), .d (.ints .u8 (b.getD i default).f2.f3.f4), .d (.int .i64 (b.getD i default).f2.f3.f5.f0), .d (.int .i64 (b.getD i default).f2.f3.f5.f1), .d (.ints .u8 (b.getD i default).f2.f3.f5.f2), .d (.ints .u8 (b.getD i default).f2.f3.f5.f3), .d (.bss (b.getD i default).f2.f3.f5.f4), .d (.int .i64 (b.getD i default).f2.f4.f0.f0), .d (.int .i64 (b.getD i default).f2.f4.f0.f1), .d (.int .i64 (b.getD i default).f2.f4.f0.f2), .d (.ints .u8 (b.getD i default).f2.f4.f0.f3), .d (.ints .u8 (b.getD i default).f2.f4.f0.f4), .d (.int .i64 (b.getD i default).f2.f4.f0.f5.f0), .d (.int .i64 (b.getD i default).f2.f4.f0.f5.f1), .d (.ints .u8 (b.getD i default).f2.f4.f0.f5.f2), .d (.ints .u8 (b.getD i default).f2.f4.f0.f5.f3), .d (.bss (b.getD i default).f2.f4.f0.f5.f4), .d (.bss (b.getD i default).f2.f4.f1), .d (.int .i64 (b.getD i default).f2.f5.f0), .d (.sl 3 ((b.getD i default).f2.f5.f1.map SEntry.cells)), .d (.sl 10 ((b.getD i default).f2.f6.f0.map SHead.cells)), .d (.int .i64 (b.getD i default).f2.f6.f1.f0), .d (.int .i64 (b.getD i default).f2.f6.f1.f1), .d (.ints .u8 (b.getD i default).f2.f6.f1.f2), .d (.ints .u8 (b.getD i default).f2.f6.f1.f3), .d (.bss (b.getD i default).f2.f6.f1.f4), .d (.int .i64 (b.getD i default).f2.f7.f0), .d (.int .i64 (b.getD i default).f2.f7.f1), .d (.int .i64 (b.getD i default).f2.f7.f2), .d (.ints .u8 (b.getD i default).f2.f7.f3), .d (.bss (b.getD i default).f2.f7.f4)]) (t := 24) rfl rfl (by exact lt_ok rfl) (by kernel_rfl) (show Env.ev E (.tmp 23) = _ from g23.trans rfl) rfl (by simp only [List.range, List.range.loop, List.map_cons, List.map_nil]; rw [cell_map default (by first | omega | (simp; omega)), cell_map default (by first | omega | (simp; omega)), cell_map default (by first | omega | (simp; omega)), cell_map default (by first | omega | (simp; omega)), cell_map default (by first | omega | (simp; omega)), cell_map default (by first | omega | (simp; omega)), cell_map default (by first | omega | (simp; omega)), cell_map default (by first | omega | (simp; omega)), cell_map default (by first | omega | (simp; omega)), cell_map default (by first | omega | (simp; omega)), cell_map default (by first | omega | (simp; omega)), cell_map default (by first | omega | (simp; omega)), cell_map default (by first | omega | (simp; omega)), cell_map default (by first | omega | (simp; omega)), cell_map default (by first | omega | (simp; omega)), cell_map default (by first | omega | (simp; omega)), cell_map default (by first | omega | (simp; omega)), cell_map default (by first | omega | (simp; omega)), cell_map default (by first | omega | (simp; omega)), cell_map default (by first | omega | (simp; omega)), cell_map default (by first | omega | (simp; omega)), cell_map default (by first | omega | (simp; omega)), cell_map default (by first | omega | (simp; omega)), cell_map default (by first | omega | (simp; omega)), cell_map default (by first | omega | (simp; omega)), cell_map default (by first | omega | (simp; omega)), cell_map default (by first | omega | (simp; omega)), cell_map default (by first | omega | (simp; omega)), cell_map default (by first | omega | (simp; omega)), cell_map default (by first | omega | (simp; omega)), cell_map default (by first | omega | (simp; omega)), cell_map default (by first | omega | (simp; omega)), cell_map default (by first | omega | (simp; omega)), cell_map default (by first | omega | (simp; omega)), cell_map default (by first | omega | (simp; omega)), cell_map default (by first | omega | (simp; omega)), cell_map default (by first | omega | (simp; omega)), cell_map default (by first | omega | (simp; omega)), cell_map default (by first | omega | (simp; omega)), cell_map default (by first | omega | (simp; omega)), cell_map default (by first | omega | (simp; omega)), cell_map default (by first | omega | (simp; omega)), cell_map default (by first | omega | (simp; omega)), cell_map default (by first | omega | (simp; omega)), cell_map default (by first | omega | (simp; omega)), cell_map default (by first | omega | (simp; omega)), cell_map default (by first | omega | (simp; omega))]; rfl))) ?_
     refine .cons (fun E h => by have g20 := h.get 20 (by decide); have g24 := h.get 24 (by decide); exact OpStep.plain rfl (Step.call (f := 25) (xs := [.tmp 20, .tmp 24]) (ps := [(.agg [.d (.int .i64 (a.getD i default).f0), .d (.int .i64 (a.getD i default).f1), .d (.int .i64 (a.getD i default).f2.f0), .d (.int .i64 (a.getD i default).f2.f1.f0), .d (.int .i64 (a.getD i default).f2.f1.f1), .d (.ints .u8 (a.getD i default).f2.f1.f2), .d (.int .i64 (a.getD i default).f2.f1.f3), .d (.ints .u8 (a.getD i default).f2.f1.f4), .d (.int .i64 (a.getD i default).f2.f2.f0), .d (.int .i64 (a.getD i default).f2.f2.f1), .d (.ints .u8 (a.getD i default).f2.f2.f2), .d (.ints .u8 (a.getD i default).f2.f2.f3), .d (.bss (a.getD i default).f2.f2.f4), .d (.int .i64 (a.getD i default).f2.f3.f0), .d (.int .i64 (a.getD i default).f2.f3.f1), .d (.int .i64 (a.getD i default).f2.f3.f2), .d (.ints .u8 (a.getD i default).f2.f3.f3), .d (.ints .u8 (a.getD i default).f2.f3.f4), .d (.int .i64 (a.getD i default).f2.f3.f5.f0), .d (.int .i64 (a.getD i default).f2.f3.f5.f1), .d (.ints .u8 (a.getD i default).f2.f3.f5.f2), .d (.ints .u8 (a.getD i default).f2.f3.f5.f3), .d (.bss (a.getD i default).f2.f3.f5.f4), .d (.int .i64 (a.getD i default).f2.f4.f0.f0), .d (.int .i64 (a.getD i default).f2.f4.f0.f1), .d (.int .i64 (a.getD i default).f2.f4.f0.f2), .d (.ints .u8 (a.getD i default).f2.f4.f0.f3), .d (.ints .u8 (a.getD i default).f2.f4.f0.f4), .d (.int .i64 (a.getD i default).f2.f4.f0.f5.f0), .d (.int .i64 (a.getD i default).f2.f4.f0.f5.f1), .d (.ints .u8 (a.getD i default).f2.f4.f0.f5.f2), .d (.ints .u8 (a.getD i default).f2.f4.f0.f5.f3), .d (.bss (a.getD i default).f2.f4.f0.f5.f4), .d (.bss (a.getD i default).f2.f4.f1), .d (.int .i64 (a.getD i default).f2.f5.f0), .d (.sl 3 ((a.getD i default).f2.f5.f1.map SEntry.cells)), .d (.sl 10 ((a.getD i default).f2.f6.f0.map SHead.cells)), .d (.int .i64 (a.getD i default).f2.f6.f1.f0), .d (.int .i64 (a.getD i default).f2.f6.f1.f1), .d (.ints .u8 (a.getD i default).f2.f6.f1.f2), .d (.ints .u8 (a.getD i default).f2.f6.f1.f3), .d (.bss (a.getD i default).f2.f6.f1.f4), .d (.int .i64 (a.getD i default).f2.f7.f0), .d (.int .i64 (a.getD i default).f2.f7.f1), .d (.int .i64 (a.getD i default).f2.f7.f2), .d (.ints .u8 (a.getD i default).f2.f7.f3), .d (.bss (a.getD i default).f2.f7.f4)]), (.agg [.d (.int .i64 (b.getD i default).f0), .d (.int .i64 (b.getD i default).f1), .d (.int .i64 (b.getD i default).f2.f0), .d (.int .i64 (b.getD i default).f2.f1.f0), .d (.int .i64 (b.getD i default).f2.f1.f1), .d (.ints .u8 (b.getD i default).f2.f1.f2), .d (.int .i64 (b.getD i default).f2.f1.f3), .d (.ints .u8 (b.getD i default).f2.f1.f4), .d (.int .i64 (b.getD i default).f2.f2.f0), .d (.int .i64 (b.getD i default).f2.f2.f1), .d (.ints .u8 (b.getD i default).f2.f2.f2), .d (.ints .u8 (b.getD i default).f2.f2.f3), .d (.bss (b.getD i default).f2.f2.f4), .d (.int .i64 (b.getD i default).f2.f3.f0), .d (.int .i64 (b.getD i default).f2.f3.f1), .d (.int .i64 (b.getD i default).f2.f3.f2), .d (.ints .u8 (b.getD i default).f2.f3.f3), .d (.ints .u8 (b.getD i default).f2.f3.f4), .d (.int .i64 (b.getD i default).f2.f3.f5.f0), .d (.int .i64 (b.getD i default).f2.f3.f5.f1), .d (.ints .u8 (b.getD i default).f2.f3.f5.f2), .d (.ints .u8 (b.getD i default).f2.f3.f5.f3), .d (.bss (b.getD i default).f2.f3.f5.f4), .d (.int .i64 (b.getD i default).f2.f4.f0.f0), .d (.int .i64 (b.getD i default).f2.f4.f0.f1), .d (.int .i64 (b.getD i default).f2.f4.f0.f2), .d (.ints .u8 (b.getD i default).f2.f4.f0.f3), .d (.ints .u8 (b.getD i default).f2.f4.f0.f4), .d (.int .i64 (b.getD i default).f2.f4.f0.f5.f0), .d (.int .i64 (b.getD i default).f2.f4.f0.f5.f1), .d (.ints .u8 (b.getD i default).f2.f4.f0.f5.f2), .d (.ints .u8 (b.getD i default).f2.f4.f0.f5.f3), .d (.bss (b.getD i default).f2.f4.f0.f5.f4), .d (.bss (b.getD i default).f2.f4.f1), .d (.int .i64 (b.getD i default).f2.f5.f0), .d (.sl 3 ((b.getD i default).f2.f5.f1.map SEntry.cells)), .d (.sl 10 ((b.getD i default).f2.f6.f0.map SHead.cells)), .d (.int .i64 (b.getD i default).f2.f6.f1.f0), .d (.int .i64 (b.getD i default).f2.f6.f1.f1), .d (.ints .u8 (b.getD i default).f2.f6.f1.f2), .d (.ints .u8 (b.getD i default).f2.f6.f1.f3), .d (.bss (b.getD i default).f2.f6.f1.f4), .d (.int .i64 (b.getD i default).f2.f7.f0), .d (.int .i64 (b.getD i default).f2.f7.f1), .d (.int .i64 (b.getD i default).f2.f7.f2), .d (.ints .u8 (b.getD i default).f2.f7.f3), .d (.bss (b.getD i default).f2.f7.f4)])]) false (g := .func 25) (t := 25) rfl rfl (by exact lt_ok rfl) rfl (by kernel_rfl) (evs_cons (show Env.ev E (.tmp 20) = _ from g20.trans rfl) (evs_cons (show Env.ev E (.tmp 24) = _ from g24.trans rfl) (rfl))) (.cons (.agg (.cons (.d _) (.cons (.d _) (.cons (.d _) (.cons (.d _) (.cons (.d _) (.cons (.d _) (.cons (.d _) (.cons (.d _) (.cons (.d _) (.cons (.d _) (.cons (.d _) (.cons (.d _) (.cons (.d _) (.cons (.d _) (.cons (.d _) (.cons (.d _) (.cons (.d _) (.cons (.d _) (.cons (.d _) (.cons (.d _) (.cons (.d _) (.cons (.d _) (.cons (.d _) (.cons (.d _) (.cons (.d _) (.cons (.d _) (.cons (.d _) (.cons (.d _) (.cons (.d _) (.cons (.d _) (.cons (.d _) (.cons (.d _) (.cons (.d _) (.cons (.d _) (.cons (.d _) (.cons (.d _) (.cons (.d _) (.cons (.d _) (.cons (.d _) (.cons (.d _) (.cons (.d _) (.cons (.d _) (.cons (.d _) (.cons (.d _) (.cons (.d _) (.cons (.d _) (.cons (.d _) .nil)))))))))))))))))))))))))))))))))))))))))))))))) (.cons (.agg (.cons (.d _) (.cons (.d _) (.cons (.d _) (.cons (.d _) (.cons (.d _) (.cons (.d _) (.cons (.d _) (.cons (.d _) (.cons (.d _) (.cons (.d _) (.cons (.d _) (.cons (.d _) (.cons (.d _) (.cons (.d _) (.cons (.d _) (.cons (.d _) (.cons (.d _) (.cons (.d _) (.cons (.d _) (.cons (.d _) (.cons (.d _) (.cons (.d _) (.cons (.d _) (.cons (.d _) (.cons (.d _) (.cons (.d _) (.cons (.d _) (.cons (.d _) (.cons (.d _) (.cons (.d _) (.cons (.d _) (.cons (.d _) (.cons (.d _) (.cons (.d _) (.cons (.d _) (.cons (.d _) (.cons (.d _) (.cons (.d _) (.cons (.d _) (.cons (.d _) (.cons (.d _) (.cons (.d _) (.cons (.d _) (.cons (.d _) (.cons (.d _) (.cons (.d _) (.cons (.d _) .nil)))))))))))))))))))))))))))))))))))))))))))))))) .nil)) (ok_laws_eqEvent (a.getD i default) (b.getD i default)) (.inr rfl) (At.freshRows h rfl) (by simp) rfl)) ?_
     refine .cons (fun E h => by have g25 := h.get 25 (by decide); exact OpStep.plain rfl (Step.not (b := (decide ((a.getD i default) = (b.getD i default)))) (t := 26) rfl rfl (by exact lt_ok rfl) (show Env.ev E (.tmp 25) = _ from g25.trans rfl))) ?_
     exact .nil _ _
    refine TL.nil ?_
    refine T.weaken (E' := { tm := [(0, (.one (.d (.sl 47 (a.map SEvent.cells))))), (1, (.one (.d (.sl 47 (b.map SEvent.cells))))), (5, (.one (.d (.int .i64 (i : Int))))), (26, (.one (.d (.bool (!(decide ((a.getD i default) = (b.getD i default))))))))], rows := [], boxes := [] }) (Env.le_mk ⟨by kernel_rfl, by kernel_rfl, by kernel_rfl, by kernel_rfl, trivial⟩ trivial trivial) ?_
    refine T.cond (b := !(decide ((a.getD i default) = (b.getD i default)))) rfl (fun h3 => ?_) (fun h3 => ?_)
    ·
     replace h3 : (decide ((a.getD i default) = (b.getD i default))) = false := by simpa only [Bool.not_eq_true', Bool.not_eq_false'] using h3
     replace h3 := of_decide_eq_false h3
     refine T.seq ?_
     refine T.region ?_
     refine TL.cons rfl (Step.assign (p := (.one (.d (.bool false)))) rfl rfl (lt_ok rfl) rfl) ?_
     refine TL.nil ?_
     refine T.ret ?_
     exact ⟨[(false, [.d (.bool false)])], (.cons rfl .nil), rfl, [], (RetC.rd' (by (congr 1; symm; first | (apply decide_eq_false; rintro rfl; first | exact absurd rfl ‹¬ _ = _› | exact absurd rfl (of_decide_eq_false (by assumption)) | contradiction | simp_all) | (apply decide_eq_true; exact take_all hx2 (by omega) hx3))) .nil)⟩
    ·
     replace h3 : (decide ((a.getD i default) = (b.getD i default))) = true := by simpa only [Bool.not_eq_true', Bool.not_eq_false'] using h3
     replace h3 := of_decide_eq_true h3
     refine T.skip ?_
     refine T.region ?_
     refine TL.cons rfl (Step.move (p := (.one (.d (.int .i64 (i : Int))))) rfl rfl (lt_ok rfl) rfl) ?_
     refine TL.cons rfl (Step.bin (r := .int .i64 ((i : Int) + 1)) rfl rfl (lt_ok rfl) rfl rfl (Bin.add (a := (i : Int)) (b := 1) (by first | exact wrap_ok (by first | omega | (simp; omega)) (by first | omega | (simp; omega)) | rfl))) ?_
     refine TL.cons rfl (Step.assign (p := (.one (.d (.int .i64 ((i : Int) + 1))))) rfl rfl (lt_ok rfl) rfl) ?_
     refine TL.nil ?_
     exact ⟨i + 1, by (refine ⟨by omega, hx2, take_step (d := default) hx2 (by omega) hx3 (by first | assumption | exact Decidable.not_not.1 (by assumption) | omega)⟩), by omega, Env.le_mk ⟨rfl, rfl, by first | rfl | (simp; done) | (congr 3; omega), trivial⟩ trivial trivial⟩
   ·
    replace h2 := of_decide_eq_false h2
    refine T.exit ?_
    refine T.seq ?_
    refine T.region ?_
    refine TL.cons rfl (Step.assign (p := (.one (.d (.bool true)))) rfl rfl (lt_ok rfl) rfl) ?_
    refine TL.nil ?_
    refine T.ret ?_
    exact ⟨[(false, [.d (.bool true)])], (.cons rfl .nil), rfl, [], (RetC.rd' (by (congr 1; symm; first | (apply decide_eq_false; rintro rfl; first | exact absurd rfl ‹¬ _ = _› | exact absurd rfl (of_decide_eq_false (by assumption)) | contradiction | simp_all) | (apply decide_eq_true; exact take_all hx2 (by omega) hx3))) .nil)⟩
theorem ok_laws_FnExactEventsSame (aA : List SEvent) (aB : List SEvent) (h0_ : ∀ y ∈ aA, SEvent.ok y) (h1_ : ∀ y ∈ aB, SEvent.ok y) : RO Try.prog 6 [.one (.sl 47 (aA.map SEvent.cells)), .one (.sl 47 (aB.map SEvent.cells))] [(false, [.rd (.bool true)])] := by
 refine RO.intro Try.func6 rfl 45 rfl (le_ok rfl) fun w Z => ?_
 refine T.bnd 0 0 rfl rfl fun hb_0_0 => ?_
 simp only [D.size, List.length_map] at hb_0_0
 refine T.bnd 1 0 rfl rfl fun hb_1_0 => ?_
 simp only [D.size, List.length_map] at hb_1_0
 refine T.seq ?_
 refine T.region ?_
 refine TL.cons rfl (Step.assign (p := (.one (.d (.bool false)))) rfl rfl (lt_ok rfl) rfl) ?_
 refine TL.nil ?_
 refine T.seq ?_
 refine T.region ?_
 refine TL.cons rfl (Step.assign (p := (.one (.d (.int .i64 1048576)))) rfl rfl (lt_ok rfl) rfl) ?_
 refine TL.nil ?_
 refine T.seq ?_
 refine T.region ?_
 refine TL.cons rfl (Step.move (p := (.one (.d (.sl 47 (aA.map SEvent.cells))))) rfl rfl (lt_ok rfl) rfl) ?_
 refine TL.cons rfl (Step.move (p := (.one (.d (.int .i64 1048576)))) rfl rfl (lt_ok rfl) rfl) ?_
 refine TL.cons rfl (Step.call (f := 26) (xs := [.tmp 10, .tmp 11]) (ps := [(.one (.d (.sl 47 (aA.map SEvent.cells)))), (.one (.d (.int .i64 1048576)))]) false (g := .func 26) rfl rfl (lt_ok rfl) rfl (by kernel_rfl) rfl (.cons (.one (.d _)) (.cons (.one (.d _)) .nil)) (ok_laws_szEventS aA 1048576 (by omega) (by omega)) (.inr rfl) rfl (by simp) rfl) ?_
 refine TL.cons rfl (Step.assign (p := (.one (.d (.int .i64 (szLs SEvent.sz aA 1048576))))) rfl rfl (lt_ok rfl) rfl) ?_
 refine TL.nil ?_
 refine T.seq ?_
 refine T.seq ?_
 refine T.region ?_
 refine TL.cons rfl (Step.move (p := (.one (.d (.int .i64 (szLs SEvent.sz aA 1048576))))) rfl rfl (lt_ok rfl) rfl) ?_
 refine TL.cons rfl (Step.bin rfl rfl (lt_ok rfl) rfl rfl (Bin.lss (k := .i64) (a := (szLs SEvent.sz aA 1048576)) (b := 0))) ?_
 refine TL.nil ?_
 refine T.cond (b := decide ((szLs SEvent.sz aA 1048576) < 0)) rfl (fun h2 => ?_) (fun h2 => ?_)
 ·
  replace h2 := of_decide_eq_true h2
  refine T.seq ?_
  refine T.region ?_
  refine TL.cons rfl (Step.assign (p := (.one (.d (.bool true)))) rfl rfl (lt_ok rfl) rfl) ?_
  refine TL.nil ?_
  refine T.ret ?_
  exact ⟨[(false, [.d (.bool true)])], (.cons rfl .nil), rfl, [], (RetC.rd' (by rfl) .nil)⟩
 ·
  replace h2 := of_decide_eq_false h2
  have z1_le : szLs SEvent.sz aA 1048576 ≤ 1048576 := szLs_le (fun x l h => SEvent.sz_le x h) _ (by omega)
  have z1_sm := szLs_sm (p := SEvent.sm) (fun x l h => SEvent.sz_le x h) (fun x l h h0 hl => SEvent.sz_sm x h0 hl h) (by omega : (0 : Int) ≤ szLs SEvent.sz aA 1048576) (by omega : (1048576 : Int) ≤ 1048576)
  refine T.skip ?_
  refine T.seq ?_
  refine T.region ?_
  refine TL.cons rfl (Step.move (p := (.one (.d (.sl 47 (aB.map SEvent.cells))))) rfl rfl (lt_ok rfl) rfl) ?_
  refine TL.cons rfl (Step.move (p := (.one (.d (.int .i64 (szLs SEvent.sz aA 1048576))))) rfl rfl (lt_ok rfl) rfl) ?_
  refine TL.cons rfl (Step.call (f := 26) (xs := [.tmp 15, .tmp 16]) (ps := [(.one (.d (.sl 47 (aB.map SEvent.cells)))), (.one (.d (.int .i64 (szLs SEvent.sz aA 1048576))))]) false (g := .func 26) rfl rfl (lt_ok rfl) rfl (by kernel_rfl) rfl (.cons (.one (.d _)) (.cons (.one (.d _)) .nil)) (ok_laws_szEventS aB (szLs SEvent.sz aA 1048576) (by omega) (by omega)) (.inr rfl) rfl (by simp) rfl) ?_
  refine TL.cons rfl (Step.assign (p := (.one (.d (.int .i64 (szLs SEvent.sz aB (szLs SEvent.sz aA 1048576)))))) rfl rfl (lt_ok rfl) rfl) ?_
  refine TL.nil ?_
  refine T.seq ?_
  refine T.seq ?_
  refine T.region ?_
  refine TL.cons rfl (Step.move (p := (.one (.d (.int .i64 (szLs SEvent.sz aB (szLs SEvent.sz aA 1048576)))))) rfl rfl (lt_ok rfl) rfl) ?_
  refine TL.cons rfl (Step.bin rfl rfl (lt_ok rfl) rfl rfl (Bin.lss (k := .i64) (a := (szLs SEvent.sz aB (szLs SEvent.sz aA 1048576))) (b := 0))) ?_
  refine TL.nil ?_
  refine T.cond (b := decide ((szLs SEvent.sz aB (szLs SEvent.sz aA 1048576)) < 0)) rfl (fun h4 => ?_) (fun h4 => ?_)
  ·
   replace h4 := of_decide_eq_true h4
   refine T.seq ?_
   refine T.region ?_
   refine TL.cons rfl (Step.assign (p := (.one (.d (.bool true)))) rfl rfl (lt_ok rfl) rfl) ?_
   refine TL.nil ?_
   refine T.ret ?_
   exact ⟨[(false, [.d (.bool true)])], (.cons rfl .nil), rfl, [], (RetC.rd' (by rfl) .nil)⟩
  ·
   replace h4 := of_decide_eq_false h4
   have z3_le : szLs SEvent.sz aB (szLs SEvent.sz aA 1048576) ≤ (szLs SEvent.sz aA 1048576) := szLs_le (fun x l h => SEvent.sz_le x h) _ (by omega)
   have z3_sm := szLs_sm (p := SEvent.sm) (fun x l h => SEvent.sz_le x h) (fun x l h h0 hl => SEvent.sz_sm x h0 hl h) (by omega : (0 : Int) ≤ szLs SEvent.sz aB (szLs SEvent.sz aA 1048576)) (by omega : ((szLs SEvent.sz aA 1048576) : Int) ≤ 1048576)
   refine T.skip ?_
   refine T.seq ?_
   refine T.region ?_
   refine TL.cons rfl (Step.move (p := (.one (.d (.sl 47 (aA.map SEvent.cells))))) rfl rfl (lt_ok rfl) rfl) ?_
   refine TL.cons rfl (Step.call (f := 28) (xs := [.tmp 20]) (ps := [(.one (.d (.sl 47 (aA.map SEvent.cells))))]) false (g := .func 28) rfl rfl (lt_ok rfl) rfl (by kernel_rfl) rfl (.cons (.one (.d _)) .nil) (ok_laws_toEventS aA (by first | assumption | exact ⟨‹_›, ‹_›⟩ | exact mem_getD h0_.2 (by omega))) (.inr rfl) rfl (by simp) rfl) ?_
   refine TL.cons rfl (Step.move (p := (.one (.d (.sl 47 (aB.map SEvent.cells))))) rfl rfl (lt_ok rfl) rfl) ?_
   refine TL.cons rfl (Step.call (f := 28) (xs := [.tmp 22]) (ps := [(.one (.d (.sl 47 (aB.map SEvent.cells))))]) false (g := .func 28) rfl rfl (lt_ok rfl) rfl (by kernel_rfl) rfl (.cons (.one (.d _)) .nil) (ok_laws_toEventS aB (by first | assumption | exact ⟨‹_›, ‹_›⟩ | exact mem_getD h0_.2 (by omega))) (.inr rfl) rfl (by simp) rfl) ?_
   refine TL.cons rfl (Step.call (f := 27) (xs := [.tmp 21, .tmp 23]) (ps := [(.one (.row 1021 [])), (.one (.row 1023 []))]) false (g := .func 27) rfl rfl (lt_ok rfl) rfl (by kernel_rfl) rfl (.cons (.one (.row rfl rfl rfl rfl)) (.cons (.one (.row rfl rfl rfl rfl)) .nil)) (ok_spec_EventsSame aA aB (by first | assumption | exact mem_getD h0_ (by omega) | exact mem_getD h1_ (by omega) | exact m0_ (by omega) | exact m1_ (by omega) | exact (m0_ (by omega)).2.2 | exact (m1_ (by omega)).2.2) (by first | assumption | exact mem_getD h0_ (by omega) | exact mem_getD h1_ (by omega) | exact m0_ (by omega) | exact m1_ (by omega) | exact (m0_ (by omega)).2.2 | exact (m1_ (by omega)).2.2)) (.inr rfl) rfl (by simp) rfl) ?_
   refine TL.cons rfl (Step.assign (p := (.one (.d (.bool (decide (aA = aB)))))) rfl rfl (lt_ok rfl) rfl) ?_
   refine TL.nil ?_
   refine T.seq ?_
   refine T.region ?_
   refine TL.cons rfl (Step.move (p := (.one (.d (.sl 47 (aA.map SEvent.cells))))) rfl rfl (lt_ok rfl) rfl) ?_
   refine TL.cons rfl (Step.call (f := 28) (xs := [.tmp 25]) (ps := [(.one (.d (.sl 47 (aA.map SEvent.cells))))]) false (g := .func 28) rfl rfl (lt_ok rfl) rfl (by kernel_rfl) rfl (.cons (.one (.d _)) .nil) (ok_laws_toEventS aA (by first | assumption | exact ⟨‹_›, ‹_›⟩ | exact mem_getD h0_.2 (by omega))) (.inr rfl) rfl (by simp) rfl) ?_
   refine TL.cons rfl (Step.assign (p := (.one (.row 1026 []))) rfl rfl (lt_ok rfl) rfl) ?_
   refine TL.nil ?_
   refine T.seq ?_
   refine T.region ?_
   refine TL.cons rfl (Step.move (p := (.one (.d (.sl 47 (aB.map SEvent.cells))))) rfl rfl (lt_ok rfl) rfl) ?_
   refine TL.cons rfl (Step.call (f := 28) (xs := [.tmp 27]) (ps := [(.one (.d (.sl 47 (aB.map SEvent.cells))))]) false (g := .func 28) rfl rfl (lt_ok rfl) rfl (by kernel_rfl) rfl (.cons (.one (.d _)) .nil) (ok_laws_toEventS aB (by first | assumption | exact ⟨‹_›, ‹_›⟩ | exact mem_getD h0_.2 (by omega))) (.inr rfl) rfl (by simp) rfl) ?_
   refine TL.cons rfl (Step.assign (p := (.one (.row 1028 []))) rfl rfl (lt_ok rfl) rfl) ?_
   refine TL.nil ?_
   refine T.seq ?_
   refine T.region ?_
   refine TL.cons rfl (Step.move (p := (.one (.row 1026 []))) rfl rfl (lt_ok rfl) rfl) ?_
   refine TL.cons rfl (Step.move (p := (.one (.row 1028 []))) rfl rfl (lt_ok rfl) rfl) ?_
   refine TL.cons rfl (Step.call (f := 29) (xs := [.tmp 29, .tmp 30]) (ps := [(.one (.row 1026 [])), (.one (.row 1028 []))]) false (g := .func 29) rfl rfl (lt_ok rfl) rfl (by kernel_rfl) rfl (.cons (.one (.row rfl rfl rfl rfl)) (.cons (.one (.row rfl rfl rfl rfl)) .nil)) (ok_impl_EventsSame aA aB (by first | assumption | exact mem_getD h0_ (by omega) | exact mem_getD h1_ (by omega) | exact m0_ (by omega) | exact m1_ (by omega) | exact (m0_ (by omega)).2.2 | exact (m1_ (by omega)).2.2) (by first | assumption | exact mem_getD h0_ (by omega) | exact mem_getD h1_ (by omega) | exact m0_ (by omega) | exact m1_ (by omega) | exact (m0_ (by omega)).2.2 | exact (m1_ (by omega)).2.2)) (.inr rfl) rfl (by simp) rfl) ?_
   refine TL.cons rfl (Step.assign (p := (.one (.d (.bool (decide (aA = aB)))))) rfl rfl (lt_ok rfl) rfl) ?_
   refine TL.nil ?_
   refine T.seq ?_
   refine T.seq ?_
   refine T.region ?_
   refine TL.cons rfl (Step.move (p := (.one (.d (.bool (decide (aA = aB)))))) rfl rfl (lt_ok rfl) rfl) ?_
   refine TL.cons rfl (Step.move (p := (.one (.d (.bool (decide (aA = aB)))))) rfl rfl (lt_ok rfl) rfl) ?_
   refine TL.cons rfl (Step.bneq (b := (decide (aA = aB))) (c := (decide (aA = aB))) rfl rfl (lt_ok rfl) (by kernel_rfl) rfl rfl) ?_
   refine TL.known 34 (c := false) (by simp) rfl ?_
   refine TL.nil ?_
   refine T.cond (b := false) rfl (fun h5_ => absurd h5_ (by simp)) (fun h5_ => ?_)
   refine T.skip ?_
   refine T.seq ?_
   refine T.seq ?_
   refine T.region ?_
   refine TL.cons rfl (Step.move (p := (.one (.row 1026 []))) rfl rfl (lt_ok rfl) rfl) ?_
   refine TL.cons rfl (Step.move (p := (.one (.d (.sl 47 (aA.map SEvent.cells))))) rfl rfl (lt_ok rfl) rfl) ?_
   refine TL.cons rfl (Step.call (f := 28) (xs := [.tmp 36]) (ps := [(.one (.d (.sl 47 (aA.map SEvent.cells))))]) false (g := .func 28) rfl rfl (lt_ok rfl) rfl (by kernel_rfl) rfl (.cons (.one (.d _)) .nil) (ok_laws_toEventS aA (by first | assumption | exact ⟨‹_›, ‹_›⟩ | exact mem_getD h0_.2 (by omega))) (.inr rfl) rfl (by simp) rfl) ?_
   refine TL.cons rfl (Step.call (f := 30) (xs := [.tmp 35, .tmp 37]) (ps := [(.one (.row 1026 [])), (.one (.row 1037 []))]) false (g := .func 30) rfl rfl (lt_ok rfl) rfl (by kernel_rfl) rfl (.cons (.one (.row rfl rfl rfl rfl)) (.cons (.one (.row rfl rfl rfl rfl)) .nil)) (ok_laws_eqEventS aA aA) (.inr rfl) rfl (by simp) rfl) ?_
   refine TL.known 38 (c := true) (by simp) rfl ?_
   refine TL.cons rfl (Step.not (b := true) rfl rfl (lt_ok rfl) rfl) ?_
   refine TL.nil ?_
   refine T.cond (b := false) rfl (fun h6_ => absurd h6_ (by simp)) (fun h6_ => ?_)
   refine T.skip ?_
   refine T.seq ?_
   refine T.seq ?_
   refine T.region ?_
   refine TL.cons rfl (Step.move (p := (.one (.row 1028 []))) rfl rfl (lt_ok rfl) rfl) ?_
   refine TL.cons rfl (Step.move (p := (.one (.d (.sl 47 (aB.map SEvent.cells))))) rfl rfl (lt_ok rfl) rfl) ?_
   refine TL.cons rfl (Step.call (f := 28) (xs := [.tmp 41]) (ps := [(.one (.d (.sl 47 (aB.map SEvent.cells))))]) false (g := .func 28) rfl rfl (lt_ok rfl) rfl (by kernel_rfl) rfl (.cons (.one (.d _)) .nil) (ok_laws_toEventS aB (by first | assumption | exact ⟨‹_›, ‹_›⟩ | exact mem_getD h0_.2 (by omega))) (.inr rfl) rfl (by simp) rfl) ?_
   refine TL.cons rfl (Step.call (f := 30) (xs := [.tmp 40, .tmp 42]) (ps := [(.one (.row 1028 [])), (.one (.row 1042 []))]) false (g := .func 30) rfl rfl (lt_ok rfl) rfl (by kernel_rfl) rfl (.cons (.one (.row rfl rfl rfl rfl)) (.cons (.one (.row rfl rfl rfl rfl)) .nil)) (ok_laws_eqEventS aB aB) (.inr rfl) rfl (by simp) rfl) ?_
   refine TL.known 43 (c := true) (by simp) rfl ?_
   refine TL.cons rfl (Step.not (b := true) rfl rfl (lt_ok rfl) rfl) ?_
   refine TL.nil ?_
   refine T.cond (b := false) rfl (fun h7_ => absurd h7_ (by simp)) (fun h7_ => ?_)
   refine T.skip ?_
   refine T.seq ?_
   refine T.region ?_
   refine TL.cons rfl (Step.assign (p := (.one (.d (.bool true)))) rfl rfl (lt_ok rfl) rfl) ?_
   refine TL.nil ?_
   refine T.ret ?_
   exact ⟨[(false, [.d (.bool true)])], (.cons rfl .nil), rfl, [], (RetC.rd' (by rfl) .nil)⟩
end Go.Proofs.Ytppldhkkhadngaa.Rf
