/- The functions that FnExactGetHead calls, each held to what it answers. Printed by a program of this session; Lean checks it. -/
import Derived.Test.YtlcmflenbddliaaProg
import Derived.Test.YtlcmflenbddliaaRf29
import Derived.Test.YtlcmflenbddliaaRFnExactGetHeadx2
namespace Go.Proofs.Ytlcmflenbddliaa.Rf
open Go.RowKit
set_option linter.unusedVariables false
set_option linter.unnecessarySimpa false
set_option linter.unusedSimpArgs false
set_option maxRecDepth 100000
set_option maxHeartbeats 4000000
theorem ok_laws_eqQc (a : SQc) (b : SQc) : RO Try.prog 34 [.agg a.cells, .agg b.cells] [(false, [.rd (.bool (decide (a = b)))])] := by
 refine RO.intro Try.func34 rfl 33 rfl (le_ok rfl) fun w Z => ?_
 refine T.seq ?_
 refine T.region ?_
 refine TL.cons rfl (Step.box (p := (.agg [.d (.int .i64 a.f0), .d (.int .i64 a.f1), .d (.ints .u8 a.f2), .d (.ints .u8 a.f3), .d (.bss a.f4)])) (ps := [.d (.int .i64 a.f0), .d (.int .i64 a.f1), .d (.ints .u8 a.f2), .d (.ints .u8 a.f3), .d (.bss a.f4)]) rfl rfl (lt_ok rfl) rfl rfl rfl rfl rfl) ?_
 refine TL.cons rfl (Step.box (p := (.agg [.d (.int .i64 b.f0), .d (.int .i64 b.f1), .d (.ints .u8 b.f2), .d (.ints .u8 b.f3), .d (.bss b.f4)])) (ps := [.d (.int .i64 b.f0), .d (.int .i64 b.f1), .d (.ints .u8 b.f2), .d (.ints .u8 b.f3), .d (.bss b.f4)]) rfl rfl (lt_ok rfl) rfl rfl rfl rfl rfl) ?_
 refine TL.cons rfl (Step.assign (p := (.one (.d (.bool false)))) rfl rfl (lt_ok rfl) rfl) ?_
 refine TL.nil ?_
 refine T.seq ?_
 refine T.seq ?_
 refine T.region ?_
 refine TL.cons rfl (Step.fieldAddr (q := 0) (off := 0) (n := 1) (one := true) rfl rfl (lt_ok rfl) (by kernel_rfl) (Nat.succ_ne_zero _) rfl) ?_
 refine TL.cons rfl (Step.load_box (c := .d (.int .i64 a.f0)) rfl rfl (lt_ok rfl) (by kernel_rfl) rfl rfl rfl) ?_
 refine TL.cons rfl (Step.fieldAddr (q := 0) (off := 0) (n := 1) (one := true) rfl rfl (lt_ok rfl) (by kernel_rfl) (Nat.succ_ne_zero _) rfl) ?_
 refine TL.cons rfl (Step.load_box (c := .d (.int .i64 b.f0)) rfl rfl (lt_ok rfl) (by kernel_rfl) rfl rfl rfl) ?_
 refine TL.cons rfl (Step.bin rfl rfl (lt_ok rfl) rfl rfl (Bin.neq (k := .i64) (a := a.f0) (b := b.f0))) ?_
 refine TL.nil ?_
 refine T.cond (b := decide (a.f0 ≠ b.f0)) rfl (fun h1 => ?_) (fun h1 => ?_)
 ·
  replace h1 := of_decide_eq_true h1
  refine T.seq ?_
  refine T.region ?_
  refine TL.cons rfl (Step.assign (p := (.one (.d (.bool false)))) rfl rfl (lt_ok rfl) rfl) ?_
  refine TL.nil ?_
  refine T.ret ?_
  exact ⟨[(false, [.d (.bool false)])], (.cons rfl .nil), rfl, [], (RetC.rd' (by (congr 1; symm; first | (apply decide_eq_false; rintro rfl; first | exact absurd rfl ‹¬ _ = _› | contradiction) | (apply decide_eq_true; apply SQc.ext <;> first | assumption | exact Decidable.not_not.1 (by assumption)))) .nil)⟩
 ·
  replace h1 := of_decide_eq_false h1
  refine T.skip ?_
  refine T.seq ?_
  refine T.seq ?_
  refine T.region ?_
  refine TL.cons rfl (Step.fieldAddr (q := 0) (off := 1) (n := 1) (one := true) rfl rfl (lt_ok rfl) (by kernel_rfl) (Nat.succ_ne_zero _) rfl) ?_
  refine TL.cons rfl (Step.load_box (c := .d (.int .i64 a.f1)) rfl rfl (lt_ok rfl) (by kernel_rfl) rfl rfl rfl) ?_
  refine TL.cons rfl (Step.fieldAddr (q := 0) (off := 1) (n := 1) (one := true) rfl rfl (lt_ok rfl) (by kernel_rfl) (Nat.succ_ne_zero _) rfl) ?_
  refine TL.cons rfl (Step.load_box (c := .d (.int .i64 b.f1)) rfl rfl (lt_ok rfl) (by kernel_rfl) rfl rfl rfl) ?_
  refine TL.cons rfl (Step.bin rfl rfl (lt_ok rfl) rfl rfl (Bin.neq (k := .i64) (a := a.f1) (b := b.f1))) ?_
  refine TL.nil ?_
  refine T.cond (b := decide (a.f1 ≠ b.f1)) rfl (fun h2 => ?_) (fun h2 => ?_)
  ·
   replace h2 := of_decide_eq_true h2
   refine T.seq ?_
   refine T.region ?_
   refine TL.cons rfl (Step.assign (p := (.one (.d (.bool false)))) rfl rfl (lt_ok rfl) rfl) ?_
   refine TL.nil ?_
   refine T.ret ?_
   exact ⟨[(false, [.d (.bool false)])], (.cons rfl .nil), rfl, [], (RetC.rd' (by (congr 1; symm; first | (apply decide_eq_false; rintro rfl; first | exact absurd rfl ‹¬ _ = _› | contradiction) | (apply decide_eq_true; apply SQc.ext <;> first | assumption | exact Decidable.not_not.1 (by assumption)))) .nil)⟩
  ·
   replace h2 := of_decide_eq_false h2
   refine T.skip ?_
   refine T.seq ?_
   refine T.seq ?_
   refine T.region ?_
   refine TL.cons rfl (Step.fieldAddr (q := 0) (off := 2) (n := 1) (one := true) rfl rfl (lt_ok rfl) (by kernel_rfl) (Nat.succ_ne_zero _) rfl) ?_
   refine TL.cons rfl (Step.load_box (c := .d (.ints .u8 a.f2)) rfl rfl (lt_ok rfl) (by kernel_rfl) rfl rfl rfl) ?_
   refine TL.cons rfl (Step.fieldAddr (q := 0) (off := 2) (n := 1) (one := true) rfl rfl (lt_ok rfl) (by kernel_rfl) (Nat.succ_ne_zero _) rfl) ?_
   refine TL.cons rfl (Step.load_box (c := .d (.ints .u8 b.f2)) rfl rfl (lt_ok rfl) (by kernel_rfl) rfl rfl rfl) ?_
   refine TL.cons rfl (Step.call (f := 21) (xs := [.tmp 16, .tmp 18]) (ps := [(.one (.d (.ints .u8 a.f2))), (.one (.d (.ints .u8 b.f2)))]) false (g := .func 21) rfl rfl (lt_ok rfl) rfl (by kernel_rfl) rfl (.cons (.one (.d _)) (.cons (.one (.d _)) .nil)) (ok_laws_eqByteS a.f2 b.f2) (.inr rfl) rfl (by simp) rfl) ?_
   refine TL.cons rfl (Step.not (b := (decide (a.f2 = b.f2))) rfl rfl (lt_ok rfl) rfl) ?_
   refine TL.nil ?_
   refine T.cond (b := !(decide (a.f2 = b.f2))) rfl (fun h3 => ?_) (fun h3 => ?_)
   ·
    replace h3 : (decide (a.f2 = b.f2)) = false := by simpa only [Bool.not_eq_true', Bool.not_eq_false'] using h3
    replace h3 := of_decide_eq_false h3
    refine T.seq ?_
    refine T.region ?_
    refine TL.cons rfl (Step.assign (p := (.one (.d (.bool false)))) rfl rfl (lt_ok rfl) rfl) ?_
    refine TL.nil ?_
    refine T.ret ?_
    exact ⟨[(false, [.d (.bool false)])], (.cons rfl .nil), rfl, [], (RetC.rd' (by (congr 1; symm; first | (apply decide_eq_false; rintro rfl; first | exact absurd rfl ‹¬ _ = _› | contradiction) | (apply decide_eq_true; apply SQc.ext <;> first | assumption | exact Decidable.not_not.1 (by assumption)))) .nil)⟩
   ·
    replace h3 : (decide (a.f2 = b.f2)) = true := by simpa only [Bool.not_eq_true', Bool.not_eq_false'] using h3
    replace h3 := of_decide_eq_true h3
    refine T.skip ?_
    refine T.seq ?_
    refine T.seq ?_
    refine T.region ?_
    refine TL.cons rfl (Step.fieldAddr (q := 0) (off := 3) (n := 1) (one := true) rfl rfl (lt_ok rfl) (by kernel_rfl) (Nat.succ_ne_zero _) rfl) ?_
    refine TL.cons rfl (Step.load_box (c := .d (.ints .u8 a.f3)) rfl rfl (lt_ok rfl) (by kernel_rfl) rfl rfl rfl) ?_
    refine TL.cons rfl (Step.fieldAddr (q := 0) (off := 3) (n := 1) (one := true) rfl rfl (lt_ok rfl) (by kernel_rfl) (Nat.succ_ne_zero _) rfl) ?_
    refine TL.cons rfl (Step.load_box (c := .d (.ints .u8 b.f3)) rfl rfl (lt_ok rfl) (by kernel_rfl) rfl rfl rfl) ?_
    refine TL.cons rfl (Step.call (f := 21) (xs := [.tmp 22, .tmp 24]) (ps := [(.one (.d (.ints .u8 a.f3))), (.one (.d (.ints .u8 b.f3)))]) false (g := .func 21) rfl rfl (lt_ok rfl) rfl (by kernel_rfl) rfl (.cons (.one (.d _)) (.cons (.one (.d _)) .nil)) (ok_laws_eqByteS a.f3 b.f3) (.inr rfl) rfl (by simp) rfl) ?_
    refine TL.cons rfl (Step.not (b := (decide (a.f3 = b.f3))) rfl rfl (lt_ok rfl) rfl) ?_
    refine TL.nil ?_
    refine T.cond (b := !(decide (a.f3 = b.f3))) rfl (fun h4 => ?_) (fun h4 => ?_)
    ·
     replace h4 : (decide (a.f3 = b.f3)) = false := by simpa only [Bool.not_eq_true', Bool.not_eq_false'] using h4
     replace h4 := of_decide_eq_false h4
     refine T.seq ?_
     refine T.region ?_
     refine TL.cons rfl (Step.assign (p := (.one (.d (.bool false)))) rfl rfl (lt_ok rfl) rfl) ?_
     refine TL.nil ?_
     refine T.ret ?_
     exact ⟨[(false, [.d (.bool false)])], (.cons rfl .nil), rfl, [], (RetC.rd' (by (congr 1; symm; first | (apply decide_eq_false; rintro rfl; first | exact absurd rfl ‹¬ _ = _› | contradiction) | (apply decide_eq_true; apply SQc.ext <;> first | assumption | exact Decidable.not_not.1 (by assumption)))) .nil)⟩
    ·
     replace h4 : (decide (a.f3 = b.f3)) = true := by simpa only [Bool.not_eq_true', Bool.not_eq_false'] using h4
     replace h4 := of_decide_eq_true h4
     refine T.skip ?_
     refine T.seq ?_
     refine T.seq ?_
     refine T.region ?_
     refine TL.cons rfl (Step.fieldAddr (q := 0) (off := 4) (n := 1) (one := true) rfl rfl (lt_ok rfl) (by kernel_rfl) (Nat.succ_ne_zero _) rfl) ?_
     refine TL.cons rfl (Step.load_box (c := .d (.bss a.f4)) rfl rfl (lt_ok rfl) (by kernel_rfl) rfl rfl rfl) ?_
     refine TL.cons rfl (Step.fieldAddr (q := 0) (off := 4) (n := 1) (one := true) rfl rfl (lt_ok rfl) (by kernel_rfl) (Nat.succ_ne_zero _) rfl) ?_
     refine TL.cons rfl (Step.load_box (c := .d (.bss b.f4)) rfl rfl (lt_ok rfl) (by kernel_rfl) rfl rfl rfl) ?_
     refine TL.cons rfl (Step.call (f := 58) (xs := [.tmp 28, .tmp 30]) (ps := [(.one (.d (.bss a.f4))), (.one (.d (.bss b.f4)))]) false (g := .func 58) rfl rfl (lt_ok rfl) rfl (by kernel_rfl) rfl (.cons (.one (.d _)) (.cons (.one (.d _)) .nil)) (ok_laws_eqByteSS a.f4 b.f4) (.inr rfl) rfl (by simp) rfl) ?_
     refine TL.cons rfl (Step.not (b := (decide (a.f4 = b.f4))) rfl rfl (lt_ok rfl) rfl) ?_
     refine TL.nil ?_
     refine T.cond (b := !(decide (a.f4 = b.f4))) rfl (fun h5 => ?_) (fun h5 => ?_)
     ·
      replace h5 : (decide (a.f4 = b.f4)) = false := by simpa only [Bool.not_eq_true', Bool.not_eq_false'] using h5
      replace h5 := of_decide_eq_false h5
      refine T.seq ?_
      refine T.region ?_
      refine TL.cons rfl (Step.assign (p := (.one (.d (.bool false)))) rfl rfl (lt_ok rfl) rfl) ?_
      refine TL.nil ?_
      refine T.ret ?_
      exact ⟨[(false, [.d (.bool false)])], (.cons rfl .nil), rfl, [], (RetC.rd' (by (congr 1; symm; first | (apply decide_eq_false; rintro rfl; first | exact absurd rfl ‹¬ _ = _› | contradiction) | (apply decide_eq_true; apply SQc.ext <;> first | assumption | exact Decidable.not_not.1 (by assumption)))) .nil)⟩
     ·
      replace h5 : (decide (a.f4 = b.f4)) = true := by simpa only [Bool.not_eq_true', Bool.not_eq_false'] using h5
      replace h5 := of_decide_eq_true h5
      refine T.skip ?_
      refine T.seq ?_
      refine T.region ?_
      refine TL.cons rfl (Step.assign (p := (.one (.d (.bool true)))) rfl rfl (lt_ok rfl) rfl) ?_
      refine TL.nil ?_
      refine T.ret ?_
      exact ⟨[(false, [.d (.bool true)])], (.cons rfl .nil), rfl, [], (RetC.rd' (by (congr 1; symm; first | (apply decide_eq_false; rintro rfl; first | exact absurd rfl ‹¬ _ = _› | contradiction) | (apply decide_eq_true; apply SQc.ext <;> first | assumption | exact Decidable.not_not.1 (by assumption)))) .nil)⟩
theorem ok_laws_eqHead (a : SHead) (b : SHead) : RO Try.prog 39 [.agg a.cells, .agg b.cells] [(false, [.rd (.bool (decide (a = b)))])] := by
 refine RO.intro Try.func39 rfl 38 rfl (le_ok rfl) fun w Z => ?_
 refine T.seq ?_
 refine T.region ?_
 refine TL.cons rfl (Step.box (p := (.agg [.d (.int .i64 a.f0), .d (.int .i64 a.f1), .d (.int .i64 a.f2), .d (.ints .u8 a.f3), .d (.ints .u8 a.f4), .d (.int .i64 a.f5.f0), .d (.int .i64 a.f5.f1), .d (.ints .u8 a.f5.f2), .d (.ints .u8 a.f5.f3), .d (.bss a.f5.f4)])) (ps := [.d (.int .i64 a.f0), .d (.int .i64 a.f1), .d (.int .i64 a.f2), .d (.ints .u8 a.f3), .d (.ints .u8 a.f4), .d (.int .i64 a.f5.f0), .d (.int .i64 a.f5.f1), .d (.ints .u8 a.f5.f2), .d (.ints .u8 a.f5.f3), .d (.bss a.f5.f4)]) rfl rfl (lt_ok rfl) rfl rfl rfl rfl rfl) ?_
 refine TL.cons rfl (Step.box (p := (.agg [.d (.int .i64 b.f0), .d (.int .i64 b.f1), .d (.int .i64 b.f2), .d (.ints .u8 b.f3), .d (.ints .u8 b.f4), .d (.int .i64 b.f5.f0), .d (.int .i64 b.f5.f1), .d (.ints .u8 b.f5.f2), .d (.ints .u8 b.f5.f3), .d (.bss b.f5.f4)])) (ps := [.d (.int .i64 b.f0), .d (.int .i64 b.f1), .d (.int .i64 b.f2), .d (.ints .u8 b.f3), .d (.ints .u8 b.f4), .d (.int .i64 b.f5.f0), .d (.int .i64 b.f5.f1), .d (.ints .u8 b.f5.f2), .d (.ints .u8 b.f5.f3), .d (.bss b.f5.f4)]) rfl rfl (lt_ok rfl) rfl rfl rfl rfl rfl) ?_
 refine TL.cons rfl (Step.assign (p := (.one (.d (.bool false)))) rfl rfl (lt_ok rfl) rfl) ?_
 refine TL.nil ?_
 refine T.seq ?_
 refine T.seq ?_
 refine T.region ?_
 refine TL.cons rfl (Step.fieldAddr (q := 0) (off := 0) (n := 1) (one := true) rfl rfl (lt_ok rfl) (by kernel_rfl) (Nat.succ_ne_zero _) rfl) ?_
 refine TL.cons rfl (Step.load_box (c := .d (.int .i64 a.f0)) rfl rfl (lt_ok rfl) (by kernel_rfl) rfl rfl rfl) ?_
 refine TL.cons rfl (Step.fieldAddr (q := 0) (off := 0) (n := 1) (one := true) rfl rfl (lt_ok rfl) (by kernel_rfl) (Nat.succ_ne_zero _) rfl) ?_
 refine TL.cons rfl (Step.load_box (c := .d (.int .i64 b.f0)) rfl rfl (lt_ok rfl) (by kernel_rfl) rfl rfl rfl) ?_
 refine TL.cons rfl (Step.bin rfl rfl (lt_ok rfl) rfl rfl (Bin.neq (k := .i64) (a := a.f0) (b := b.f0))) ?_
 refine TL.nil ?_
 refine T.cond (b := decide (a.f0 ≠ b.f0)) rfl (fun h1 => ?_) (fun h1 => ?_)
 ·
  replace h1 := of_decide_eq_true h1
  refine T.seq ?_
  refine T.region ?_
  refine TL.cons rfl (Step.assign (p := (.one (.d (.bool false)))) rfl rfl (lt_ok rfl) rfl) ?_
  refine TL.nil ?_
  refine T.ret ?_
  exact ⟨[(false, [.d (.bool false)])], (.cons rfl .nil), rfl, [], (RetC.rd' (by (congr 1; symm; first | (apply decide_eq_false; rintro rfl; first | exact absurd rfl ‹¬ _ = _› | contradiction) | (apply decide_eq_true; apply SHead.ext <;> first | assumption | exact Decidable.not_not.1 (by assumption)))) .nil)⟩
 ·
  replace h1 := of_decide_eq_false h1
  refine T.skip ?_
  refine T.seq ?_
  refine T.seq ?_
  refine T.region ?_
  refine TL.cons rfl (Step.fieldAddr (q := 0) (off := 1) (n := 1) (one := true) rfl rfl (lt_ok rfl) (by kernel_rfl) (Nat.succ_ne_zero _) rfl) ?_
  refine TL.cons rfl (Step.load_box (c := .d (.int .i64 a.f1)) rfl rfl (lt_ok rfl) (by kernel_rfl) rfl rfl rfl) ?_
  refine TL.cons rfl (Step.fieldAddr (q := 0) (off := 1) (n := 1) (one := true) rfl rfl (lt_ok rfl) (by kernel_rfl) (Nat.succ_ne_zero _) rfl) ?_
  refine TL.cons rfl (Step.load_box (c := .d (.int .i64 b.f1)) rfl rfl (lt_ok rfl) (by kernel_rfl) rfl rfl rfl) ?_
  refine TL.cons rfl (Step.bin rfl rfl (lt_ok rfl) rfl rfl (Bin.neq (k := .i64) (a := a.f1) (b := b.f1))) ?_
  refine TL.nil ?_
  refine T.cond (b := decide (a.f1 ≠ b.f1)) rfl (fun h2 => ?_) (fun h2 => ?_)
  ·
   replace h2 := of_decide_eq_true h2
   refine T.seq ?_
   refine T.region ?_
   refine TL.cons rfl (Step.assign (p := (.one (.d (.bool false)))) rfl rfl (lt_ok rfl) rfl) ?_
   refine TL.nil ?_
   refine T.ret ?_
   exact ⟨[(false, [.d (.bool false)])], (.cons rfl .nil), rfl, [], (RetC.rd' (by (congr 1; symm; first | (apply decide_eq_false; rintro rfl; first | exact absurd rfl ‹¬ _ = _› | contradiction) | (apply decide_eq_true; apply SHead.ext <;> first | assumption | exact Decidable.not_not.1 (by assumption)))) .nil)⟩
  ·
   replace h2 := of_decide_eq_false h2
   refine T.skip ?_
   refine T.seq ?_
   refine T.seq ?_
   refine T.region ?_
   refine TL.cons rfl (Step.fieldAddr (q := 0) (off := 2) (n := 1) (one := true) rfl rfl (lt_ok rfl) (by kernel_rfl) (Nat.succ_ne_zero _) rfl) ?_
   refine TL.cons rfl (Step.load_box (c := .d (.int .i64 a.f2)) rfl rfl (lt_ok rfl) (by kernel_rfl) rfl rfl rfl) ?_
   refine TL.cons rfl (Step.fieldAddr (q := 0) (off := 2) (n := 1) (one := true) rfl rfl (lt_ok rfl) (by kernel_rfl) (Nat.succ_ne_zero _) rfl) ?_
   refine TL.cons rfl (Step.load_box (c := .d (.int .i64 b.f2)) rfl rfl (lt_ok rfl) (by kernel_rfl) rfl rfl rfl) ?_
   refine TL.cons rfl (Step.bin rfl rfl (lt_ok rfl) rfl rfl (Bin.neq (k := .i64) (a := a.f2) (b := b.f2))) ?_
   refine TL.nil ?_
   refine T.cond (b := decide (a.f2 ≠ b.f2)) rfl (fun h3 => ?_) (fun h3 => ?_)
   ·
    replace h3 := of_decide_eq_true h3
    refine T.seq ?_
    refine T.region ?_
    refine TL.cons rfl (Step.assign (p := (.one (.d (.bool false)))) rfl rfl (lt_ok rfl) rfl) ?_
    refine TL.nil ?_
    refine T.ret ?_
    exact ⟨[(false, [.d (.bool false)])], (.cons rfl .nil), rfl, [], (RetC.rd' (by (congr 1; symm; first | (apply decide_eq_false; rintro rfl; first | exact absurd rfl ‹¬ _ = _› | contradiction) | (apply decide_eq_true; apply SHead.ext <;> first | assumption | exact Decidable.not_not.1 (by assumption)))) .nil)⟩
   ·
    replace h3 := of_decide_eq_false h3
    refine T.skip ?_
    refine T.seq ?_
    refine T.seq ?_
    refine T.region ?_
    refine TL.cons rfl (Step.fieldAddr (q := 0) (off := 3) (n := 1) (one := true) rfl rfl (lt_ok rfl) (by kernel_rfl) (Nat.succ_ne_zero _) rfl) ?_
    refine TL.cons rfl (Step.load_box (c := .d (.ints .u8 a.f3)) rfl rfl (lt_ok rfl) (by kernel_rfl) rfl rfl rfl) ?_
    refine TL.cons rfl (Step.fieldAddr (q := 0) (off := 3) (n := 1) (one := true) rfl rfl (lt_ok rfl) (by kernel_rfl) (Nat.succ_ne_zero _) rfl) ?_
    refine TL.cons rfl (Step.load_box (c := .d (.ints .u8 b.f3)) rfl rfl (lt_ok rfl) (by kernel_rfl) rfl rfl rfl) ?_
    refine TL.cons rfl (Step.call (f := 21) (xs := [.tmp 21, .tmp 23]) (ps := [(.one (.d (.ints .u8 a.f3))), (.one (.d (.ints .u8 b.f3)))]) false (g := .func 21) rfl rfl (lt_ok rfl) rfl (by kernel_rfl) rfl (.cons (.one (.d _)) (.cons (.one (.d _)) .nil)) (ok_laws_eqByteS a.f3 b.f3) (.inr rfl) rfl (by simp) rfl) ?_
    refine TL.cons rfl (Step.not (b := (decide (a.f3 = b.f3))) rfl rfl (lt_ok rfl) rfl) ?_
    refine TL.nil ?_
    refine T.cond (b := !(decide (a.f3 = b.f3))) rfl (fun h4 => ?_) (fun h4 => ?_)
    ·
     replace h4 : (decide (a.f3 = b.f3)) = false := by simpa only [Bool.not_eq_true', Bool.not_eq_false'] using h4
     replace h4 := of_decide_eq_false h4
     refine T.seq ?_
     refine T.region ?_
     refine TL.cons rfl (Step.assign (p := (.one (.d (.bool false)))) rfl rfl (lt_ok rfl) rfl) ?_
     refine TL.nil ?_
     refine T.ret ?_
     exact ⟨[(false, [.d (.bool false)])], (.cons rfl .nil), rfl, [], (RetC.rd' (by (congr 1; symm; first | (apply decide_eq_false; rintro rfl; first | exact absurd rfl ‹¬ _ = _› | contradiction) | (apply decide_eq_true; apply SHead.ext <;> first | assumption | exact Decidable.not_not.1 (by assumption)))) .nil)⟩
    ·
     replace h4 : (decide (a.f3 = b.f3)) = true := by simpa only [Bool.not_eq_true', Bool.not_eq_false'] using h4
     replace h4 := of_decide_eq_true h4
     refine T.skip ?_
     refine T.seq ?_
     refine T.seq ?_
     refine T.region ?_
     refine TL.cons rfl (Step.fieldAddr (q := 0) (off := 4) (n := 1) (one := true) rfl rfl (lt_ok rfl) (by kernel_rfl) (Nat.succ_ne_zero _) rfl) ?_
     refine TL.cons rfl (Step.load_box (c := .d (.ints .u8 a.f4)) rfl rfl (lt_ok rfl) (by kernel_rfl) rfl rfl rfl) ?_
     refine TL.cons rfl (Step.fieldAddr (q := 0) (off := 4) (n := 1) (one := true) rfl rfl (lt_ok rfl) (by kernel_rfl) (Nat.succ_ne_zero _) rfl) ?_
     refine TL.cons rfl (Step.load_box (c := .d (.ints .u8 b.f4)) rfl rfl (lt_ok rfl) (by kernel_rfl) rfl rfl rfl) ?_
     refine TL.cons rfl (Step.call (f := 21) (xs := [.tmp 27, .tmp 29]) (ps := [(.one (.d (.ints .u8 a.f4))), (.one (.d (.ints .u8 b.f4)))]) false (g := .func 21) rfl rfl (lt_ok rfl) rfl (by kernel_rfl) rfl (.cons (.one (.d _)) (.cons (.one (.d _)) .nil)) (ok_laws_eqByteS a.f4 b.f4) (.inr rfl) rfl (by simp) rfl) ?_
     refine TL.cons rfl (Step.not (b := (decide (a.f4 = b.f4))) rfl rfl (lt_ok rfl) rfl) ?_
     refine TL.nil ?_
     refine T.cond (b := !(decide (a.f4 = b.f4))) rfl (fun h5 => ?_) (fun h5 => ?_)
     ·
      replace h5 : (decide (a.f4 = b.f4)) = false := by simpa only [Bool.not_eq_true', Bool.not_eq_false'] using h5
      replace h5 := of_decide_eq_false h5
      refine T.seq ?_
      refine T.region ?_
      refine TL.cons rfl (Step.assign (p := (.one (.d (.bool false)))) rfl rfl (lt_ok rfl) rfl) ?_
      refine TL.nil ?_
      refine T.ret ?_
      exact ⟨[(false, [.d (.bool false)])], (.cons rfl .nil), rfl, [], (RetC.rd' (by (congr 1; symm; first | (apply decide_eq_false; rintro rfl; first | exact absurd rfl ‹¬ _ = _› | contradiction) | (apply decide_eq_true; apply SHead.ext <;> first | assumption | exact Decidable.not_not.1 (by assumption)))) .nil)⟩
     ·
      replace h5 : (decide (a.f4 = b.f4)) = true := by simpa only [Bool.not_eq_true', Bool.not_eq_false'] using h5
      replace h5 := of_decide_eq_true h5
      refine T.skip ?_
      refine T.seq ?_
      refine T.seq ?_
      refine T.region ?_
      refine TL.cons rfl (Step.fieldAddr (q := 0) (off := 5) (n := 5) (one := false) rfl rfl (lt_ok rfl) (by kernel_rfl) (Nat.succ_ne_zero _) rfl) ?_
      refine TL.cons rfl (Step.load_box_agg (n := 5) (qs := [.d (.int .i64 a.f5.f0), .d (.int .i64 a.f5.f1), .d (.ints .u8 a.f5.f2), .d (.ints .u8 a.f5.f3), .d (.bss a.f5.f4)]) rfl rfl (lt_ok rfl) (by kernel_rfl) rfl rfl rfl rfl) ?_
      refine TL.cons rfl (Step.fieldAddr (q := 0) (off := 5) (n := 5) (one := false) rfl rfl (lt_ok rfl) (by kernel_rfl) (Nat.succ_ne_zero _) rfl) ?_
      refine TL.cons rfl (Step.load_box_agg (n := 5) (qs := [.d (.int .i64 b.f5.f0), .d (.int .i64 b.f5.f1), .d (.ints .u8 b.f5.f2), .d (.ints .u8 b.f5.f3), .d (.bss b.f5.f4)]) rfl rfl (lt_ok rfl) (by kernel_rfl) rfl rfl rfl rfl) ?_
      refine TL.cons rfl (Step.call (f := 34) (xs := [.tmp 33, .tmp 35]) (ps := [(.agg [.d (.int .i64 a.f5.f0), .d (.int .i64 a.f5.f1), .d (.ints .u8 a.f5.f2), .d (.ints .u8 a.f5.f3), .d (.bss a.f5.f4)]), (.agg [.d (.int .i64 b.f5.f0), .d (.int .i64 b.f5.f1), .d (.ints .u8 b.f5.f2), .d (.ints .u8 b.f5.f3), .d (.bss b.f5.f4)])]) false (g := .func 34) rfl rfl (lt_ok rfl) rfl (by kernel_rfl) rfl (.cons (.agg (.cons (.d _) (.cons (.d _) (.cons (.d _) (.cons (.d _) (.cons (.d _) .nil)))))) (.cons (.agg (.cons (.d _) (.cons (.d _) (.cons (.d _) (.cons (.d _) (.cons (.d _) .nil)))))) .nil)) (ok_laws_eqQc a.f5 b.f5) (.inr rfl) rfl (by simp) rfl) ?_
      refine TL.cons rfl (Step.not (b := (decide (a.f5 = b.f5))) rfl rfl (lt_ok rfl) rfl) ?_
      refine TL.nil ?_
      refine T.weaken (E' := { tm := [(4, (.one (.d (.bool false)))), (37, (.one (.d (.bool (!(decide (a.f5 = b.f5)))))))], rows := [], boxes := [] }) (Env.le_mk ⟨by kernel_rfl, by kernel_rfl, trivial⟩ trivial trivial) ?_
      refine T.cond (b := !(decide (a.f5 = b.f5))) rfl (fun h6 => ?_) (fun h6 => ?_)
      ·
       replace h6 : (decide (a.f5 = b.f5)) = false := by simpa only [Bool.not_eq_true', Bool.not_eq_false'] using h6
       replace h6 := of_decide_eq_false h6
       refine T.seq ?_
       refine T.region ?_
       refine TL.cons rfl (Step.assign (p := (.one (.d (.bool false)))) rfl rfl (lt_ok rfl) rfl) ?_
       refine TL.nil ?_
       refine T.ret ?_
       exact ⟨[(false, [.d (.bool false)])], (.cons rfl .nil), rfl, [], (RetC.rd' (by (congr 1; symm; first | (apply decide_eq_false; rintro rfl; first | exact absurd rfl ‹¬ _ = _› | contradiction) | (apply decide_eq_true; apply SHead.ext <;> first | assumption | exact Decidable.not_not.1 (by assumption)))) .nil)⟩
      ·
       replace h6 : (decide (a.f5 = b.f5)) = true := by simpa only [Bool.not_eq_true', Bool.not_eq_false'] using h6
       replace h6 := of_decide_eq_true h6
       refine T.skip ?_
       refine T.seq ?_
       refine T.region ?_
       refine TL.cons rfl (Step.assign (p := (.one (.d (.bool true)))) rfl rfl (lt_ok rfl) rfl) ?_
       refine TL.nil ?_
       refine T.ret ?_
       exact ⟨[(false, [.d (.bool true)])], (.cons rfl .nil), rfl, [], (RetC.rd' (by (congr 1; symm; first | (apply decide_eq_false; rintro rfl; first | exact absurd rfl ‹¬ _ = _› | contradiction) | (apply decide_eq_true; apply SHead.ext <;> first | assumption | exact Decidable.not_not.1 (by assumption)))) .nil)⟩
theorem ok_laws_markByteSS (a : List (List Int)) (k : Int) (h0_ : 0 ≤ k) (h1_ : k + cntL (fun x : List Int => (x.length : Int)) a ≤ 4611686018427387904) : MK Try.prog 63 [.one (.mk (.bss a) (.bss (mkBs a k))), .one (.rd (.int .i64 k))] [(false, [.rd (.int .i64 (k + cntL (fun x : List Int => (x.length : Int)) a))])] := by
 refine MK.intro Try.func63 rfl 19 rfl (le_ok rfl) (le_ok rfl) rfl fun w Z IX pin Ts hp => ?_
 refine T.bndRow 900 rfl fun hb_900 => ?_
 simp only [D.size, List.length_map] at hb_900
 refine T.seq ?_
 refine T.region ?_
 refine TL.cons rfl (Step.assign (p := (.one (.d (.int .i64 0)))) rfl rfl (lt_ok rfl) rfl) ?_
 refine TL.nil ?_
 refine T.seq ?_
 refine T.seq ?_
 refine T.region ?_
 refine TL.cons rfl (Step.assign (p := (.one (.d (.int .i64 0)))) rfl rfl (lt_ok rfl) rfl) ?_
 refine TL.nil ?_
 refine T.block ?_
 refine T.loop (ι := Nat) (fun xx_ => { tm := [(0, (.one (.row 900 []))), (4, (.one (.d (.int .i64 0)))), (5, (.one (.d (.int .i64 (xx_ : Int))))), (1, (.one (.d (.int .i64 (k + cntL (fun x : List Int => (x.length : Int)) (a.take xx_))))))], rows := [(900, ((Ts 0), (.bss ((upTo (fun x : List Int => (x.length : Int)) mkB a k xx_).set xx_ (a.getD xx_ [])))))], boxes := [] }) (fun xx_ => xx_ ≤ a.length) (fun xx_ => a.length - xx_) 0 ?_ ?_ ?_
 · exact Env.le_mk ⟨rfl, rfl, by first | exact congrArg (fun x => some (Ts 0, D.bss x)) (upTo_next (df := []) (by omega) rfl) | exact congrArg (fun x => some (Ts 0, D.bss x)) (upTo_first a k []) | rfl | (refine congrArg (fun n => PV.one (.d (.int .i64 n))) ?_; first | omega | (simp; done) | (simp [cntL]; done)), by first | exact congrArg (fun x => some (Ts 0, D.bss x)) (upTo_next (df := []) (by omega) rfl) | exact congrArg (fun x => some (Ts 0, D.bss x)) (upTo_first a k []) | rfl | (refine congrArg (fun n => PV.one (.d (.int .i64 n))) ?_; first | omega | (simp; done) | (simp [cntL]; done)), trivial⟩ ⟨by first | exact congrArg (fun x => some (Ts 0, D.bss x)) (upTo_next (df := []) (by omega) rfl) | exact congrArg (fun x => some (Ts 0, D.bss x)) (upTo_first a k []) | rfl | (refine congrArg (fun n => PV.one (.d (.int .i64 n))) ?_; first | omega | (simp; done) | (simp [cntL]; done)), trivial⟩ trivial
 · exact Nat.zero_le _
 ·
  intro i hx
  try dsimp only at hx ⊢
  refine T.seq ?_
  refine T.seq ?_
  refine T.region ?_
  refine TL.cons rfl (Step.move (p := (.one (.d (.int .i64 (i : Int))))) rfl rfl (lt_ok rfl) rfl) ?_
  refine TL.cons rfl (Step.move (p := (.one (.row 900 []))) rfl rfl (lt_ok rfl) rfl) ?_
  refine TL.cons rfl (Step.len' (e := 24) (z := 1) (d := (.bss ((upTo (fun x : List Int => (x.length : Int)) mkB a k i).set i (a.getD i [])))) (n := a.length) rfl rfl (lt_ok rfl) (by kernel_rfl) rfl rfl (by simp [D.size, upTo_length])) ?_
  refine TL.cons rfl (Step.bin rfl rfl (lt_ok rfl) rfl rfl (Bin.lss (k := .i64) (a := (i : Int)) (b := (a.length : Int)))) ?_
  refine TL.nil ?_
  refine T.cond (b := decide ((i : Int) < (a.length : Int))) rfl (fun h1 => ?_) (fun h1 => ?_)
  ·
   replace h1 := of_decide_eq_true h1
   have hc1 := cntL_take_le (cnt := (fun x : List Int => (x.length : Int))) (fun x => by omega) a (i + 1)
   have hc2 := cntL_take_succ (cnt := (fun x : List Int => (x.length : Int))) (i := i) [] (show i < a.length by omega)
   have hc3 := cntL_nonneg (cnt := (fun x : List Int => (x.length : Int))) (fun x => by omega) (a.take i)
   try dsimp only at hc2
   refine T.skip ?_
   refine T.seq ?_
   refine T.block ?_
   refine T.region ?_
   refine TL.cons rfl (Step.move (p := (.one (.row 900 []))) rfl rfl (lt_ok rfl) rfl) ?_
   refine TL.cons rfl (Step.move (p := (.one (.d (.int .i64 (i : Int))))) rfl rfl (lt_ok rfl) rfl) ?_
   refine TL.cons rfl (Step.index_row (d := (.bss ((upTo (fun x : List Int => (x.length : Int)) mkB a k i).set i (a.getD i [])))) (e := 24) (z := 1) (i := (i : Int)) rfl rfl (lt_ok rfl) (by kernel_rfl) rfl rfl rfl rfl (lt_ok rfl) rfl (by first | omega | (simp; omega)) (by simp only [D.at_, D.cell, D.size, List.length_set, List.length_map, upTo_length]; first | omega | (simp; omega))) ?_
   refine TL.cons rfl (Step.load_row (d := (.bss ((upTo (fun x : List Int => (x.length : Int)) mkB a k i).set i (a.getD i [])))) (c := .row 900 [(i, 0)]) rfl rfl (lt_ok rfl) (by kernel_rfl) rfl rfl (ofRow_sl (cell_set_bss (by simp only [upTo_length]; first | omega | (simp; omega))) rfl)) ?_
   refine TL.cons rfl (Step.move (p := (.one (.d (.int .i64 (k + cntL (fun x : List Int => (x.length : Int)) (a.take i)))))) rfl rfl (lt_ok rfl) rfl) ?_
   refine TL.cons rfl (Step.callM (f := 23) (xs := [.tmp 15, .tmp 16]) (ps := [(.one (.row 900 [(i, 0)])), (.one (.d (.int .i64 (k + cntL (fun x : List Int => (x.length : Int)) (a.take i)))))]) (args := [.one (.mk (.ints .u8 (a.getD i [])) (.ints .u8 (mkB (a.getD i []) (k + cntL (fun x : List Int => (x.length : Int)) (a.take i))))), .one (.rd (.int .i64 (k + cntL (fun x : List Int => (x.length : Int)) (a.take i))))]) (js := [(900, (.bss ((upTo (fun x : List Int => (x.length : Int)) mkB a k i).set i (mkB (a.getD i []) (k + cntL (fun x : List Int => (x.length : Int)) (a.take i))))))]) (x := (.int .i64 ((k + cntL (fun x : List Int => (x.length : Int)) (a.take i)) + ((a.getD i []).length : Int)))) (g := .func 23) rfl rfl (lt_ok rfl) rfl (by kernel_rfl) rfl rfl (.row (T := (Ts 0)) (d := (.bss ((upTo (fun x : List Int => (x.length : Int)) mkB a k i).set i (a.getD i [])))) (e' := (.ints .u8 (mkB (a.getD i []) (k + cntL (fun x : List Int => (x.length : Int)) (a.take i))))) (d' := (.bss ((upTo (fun x : List Int => (x.length : Int)) mkB a k i).set i (mkB (a.getD i []) (k + cntL (fun x : List Int => (x.length : Int)) (a.take i)))))) rfl (cell_set_bss (by simp only [upTo_length]; first | omega | (simp; omega))) rfl putAt_bss2 rfl (by simp [D.size]) rfl rfl (.d .nil)) (ok_laws_markByteS (a.getD i []) (k + cntL (fun x : List Int => (x.length : Int)) (a.take i)) (by omega) (by first | omega | (have := (by assumption); omega))) rfl) ?_
   refine TL.cons rfl (Step.assign (p := (.one (.d (.int .i64 ((k + cntL (fun x : List Int => (x.length : Int)) (a.take i)) + ((a.getD i []).length : Int)))))) rfl rfl (lt_ok rfl) rfl) ?_
   refine TL.nil ?_
   refine T.region ?_
   refine TL.cons rfl (Step.move (p := (.one (.d (.int .i64 (i : Int))))) rfl rfl (lt_ok rfl) rfl) ?_
   refine TL.cons rfl (Step.bin (r := .int .i64 ((i : Int) + 1)) rfl rfl (lt_ok rfl) rfl rfl (Bin.add (a := (i : Int)) (b := 1) (by first | exact wrap_ok (by first | omega | (simp; omega)) (by first | omega | (simp; omega)) | rfl))) ?_
   refine TL.cons rfl (Step.assign (p := (.one (.d (.int .i64 ((i : Int) + 1))))) rfl rfl (lt_ok rfl) rfl) ?_
   refine TL.nil ?_
   exact ⟨i + 1, by omega, by first | omega | (dsimp only; omega), Env.le_mk ⟨rfl, rfl, by first | exact congrArg (fun x => some (Ts 0, D.bss x)) (upTo_next (df := []) (by omega) rfl) | exact congrArg (fun x => some (Ts 0, D.bss x)) (upTo_first a k []) | rfl | (refine congrArg (fun n => PV.one (.d (.int .i64 n))) ?_; first | omega | (simp; done) | (simp [cntL]; done)), by first | exact congrArg (fun x => some (Ts 0, D.bss x)) (upTo_next (df := []) (by omega) rfl) | exact congrArg (fun x => some (Ts 0, D.bss x)) (upTo_first a k []) | rfl | (refine congrArg (fun n => PV.one (.d (.int .i64 n))) ?_; first | omega | (simp; done) | (simp [cntL]; done)), trivial⟩ ⟨by first | exact congrArg (fun x => some (Ts 0, D.bss x)) (upTo_next (df := []) (by omega) rfl) | exact congrArg (fun x => some (Ts 0, D.bss x)) (upTo_first a k []) | rfl | (refine congrArg (fun n => PV.one (.d (.int .i64 n))) ?_; first | omega | (simp; done) | (simp [cntL]; done)), trivial⟩ trivial⟩
  ·
   replace h1 := of_decide_eq_false h1
   refine T.exit ?_
   refine T.seq ?_
   refine T.region ?_
   refine TL.cons rfl (Step.move (p := (.one (.d (.int .i64 (k + cntL (fun x : List Int => (x.length : Int)) (a.take i)))))) rfl rfl (lt_ok rfl) rfl) ?_
   refine TL.cons rfl (Step.assign (p := (.one (.d (.int .i64 (k + cntL (fun x : List Int => (x.length : Int)) (a.take i)))))) rfl rfl (lt_ok rfl) rfl) ?_
   refine TL.nil ?_
   refine T.ret ?_
   exact ⟨⟨⟨[(false, [.d (.int .i64 (k + cntL (fun x : List Int => (x.length : Int)) (a.take i)))])], (.cons rfl .nil), rfl, [], (RetC.rd' (by (congr 1; rw [cntL_all (by omega)])) .nil)⟩, rfl⟩, (.mk' (by exact congrArg (fun x => some (Ts 0, D.bss x)) (upTo_end (by omega))) (.rd .nil'))⟩
theorem ok_laws_markQc (a : SQc) (k : Int) (h0_ : 0 ≤ k) (h1_ : k + a.cm ≤ 4611686018427387904) : MK Try.prog 35 [.agg [.rd (.int .i64 a.f0), .rd (.int .i64 a.f1), .mk (.ints .u8 a.f2) (.ints .u8 (mkB a.f2 k)), .mk (.ints .u8 a.f3) (.ints .u8 (mkB a.f3 (k + (a.f2.length : Int)))), .mk (.bss a.f4) (.bss (mkBs a.f4 ((k + (a.f2.length : Int)) + (a.f3.length : Int))))], .one (.rd (.int .i64 k))] [(false, [.rd (.int .i64 (k + a.cm))])] := by
 refine MK.intro Try.func35 rfl 18 rfl (le_ok rfl) (le_ok rfl) rfl fun w Z IX pin Ts hp => ?_
 have n4 := cntBs_nonneg a.f4
 simp only [SQc.cm] at h1_
 refine T.seq ?_
 refine T.region ?_
 refine TL.cons rfl (Step.box (p := (.agg [.d (.int .i64 a.f0), .d (.int .i64 a.f1), .row 902 [], .row 903 [], .row 904 []])) (ps := [.d (.int .i64 a.f0), .d (.int .i64 a.f1), .row 902 [], .row 903 [], .row 904 []]) rfl rfl (lt_ok rfl) rfl rfl rfl rfl rfl) ?_
 refine TL.cons rfl (Step.assign (p := (.one (.d (.int .i64 0)))) rfl rfl (lt_ok rfl) rfl) ?_
 refine TL.nil ?_
 refine T.seq ?_
 refine T.region ?_
 refine TL.cons rfl (Step.fieldAddr (q := 0) (off := 2) (n := 1) (one := true) rfl rfl (lt_ok rfl) (by kernel_rfl) (Nat.succ_ne_zero _) rfl) ?_
 refine TL.cons rfl (Step.load_box (c := .row 902 []) rfl rfl (lt_ok rfl) (by kernel_rfl) rfl rfl rfl) ?_
 refine TL.cons rfl (Step.move (p := (.one (.d (.int .i64 k)))) rfl rfl (lt_ok rfl) rfl) ?_
 refine TL.cons rfl (Step.callM (f := 23) (xs := [.tmp 6, .tmp 7]) (ps := [(.one (.row 902 [])), (.one (.d (.int .i64 k)))]) (args := [.one (.mk (.ints .u8 a.f2) (.ints .u8 (mkB a.f2 k))), .one (.rd (.int .i64 k))]) (js := [(902, (.ints .u8 (mkB a.f2 k)))]) (x := (.int .i64 (k + (a.f2.length : Int)))) (g := .func 23) rfl rfl (lt_ok rfl) rfl (by kernel_rfl) rfl rfl (.row (T := (Ts 2)) (d := (.ints .u8 a.f2)) (e' := (.ints .u8 (mkB a.f2 k))) (d' := (.ints .u8 (mkB a.f2 k))) rfl rfl rfl rfl rfl (by simp [D.size, mkL_length]) rfl rfl (.d .nil)) (ok_laws_markByteS a.f2 k (by omega) (by first | omega | (have := (by assumption); omega))) rfl) ?_
 refine TL.cons rfl (Step.assign (p := (.one (.d (.int .i64 (k + (a.f2.length : Int)))))) rfl rfl (lt_ok rfl) rfl) ?_
 refine TL.nil ?_
 refine T.seq ?_
 refine T.region ?_
 refine TL.cons rfl (Step.fieldAddr (q := 0) (off := 3) (n := 1) (one := true) rfl rfl (lt_ok rfl) (by kernel_rfl) (Nat.succ_ne_zero _) rfl) ?_
 refine TL.cons rfl (Step.load_box (c := .row 903 []) rfl rfl (lt_ok rfl) (by kernel_rfl) rfl rfl rfl) ?_
 refine TL.cons rfl (Step.move (p := (.one (.d (.int .i64 (k + (a.f2.length : Int)))))) rfl rfl (lt_ok rfl) rfl) ?_
 refine TL.cons rfl (Step.callM (f := 23) (xs := [.tmp 10, .tmp 11]) (ps := [(.one (.row 903 [])), (.one (.d (.int .i64 (k + (a.f2.length : Int)))))]) (args := [.one (.mk (.ints .u8 a.f3) (.ints .u8 (mkB a.f3 (k + (a.f2.length : Int))))), .one (.rd (.int .i64 (k + (a.f2.length : Int))))]) (js := [(903, (.ints .u8 (mkB a.f3 (k + (a.f2.length : Int)))))]) (x := (.int .i64 ((k + (a.f2.length : Int)) + (a.f3.length : Int)))) (g := .func 23) rfl rfl (lt_ok rfl) rfl (by kernel_rfl) rfl rfl (.row (T := (Ts 3)) (d := (.ints .u8 a.f3)) (e' := (.ints .u8 (mkB a.f3 (k + (a.f2.length : Int))))) (d' := (.ints .u8 (mkB a.f3 (k + (a.f2.length : Int))))) rfl rfl rfl rfl rfl (by simp [D.size, mkL_length]) rfl rfl (.d .nil)) (ok_laws_markByteS a.f3 (k + (a.f2.length : Int)) (by omega) (by first | omega | (have := (by assumption); omega))) rfl) ?_
 refine TL.cons rfl (Step.assign (p := (.one (.d (.int .i64 ((k + (a.f2.length : Int)) + (a.f3.length : Int)))))) rfl rfl (lt_ok rfl) rfl) ?_
 refine TL.nil ?_
 refine T.seq ?_
 refine T.region ?_
 refine TL.cons rfl (Step.fieldAddr (q := 0) (off := 4) (n := 1) (one := true) rfl rfl (lt_ok rfl) (by kernel_rfl) (Nat.succ_ne_zero _) rfl) ?_
 refine TL.cons rfl (Step.load_box (c := .row 904 []) rfl rfl (lt_ok rfl) (by kernel_rfl) rfl rfl rfl) ?_
 refine TL.cons rfl (Step.move (p := (.one (.d (.int .i64 ((k + (a.f2.length : Int)) + (a.f3.length : Int)))))) rfl rfl (lt_ok rfl) rfl) ?_
 have nn1 := cntBs_nonneg a.f4
 refine TL.cons rfl (Step.callM (f := 63) (xs := [.tmp 14, .tmp 15]) (ps := [(.one (.row 904 [])), (.one (.d (.int .i64 ((k + (a.f2.length : Int)) + (a.f3.length : Int)))))]) (args := [.one (.mk (.bss a.f4) (.bss (mkBs a.f4 ((k + (a.f2.length : Int)) + (a.f3.length : Int))))), .one (.rd (.int .i64 ((k + (a.f2.length : Int)) + (a.f3.length : Int))))]) (js := [(904, (.bss (mkBs a.f4 ((k + (a.f2.length : Int)) + (a.f3.length : Int)))))]) (x := (.int .i64 (((k + (a.f2.length : Int)) + (a.f3.length : Int)) + cntL (fun x : List Int => (x.length : Int)) a.f4))) (g := .func 63) rfl rfl (lt_ok rfl) rfl (by kernel_rfl) rfl rfl (.row (T := (Ts 4)) (d := (.bss a.f4)) (e' := (.bss (mkBs a.f4 ((k + (a.f2.length : Int)) + (a.f3.length : Int))))) (d' := (.bss (mkBs a.f4 ((k + (a.f2.length : Int)) + (a.f3.length : Int))))) rfl rfl rfl rfl rfl (by simp [D.size, mkL_length]) rfl rfl (.d .nil)) (ok_laws_markByteSS a.f4 ((k + (a.f2.length : Int)) + (a.f3.length : Int)) (by omega) (by first | omega | (have := cntBs_le (xs := a.f4) (by assumption); omega))) rfl) ?_
 refine TL.cons rfl (Step.assign (p := (.one (.d (.int .i64 (((k + (a.f2.length : Int)) + (a.f3.length : Int)) + cntL (fun x : List Int => (x.length : Int)) a.f4))))) rfl rfl (lt_ok rfl) rfl) ?_
 refine TL.nil ?_
 refine T.seq ?_
 refine T.region ?_
 refine TL.cons rfl (Step.move (p := (.one (.d (.int .i64 (((k + (a.f2.length : Int)) + (a.f3.length : Int)) + cntL (fun x : List Int => (x.length : Int)) a.f4))))) rfl rfl (lt_ok rfl) rfl) ?_
 refine TL.cons rfl (Step.assign (p := (.one (.d (.int .i64 (((k + (a.f2.length : Int)) + (a.f3.length : Int)) + cntL (fun x : List Int => (x.length : Int)) a.f4))))) rfl rfl (lt_ok rfl) rfl) ?_
 refine TL.nil ?_
 refine T.ret ?_
 exact ⟨⟨⟨[(false, [.d (.int .i64 (((k + (a.f2.length : Int)) + (a.f3.length : Int)) + cntL (fun x : List Int => (x.length : Int)) a.f4))])], (.cons rfl .nil), rfl, [], (RetC.rd' (by first | rfl | (congr 1; simp only [SQc.cm]; omega)) .nil)⟩, rfl⟩, (.rd (.rd (.mk' (by rfl) (.mk' (by rfl) (.mk' (by rfl) (.rd .nil'))))))⟩
theorem ok_laws_markHead (a : SHead) (k : Int) (h0_ : 0 ≤ k) (h1_ : k + a.cm ≤ 4611686018427387904) : MK Try.prog 40 [.agg [.rd (.int .i64 a.f0), .rd (.int .i64 a.f1), .rd (.int .i64 a.f2), .mk (.ints .u8 a.f3) (.ints .u8 (mkB a.f3 k)), .mk (.ints .u8 a.f4) (.ints .u8 (mkB a.f4 (k + (a.f3.length : Int)))), .rd (.int .i64 a.f5.f0), .rd (.int .i64 a.f5.f1), .mk (.ints .u8 a.f5.f2) (.ints .u8 (mkB a.f5.f2 ((k + (a.f3.length : Int)) + (a.f4.length : Int)))), .mk (.ints .u8 a.f5.f3) (.ints .u8 (mkB a.f5.f3 (((k + (a.f3.length : Int)) + (a.f4.length : Int)) + (a.f5.f2.length : Int)))), .mk (.bss a.f5.f4) (.bss (mkBs a.f5.f4 ((((k + (a.f3.length : Int)) + (a.f4.length : Int)) + (a.f5.f2.length : Int)) + (a.f5.f3.length : Int))))], .one (.rd (.int .i64 k))] [(false, [.rd (.int .i64 (k + a.cm))])] := by
 refine MK.intro Try.func40 rfl 18 rfl (le_ok rfl) (le_ok rfl) rfl fun w Z IX pin Ts hp => ?_
 have n5 := SQc.cm_nn a.f5
 simp only [SHead.cm] at h1_
 refine T.seq ?_
 refine T.region ?_
 refine TL.cons rfl (Step.box (p := (.agg [.d (.int .i64 a.f0), .d (.int .i64 a.f1), .d (.int .i64 a.f2), .row 903 [], .row 904 [], .d (.int .i64 a.f5.f0), .d (.int .i64 a.f5.f1), .row 907 [], .row 908 [], .row 909 []])) (ps := [.d (.int .i64 a.f0), .d (.int .i64 a.f1), .d (.int .i64 a.f2), .row 903 [], .row 904 [], .d (.int .i64 a.f5.f0), .d (.int .i64 a.f5.f1), .row 907 [], .row 908 [], .row 909 []]) rfl rfl (lt_ok rfl) rfl rfl rfl rfl rfl) ?_
 refine TL.cons rfl (Step.assign (p := (.one (.d (.int .i64 0)))) rfl rfl (lt_ok rfl) rfl) ?_
 refine TL.nil ?_
 refine T.seq ?_
 refine T.region ?_
 refine TL.cons rfl (Step.fieldAddr (q := 0) (off := 3) (n := 1) (one := true) rfl rfl (lt_ok rfl) (by kernel_rfl) (Nat.succ_ne_zero _) rfl) ?_
 refine TL.cons rfl (Step.load_box (c := .row 903 []) rfl rfl (lt_ok rfl) (by kernel_rfl) rfl rfl rfl) ?_
 refine TL.cons rfl (Step.move (p := (.one (.d (.int .i64 k)))) rfl rfl (lt_ok rfl) rfl) ?_
 refine TL.cons rfl (Step.callM (f := 23) (xs := [.tmp 6, .tmp 7]) (ps := [(.one (.row 903 [])), (.one (.d (.int .i64 k)))]) (args := [.one (.mk (.ints .u8 a.f3) (.ints .u8 (mkB a.f3 k))), .one (.rd (.int .i64 k))]) (js := [(903, (.ints .u8 (mkB a.f3 k)))]) (x := (.int .i64 (k + (a.f3.length : Int)))) (g := .func 23) rfl rfl (lt_ok rfl) rfl (by kernel_rfl) rfl rfl (.row (T := (Ts 3)) (d := (.ints .u8 a.f3)) (e' := (.ints .u8 (mkB a.f3 k))) (d' := (.ints .u8 (mkB a.f3 k))) rfl rfl rfl rfl rfl (by simp [D.size, mkL_length]) rfl rfl (.d .nil)) (ok_laws_markByteS a.f3 k (by omega) (by first | omega | (have := (by assumption); omega))) rfl) ?_
 refine TL.cons rfl (Step.assign (p := (.one (.d (.int .i64 (k + (a.f3.length : Int)))))) rfl rfl (lt_ok rfl) rfl) ?_
 refine TL.nil ?_
 refine T.seq ?_
 refine T.region ?_
 refine TL.cons rfl (Step.fieldAddr (q := 0) (off := 4) (n := 1) (one := true) rfl rfl (lt_ok rfl) (by kernel_rfl) (Nat.succ_ne_zero _) rfl) ?_
 refine TL.cons rfl (Step.load_box (c := .row 904 []) rfl rfl (lt_ok rfl) (by kernel_rfl) rfl rfl rfl) ?_
 refine TL.cons rfl (Step.move (p := (.one (.d (.int .i64 (k + (a.f3.length : Int)))))) rfl rfl (lt_ok rfl) rfl) ?_
 refine TL.cons rfl (Step.callM (f := 23) (xs := [.tmp 10, .tmp 11]) (ps := [(.one (.row 904 [])), (.one (.d (.int .i64 (k + (a.f3.length : Int)))))]) (args := [.one (.mk (.ints .u8 a.f4) (.ints .u8 (mkB a.f4 (k + (a.f3.length : Int))))), .one (.rd (.int .i64 (k + (a.f3.length : Int))))]) (js := [(904, (.ints .u8 (mkB a.f4 (k + (a.f3.length : Int)))))]) (x := (.int .i64 ((k + (a.f3.length : Int)) + (a.f4.length : Int)))) (g := .func 23) rfl rfl (lt_ok rfl) rfl (by kernel_rfl) rfl rfl (.row (T := (Ts 4)) (d := (.ints .u8 a.f4)) (e' := (.ints .u8 (mkB a.f4 (k + (a.f3.length : Int))))) (d' := (.ints .u8 (mkB a.f4 (k + (a.f3.length : Int))))) rfl rfl rfl rfl rfl (by simp [D.size, mkL_length]) rfl rfl (.d .nil)) (ok_laws_markByteS a.f4 (k + (a.f3.length : Int)) (by omega) (by first | omega | (have := (by assumption); omega))) rfl) ?_
 refine TL.cons rfl (Step.assign (p := (.one (.d (.int .i64 ((k + (a.f3.length : Int)) + (a.f4.length : Int)))))) rfl rfl (lt_ok rfl) rfl) ?_
 refine TL.nil ?_
 refine T.seq ?_
 refine T.region ?_
 refine TL.cons rfl (Step.fieldAddr (q := 0) (off := 5) (n := 5) (one := false) rfl rfl (lt_ok rfl) (by kernel_rfl) (Nat.succ_ne_zero _) rfl) ?_
 refine TL.cons rfl (Step.load_box_agg (n := 5) (qs := [.d (.int .i64 a.f5.f0), .d (.int .i64 a.f5.f1), .row 907 [], .row 908 [], .row 909 []]) rfl rfl (lt_ok rfl) (by kernel_rfl) rfl rfl rfl rfl) ?_
 refine TL.cons rfl (Step.move (p := (.one (.d (.int .i64 ((k + (a.f3.length : Int)) + (a.f4.length : Int)))))) rfl rfl (lt_ok rfl) rfl) ?_
 have nn1 := SQc.cm_nn a.f5
 refine TL.cons rfl (Step.callM (f := 35) (xs := [.tmp 14, .tmp 15]) (ps := [(.agg [.d (.int .i64 a.f5.f0), .d (.int .i64 a.f5.f1), .row 907 [], .row 908 [], .row 909 []]), (.one (.d (.int .i64 ((k + (a.f3.length : Int)) + (a.f4.length : Int)))))]) (args := [.agg [.rd (.int .i64 a.f5.f0), .rd (.int .i64 a.f5.f1), .mk (.ints .u8 a.f5.f2) (.ints .u8 (mkB a.f5.f2 ((k + (a.f3.length : Int)) + (a.f4.length : Int)))), .mk (.ints .u8 a.f5.f3) (.ints .u8 (mkB a.f5.f3 (((k + (a.f3.length : Int)) + (a.f4.length : Int)) + (a.f5.f2.length : Int)))), .mk (.bss a.f5.f4) (.bss (mkBs a.f5.f4 ((((k + (a.f3.length : Int)) + (a.f4.length : Int)) + (a.f5.f2.length : Int)) + (a.f5.f3.length : Int))))], .one (.rd (.int .i64 ((k + (a.f3.length : Int)) + (a.f4.length : Int))))]) (js := [(907, (.ints .u8 (mkB a.f5.f2 ((k + (a.f3.length : Int)) + (a.f4.length : Int))))), (908, (.ints .u8 (mkB a.f5.f3 (((k + (a.f3.length : Int)) + (a.f4.length : Int)) + (a.f5.f2.length : Int))))), (909, (.bss (mkBs a.f5.f4 ((((k + (a.f3.length : Int)) + (a.f4.length : Int)) + (a.f5.f2.length : Int)) + (a.f5.f3.length : Int)))))]) (x := (.int .i64 (((k + (a.f3.length : Int)) + (a.f4.length : Int)) + a.f5.cm))) (g := .func 35) rfl rfl (lt_ok rfl) rfl (by kernel_rfl) rfl rfl (.d (.d (.row (T := (Ts 7)) (d := (.ints .u8 a.f5.f2)) (e' := (.ints .u8 (mkB a.f5.f2 ((k + (a.f3.length : Int)) + (a.f4.length : Int))))) (d' := (.ints .u8 (mkB a.f5.f2 ((k + (a.f3.length : Int)) + (a.f4.length : Int))))) rfl rfl rfl rfl rfl (by simp [D.size, mkL_length]) rfl rfl (.row (T := (Ts 8)) (d := (.ints .u8 a.f5.f3)) (e' := (.ints .u8 (mkB a.f5.f3 (((k + (a.f3.length : Int)) + (a.f4.length : Int)) + (a.f5.f2.length : Int))))) (d' := (.ints .u8 (mkB a.f5.f3 (((k + (a.f3.length : Int)) + (a.f4.length : Int)) + (a.f5.f2.length : Int))))) rfl rfl rfl rfl rfl (by simp [D.size, mkL_length]) rfl rfl (.row (T := (Ts 9)) (d := (.bss a.f5.f4)) (e' := (.bss (mkBs a.f5.f4 ((((k + (a.f3.length : Int)) + (a.f4.length : Int)) + (a.f5.f2.length : Int)) + (a.f5.f3.length : Int))))) (d' := (.bss (mkBs a.f5.f4 ((((k + (a.f3.length : Int)) + (a.f4.length : Int)) + (a.f5.f2.length : Int)) + (a.f5.f3.length : Int))))) rfl rfl rfl rfl rfl (by simp [D.size, mkL_length]) rfl rfl (.d .nil)))))) (ok_laws_markQc a.f5 ((k + (a.f3.length : Int)) + (a.f4.length : Int)) (by omega) (by first | omega | (have := SQc.cm_le (x := a.f5) (by assumption); omega))) rfl) ?_
 refine TL.cons rfl (Step.assign (p := (.one (.d (.int .i64 (((k + (a.f3.length : Int)) + (a.f4.length : Int)) + a.f5.cm))))) rfl rfl (lt_ok rfl) rfl) ?_
 refine TL.nil ?_
 refine T.seq ?_
 refine T.region ?_
 refine TL.cons rfl (Step.move (p := (.one (.d (.int .i64 (((k + (a.f3.length : Int)) + (a.f4.length : Int)) + a.f5.cm))))) rfl rfl (lt_ok rfl) rfl) ?_
 refine TL.cons rfl (Step.assign (p := (.one (.d (.int .i64 (((k + (a.f3.length : Int)) + (a.f4.length : Int)) + a.f5.cm))))) rfl rfl (lt_ok rfl) rfl) ?_
 refine TL.nil ?_
 refine T.ret ?_
 exact ⟨⟨⟨[(false, [.d (.int .i64 (((k + (a.f3.length : Int)) + (a.f4.length : Int)) + a.f5.cm))])], (.cons rfl .nil), rfl, [], (RetC.rd' (by first | rfl | (congr 1; simp only [SHead.cm]; omega)) .nil)⟩, rfl⟩, (.rd (.rd (.rd (.mk' (by rfl) (.mk' (by rfl) (.rd (.rd (.mk' (by rfl) (.mk' (by rfl) (.mk' (by rfl) (.rd .nil')))))))))))⟩
theorem ok_laws_heldByteS (a : List Int) (b : List Int) (k : Int) (h0_ : 0 ≤ k) (h1_ : k + (a.length : Int) ≤ 4611686018427387904) (h2_ : b = mkB a k) : RO Try.prog 25 [.one (.ints .u8 b), .one (.int .i64 k)] [(false, [.rd (.int .i64 (k + (a.length : Int)))])] := by
 refine RO.intro Try.func25 rfl 22 rfl (le_ok rfl) fun w Z => ?_
 refine T.bnd 0 0 rfl rfl fun hb_0_0 => ?_
 simp only [D.size, List.length_map] at hb_0_0
 have hl_ : b.length = a.length := by rw [h2_, mkL_length]
 have hg_ : ∀ i, i < a.length → b.getD i 0 = (k + (i : Int)) % 256 := fun i hi => by rw [h2_, mkL_getD _ _ _ _ hi]; simp only [cntL_one_take a i (by omega)]
 refine T.seq ?_
 refine T.region ?_
 refine TL.cons rfl (Step.assign (p := (.one (.d (.int .i64 0)))) rfl rfl (lt_ok rfl) rfl) ?_
 refine TL.nil ?_
 refine T.seq ?_
 refine T.seq ?_
 refine T.region ?_
 refine TL.cons rfl (Step.assign (p := (.one (.d (.int .i64 0)))) rfl rfl (lt_ok rfl) rfl) ?_
 refine TL.nil ?_
 refine T.block ?_
 refine T.loop (ι := Nat) (fun xx_ => { tm := [(0, (.one (.d (.ints .u8 b)))), (5, (.one (.d (.int .i64 (xx_ : Int))))), (1, (.one (.d (.int .i64 (k + (xx_ : Int))))))], rows := [], boxes := [] }) (fun xx_ => xx_ ≤ a.length) (fun xx_ => a.length - xx_) 0 ?_ ?_ ?_
 · exact Env.le_mk ⟨rfl, by first | rfl | (refine congrArg (fun n => PV.one (.d (.int .i64 n))) ?_; first | omega | (simp; done) | (simp [cntL]; done)), by first | rfl | (refine congrArg (fun n => PV.one (.d (.int .i64 n))) ?_; first | omega | (simp; done) | (simp [cntL]; done)), trivial⟩ trivial trivial
 · exact Nat.zero_le _
 ·
  intro i hx
  try dsimp only at hx ⊢
  refine T.seq ?_
  refine T.seq ?_
  refine T.region ?_
  refine TL.cons rfl (Step.move (p := (.one (.d (.int .i64 (i : Int))))) rfl rfl (lt_ok rfl) rfl) ?_
  refine TL.cons rfl (Step.move (p := (.one (.d (.ints .u8 b)))) rfl rfl (lt_ok rfl) rfl) ?_
  refine TL.cons rfl (Step.len (e := 5) (z := 1) (d := (.ints .u8 b)) rfl rfl (lt_ok rfl) (by kernel_rfl) rfl rfl) ?_
  refine TL.cons rfl (Step.bin rfl rfl (lt_ok rfl) rfl rfl (Bin.lss (k := .i64) (a := (i : Int)) (b := (b.length : Int)))) ?_
  refine TL.nil ?_
  refine T.cond (b := decide ((i : Int) < (b.length : Int))) rfl (fun h1 => ?_) (fun h1 => ?_)
  ·
   replace h1 := of_decide_eq_true h1
   refine T.skip ?_
   refine T.seq ?_
   refine T.block ?_
   refine T.seq ?_
   refine T.seq ?_
   refine T.region ?_
   refine TL.cons rfl (Step.move (p := (.one (.d (.ints .u8 b)))) rfl rfl (lt_ok rfl) rfl) ?_
   refine TL.cons rfl (Step.move (p := (.one (.d (.int .i64 (i : Int))))) rfl rfl (lt_ok rfl) rfl) ?_
   refine TL.cons rfl (Step.index (e := 5) (z := 1) (i := (i : Int)) rfl rfl (lt_ok rfl) (by kernel_rfl) rfl rfl rfl (lt_ok rfl) rfl (by first | omega | (simp; omega)) (by simp only [D.size]; first | omega | (simp; omega))) ?_
   refine TL.cons rfl (Step.load (e := (.int .u8 (b.getD i 0))) rfl rfl (lt_ok rfl) (by kernel_rfl) rfl rfl) ?_
   refine TL.cons rfl (Step.move (p := (.one (.d (.int .i64 (k + (i : Int)))))) rfl rfl (lt_ok rfl) rfl) ?_
   refine TL.cons rfl (Step.conv (c := ((k + (i : Int)) % 256)) rfl rfl (lt_ok rfl) (by kernel_rfl) (by kernel_rfl) rfl (wrap_byte _)) ?_
   refine TL.cons rfl (Step.bin rfl rfl (lt_ok rfl) rfl rfl (Bin.neq (k := .u8) (a := (b.getD i 0)) (b := ((k + (i : Int)) % 256)))) ?_
   refine TL.nil ?_
   refine T.cond (b := decide ((b.getD i 0) ≠ ((k + (i : Int)) % 256))) rfl (fun h2 => ?_) (fun h2 => ?_)
   ·
    replace h2 := of_decide_eq_true h2
    refine T.seq ?_
    refine T.region ?_
    refine TL.cons rfl (Step.assign (p := (.one (.d (.int .i64 (-1))))) rfl rfl (lt_ok rfl) rfl) ?_
    refine TL.nil ?_
    refine T.ret ?_
    exact ⟨[(false, [.d (.int .i64 (-1))])], (.cons rfl .nil), rfl, [], (RetC.rd' (by first | (congr 1; omega) | (exfalso; have := hg_ i (by omega); omega)) .nil)⟩
   ·
    replace h2 := of_decide_eq_false h2
    refine T.skip ?_
    refine T.region ?_
    refine TL.cons rfl (Step.move (p := (.one (.d (.int .i64 (k + (i : Int)))))) rfl rfl (lt_ok rfl) rfl) ?_
    refine TL.cons rfl (Step.bin (r := .int .i64 ((k + (i : Int)) + 1)) rfl rfl (lt_ok rfl) rfl rfl (Bin.add (a := (k + (i : Int))) (b := 1) (by first | exact wrap_ok (by first | omega | (simp; omega)) (by first | omega | (simp; omega)) | rfl))) ?_
    refine TL.cons rfl (Step.assign (p := (.one (.d (.int .i64 ((k + (i : Int)) + 1))))) rfl rfl (lt_ok rfl) rfl) ?_
    refine TL.nil ?_
    refine T.region ?_
    refine TL.cons rfl (Step.move (p := (.one (.d (.int .i64 (i : Int))))) rfl rfl (lt_ok rfl) rfl) ?_
    refine TL.cons rfl (Step.bin (r := .int .i64 ((i : Int) + 1)) rfl rfl (lt_ok rfl) rfl rfl (Bin.add (a := (i : Int)) (b := 1) (by first | exact wrap_ok (by first | omega | (simp; omega)) (by first | omega | (simp; omega)) | rfl))) ?_
    refine TL.cons rfl (Step.assign (p := (.one (.d (.int .i64 ((i : Int) + 1))))) rfl rfl (lt_ok rfl) rfl) ?_
    refine TL.nil ?_
    exact ⟨i + 1, by omega, by first | omega | (dsimp only; omega), Env.le_mk ⟨rfl, by first | rfl | (refine congrArg (fun n => PV.one (.d (.int .i64 n))) ?_; first | omega | (simp; done) | (simp [cntL]; done)), by first | rfl | (refine congrArg (fun n => PV.one (.d (.int .i64 n))) ?_; first | omega | (simp; done) | (simp [cntL]; done)), trivial⟩ trivial trivial⟩
  ·
   replace h1 := of_decide_eq_false h1
   refine T.exit ?_
   refine T.seq ?_
   refine T.region ?_
   refine TL.cons rfl (Step.move (p := (.one (.d (.int .i64 (k + (i : Int)))))) rfl rfl (lt_ok rfl) rfl) ?_
   refine TL.cons rfl (Step.assign (p := (.one (.d (.int .i64 (k + (i : Int)))))) rfl rfl (lt_ok rfl) rfl) ?_
   refine TL.nil ?_
   refine T.ret ?_
   exact ⟨[(false, [.d (.int .i64 (k + (i : Int)))])], (.cons rfl .nil), rfl, [], (RetC.rd' (by first | (congr 1; omega) | (exfalso; have := hg_ i (by omega); omega)) .nil)⟩
theorem ok_laws_heldByteSS (a : List (List Int)) (b : List (List Int)) (k : Int) (h0_ : 0 ≤ k) (h1_ : k + cntL (fun x : List Int => (x.length : Int)) a ≤ 4611686018427387904) (h2_ : b = mkBs a k) : RO Try.prog 64 [.one (.bss b), .one (.int .i64 k)] [(false, [.rd (.int .i64 (k + cntL (fun x : List Int => (x.length : Int)) a))])] := by
 refine RO.intro Try.func64 rfl 21 rfl (le_ok rfl) fun w Z => ?_
 refine T.bnd 0 0 rfl rfl fun hb_0_0 => ?_
 simp only [D.size, List.length_map] at hb_0_0
 have hl_ : b.length = a.length := by rw [h2_, mkL_length]
 have hg_ : ∀ i, i < a.length → b.getD i [] = mkB (a.getD i []) (k + cntL (fun x : List Int => (x.length : Int)) (a.take i)) := fun i hi => by rw [h2_, mkL_getD _ _ _ _ hi]
 refine T.seq ?_
 refine T.region ?_
 refine TL.cons rfl (Step.assign (p := (.one (.d (.int .i64 0)))) rfl rfl (lt_ok rfl) rfl) ?_
 refine TL.nil ?_
 refine T.seq ?_
 refine T.seq ?_
 refine T.region ?_
 refine TL.cons rfl (Step.assign (p := (.one (.d (.int .i64 0)))) rfl rfl (lt_ok rfl) rfl) ?_
 refine TL.nil ?_
 refine T.block ?_
 refine T.loop (ι := Nat) (fun xx_ => { tm := [(0, (.one (.d (.bss b)))), (5, (.one (.d (.int .i64 (xx_ : Int))))), (1, (.one (.d (.int .i64 (k + cntL (fun x : List Int => (x.length : Int)) (a.take xx_))))))], rows := [], boxes := [] }) (fun xx_ => xx_ ≤ a.length) (fun xx_ => a.length - xx_) 0 ?_ ?_ ?_
 · exact Env.le_mk ⟨rfl, by first | rfl | (refine congrArg (fun n => PV.one (.d (.int .i64 n))) ?_; first | omega | (simp; done) | (simp [cntL]; done)), by first | rfl | (refine congrArg (fun n => PV.one (.d (.int .i64 n))) ?_; first | omega | (simp; done) | (simp [cntL]; done)), trivial⟩ trivial trivial
 · exact Nat.zero_le _
 ·
  intro i hx
  try dsimp only at hx ⊢
  refine T.seq ?_
  refine T.seq ?_
  refine T.region ?_
  refine TL.cons rfl (Step.move (p := (.one (.d (.int .i64 (i : Int))))) rfl rfl (lt_ok rfl) rfl) ?_
  refine TL.cons rfl (Step.move (p := (.one (.d (.bss b)))) rfl rfl (lt_ok rfl) rfl) ?_
  refine TL.cons rfl (Step.len (e := 24) (z := 1) (d := (.bss b)) rfl rfl (lt_ok rfl) (by kernel_rfl) rfl rfl) ?_
  refine TL.cons rfl (Step.bin rfl rfl (lt_ok rfl) rfl rfl (Bin.lss (k := .i64) (a := (i : Int)) (b := (b.length : Int)))) ?_
  refine TL.nil ?_
  refine T.cond (b := decide ((i : Int) < (b.length : Int))) rfl (fun h1 => ?_) (fun h1 => ?_)
  ·
   replace h1 := of_decide_eq_true h1
   have hc1 := cntL_take_le (cnt := (fun x : List Int => (x.length : Int))) (fun x => by omega) a (i + 1)
   have hc2 := cntL_take_succ (cnt := (fun x : List Int => (x.length : Int))) (i := i) [] (show i < a.length by omega)
   have hc3 := cntL_nonneg (cnt := (fun x : List Int => (x.length : Int))) (fun x => by omega) (a.take i)
   have he_ := hg_ i (by omega)
   try dsimp only at hc2
   refine T.skip ?_
   refine T.seq ?_
   refine T.block ?_
   refine T.seq ?_
   refine T.region ?_
   refine TL.cons rfl (Step.move (p := (.one (.d (.bss b)))) rfl rfl (lt_ok rfl) rfl) ?_
   refine TL.cons rfl (Step.move (p := (.one (.d (.int .i64 (i : Int))))) rfl rfl (lt_ok rfl) rfl) ?_
   refine TL.cons rfl (Step.index (e := 24) (z := 1) (i := (i : Int)) rfl rfl (lt_ok rfl) (by kernel_rfl) rfl rfl rfl (lt_ok rfl) rfl (by first | omega | (simp; omega)) (by simp only [D.size]; first | omega | (simp; omega))) ?_
   refine TL.cons rfl (Step.load (e := (.ints .u8 (b.getD i []))) rfl rfl (lt_ok rfl) (by kernel_rfl) rfl rfl) ?_
   refine TL.cons rfl (Step.move (p := (.one (.d (.int .i64 (k + cntL (fun x : List Int => (x.length : Int)) (a.take i)))))) rfl rfl (lt_ok rfl) rfl) ?_
   refine TL.cons rfl (Step.call (f := 25) (xs := [.tmp 15, .tmp 16]) (ps := [(.one (.d (.ints .u8 (b.getD i [])))), (.one (.d (.int .i64 (k + cntL (fun x : List Int => (x.length : Int)) (a.take i)))))]) false (g := .func 25) rfl rfl (lt_ok rfl) rfl (by kernel_rfl) rfl (.cons (.one (.d _)) (.cons (.one (.d _)) .nil)) (ok_laws_heldByteS (a.getD i []) (b.getD i []) (k + cntL (fun x : List Int => (x.length : Int)) (a.take i)) (by omega) (by first | omega | (have := (by assumption); omega)) (by first | rfl | assumption | (repeat' (first | rfl | apply And.intro)))) (.inr rfl) rfl (by simp) rfl) ?_
   refine TL.cons rfl (Step.assign (p := (.one (.d (.int .i64 ((k + cntL (fun x : List Int => (x.length : Int)) (a.take i)) + ((a.getD i []).length : Int)))))) rfl rfl (lt_ok rfl) rfl) ?_
   refine TL.nil ?_
   refine T.seq ?_
   refine T.region ?_
   refine TL.cons rfl (Step.move (p := (.one (.d (.int .i64 ((k + cntL (fun x : List Int => (x.length : Int)) (a.take i)) + ((a.getD i []).length : Int)))))) rfl rfl (lt_ok rfl) rfl) ?_
   refine TL.cons rfl (Step.bin rfl rfl (lt_ok rfl) rfl rfl (Bin.lss (k := .i64) (a := ((k + cntL (fun x : List Int => (x.length : Int)) (a.take i)) + ((a.getD i []).length : Int))) (b := 0))) ?_
   refine TL.known 19 (c := false) (decide_eq_false (by omega)) rfl ?_
   refine TL.nil ?_
   refine T.cond (b := false) rfl (fun h2_ => absurd h2_ (by simp)) (fun h2_ => ?_)
   refine T.skip ?_
   refine T.region ?_
   refine TL.cons rfl (Step.move (p := (.one (.d (.int .i64 (i : Int))))) rfl rfl (lt_ok rfl) rfl) ?_
   refine TL.cons rfl (Step.bin (r := .int .i64 ((i : Int) + 1)) rfl rfl (lt_ok rfl) rfl rfl (Bin.add (a := (i : Int)) (b := 1) (by first | exact wrap_ok (by first | omega | (simp; omega)) (by first | omega | (simp; omega)) | rfl))) ?_
   refine TL.cons rfl (Step.assign (p := (.one (.d (.int .i64 ((i : Int) + 1))))) rfl rfl (lt_ok rfl) rfl) ?_
   refine TL.nil ?_
   exact ⟨i + 1, by omega, by first | omega | (dsimp only; omega), Env.le_mk ⟨rfl, by first | rfl | (refine congrArg (fun n => PV.one (.d (.int .i64 n))) ?_; first | omega | (simp; done) | (simp [cntL]; done)), by first | rfl | (refine congrArg (fun n => PV.one (.d (.int .i64 n))) ?_; first | omega | (simp; done) | (simp [cntL]; done)), trivial⟩ trivial trivial⟩
  ·
   replace h1 := of_decide_eq_false h1
   refine T.exit ?_
   refine T.seq ?_
   refine T.region ?_
   refine TL.cons rfl (Step.move (p := (.one (.d (.int .i64 (k + cntL (fun x : List Int => (x.length : Int)) (a.take i)))))) rfl rfl (lt_ok rfl) rfl) ?_
   refine TL.cons rfl (Step.assign (p := (.one (.d (.int .i64 (k + cntL (fun x : List Int => (x.length : Int)) (a.take i)))))) rfl rfl (lt_ok rfl) rfl) ?_
   refine TL.nil ?_
   refine T.ret ?_
   exact ⟨[(false, [.d (.int .i64 (k + cntL (fun x : List Int => (x.length : Int)) (a.take i)))])], (.cons rfl .nil), rfl, [], (RetC.rd' (by first | (congr 1; rw [cntL_all (by omega)]) | (exfalso; omega)) .nil)⟩
theorem ok_laws_heldQc (a : SQc) (b : SQc) (k : Int) (h0_ : 0 ≤ k) (h1_ : k + a.cm ≤ 4611686018427387904) (h2_ : SQc.hm a b k) : RO Try.prog 36 [.agg b.cells, .one (.int .i64 k)] [(false, [.rd (.int .i64 (k + a.cm))])] := by
 refine RO.intro Try.func36 rfl 24 rfl (le_ok rfl) fun w Z => ?_
 obtain ⟨p2, p3, p4⟩ := h2_
 have n4 := cntBs_nonneg a.f4
 simp only [SQc.cm] at h1_
 refine T.seq ?_
 refine T.region ?_
 refine TL.cons rfl (Step.box (p := (.agg [.d (.int .i64 b.f0), .d (.int .i64 b.f1), .d (.ints .u8 b.f2), .d (.ints .u8 b.f3), .d (.bss b.f4)])) (ps := [.d (.int .i64 b.f0), .d (.int .i64 b.f1), .d (.ints .u8 b.f2), .d (.ints .u8 b.f3), .d (.bss b.f4)]) rfl rfl (lt_ok rfl) rfl rfl rfl rfl rfl) ?_
 refine TL.cons rfl (Step.assign (p := (.one (.d (.int .i64 0)))) rfl rfl (lt_ok rfl) rfl) ?_
 refine TL.nil ?_
 refine T.seq ?_
 refine T.region ?_
 refine TL.cons rfl (Step.fieldAddr (q := 0) (off := 2) (n := 1) (one := true) rfl rfl (lt_ok rfl) (by kernel_rfl) (Nat.succ_ne_zero _) rfl) ?_
 refine TL.cons rfl (Step.load_box (c := .d (.ints .u8 b.f2)) rfl rfl (lt_ok rfl) (by kernel_rfl) rfl rfl rfl) ?_
 refine TL.cons rfl (Step.move (p := (.one (.d (.int .i64 k)))) rfl rfl (lt_ok rfl) rfl) ?_
 refine TL.cons rfl (Step.call (f := 25) (xs := [.tmp 6, .tmp 7]) (ps := [(.one (.d (.ints .u8 b.f2))), (.one (.d (.int .i64 k)))]) false (g := .func 25) rfl rfl (lt_ok rfl) rfl (by kernel_rfl) rfl (.cons (.one (.d _)) (.cons (.one (.d _)) .nil)) (ok_laws_heldByteS a.f2 b.f2 k (by omega) (by first | omega | (have := (by assumption); omega)) (by first | rfl | assumption | (repeat' (first | rfl | apply And.intro)))) (.inr rfl) rfl (by simp) rfl) ?_
 refine TL.cons rfl (Step.assign (p := (.one (.d (.int .i64 (k + (a.f2.length : Int)))))) rfl rfl (lt_ok rfl) rfl) ?_
 refine TL.nil ?_
 refine T.seq ?_
 refine T.seq ?_
 refine T.region ?_
 refine TL.cons rfl (Step.move (p := (.one (.d (.int .i64 (k + (a.f2.length : Int)))))) rfl rfl (lt_ok rfl) rfl) ?_
 refine TL.cons rfl (Step.bin rfl rfl (lt_ok rfl) rfl rfl (Bin.lss (k := .i64) (a := (k + (a.f2.length : Int))) (b := 0))) ?_
 refine TL.known 10 (c := false) (decide_eq_false (by omega)) rfl ?_
 refine TL.nil ?_
 refine T.cond (b := false) rfl (fun h1_ => absurd h1_ (by simp)) (fun h1_ => ?_)
 refine T.skip ?_
 refine T.seq ?_
 refine T.region ?_
 refine TL.cons rfl (Step.fieldAddr (q := 0) (off := 3) (n := 1) (one := true) rfl rfl (lt_ok rfl) (by kernel_rfl) (Nat.succ_ne_zero _) rfl) ?_
 refine TL.cons rfl (Step.load_box (c := .d (.ints .u8 b.f3)) rfl rfl (lt_ok rfl) (by kernel_rfl) rfl rfl rfl) ?_
 refine TL.cons rfl (Step.move (p := (.one (.d (.int .i64 (k + (a.f2.length : Int)))))) rfl rfl (lt_ok rfl) rfl) ?_
 refine TL.cons rfl (Step.call (f := 25) (xs := [.tmp 12, .tmp 13]) (ps := [(.one (.d (.ints .u8 b.f3))), (.one (.d (.int .i64 (k + (a.f2.length : Int)))))]) false (g := .func 25) rfl rfl (lt_ok rfl) rfl (by kernel_rfl) rfl (.cons (.one (.d _)) (.cons (.one (.d _)) .nil)) (ok_laws_heldByteS a.f3 b.f3 (k + (a.f2.length : Int)) (by omega) (by first | omega | (have := (by assumption); omega)) (by first | rfl | assumption | (repeat' (first | rfl | apply And.intro)))) (.inr rfl) rfl (by simp) rfl) ?_
 refine TL.cons rfl (Step.assign (p := (.one (.d (.int .i64 ((k + (a.f2.length : Int)) + (a.f3.length : Int)))))) rfl rfl (lt_ok rfl) rfl) ?_
 refine TL.nil ?_
 refine T.seq ?_
 refine T.seq ?_
 refine T.region ?_
 refine TL.cons rfl (Step.move (p := (.one (.d (.int .i64 ((k + (a.f2.length : Int)) + (a.f3.length : Int)))))) rfl rfl (lt_ok rfl) rfl) ?_
 refine TL.cons rfl (Step.bin rfl rfl (lt_ok rfl) rfl rfl (Bin.lss (k := .i64) (a := ((k + (a.f2.length : Int)) + (a.f3.length : Int))) (b := 0))) ?_
 refine TL.known 16 (c := false) (decide_eq_false (by omega)) rfl ?_
 refine TL.nil ?_
 refine T.cond (b := false) rfl (fun h2_ => absurd h2_ (by simp)) (fun h2_ => ?_)
 refine T.skip ?_
 refine T.seq ?_
 refine T.region ?_
 refine TL.cons rfl (Step.fieldAddr (q := 0) (off := 4) (n := 1) (one := true) rfl rfl (lt_ok rfl) (by kernel_rfl) (Nat.succ_ne_zero _) rfl) ?_
 refine TL.cons rfl (Step.load_box (c := .d (.bss b.f4)) rfl rfl (lt_ok rfl) (by kernel_rfl) rfl rfl rfl) ?_
 refine TL.cons rfl (Step.move (p := (.one (.d (.int .i64 ((k + (a.f2.length : Int)) + (a.f3.length : Int)))))) rfl rfl (lt_ok rfl) rfl) ?_
 have nn3 := cntBs_nonneg a.f4
 refine TL.cons rfl (Step.call (f := 64) (xs := [.tmp 18, .tmp 19]) (ps := [(.one (.d (.bss b.f4))), (.one (.d (.int .i64 ((k + (a.f2.length : Int)) + (a.f3.length : Int)))))]) false (g := .func 64) rfl rfl (lt_ok rfl) rfl (by kernel_rfl) rfl (.cons (.one (.d _)) (.cons (.one (.d _)) .nil)) (ok_laws_heldByteSS a.f4 b.f4 ((k + (a.f2.length : Int)) + (a.f3.length : Int)) (by omega) (by first | omega | (have := cntBs_le (xs := a.f4) (by assumption); omega)) (by first | rfl | assumption | (repeat' (first | rfl | apply And.intro)))) (.inr rfl) rfl (by simp) rfl) ?_
 refine TL.cons rfl (Step.assign (p := (.one (.d (.int .i64 (((k + (a.f2.length : Int)) + (a.f3.length : Int)) + cntL (fun x : List Int => (x.length : Int)) a.f4))))) rfl rfl (lt_ok rfl) rfl) ?_
 refine TL.nil ?_
 refine T.seq ?_
 refine T.seq ?_
 refine T.region ?_
 refine TL.cons rfl (Step.move (p := (.one (.d (.int .i64 (((k + (a.f2.length : Int)) + (a.f3.length : Int)) + cntL (fun x : List Int => (x.length : Int)) a.f4))))) rfl rfl (lt_ok rfl) rfl) ?_
 refine TL.cons rfl (Step.bin rfl rfl (lt_ok rfl) rfl rfl (Bin.lss (k := .i64) (a := (((k + (a.f2.length : Int)) + (a.f3.length : Int)) + cntL (fun x : List Int => (x.length : Int)) a.f4)) (b := 0))) ?_
 refine TL.known 22 (c := false) (decide_eq_false (by omega)) rfl ?_
 refine TL.nil ?_
 refine T.cond (b := false) rfl (fun h4_ => absurd h4_ (by simp)) (fun h4_ => ?_)
 refine T.skip ?_
 refine T.seq ?_
 refine T.region ?_
 refine TL.cons rfl (Step.move (p := (.one (.d (.int .i64 (((k + (a.f2.length : Int)) + (a.f3.length : Int)) + cntL (fun x : List Int => (x.length : Int)) a.f4))))) rfl rfl (lt_ok rfl) rfl) ?_
 refine TL.cons rfl (Step.assign (p := (.one (.d (.int .i64 (((k + (a.f2.length : Int)) + (a.f3.length : Int)) + cntL (fun x : List Int => (x.length : Int)) a.f4))))) rfl rfl (lt_ok rfl) rfl) ?_
 refine TL.nil ?_
 refine T.ret ?_
 exact ⟨[(false, [.d (.int .i64 (((k + (a.f2.length : Int)) + (a.f3.length : Int)) + cntL (fun x : List Int => (x.length : Int)) a.f4))])], (.cons rfl .nil), rfl, [], (RetC.rd' (by first | rfl | (congr 1; simp only [SQc.cm]; omega)) .nil)⟩
theorem ok_laws_heldHead (a : SHead) (b : SHead) (k : Int) (h0_ : 0 ≤ k) (h1_ : k + a.cm ≤ 4611686018427387904) (h2_ : SHead.hm a b k) : RO Try.prog 41 [.agg b.cells, .one (.int .i64 k)] [(false, [.rd (.int .i64 (k + a.cm))])] := by
 refine RO.intro Try.func41 rfl 24 rfl (le_ok rfl) fun w Z => ?_
 obtain ⟨p3, p4, p5⟩ := h2_
 have n5 := SQc.cm_nn a.f5
 simp only [SHead.cm] at h1_
 refine T.seq ?_
 refine T.region ?_
 refine TL.cons rfl (Step.box (p := (.agg [.d (.int .i64 b.f0), .d (.int .i64 b.f1), .d (.int .i64 b.f2), .d (.ints .u8 b.f3), .d (.ints .u8 b.f4), .d (.int .i64 b.f5.f0), .d (.int .i64 b.f5.f1), .d (.ints .u8 b.f5.f2), .d (.ints .u8 b.f5.f3), .d (.bss b.f5.f4)])) (ps := [.d (.int .i64 b.f0), .d (.int .i64 b.f1), .d (.int .i64 b.f2), .d (.ints .u8 b.f3), .d (.ints .u8 b.f4), .d (.int .i64 b.f5.f0), .d (.int .i64 b.f5.f1), .d (.ints .u8 b.f5.f2), .d (.ints .u8 b.f5.f3), .d (.bss b.f5.f4)]) rfl rfl (lt_ok rfl) rfl rfl rfl rfl rfl) ?_
 refine TL.cons rfl (Step.assign (p := (.one (.d (.int .i64 0)))) rfl rfl (lt_ok rfl) rfl) ?_
 refine TL.nil ?_
 refine T.seq ?_
 refine T.region ?_
 refine TL.cons rfl (Step.fieldAddr (q := 0) (off := 3) (n := 1) (one := true) rfl rfl (lt_ok rfl) (by kernel_rfl) (Nat.succ_ne_zero _) rfl) ?_
 refine TL.cons rfl (Step.load_box (c := .d (.ints .u8 b.f3)) rfl rfl (lt_ok rfl) (by kernel_rfl) rfl rfl rfl) ?_
 refine TL.cons rfl (Step.move (p := (.one (.d (.int .i64 k)))) rfl rfl (lt_ok rfl) rfl) ?_
 refine TL.cons rfl (Step.call (f := 25) (xs := [.tmp 6, .tmp 7]) (ps := [(.one (.d (.ints .u8 b.f3))), (.one (.d (.int .i64 k)))]) false (g := .func 25) rfl rfl (lt_ok rfl) rfl (by kernel_rfl) rfl (.cons (.one (.d _)) (.cons (.one (.d _)) .nil)) (ok_laws_heldByteS a.f3 b.f3 k (by omega) (by first | omega | (have := (by assumption); omega)) (by first | rfl | assumption | (repeat' (first | rfl | apply And.intro)))) (.inr rfl) rfl (by simp) rfl) ?_
 refine TL.cons rfl (Step.assign (p := (.one (.d (.int .i64 (k + (a.f3.length : Int)))))) rfl rfl (lt_ok rfl) rfl) ?_
 refine TL.nil ?_
 refine T.seq ?_
 refine T.seq ?_
 refine T.region ?_
 refine TL.cons rfl (Step.move (p := (.one (.d (.int .i64 (k + (a.f3.length : Int)))))) rfl rfl (lt_ok rfl) rfl) ?_
 refine TL.cons rfl (Step.bin rfl rfl (lt_ok rfl) rfl rfl (Bin.lss (k := .i64) (a := (k + (a.f3.length : Int))) (b := 0))) ?_
 refine TL.known 10 (c := false) (decide_eq_false (by omega)) rfl ?_
 refine TL.nil ?_
 refine T.cond (b := false) rfl (fun h1_ => absurd h1_ (by simp)) (fun h1_ => ?_)
 refine T.skip ?_
 refine T.seq ?_
 refine T.region ?_
 refine TL.cons rfl (Step.fieldAddr (q := 0) (off := 4) (n := 1) (one := true) rfl rfl (lt_ok rfl) (by kernel_rfl) (Nat.succ_ne_zero _) rfl) ?_
 refine TL.cons rfl (Step.load_box (c := .d (.ints .u8 b.f4)) rfl rfl (lt_ok rfl) (by kernel_rfl) rfl rfl rfl) ?_
 refine TL.cons rfl (Step.move (p := (.one (.d (.int .i64 (k + (a.f3.length : Int)))))) rfl rfl (lt_ok rfl) rfl) ?_
 refine TL.cons rfl (Step.call (f := 25) (xs := [.tmp 12, .tmp 13]) (ps := [(.one (.d (.ints .u8 b.f4))), (.one (.d (.int .i64 (k + (a.f3.length : Int)))))]) false (g := .func 25) rfl rfl (lt_ok rfl) rfl (by kernel_rfl) rfl (.cons (.one (.d _)) (.cons (.one (.d _)) .nil)) (ok_laws_heldByteS a.f4 b.f4 (k + (a.f3.length : Int)) (by omega) (by first | omega | (have := (by assumption); omega)) (by first | rfl | assumption | (repeat' (first | rfl | apply And.intro)))) (.inr rfl) rfl (by simp) rfl) ?_
 refine TL.cons rfl (Step.assign (p := (.one (.d (.int .i64 ((k + (a.f3.length : Int)) + (a.f4.length : Int)))))) rfl rfl (lt_ok rfl) rfl) ?_
 refine TL.nil ?_
 refine T.seq ?_
 refine T.seq ?_
 refine T.region ?_
 refine TL.cons rfl (Step.move (p := (.one (.d (.int .i64 ((k + (a.f3.length : Int)) + (a.f4.length : Int)))))) rfl rfl (lt_ok rfl) rfl) ?_
 refine TL.cons rfl (Step.bin rfl rfl (lt_ok rfl) rfl rfl (Bin.lss (k := .i64) (a := ((k + (a.f3.length : Int)) + (a.f4.length : Int))) (b := 0))) ?_
 refine TL.known 16 (c := false) (decide_eq_false (by omega)) rfl ?_
 refine TL.nil ?_
 refine T.cond (b := false) rfl (fun h2_ => absurd h2_ (by simp)) (fun h2_ => ?_)
 refine T.skip ?_
 refine T.seq ?_
 refine T.region ?_
 refine TL.cons rfl (Step.fieldAddr (q := 0) (off := 5) (n := 5) (one := false) rfl rfl (lt_ok rfl) (by kernel_rfl) (Nat.succ_ne_zero _) rfl) ?_
 refine TL.cons rfl (Step.load_box_agg (n := 5) (qs := [.d (.int .i64 b.f5.f0), .d (.int .i64 b.f5.f1), .d (.ints .u8 b.f5.f2), .d (.ints .u8 b.f5.f3), .d (.bss b.f5.f4)]) rfl rfl (lt_ok rfl) (by kernel_rfl) rfl rfl rfl rfl) ?_
 refine TL.cons rfl (Step.move (p := (.one (.d (.int .i64 ((k + (a.f3.length : Int)) + (a.f4.length : Int)))))) rfl rfl (lt_ok rfl) rfl) ?_
 have nn3 := SQc.cm_nn a.f5
 refine TL.cons rfl (Step.call (f := 36) (xs := [.tmp 18, .tmp 19]) (ps := [(.agg [.d (.int .i64 b.f5.f0), .d (.int .i64 b.f5.f1), .d (.ints .u8 b.f5.f2), .d (.ints .u8 b.f5.f3), .d (.bss b.f5.f4)]), (.one (.d (.int .i64 ((k + (a.f3.length : Int)) + (a.f4.length : Int)))))]) false (g := .func 36) rfl rfl (lt_ok rfl) rfl (by kernel_rfl) rfl (.cons (.agg (.cons (.d _) (.cons (.d _) (.cons (.d _) (.cons (.d _) (.cons (.d _) .nil)))))) (.cons (.one (.d _)) .nil)) (ok_laws_heldQc a.f5 b.f5 ((k + (a.f3.length : Int)) + (a.f4.length : Int)) (by omega) (by first | omega | (have := SQc.cm_le (x := a.f5) (by assumption); omega)) (by first | rfl | assumption | (repeat' (first | rfl | apply And.intro)))) (.inr rfl) rfl (by simp) rfl) ?_
 refine TL.cons rfl (Step.assign (p := (.one (.d (.int .i64 (((k + (a.f3.length : Int)) + (a.f4.length : Int)) + a.f5.cm))))) rfl rfl (lt_ok rfl) rfl) ?_
 refine TL.nil ?_
 refine T.seq ?_
 refine T.seq ?_
 refine T.region ?_
 refine TL.cons rfl (Step.move (p := (.one (.d (.int .i64 (((k + (a.f3.length : Int)) + (a.f4.length : Int)) + a.f5.cm))))) rfl rfl (lt_ok rfl) rfl) ?_
 refine TL.cons rfl (Step.bin rfl rfl (lt_ok rfl) rfl rfl (Bin.lss (k := .i64) (a := (((k + (a.f3.length : Int)) + (a.f4.length : Int)) + a.f5.cm)) (b := 0))) ?_
 refine TL.known 22 (c := false) (decide_eq_false (by omega)) rfl ?_
 refine TL.nil ?_
 refine T.cond (b := false) rfl (fun h4_ => absurd h4_ (by simp)) (fun h4_ => ?_)
 refine T.skip ?_
 refine T.seq ?_
 refine T.region ?_
 refine TL.cons rfl (Step.move (p := (.one (.d (.int .i64 (((k + (a.f3.length : Int)) + (a.f4.length : Int)) + a.f5.cm))))) rfl rfl (lt_ok rfl) rfl) ?_
 refine TL.cons rfl (Step.assign (p := (.one (.d (.int .i64 (((k + (a.f3.length : Int)) + (a.f4.length : Int)) + a.f5.cm))))) rfl rfl (lt_ok rfl) rfl) ?_
 refine TL.nil ?_
 refine T.ret ?_
 exact ⟨[(false, [.d (.int .i64 (((k + (a.f3.length : Int)) + (a.f4.length : Int)) + a.f5.cm))])], (.cons rfl .nil), rfl, [], (RetC.rd' (by first | rfl | (congr 1; simp only [SHead.cm]; omega)) .nil)⟩
theorem ok_laws_FnExactGetHead (aL : SLimits) (aB : List Int) (aAt : Int) (h0_ : aL.ok) (h1_ : U8s aB) (h2_ : I64 aAt) : RO Try.prog 6 [.agg aL.cells, .one (.ints .u8 aB), .one (.int .i64 aAt)] [(false, [.rd (.bool true)])] := by
 refine RO.intro Try.func6 rfl 127 rfl (le_ok rfl) fun w Z => ?_
 refine T.bnd 1 0 rfl rfl fun hb_1_0 => ?_
 simp only [D.size, List.length_map] at hb_1_0
 refine T.seq ?_
 refine T.region ?_
 refine TL.cons rfl (Step.box (p := (.agg [.d (.int .i64 aL.f0), .d (.int .i64 aL.f1), .d (.int .i64 aL.f2), .d (.int .i64 aL.f3), .d (.int .i64 aL.f4)])) (ps := [.d (.int .i64 aL.f0), .d (.int .i64 aL.f1), .d (.int .i64 aL.f2), .d (.int .i64 aL.f3), .d (.int .i64 aL.f4)]) rfl rfl (lt_ok rfl) rfl rfl rfl rfl rfl) ?_
 refine TL.cons rfl (Step.assign (p := (.one (.d (.bool false)))) rfl rfl (lt_ok rfl) rfl) ?_
 refine TL.nil ?_
 refine T.seq ?_
 refine T.seq ?_
 refine T.region ?_
 refine TL.cons rfl (Step.move (p := (.one (.d (.ints .u8 aB)))) rfl rfl (lt_ok rfl) rfl) ?_
 refine TL.cons rfl (Step.len (e := 5) (z := 1) (d := (.ints .u8 aB)) rfl rfl (lt_ok rfl) (by kernel_rfl) rfl rfl) ?_
 refine TL.cons rfl (Step.bin rfl rfl (lt_ok rfl) rfl rfl (Bin.gtr (k := .i64) (a := (aB.length : Int)) (b := 1048576))) ?_
 refine TL.nil ?_
 refine T.cond (b := decide (1048576 < (aB.length : Int))) rfl (fun h1 => ?_) (fun h1 => ?_)
 ·
  replace h1 := of_decide_eq_true h1
  refine T.seq ?_
  refine T.region ?_
  refine TL.cons rfl (Step.assign (p := (.one (.d (.bool true)))) rfl rfl (lt_ok rfl) rfl) ?_
  refine TL.nil ?_
  refine T.ret ?_
  exact ⟨[(false, [.d (.bool true)])], (.cons rfl .nil), rfl, [], (RetC.rd' (by rfl) .nil)⟩
 ·
  replace h1 := of_decide_eq_false h1
  refine T.skip ?_
  refine T.seq ?_
  refine T.region ?_
  refine TL.cons rfl (Step.load_box_agg (n := 5) (qs := [.d (.int .i64 aL.f0), .d (.int .i64 aL.f1), .d (.int .i64 aL.f2), .d (.int .i64 aL.f3), .d (.int .i64 aL.f4)]) rfl rfl (lt_ok rfl) (by kernel_rfl) rfl rfl rfl rfl) ?_
  refine TL.cons rfl (Step.call (f := 17) (xs := [.tmp 24]) (ps := [(.agg [.d (.int .i64 aL.f0), .d (.int .i64 aL.f1), .d (.int .i64 aL.f2), .d (.int .i64 aL.f3), .d (.int .i64 aL.f4)])]) false (g := .func 17) rfl rfl (lt_ok rfl) rfl (by kernel_rfl) rfl (.cons (.agg (.cons (.d _) (.cons (.d _) (.cons (.d _) (.cons (.d _) (.cons (.d _) .nil)))))) .nil) (ok_laws_toLimits aL) (.inr rfl) rfl (by simp) rfl) ?_
  refine TL.cons rfl (Step.move (p := (.one (.d (.ints .u8 aB)))) rfl rfl (lt_ok rfl) rfl) ?_
  refine TL.cons rfl (Step.call (f := 18) (xs := [.tmp 26]) (ps := [(.one (.d (.ints .u8 aB)))]) false (g := .func 18) rfl rfl (lt_ok rfl) rfl (by kernel_rfl) rfl (.cons (.one (.d _)) .nil) (ok_laws_toByteS aB (by first | omega | assumption | exact mem_getD h0_.2 (by omega))) (.inr rfl) rfl (by simp) rfl) ?_
  refine TL.cons rfl (Step.move (p := (.one (.d (.int .i64 aAt)))) rfl rfl (lt_ok rfl) rfl) ?_
  have nn2 := @getHead_sm aL aB aAt (by first | assumption | omega)
  refine TL.cons rfl (Step.call (f := 37) (xs := [.tmp 25, .tmp 27, .tmp 28]) (ps := [(.agg [.d (.int .i64 aL.f0), .d (.int .i64 aL.f1), .d (.int .i64 aL.f2), .d (.int .i64 aL.f3), .d (.int .i64 aL.f4)]), (.one (.row 1027 [])), (.one (.d (.int .i64 aAt)))]) false (g := .func 37) rfl rfl (lt_ok rfl) rfl (by kernel_rfl) rfl (.cons (.agg (.cons (.d _) (.cons (.d _) (.cons (.d _) (.cons (.d _) (.cons (.d _) .nil)))))) (.cons (.one (.row rfl rfl rfl rfl)) (.cons (.one (.d _)) .nil))) (ok_spec_GetHead aL aB aAt (by assumption) (by first | omega | assumption | (simp only [List.length_append] at *; omega))) (.inr rfl) rfl (by simp) rfl) ?_
  refine TL.cons rfl (Step.move (p := (.tup [(true, [.d (.int .i64 (getHead aL aB aAt).1.f0), .d (.int .i64 (getHead aL aB aAt).1.f1), .d (.int .i64 (getHead aL aB aAt).1.f2), .row 4029 [], .row 5029 [], .d (.int .i64 (getHead aL aB aAt).1.f5.f0), .d (.int .i64 (getHead aL aB aAt).1.f5.f1), .row 8029 [], .row 9029 [], .row 10029 []]), (false, [.d (.int .i64 (getHead aL aB aAt).2.1)]), (false, [.d (.int .i64 (getHead aL aB aAt).2.2)])])) rfl rfl (lt_ok rfl) rfl) ?_
  refine TL.cons rfl (Step.extract (p := (.agg [.d (.int .i64 (getHead aL aB aAt).1.f0), .d (.int .i64 (getHead aL aB aAt).1.f1), .d (.int .i64 (getHead aL aB aAt).1.f2), .row 4029 [], .row 5029 [], .d (.int .i64 (getHead aL aB aAt).1.f5.f0), .d (.int .i64 (getHead aL aB aAt).1.f5.f1), .row 8029 [], .row 9029 [], .row 10029 []])) rfl rfl (lt_ok rfl) rfl rfl) ?_
  refine TL.cons rfl (Step.extract (p := (.one (.d (.int .i64 (getHead aL aB aAt).2.1)))) rfl rfl (lt_ok rfl) rfl rfl) ?_
  refine TL.cons rfl (Step.extract (p := (.one (.d (.int .i64 (getHead aL aB aAt).2.2)))) rfl rfl (lt_ok rfl) rfl rfl) ?_
  refine TL.cons rfl (Step.alloc (cs := [.int .i64 0, .int .i64 0, .int .i64 0, .slice none 0 0, .slice none 0 0, .int .i64 0, .int .i64 0, .slice none 0 0, .slice none 0 0, .slice none 0 0]) (ps := [.d (.int .i64 0), .d (.int .i64 0), .d (.int .i64 0), .nil, .nil, .d (.int .i64 0), .d (.int .i64 0), .nil, .nil, .nil]) rfl rfl (lt_ok rfl) (by kernel_rfl) rfl rfl rfl rfl) ?_
  refine TL.cons rfl (Step.store_box (n := 10) (p := (.agg [.d (.int .i64 (getHead aL aB aAt).1.f0), .d (.int .i64 (getHead aL aB aAt).1.f1), .d (.int .i64 (getHead aL aB aAt).1.f2), .row 4029 [], .row 5029 [], .d (.int .i64 (getHead aL aB aAt).1.f5.f0), .d (.int .i64 (getHead aL aB aAt).1.f5.f1), .row 8029 [], .row 9029 [], .row 10029 []])) (qs := [.d (.int .i64 (getHead aL aB aAt).1.f0), .d (.int .i64 (getHead aL aB aAt).1.f1), .d (.int .i64 (getHead aL aB aAt).1.f2), .row 4029 [], .row 5029 [], .d (.int .i64 (getHead aL aB aAt).1.f5.f0), .d (.int .i64 (getHead aL aB aAt).1.f5.f1), .row 8029 [], .row 9029 [], .row 10029 []]) (ps' := [.d (.int .i64 (getHead aL aB aAt).1.f0), .d (.int .i64 (getHead aL aB aAt).1.f1), .d (.int .i64 (getHead aL aB aAt).1.f2), .row 4029 [], .row 5029 [], .d (.int .i64 (getHead aL aB aAt).1.f5.f0), .d (.int .i64 (getHead aL aB aAt).1.f5.f1), .row 8029 [], .row 9029 [], .row 10029 []]) rfl rfl (by kernel_rfl) rfl rfl rfl rfl rfl rfl (le_ok rfl) rfl) ?_
  refine TL.cons rfl (Step.assign (p := (.one (.d (.int .i64 (getHead aL aB aAt).2.1)))) rfl rfl (lt_ok rfl) rfl) ?_
  refine TL.cons rfl (Step.assign (p := (.one (.d (.int .i64 (getHead aL aB aAt).2.2)))) rfl rfl (lt_ok rfl) rfl) ?_
  refine TL.nil ?_
  refine T.seq ?_
  refine T.region ?_
  refine TL.cons rfl (Step.move (p := (.one (.d (.ints .u8 aB)))) rfl rfl (lt_ok rfl) rfl) ?_
  refine TL.cons rfl (Step.call (f := 18) (xs := [.tmp 33]) (ps := [(.one (.d (.ints .u8 aB)))]) false (g := .func 18) rfl rfl (lt_ok rfl) rfl (by kernel_rfl) rfl (.cons (.one (.d _)) .nil) (ok_laws_toByteS aB (by first | omega | assumption | exact mem_getD h0_.2 (by omega))) (.inr rfl) rfl (by simp) rfl) ?_
  refine TL.cons rfl (Step.assign (p := (.one (.row 1034 []))) rfl rfl (lt_ok rfl) rfl) ?_
  refine TL.nil ?_
  refine T.seq ?_
  refine T.region ?_
  refine TL.cons rfl (Step.load_box_agg (n := 5) (qs := [.d (.int .i64 aL.f0), .d (.int .i64 aL.f1), .d (.int .i64 aL.f2), .d (.int .i64 aL.f3), .d (.int .i64 aL.f4)]) rfl rfl (lt_ok rfl) (by kernel_rfl) rfl rfl rfl rfl) ?_
  refine TL.cons rfl (Step.call (f := 17) (xs := [.tmp 36]) (ps := [(.agg [.d (.int .i64 aL.f0), .d (.int .i64 aL.f1), .d (.int .i64 aL.f2), .d (.int .i64 aL.f3), .d (.int .i64 aL.f4)])]) false (g := .func 17) rfl rfl (lt_ok rfl) rfl (by kernel_rfl) rfl (.cons (.agg (.cons (.d _) (.cons (.d _) (.cons (.d _) (.cons (.d _) (.cons (.d _) .nil)))))) .nil) (ok_laws_toLimits aL) (.inr rfl) rfl (by simp) rfl) ?_
  refine TL.cons rfl (Step.move (p := (.one (.row 1034 []))) rfl rfl (lt_ok rfl) rfl) ?_
  refine TL.cons rfl (Step.move (p := (.one (.d (.int .i64 aAt)))) rfl rfl (lt_ok rfl) rfl) ?_
  have nn3 := @getHead_sm aL aB aAt (by first | assumption | omega)
  refine TL.cons rfl (Step.call (f := 38) (xs := [.tmp 37, .tmp 38, .tmp 39]) (ps := [(.agg [.d (.int .i64 aL.f0), .d (.int .i64 aL.f1), .d (.int .i64 aL.f2), .d (.int .i64 aL.f3), .d (.int .i64 aL.f4)]), (.one (.row 1034 [])), (.one (.d (.int .i64 aAt)))]) false (g := .func 38) rfl rfl (lt_ok rfl) rfl (by kernel_rfl) rfl (.cons (.agg (.cons (.d _) (.cons (.d _) (.cons (.d _) (.cons (.d _) (.cons (.d _) .nil)))))) (.cons (.one (.row rfl rfl rfl rfl)) (.cons (.one (.d _)) .nil))) (ok_impl_GetHead aL aB aAt (by assumption) (by first | omega | assumption | (simp only [List.length_append] at *; omega))) (.inr rfl) rfl (by simp) rfl) ?_
  refine TL.cons rfl (Step.move (p := (.tup [(true, [.d (.int .i64 (getHead aL aB aAt).1.f0), .d (.int .i64 (getHead aL aB aAt).1.f1), .d (.int .i64 (getHead aL aB aAt).1.f2), .row 4040 [], .row 5040 [], .d (.int .i64 (getHead aL aB aAt).1.f5.f0), .d (.int .i64 (getHead aL aB aAt).1.f5.f1), .row 8040 [], .row 9040 [], .row 10040 []]), (false, [.d (.int .i64 (getHead aL aB aAt).2.1)]), (false, [.d (.int .i64 (getHead aL aB aAt).2.2)])])) rfl rfl (lt_ok rfl) rfl) ?_
  refine TL.cons rfl (Step.extract (p := (.agg [.d (.int .i64 (getHead aL aB aAt).1.f0), .d (.int .i64 (getHead aL aB aAt).1.f1), .d (.int .i64 (getHead aL aB aAt).1.f2), .row 4040 [], .row 5040 [], .d (.int .i64 (getHead aL aB aAt).1.f5.f0), .d (.int .i64 (getHead aL aB aAt).1.f5.f1), .row 8040 [], .row 9040 [], .row 10040 []])) rfl rfl (lt_ok rfl) rfl rfl) ?_
  refine TL.cons rfl (Step.extract (p := (.one (.d (.int .i64 (getHead aL aB aAt).2.1)))) rfl rfl (lt_ok rfl) rfl rfl) ?_
  refine TL.cons rfl (Step.extract (p := (.one (.d (.int .i64 (getHead aL aB aAt).2.2)))) rfl rfl (lt_ok rfl) rfl rfl) ?_
  refine TL.cons rfl (Step.alloc (cs := [.int .i64 0, .int .i64 0, .int .i64 0, .slice none 0 0, .slice none 0 0, .int .i64 0, .int .i64 0, .slice none 0 0, .slice none 0 0, .slice none 0 0]) (ps := [.d (.int .i64 0), .d (.int .i64 0), .d (.int .i64 0), .nil, .nil, .d (.int .i64 0), .d (.int .i64 0), .nil, .nil, .nil]) rfl rfl (lt_ok rfl) (by kernel_rfl) rfl rfl rfl rfl) ?_
  refine TL.cons rfl (Step.store_box (n := 10) (p := (.agg [.d (.int .i64 (getHead aL aB aAt).1.f0), .d (.int .i64 (getHead aL aB aAt).1.f1), .d (.int .i64 (getHead aL aB aAt).1.f2), .row 4040 [], .row 5040 [], .d (.int .i64 (getHead aL aB aAt).1.f5.f0), .d (.int .i64 (getHead aL aB aAt).1.f5.f1), .row 8040 [], .row 9040 [], .row 10040 []])) (qs := [.d (.int .i64 (getHead aL aB aAt).1.f0), .d (.int .i64 (getHead aL aB aAt).1.f1), .d (.int .i64 (getHead aL aB aAt).1.f2), .row 4040 [], .row 5040 [], .d (.int .i64 (getHead aL aB aAt).1.f5.f0), .d (.int .i64 (getHead aL aB aAt).1.f5.f1), .row 8040 [], .row 9040 [], .row 10040 []]) (ps' := [.d (.int .i64 (getHead aL aB aAt).1.f0), .d (.int .i64 (getHead aL aB aAt).1.f1), .d (.int .i64 (getHead aL aB aAt).1.f2), .row 4040 [], .row 5040 [], .d (.int .i64 (getHead aL aB aAt).1.f5.f0), .d (.int .i64 (getHead aL aB aAt).1.f5.f1), .row 8040 [], .row 9040 [], .row 10040 []]) rfl rfl (by kernel_rfl) rfl rfl rfl rfl rfl rfl (le_ok rfl) rfl) ?_
  refine TL.cons rfl (Step.assign (p := (.one (.d (.int .i64 (getHead aL aB aAt).2.1)))) rfl rfl (lt_ok rfl) rfl) ?_
  refine TL.cons rfl (Step.assign (p := (.one (.d (.int .i64 (getHead aL aB aAt).2.2)))) rfl rfl (lt_ok rfl) rfl) ?_
  refine TL.nil ?_
  refine T.weaken (E' := { tm := [(1, (.one (.d (.ints .u8 aB)))), (2, (.one (.d (.int .i64 aAt)))), (3, (.one (.ptr 3 0))), (6, (.one (.d (.bool false)))), (7, (.one (.ptr 7 0))), (8, (.one (.d (.int .i64 (getHead aL aB aAt).2.1)))), (9, (.one (.d (.int .i64 (getHead aL aB aAt).2.2)))), (10, (.one (.row 1034 []))), (11, (.one (.ptr 11 0))), (12, (.one (.d (.int .i64 (getHead aL aB aAt).2.1)))), (13, (.one (.d (.int .i64 (getHead aL aB aAt).2.2))))], rows := [(4029, (5, (.ints .u8 (getHead aL aB aAt).1.f3))), (5029, (5, (.ints .u8 (getHead aL aB aAt).1.f4))), (8029, (5, (.ints .u8 (getHead aL aB aAt).1.f5.f2))), (9029, (5, (.ints .u8 (getHead aL aB aAt).1.f5.f3))), (10029, (24, (.bss (getHead aL aB aAt).1.f5.f4))), (1034, (5, (.ints .u8 aB))), (4040, (5, (.ints .u8 (getHead aL aB aAt).1.f3))), (5040, (5, (.ints .u8 (getHead aL aB aAt).1.f4))), (8040, (5, (.ints .u8 (getHead aL aB aAt).1.f5.f2))), (9040, (5, (.ints .u8 (getHead aL aB aAt).1.f5.f3))), (10040, (24, (.bss (getHead aL aB aAt).1.f5.f4)))], boxes := [(3, (23, [.d (.int .i64 aL.f0), .d (.int .i64 aL.f1), .d (.int .i64 aL.f2), .d (.int .i64 aL.f3), .d (.int .i64 aL.f4)])), (11, (54, [.d (.int .i64 (getHead aL aB aAt).1.f0), .d (.int .i64 (getHead aL aB aAt).1.f1), .d (.int .i64 (getHead aL aB aAt).1.f2), .row 4040 [], .row 5040 [], .d (.int .i64 (getHead aL aB aAt).1.f5.f0), .d (.int .i64 (getHead aL aB aAt).1.f5.f1), .row 8040 [], .row 9040 [], .row 10040 []])), (7, (54, [.d (.int .i64 (getHead aL aB aAt).1.f0), .d (.int .i64 (getHead aL aB aAt).1.f1), .d (.int .i64 (getHead aL aB aAt).1.f2), .row 4029 [], .row 5029 [], .d (.int .i64 (getHead aL aB aAt).1.f5.f0), .d (.int .i64 (getHead aL aB aAt).1.f5.f1), .row 8029 [], .row 9029 [], .row 10029 []]))] }) (Env.le_mk ⟨by kernel_rfl, by kernel_rfl, by kernel_rfl, by kernel_rfl, by kernel_rfl, by kernel_rfl, by kernel_rfl, by kernel_rfl, by kernel_rfl, by kernel_rfl, by kernel_rfl, trivial⟩ ⟨by kernel_rfl, by kernel_rfl, by kernel_rfl, by kernel_rfl, by kernel_rfl, by kernel_rfl, by kernel_rfl, by kernel_rfl, by kernel_rfl, by kernel_rfl, by kernel_rfl, trivial⟩ ⟨by kernel_rfl, by kernel_rfl, by kernel_rfl, trivial⟩) ?_
  refine T.seq ?_
  refine T.seq ?_
  refine T.region ?_
  refine TL.cons rfl (Step.load_box_agg (n := 10) (qs := [.d (.int .i64 (getHead aL aB aAt).1.f0), .d (.int .i64 (getHead aL aB aAt).1.f1), .d (.int .i64 (getHead aL aB aAt).1.f2), .row 4040 [], .row 5040 [], .d (.int .i64 (getHead aL aB aAt).1.f5.f0), .d (.int .i64 (getHead aL aB aAt).1.f5.f1), .row 8040 [], .row 9040 [], .row 10040 []]) rfl rfl (lt_ok rfl) (by kernel_rfl) rfl rfl rfl rfl) ?_
  refine TL.cons rfl (Step.load_box_agg (n := 10) (qs := [.d (.int .i64 (getHead aL aB aAt).1.f0), .d (.int .i64 (getHead aL aB aAt).1.f1), .d (.int .i64 (getHead aL aB aAt).1.f2), .row 4029 [], .row 5029 [], .d (.int .i64 (getHead aL aB aAt).1.f5.f0), .d (.int .i64 (getHead aL aB aAt).1.f5.f1), .row 8029 [], .row 9029 [], .row 10029 []]) rfl rfl (lt_ok rfl) (by kernel_rfl) rfl rfl rfl rfl) ?_
  refine TL.cons rfl (Step.call (f := 39) (xs := [.tmp 44, .tmp 45]) (ps := [(.agg [.d (.int .i64 (getHead aL aB aAt).1.f0), .d (.int .i64 (getHead aL aB aAt).1.f1), .d (.int .i64 (getHead aL aB aAt).1.f2), .row 4040 [], .row 5040 [], .d (.int .i64 (getHead aL aB aAt).1.f5.f0), .d (.int .i64 (getHead aL aB aAt).1.f5.f1), .row 8040 [], .row 9040 [], .row 10040 []]), (.agg [.d (.int .i64 (getHead aL aB aAt).1.f0), .d (.int .i64 (getHead aL aB aAt).1.f1), .d (.int .i64 (getHead aL aB aAt).1.f2), .row 4029 [], .row 5029 [], .d (.int .i64 (getHead aL aB aAt).1.f5.f0), .d (.int .i64 (getHead aL aB aAt).1.f5.f1), .row 8029 [], .row 9029 [], .row 10029 []])]) false (g := .func 39) rfl rfl (lt_ok rfl) rfl (by kernel_rfl) rfl (.cons (.agg (.cons (.d _) (.cons (.d _) (.cons (.d _) (.cons (.row rfl rfl rfl rfl) (.cons (.row rfl rfl rfl rfl) (.cons (.d _) (.cons (.d _) (.cons (.row rfl rfl rfl rfl) (.cons (.row rfl rfl rfl rfl) (.cons (.row rfl rfl rfl rfl) .nil))))))))))) (.cons (.agg (.cons (.d _) (.cons (.d _) (.cons (.d _) (.cons (.row rfl rfl rfl rfl) (.cons (.row rfl rfl rfl rfl) (.cons (.d _) (.cons (.d _) (.cons (.row rfl rfl rfl rfl) (.cons (.row rfl rfl rfl rfl) (.cons (.row rfl rfl rfl rfl) .nil))))))))))) .nil)) (ok_laws_eqHead (getHead aL aB aAt).1 (getHead aL aB aAt).1) (.inr rfl) rfl (by simp) rfl) ?_
  refine TL.known 46 (c := true) (by simp) rfl ?_
  refine TL.cons rfl (Step.not (b := true) rfl rfl (lt_ok rfl) rfl) ?_
  refine TL.cons rfl (Step.move (p := (.one (.d (.bool false)))) rfl rfl (lt_ok rfl) rfl) ?_
  refine TL.gyes 48 rfl rfl (lt_ok rfl) rfl (Step.move (p := (.one (.d (.int .i64 (getHead aL aB aAt).2.1)))) rfl rfl (lt_ok rfl) rfl) ?_
  refine TL.gyes 48 rfl rfl (lt_ok rfl) rfl (Step.move (p := (.one (.d (.int .i64 (getHead aL aB aAt).2.1)))) rfl rfl (lt_ok rfl) rfl) ?_
  refine TL.gyes 48 rfl rfl (lt_ok rfl) rfl (Step.bin rfl rfl (lt_ok rfl) rfl rfl (Bin.neq (k := .i64) (a := (getHead aL aB aAt).2.1) (b := (getHead aL aB aAt).2.1))) ?_
  refine TL.known 51 (c := false) (by simp) rfl ?_
  refine TL.cons rfl (Step.pick (b := false) (p := (.one (.d (.bool false)))) rfl rfl (lt_ok rfl) rfl rfl) ?_
  refine TL.cons rfl (Step.move (p := (.one (.d (.bool false)))) rfl rfl (lt_ok rfl) rfl) ?_
  refine TL.gyes 53 rfl rfl (lt_ok rfl) rfl (Step.move (p := (.one (.d (.int .i64 (getHead aL aB aAt).2.2)))) rfl rfl (lt_ok rfl) rfl) ?_
  refine TL.gyes 53 rfl rfl (lt_ok rfl) rfl (Step.move (p := (.one (.d (.int .i64 (getHead aL aB aAt).2.2)))) rfl rfl (lt_ok rfl) rfl) ?_
  refine TL.gyes 53 rfl rfl (lt_ok rfl) rfl (Step.bin rfl rfl (lt_ok rfl) rfl rfl (Bin.neq (k := .i64) (a := (getHead aL aB aAt).2.2) (b := (getHead aL aB aAt).2.2))) ?_
  refine TL.known 56 (c := false) (by simp) rfl ?_
  refine TL.cons rfl (Step.pick (b := false) (p := (.one (.d (.bool false)))) rfl rfl (lt_ok rfl) rfl rfl) ?_
  refine TL.nil ?_
  refine T.cond (b := false) rfl (fun h4_ => absurd h4_ (by simp)) (fun h4_ => ?_)
  refine T.skip ?_
  refine T.seq ?_
  refine T.seq ?_
  refine T.region ?_
  refine TL.cons rfl (Step.move (p := (.one (.row 1034 []))) rfl rfl (lt_ok rfl) rfl) ?_
  refine TL.cons rfl (Step.move (p := (.one (.d (.ints .u8 aB)))) rfl rfl (lt_ok rfl) rfl) ?_
  refine TL.cons rfl (Step.call (f := 18) (xs := [.tmp 59]) (ps := [(.one (.d (.ints .u8 aB)))]) false (g := .func 18) rfl rfl (lt_ok rfl) rfl (by kernel_rfl) rfl (.cons (.one (.d _)) .nil) (ok_laws_toByteS aB (by first | omega | assumption | exact mem_getD h0_.2 (by omega))) (.inr rfl) rfl (by simp) rfl) ?_
  refine TL.cons rfl (Step.call (f := 21) (xs := [.tmp 58, .tmp 60]) (ps := [(.one (.row 1034 [])), (.one (.row 1060 []))]) false (g := .func 21) rfl rfl (lt_ok rfl) rfl (by kernel_rfl) rfl (.cons (.one (.row rfl rfl rfl rfl)) (.cons (.one (.row rfl rfl rfl rfl)) .nil)) (ok_laws_eqByteS aB aB) (.inr rfl) rfl (by simp) rfl) ?_
  refine TL.known 61 (c := true) (by simp) rfl ?_
  refine TL.cons rfl (Step.not (b := true) rfl rfl (lt_ok rfl) rfl) ?_
  refine TL.nil ?_
  refine T.cond (b := false) rfl (fun h5_ => absurd h5_ (by simp)) (fun h5_ => ?_)
  refine T.skip ?_
  refine T.seq ?_
  refine T.region ?_
  refine TL.cons rfl (Step.assign (p := (.one (.d (.int .i64 1)))) rfl rfl (lt_ok rfl) rfl) ?_
  refine TL.nil ?_
  refine T.seq ?_
  refine T.region ?_
  refine TL.cons rfl (Step.move (p := (.one (.row 1034 []))) rfl rfl (lt_ok rfl) rfl) ?_
  refine TL.cons rfl (Step.move (p := (.one (.d (.int .i64 1)))) rfl rfl (lt_ok rfl) rfl) ?_
  refine TL.cons rfl (Step.callM (f := 23) (xs := [.tmp 63, .tmp 64]) (ps := [(.one (.row 1034 [])), (.one (.d (.int .i64 1)))]) (args := [.one (.mk (.ints .u8 aB) (.ints .u8 (mkB aB 1))), .one (.rd (.int .i64 1))]) (js := [(1034, (.ints .u8 (mkB aB 1)))]) (x := (.int .i64 (1 + (aB.length : Int)))) (g := .func 23) rfl rfl (lt_ok rfl) rfl (by kernel_rfl) rfl rfl (.row (T := 5) (d := (.ints .u8 aB)) (e' := (.ints .u8 (mkB aB 1))) (d' := (.ints .u8 (mkB aB 1))) rfl rfl rfl rfl rfl (by simp [D.size, mkL_length]) rfl rfl (.d .nil)) (ok_laws_markByteS aB 1 (by omega) (by first | omega | (have := (by assumption); omega))) rfl) ?_
  refine TL.cons rfl (Step.assign (p := (.one (.d (.int .i64 (1 + (aB.length : Int)))))) rfl rfl (lt_ok rfl) rfl) ?_
  refine TL.nil ?_
  refine T.seq ?_
  refine T.seq ?_
  refine T.region ?_
  refine TL.cons rfl (Step.move (p := (.one (.d (.int .i64 (1 + (aB.length : Int)))))) rfl rfl (lt_ok rfl) rfl) ?_
  refine TL.cons rfl (Step.bin rfl rfl (lt_ok rfl) rfl rfl (Bin.lss (k := .i64) (a := (1 + (aB.length : Int))) (b := 0))) ?_
  refine TL.known 67 (c := false) (decide_eq_false (by omega)) rfl ?_
  refine TL.cons rfl (Step.move (p := (.one (.d (.bool false)))) rfl rfl (lt_ok rfl) rfl) ?_
  refine TL.gyes 68 rfl rfl (lt_ok rfl) rfl (Step.load_box_agg (n := 10) (qs := [.d (.int .i64 (getHead aL aB aAt).1.f0), .d (.int .i64 (getHead aL aB aAt).1.f1), .d (.int .i64 (getHead aL aB aAt).1.f2), .row 4040 [], .row 5040 [], .d (.int .i64 (getHead aL aB aAt).1.f5.f0), .d (.int .i64 (getHead aL aB aAt).1.f5.f1), .row 8040 [], .row 9040 [], .row 10040 []]) rfl rfl (lt_ok rfl) (by kernel_rfl) rfl rfl rfl rfl) ?_
  refine TL.gyes 68 rfl rfl (lt_ok rfl) rfl (Step.load_box_agg (n := 10) (qs := [.d (.int .i64 (getHead aL aB aAt).1.f0), .d (.int .i64 (getHead aL aB aAt).1.f1), .d (.int .i64 (getHead aL aB aAt).1.f2), .row 4029 [], .row 5029 [], .d (.int .i64 (getHead aL aB aAt).1.f5.f0), .d (.int .i64 (getHead aL aB aAt).1.f5.f1), .row 8029 [], .row 9029 [], .row 10029 []]) rfl rfl (lt_ok rfl) (by kernel_rfl) rfl rfl rfl rfl) ?_
  refine TL.gyes 68 rfl rfl (lt_ok rfl) rfl (Step.call (f := 39) (xs := [.tmp 69, .tmp 70]) (ps := [(.agg [.d (.int .i64 (getHead aL aB aAt).1.f0), .d (.int .i64 (getHead aL aB aAt).1.f1), .d (.int .i64 (getHead aL aB aAt).1.f2), .row 4040 [], .row 5040 [], .d (.int .i64 (getHead aL aB aAt).1.f5.f0), .d (.int .i64 (getHead aL aB aAt).1.f5.f1), .row 8040 [], .row 9040 [], .row 10040 []]), (.agg [.d (.int .i64 (getHead aL aB aAt).1.f0), .d (.int .i64 (getHead aL aB aAt).1.f1), .d (.int .i64 (getHead aL aB aAt).1.f2), .row 4029 [], .row 5029 [], .d (.int .i64 (getHead aL aB aAt).1.f5.f0), .d (.int .i64 (getHead aL aB aAt).1.f5.f1), .row 8029 [], .row 9029 [], .row 10029 []])]) false (g := .func 39) rfl rfl (lt_ok rfl) rfl (by kernel_rfl) rfl (.cons (.agg (.cons (.d _) (.cons (.d _) (.cons (.d _) (.cons (.row rfl rfl rfl rfl) (.cons (.row rfl rfl rfl rfl) (.cons (.d _) (.cons (.d _) (.cons (.row rfl rfl rfl rfl) (.cons (.row rfl rfl rfl rfl) (.cons (.row rfl rfl rfl rfl) .nil))))))))))) (.cons (.agg (.cons (.d _) (.cons (.d _) (.cons (.d _) (.cons (.row rfl rfl rfl rfl) (.cons (.row rfl rfl rfl rfl) (.cons (.d _) (.cons (.d _) (.cons (.row rfl rfl rfl rfl) (.cons (.row rfl rfl rfl rfl) (.cons (.row rfl rfl rfl rfl) .nil))))))))))) .nil)) (ok_laws_eqHead (getHead aL aB aAt).1 (getHead aL aB aAt).1) (.inr rfl) rfl (by simp) rfl) ?_
  refine TL.known 71 (c := true) (by simp) rfl ?_
  refine TL.gyes 68 rfl rfl (lt_ok rfl) rfl (Step.not (b := true) rfl rfl (lt_ok rfl) rfl) ?_
  refine TL.cons rfl (Step.pick (b := false) (p := (.one (.d (.bool false)))) rfl rfl (lt_ok rfl) rfl rfl) ?_
  refine TL.cons rfl (Step.move (p := (.one (.d (.bool false)))) rfl rfl (lt_ok rfl) rfl) ?_
  refine TL.gyes 74 rfl rfl (lt_ok rfl) rfl (Step.move (p := (.one (.d (.int .i64 (getHead aL aB aAt).2.1)))) rfl rfl (lt_ok rfl) rfl) ?_
  refine TL.gyes 74 rfl rfl (lt_ok rfl) rfl (Step.move (p := (.one (.d (.int .i64 (getHead aL aB aAt).2.1)))) rfl rfl (lt_ok rfl) rfl) ?_
  refine TL.gyes 74 rfl rfl (lt_ok rfl) rfl (Step.bin rfl rfl (lt_ok rfl) rfl rfl (Bin.neq (k := .i64) (a := (getHead aL aB aAt).2.1) (b := (getHead aL aB aAt).2.1))) ?_
  refine TL.known 77 (c := false) (by simp) rfl ?_
  refine TL.cons rfl (Step.pick (b := false) (p := (.one (.d (.bool false)))) rfl rfl (lt_ok rfl) rfl rfl) ?_
  refine TL.cons rfl (Step.move (p := (.one (.d (.bool false)))) rfl rfl (lt_ok rfl) rfl) ?_
  refine TL.gyes 79 rfl rfl (lt_ok rfl) rfl (Step.move (p := (.one (.d (.int .i64 (getHead aL aB aAt).2.2)))) rfl rfl (lt_ok rfl) rfl) ?_
  refine TL.gyes 79 rfl rfl (lt_ok rfl) rfl (Step.move (p := (.one (.d (.int .i64 (getHead aL aB aAt).2.2)))) rfl rfl (lt_ok rfl) rfl) ?_
  refine TL.gyes 79 rfl rfl (lt_ok rfl) rfl (Step.bin rfl rfl (lt_ok rfl) rfl rfl (Bin.neq (k := .i64) (a := (getHead aL aB aAt).2.2) (b := (getHead aL aB aAt).2.2))) ?_
  refine TL.known 82 (c := false) (by simp) rfl ?_
  refine TL.cons rfl (Step.pick (b := false) (p := (.one (.d (.bool false)))) rfl rfl (lt_ok rfl) rfl rfl) ?_
  refine TL.nil ?_
  refine T.weaken (E' := { tm := [(1, (.one (.d (.ints .u8 aB)))), (2, (.one (.d (.int .i64 aAt)))), (3, (.one (.ptr 3 0))), (6, (.one (.d (.bool false)))), (7, (.one (.ptr 7 0))), (8, (.one (.d (.int .i64 (getHead aL aB aAt).2.1)))), (9, (.one (.d (.int .i64 (getHead aL aB aAt).2.2)))), (11, (.one (.ptr 11 0))), (83, (.one (.d (.bool false))))], rows := [(4029, (5, (.ints .u8 (getHead aL aB aAt).1.f3))), (5029, (5, (.ints .u8 (getHead aL aB aAt).1.f4))), (8029, (5, (.ints .u8 (getHead aL aB aAt).1.f5.f2))), (9029, (5, (.ints .u8 (getHead aL aB aAt).1.f5.f3))), (10029, (24, (.bss (getHead aL aB aAt).1.f5.f4))), (4040, (5, (.ints .u8 (getHead aL aB aAt).1.f3))), (5040, (5, (.ints .u8 (getHead aL aB aAt).1.f4))), (8040, (5, (.ints .u8 (getHead aL aB aAt).1.f5.f2))), (9040, (5, (.ints .u8 (getHead aL aB aAt).1.f5.f3))), (10040, (24, (.bss (getHead aL aB aAt).1.f5.f4)))], boxes := [(3, (23, [.d (.int .i64 aL.f0), .d (.int .i64 aL.f1), .d (.int .i64 aL.f2), .d (.int .i64 aL.f3), .d (.int .i64 aL.f4)])), (11, (54, [.d (.int .i64 (getHead aL aB aAt).1.f0), .d (.int .i64 (getHead aL aB aAt).1.f1), .d (.int .i64 (getHead aL aB aAt).1.f2), .row 4040 [], .row 5040 [], .d (.int .i64 (getHead aL aB aAt).1.f5.f0), .d (.int .i64 (getHead aL aB aAt).1.f5.f1), .row 8040 [], .row 9040 [], .row 10040 []])), (7, (54, [.d (.int .i64 (getHead aL aB aAt).1.f0), .d (.int .i64 (getHead aL aB aAt).1.f1), .d (.int .i64 (getHead aL aB aAt).1.f2), .row 4029 [], .row 5029 [], .d (.int .i64 (getHead aL aB aAt).1.f5.f0), .d (.int .i64 (getHead aL aB aAt).1.f5.f1), .row 8029 [], .row 9029 [], .row 10029 []]))] }) (Env.le_mk ⟨by kernel_rfl, by kernel_rfl, by kernel_rfl, by kernel_rfl, by kernel_rfl, by kernel_rfl, by kernel_rfl, by kernel_rfl, by kernel_rfl, trivial⟩ ⟨by kernel_rfl, by kernel_rfl, by kernel_rfl, by kernel_rfl, by kernel_rfl, by kernel_rfl, by kernel_rfl, by kernel_rfl, by kernel_rfl, by kernel_rfl, trivial⟩ ⟨by kernel_rfl, by kernel_rfl, by kernel_rfl, trivial⟩) ?_
  refine T.cond (b := false) rfl (fun h6_ => absurd h6_ (by simp)) (fun h6_ => ?_)
  refine T.skip ?_
  refine T.seq ?_
  refine T.region ?_
  refine TL.cons rfl (Step.assign (p := (.one (.d (.int .i64 1)))) rfl rfl (lt_ok rfl) rfl) ?_
  refine TL.nil ?_
  refine T.seq ?_
  refine T.region ?_
  refine TL.cons rfl (Step.load_box_agg (n := 10) (qs := [.d (.int .i64 (getHead aL aB aAt).1.f0), .d (.int .i64 (getHead aL aB aAt).1.f1), .d (.int .i64 (getHead aL aB aAt).1.f2), .row 4040 [], .row 5040 [], .d (.int .i64 (getHead aL aB aAt).1.f5.f0), .d (.int .i64 (getHead aL aB aAt).1.f5.f1), .row 8040 [], .row 9040 [], .row 10040 []]) rfl rfl (lt_ok rfl) (by kernel_rfl) rfl rfl rfl rfl) ?_
  refine TL.cons rfl (Step.move (p := (.one (.d (.int .i64 1)))) rfl rfl (lt_ok rfl) rfl) ?_
  have nn7 := SHead.cm_nn (getHead aL aB aAt).1
  refine TL.cons rfl (Step.callM (f := 40) (xs := [.tmp 84, .tmp 85]) (ps := [(.agg [.d (.int .i64 (getHead aL aB aAt).1.f0), .d (.int .i64 (getHead aL aB aAt).1.f1), .d (.int .i64 (getHead aL aB aAt).1.f2), .row 4040 [], .row 5040 [], .d (.int .i64 (getHead aL aB aAt).1.f5.f0), .d (.int .i64 (getHead aL aB aAt).1.f5.f1), .row 8040 [], .row 9040 [], .row 10040 []]), (.one (.d (.int .i64 1)))]) (args := [.agg [.rd (.int .i64 (getHead aL aB aAt).1.f0), .rd (.int .i64 (getHead aL aB aAt).1.f1), .rd (.int .i64 (getHead aL aB aAt).1.f2), .mk (.ints .u8 (getHead aL aB aAt).1.f3) (.ints .u8 (mkB (getHead aL aB aAt).1.f3 1)), .mk (.ints .u8 (getHead aL aB aAt).1.f4) (.ints .u8 (mkB (getHead aL aB aAt).1.f4 (1 + ((getHead aL aB aAt).1.f3.length : Int)))), .rd (.int .i64 (getHead aL aB aAt).1.f5.f0), .rd (.int .i64 (getHead aL aB aAt).1.f5.f1), .mk (.ints .u8 (getHead aL aB aAt).1.f5.f2) (.ints .u8 (mkB (getHead aL aB aAt).1.f5.f2 ((1 + ((getHead aL aB aAt).1.f3.length : Int)) + ((getHead aL aB aAt).1.f4.length : Int)))), .mk (.ints .u8 (getHead aL aB aAt).1.f5.f3) (.ints .u8 (mkB (getHead aL aB aAt).1.f5.f3 (((1 + ((getHead aL aB aAt).1.f3.length : Int)) + ((getHead aL aB aAt).1.f4.length : Int)) + ((getHead aL aB aAt).1.f5.f2.length : Int)))), .mk (.bss (getHead aL aB aAt).1.f5.f4) (.bss (mkBs (getHead aL aB aAt).1.f5.f4 ((((1 + ((getHead aL aB aAt).1.f3.length : Int)) + ((getHead aL aB aAt).1.f4.length : Int)) + ((getHead aL aB aAt).1.f5.f2.length : Int)) + ((getHead aL aB aAt).1.f5.f3.length : Int))))], .one (.rd (.int .i64 1))]) (js := [(4040, (.ints .u8 (mkB (getHead aL aB aAt).1.f3 1))), (5040, (.ints .u8 (mkB (getHead aL aB aAt).1.f4 (1 + ((getHead aL aB aAt).1.f3.length : Int))))), (8040, (.ints .u8 (mkB (getHead aL aB aAt).1.f5.f2 ((1 + ((getHead aL aB aAt).1.f3.length : Int)) + ((getHead aL aB aAt).1.f4.length : Int))))), (9040, (.ints .u8 (mkB (getHead aL aB aAt).1.f5.f3 (((1 + ((getHead aL aB aAt).1.f3.length : Int)) + ((getHead aL aB aAt).1.f4.length : Int)) + ((getHead aL aB aAt).1.f5.f2.length : Int))))), (10040, (.bss (mkBs (getHead aL aB aAt).1.f5.f4 ((((1 + ((getHead aL aB aAt).1.f3.length : Int)) + ((getHead aL aB aAt).1.f4.length : Int)) + ((getHead aL aB aAt).1.f5.f2.length : Int)) + ((getHead aL aB aAt).1.f5.f3.length : Int)))))]) (x := (.int .i64 (1 + (getHead aL aB aAt).1.cm))) (g := .func 40) rfl rfl (lt_ok rfl) rfl (by kernel_rfl) rfl rfl (.d (.d (.d (.row (T := 5) (d := (.ints .u8 (getHead aL aB aAt).1.f3)) (e' := (.ints .u8 (mkB (getHead aL aB aAt).1.f3 1))) (d' := (.ints .u8 (mkB (getHead aL aB aAt).1.f3 1))) rfl rfl rfl rfl rfl (by simp [D.size, mkL_length]) rfl rfl (.row (T := 5) (d := (.ints .u8 (getHead aL aB aAt).1.f4)) (e' := (.ints .u8 (mkB (getHead aL aB aAt).1.f4 (1 + ((getHead aL aB aAt).1.f3.length : Int))))) (d' := (.ints .u8 (mkB (getHead aL aB aAt).1.f4 (1 + ((getHead aL aB aAt).1.f3.length : Int))))) rfl rfl rfl rfl rfl (by simp [D.size, mkL_length]) rfl rfl (.d (.d (.row (T := 5) (d := (.ints .u8 (getHead aL aB aAt).1.f5.f2)) (e' := (.ints .u8 (mkB (getHead aL aB aAt).1.f5.f2 ((1 + ((getHead aL aB aAt).1.f3.length : Int)) + ((getHead aL aB aAt).1.f4.length : Int))))) (d' := (.ints .u8 (mkB (getHead aL aB aAt).1.f5.f2 ((1 + ((getHead aL aB aAt).1.f3.length : Int)) + ((getHead aL aB aAt).1.f4.length : Int))))) rfl rfl rfl rfl rfl (by simp [D.size, mkL_length]) rfl rfl (.row (T := 5) (d := (.ints .u8 (getHead aL aB aAt).1.f5.f3)) (e' := (.ints .u8 (mkB (getHead aL aB aAt).1.f5.f3 (((1 + ((getHead aL aB aAt).1.f3.length : Int)) + ((getHead aL aB aAt).1.f4.length : Int)) + ((getHead aL aB aAt).1.f5.f2.length : Int))))) (d' := (.ints .u8 (mkB (getHead aL aB aAt).1.f5.f3 (((1 + ((getHead aL aB aAt).1.f3.length : Int)) + ((getHead aL aB aAt).1.f4.length : Int)) + ((getHead aL aB aAt).1.f5.f2.length : Int))))) rfl rfl rfl rfl rfl (by simp [D.size, mkL_length]) rfl rfl (.row (T := 24) (d := (.bss (getHead aL aB aAt).1.f5.f4)) (e' := (.bss (mkBs (getHead aL aB aAt).1.f5.f4 ((((1 + ((getHead aL aB aAt).1.f3.length : Int)) + ((getHead aL aB aAt).1.f4.length : Int)) + ((getHead aL aB aAt).1.f5.f2.length : Int)) + ((getHead aL aB aAt).1.f5.f3.length : Int))))) (d' := (.bss (mkBs (getHead aL aB aAt).1.f5.f4 ((((1 + ((getHead aL aB aAt).1.f3.length : Int)) + ((getHead aL aB aAt).1.f4.length : Int)) + ((getHead aL aB aAt).1.f5.f2.length : Int)) + ((getHead aL aB aAt).1.f5.f3.length : Int))))) rfl rfl rfl rfl rfl (by simp [D.size, mkL_length]) rfl rfl (.d .nil))))))))))) (ok_laws_markHead (getHead aL aB aAt).1 1 (by omega) (by first | omega | (have := SHead.cm_le (x := (getHead aL aB aAt).1) (by assumption); omega))) rfl) ?_
  refine TL.cons rfl (Step.assign (p := (.one (.d (.int .i64 (1 + (getHead aL aB aAt).1.cm))))) rfl rfl (lt_ok rfl) rfl) ?_
  refine TL.nil ?_
  refine T.seq ?_
  refine T.region ?_
  refine TL.cons rfl (Step.assign (p := (.one (.d (.int .i64 1)))) rfl rfl (lt_ok rfl) rfl) ?_
  refine TL.nil ?_
  refine T.seq ?_
  refine T.region ?_
  refine TL.cons rfl (Step.load_box_agg (n := 10) (qs := [.d (.int .i64 (getHead aL aB aAt).1.f0), .d (.int .i64 (getHead aL aB aAt).1.f1), .d (.int .i64 (getHead aL aB aAt).1.f2), .row 4040 [], .row 5040 [], .d (.int .i64 (getHead aL aB aAt).1.f5.f0), .d (.int .i64 (getHead aL aB aAt).1.f5.f1), .row 8040 [], .row 9040 [], .row 10040 []]) rfl rfl (lt_ok rfl) (by kernel_rfl) rfl rfl rfl rfl) ?_
  refine TL.cons rfl (Step.move (p := (.one (.d (.int .i64 1)))) rfl rfl (lt_ok rfl) rfl) ?_
  have nn8 := SHead.cm_nn (getHead aL aB aAt).1
  refine TL.cons rfl (Step.call (f := 41) (xs := [.tmp 87, .tmp 88]) (ps := [(.agg [.d (.int .i64 (getHead aL aB aAt).1.f0), .d (.int .i64 (getHead aL aB aAt).1.f1), .d (.int .i64 (getHead aL aB aAt).1.f2), .row 4040 [], .row 5040 [], .d (.int .i64 (getHead aL aB aAt).1.f5.f0), .d (.int .i64 (getHead aL aB aAt).1.f5.f1), .row 8040 [], .row 9040 [], .row 10040 []]), (.one (.d (.int .i64 1)))]) false (g := .func 41) rfl rfl (lt_ok rfl) rfl (by kernel_rfl) rfl (.cons (.agg (.cons (.d _) (.cons (.d _) (.cons (.d _) (.cons (.row rfl rfl rfl rfl) (.cons (.row rfl rfl rfl rfl) (.cons (.d _) (.cons (.d _) (.cons (.row rfl rfl rfl rfl) (.cons (.row rfl rfl rfl rfl) (.cons (.row rfl rfl rfl rfl) .nil))))))))))) (.cons (.one (.d _)) .nil)) (ok_laws_heldHead (getHead aL aB aAt).1 (⟨(getHead aL aB aAt).1.f0, (getHead aL aB aAt).1.f1, (getHead aL aB aAt).1.f2, mkB (getHead aL aB aAt).1.f3 1, mkB (getHead aL aB aAt).1.f4 (1 + ((getHead aL aB aAt).1.f3.length : Int)), (⟨(getHead aL aB aAt).1.f5.f0, (getHead aL aB aAt).1.f5.f1, mkB (getHead aL aB aAt).1.f5.f2 ((1 + ((getHead aL aB aAt).1.f3.length : Int)) + ((getHead aL aB aAt).1.f4.length : Int)), mkB (getHead aL aB aAt).1.f5.f3 (((1 + ((getHead aL aB aAt).1.f3.length : Int)) + ((getHead aL aB aAt).1.f4.length : Int)) + ((getHead aL aB aAt).1.f5.f2.length : Int)), mkBs (getHead aL aB aAt).1.f5.f4 ((((1 + ((getHead aL aB aAt).1.f3.length : Int)) + ((getHead aL aB aAt).1.f4.length : Int)) + ((getHead aL aB aAt).1.f5.f2.length : Int)) + ((getHead aL aB aAt).1.f5.f3.length : Int))⟩ : SQc)⟩ : SHead) 1 (by omega) (by first | omega | (have := SHead.cm_le (x := (getHead aL aB aAt).1) (by assumption); omega)) (by first | rfl | assumption | (repeat' (first | rfl | apply And.intro)))) (.inr rfl) rfl (by simp) rfl) ?_
  refine TL.cons rfl (Step.assign (p := (.one (.d (.int .i64 (1 + (getHead aL aB aAt).1.cm))))) rfl rfl (lt_ok rfl) rfl) ?_
  refine TL.nil ?_
  refine T.seq ?_
  refine T.seq ?_
  refine T.region ?_
  refine TL.cons rfl (Step.move (p := (.one (.d (.int .i64 (1 + (getHead aL aB aAt).1.cm))))) rfl rfl (lt_ok rfl) rfl) ?_
  refine TL.cons rfl (Step.bin rfl rfl (lt_ok rfl) rfl rfl (Bin.lss (k := .i64) (a := (1 + (getHead aL aB aAt).1.cm)) (b := 0))) ?_
  refine TL.known 91 (c := false) (decide_eq_false (by omega)) rfl ?_
  refine TL.nil ?_
  refine T.cond (b := false) rfl (fun h9_ => absurd h9_ (by simp)) (fun h9_ => ?_)
  refine T.skip ?_
  refine T.seq ?_
  refine T.seq ?_
  refine T.region ?_
  refine TL.cons rfl (Step.move (p := (.one (.d (.int .i64 (1 + (getHead aL aB aAt).1.cm))))) rfl rfl (lt_ok rfl) rfl) ?_
  refine TL.cons rfl (Step.move (p := (.one (.d (.int .i64 (1 + (getHead aL aB aAt).1.cm))))) rfl rfl (lt_ok rfl) rfl) ?_
  refine TL.cons rfl (Step.bin rfl rfl (lt_ok rfl) rfl rfl (Bin.neq (k := .i64) (a := (1 + (getHead aL aB aAt).1.cm)) (b := (1 + (getHead aL aB aAt).1.cm)))) ?_
  refine TL.known 94 (c := false) (by simp) rfl ?_
  refine TL.nil ?_
  refine T.cond (b := false) rfl (fun h10_ => absurd h10_ (by simp)) (fun h10_ => ?_)
  refine T.skip ?_
  refine T.seq ?_
  refine T.region ?_
  refine TL.cons rfl (Step.load_box_agg (n := 5) (qs := [.d (.int .i64 aL.f0), .d (.int .i64 aL.f1), .d (.int .i64 aL.f2), .d (.int .i64 aL.f3), .d (.int .i64 aL.f4)]) rfl rfl (lt_ok rfl) (by kernel_rfl) rfl rfl rfl rfl) ?_
  refine TL.cons rfl (Step.call (f := 17) (xs := [.tmp 96]) (ps := [(.agg [.d (.int .i64 aL.f0), .d (.int .i64 aL.f1), .d (.int .i64 aL.f2), .d (.int .i64 aL.f3), .d (.int .i64 aL.f4)])]) false (g := .func 17) rfl rfl (lt_ok rfl) rfl (by kernel_rfl) rfl (.cons (.agg (.cons (.d _) (.cons (.d _) (.cons (.d _) (.cons (.d _) (.cons (.d _) .nil)))))) .nil) (ok_laws_toLimits aL) (.inr rfl) rfl (by simp) rfl) ?_
  refine TL.cons rfl (Step.move (p := (.one (.d (.ints .u8 aB)))) rfl rfl (lt_ok rfl) rfl) ?_
  refine TL.cons rfl (Step.call (f := 18) (xs := [.tmp 98]) (ps := [(.one (.d (.ints .u8 aB)))]) false (g := .func 18) rfl rfl (lt_ok rfl) rfl (by kernel_rfl) rfl (.cons (.one (.d _)) .nil) (ok_laws_toByteS aB (by first | omega | assumption | exact mem_getD h0_.2 (by omega))) (.inr rfl) rfl (by simp) rfl) ?_
  refine TL.cons rfl (Step.move (p := (.one (.d (.int .i64 aAt)))) rfl rfl (lt_ok rfl) rfl) ?_
  have nn11 := @getHead_sm aL aB aAt (by first | assumption | omega)
  refine TL.cons rfl (Step.call (f := 38) (xs := [.tmp 97, .tmp 99, .tmp 100]) (ps := [(.agg [.d (.int .i64 aL.f0), .d (.int .i64 aL.f1), .d (.int .i64 aL.f2), .d (.int .i64 aL.f3), .d (.int .i64 aL.f4)]), (.one (.row 1099 [])), (.one (.d (.int .i64 aAt)))]) false (g := .func 38) rfl rfl (lt_ok rfl) rfl (by kernel_rfl) rfl (.cons (.agg (.cons (.d _) (.cons (.d _) (.cons (.d _) (.cons (.d _) (.cons (.d _) .nil)))))) (.cons (.one (.row rfl rfl rfl rfl)) (.cons (.one (.d _)) .nil))) (ok_impl_GetHead aL aB aAt (by assumption) (by first | omega | assumption | (simp only [List.length_append] at *; omega))) (.inr rfl) rfl (by simp) rfl) ?_
  refine TL.cons rfl (Step.move (p := (.tup [(true, [.d (.int .i64 (getHead aL aB aAt).1.f0), .d (.int .i64 (getHead aL aB aAt).1.f1), .d (.int .i64 (getHead aL aB aAt).1.f2), .row 4101 [], .row 5101 [], .d (.int .i64 (getHead aL aB aAt).1.f5.f0), .d (.int .i64 (getHead aL aB aAt).1.f5.f1), .row 8101 [], .row 9101 [], .row 10101 []]), (false, [.d (.int .i64 (getHead aL aB aAt).2.1)]), (false, [.d (.int .i64 (getHead aL aB aAt).2.2)])])) rfl rfl (lt_ok rfl) rfl) ?_
  refine TL.cons rfl (Step.extract (p := (.agg [.d (.int .i64 (getHead aL aB aAt).1.f0), .d (.int .i64 (getHead aL aB aAt).1.f1), .d (.int .i64 (getHead aL aB aAt).1.f2), .row 4101 [], .row 5101 [], .d (.int .i64 (getHead aL aB aAt).1.f5.f0), .d (.int .i64 (getHead aL aB aAt).1.f5.f1), .row 8101 [], .row 9101 [], .row 10101 []])) rfl rfl (lt_ok rfl) rfl rfl) ?_
  refine TL.cons rfl (Step.extract (p := (.one (.d (.int .i64 (getHead aL aB aAt).2.1)))) rfl rfl (lt_ok rfl) rfl rfl) ?_
  refine TL.cons rfl (Step.extract (p := (.one (.d (.int .i64 (getHead aL aB aAt).2.2)))) rfl rfl (lt_ok rfl) rfl rfl) ?_
  refine TL.cons rfl (Step.alloc (cs := [.int .i64 0, .int .i64 0, .int .i64 0, .slice none 0 0, .slice none 0 0, .int .i64 0, .int .i64 0, .slice none 0 0, .slice none 0 0, .slice none 0 0]) (ps := [.d (.int .i64 0), .d (.int .i64 0), .d (.int .i64 0), .nil, .nil, .d (.int .i64 0), .d (.int .i64 0), .nil, .nil, .nil]) rfl rfl (lt_ok rfl) (by kernel_rfl) rfl rfl rfl rfl) ?_
  refine TL.cons rfl (Step.store_box (n := 10) (p := (.agg [.d (.int .i64 (getHead aL aB aAt).1.f0), .d (.int .i64 (getHead aL aB aAt).1.f1), .d (.int .i64 (getHead aL aB aAt).1.f2), .row 4101 [], .row 5101 [], .d (.int .i64 (getHead aL aB aAt).1.f5.f0), .d (.int .i64 (getHead aL aB aAt).1.f5.f1), .row 8101 [], .row 9101 [], .row 10101 []])) (qs := [.d (.int .i64 (getHead aL aB aAt).1.f0), .d (.int .i64 (getHead aL aB aAt).1.f1), .d (.int .i64 (getHead aL aB aAt).1.f2), .row 4101 [], .row 5101 [], .d (.int .i64 (getHead aL aB aAt).1.f5.f0), .d (.int .i64 (getHead aL aB aAt).1.f5.f1), .row 8101 [], .row 9101 [], .row 10101 []]) (ps' := [.d (.int .i64 (getHead aL aB aAt).1.f0), .d (.int .i64 (getHead aL aB aAt).1.f1), .d (.int .i64 (getHead aL aB aAt).1.f2), .row 4101 [], .row 5101 [], .d (.int .i64 (getHead aL aB aAt).1.f5.f0), .d (.int .i64 (getHead aL aB aAt).1.f5.f1), .row 8101 [], .row 9101 [], .row 10101 []]) rfl rfl (by kernel_rfl) rfl rfl rfl rfl rfl rfl (le_ok rfl) rfl) ?_
  refine TL.cons rfl (Step.assign (p := (.one (.d (.int .i64 (getHead aL aB aAt).2.1)))) rfl rfl (lt_ok rfl) rfl) ?_
  refine TL.cons rfl (Step.assign (p := (.one (.d (.int .i64 (getHead aL aB aAt).2.2)))) rfl rfl (lt_ok rfl) rfl) ?_
  refine TL.nil ?_
  refine T.weaken (E' := { tm := [(6, (.one (.d (.bool false)))), (7, (.one (.ptr 7 0))), (8, (.one (.d (.int .i64 (getHead aL aB aAt).2.1)))), (9, (.one (.d (.int .i64 (getHead aL aB aAt).2.2)))), (11, (.one (.ptr 11 0))), (15, (.one (.d (.int .i64 (1 + (getHead aL aB aAt).1.cm))))), (16, (.one (.d (.int .i64 (1 + (getHead aL aB aAt).1.cm))))), (17, (.one (.ptr 17 0))), (18, (.one (.d (.int .i64 (getHead aL aB aAt).2.1)))), (19, (.one (.d (.int .i64 (getHead aL aB aAt).2.2))))], rows := [(4029, (5, (.ints .u8 (getHead aL aB aAt).1.f3))), (5029, (5, (.ints .u8 (getHead aL aB aAt).1.f4))), (8029, (5, (.ints .u8 (getHead aL aB aAt).1.f5.f2))), (9029, (5, (.ints .u8 (getHead aL aB aAt).1.f5.f3))), (10029, (24, (.bss (getHead aL aB aAt).1.f5.f4))), (4040, (5, (.ints .u8 (mkB (getHead aL aB aAt).1.f3 1)))), (5040, (5, (.ints .u8 (mkB (getHead aL aB aAt).1.f4 (1 + ((getHead aL aB aAt).1.f3.length : Int)))))), (8040, (5, (.ints .u8 (mkB (getHead aL aB aAt).1.f5.f2 ((1 + ((getHead aL aB aAt).1.f3.length : Int)) + ((getHead aL aB aAt).1.f4.length : Int)))))), (9040, (5, (.ints .u8 (mkB (getHead aL aB aAt).1.f5.f3 (((1 + ((getHead aL aB aAt).1.f3.length : Int)) + ((getHead aL aB aAt).1.f4.length : Int)) + ((getHead aL aB aAt).1.f5.f2.length : Int)))))), (10040, (24, (.bss (mkBs (getHead aL aB aAt).1.f5.f4 ((((1 + ((getHead aL aB aAt).1.f3.length : Int)) + ((getHead aL aB aAt).1.f4.length : Int)) + ((getHead aL aB aAt).1.f5.f2.length : Int)) + ((getHead aL aB aAt).1.f5.f3.length : Int)))))), (4101, (5, (.ints .u8 (getHead aL aB aAt).1.f3))), (5101, (5, (.ints .u8 (getHead aL aB aAt).1.f4))), (8101, (5, (.ints .u8 (getHead aL aB aAt).1.f5.f2))), (9101, (5, (.ints .u8 (getHead aL aB aAt).1.f5.f3))), (10101, (24, (.bss (getHead aL aB aAt).1.f5.f4)))], boxes := [(17, (54, [.d (.int .i64 (getHead aL aB aAt).1.f0), .d (.int .i64 (getHead aL aB aAt).1.f1), .d (.int .i64 (getHead aL aB aAt).1.f2), .row 4101 [], .row 5101 [], .d (.int .i64 (getHead aL aB aAt).1.f5.f0), .d (.int .i64 (getHead aL aB aAt).1.f5.f1), .row 8101 [], .row 9101 [], .row 10101 []])), (11, (54, [.d (.int .i64 (getHead aL aB aAt).1.f0), .d (.int .i64 (getHead aL aB aAt).1.f1), .d (.int .i64 (getHead aL aB aAt).1.f2), .row 4040 [], .row 5040 [], .d (.int .i64 (getHead aL aB aAt).1.f5.f0), .d (.int .i64 (getHead aL aB aAt).1.f5.f1), .row 8040 [], .row 9040 [], .row 10040 []])), (7, (54, [.d (.int .i64 (getHead aL aB aAt).1.f0), .d (.int .i64 (getHead aL aB aAt).1.f1), .d (.int .i64 (getHead aL aB aAt).1.f2), .row 4029 [], .row 5029 [], .d (.int .i64 (getHead aL aB aAt).1.f5.f0), .d (.int .i64 (getHead aL aB aAt).1.f5.f1), .row 8029 [], .row 9029 [], .row 10029 []]))] }) (Env.le_mk ⟨by kernel_rfl, by kernel_rfl, by kernel_rfl, by kernel_rfl, by kernel_rfl, by kernel_rfl, by kernel_rfl, by kernel_rfl, by kernel_rfl, by kernel_rfl, trivial⟩ ⟨by kernel_rfl, by kernel_rfl, by kernel_rfl, by kernel_rfl, by kernel_rfl, by kernel_rfl, by kernel_rfl, by kernel_rfl, by kernel_rfl, by kernel_rfl, by kernel_rfl, by kernel_rfl, by kernel_rfl, by kernel_rfl, by kernel_rfl, trivial⟩ ⟨by kernel_rfl, by kernel_rfl, by kernel_rfl, trivial⟩) ?_
  refine T.seq ?_
  refine T.seq ?_
  refine T.region ?_
  refine TL.cons rfl (Step.load_box_agg (n := 10) (qs := [.d (.int .i64 (getHead aL aB aAt).1.f0), .d (.int .i64 (getHead aL aB aAt).1.f1), .d (.int .i64 (getHead aL aB aAt).1.f2), .row 4101 [], .row 5101 [], .d (.int .i64 (getHead aL aB aAt).1.f5.f0), .d (.int .i64 (getHead aL aB aAt).1.f5.f1), .row 8101 [], .row 9101 [], .row 10101 []]) rfl rfl (lt_ok rfl) (by kernel_rfl) rfl rfl rfl rfl) ?_
  refine TL.cons rfl (Step.load_box_agg (n := 10) (qs := [.d (.int .i64 (getHead aL aB aAt).1.f0), .d (.int .i64 (getHead aL aB aAt).1.f1), .d (.int .i64 (getHead aL aB aAt).1.f2), .row 4029 [], .row 5029 [], .d (.int .i64 (getHead aL aB aAt).1.f5.f0), .d (.int .i64 (getHead aL aB aAt).1.f5.f1), .row 8029 [], .row 9029 [], .row 10029 []]) rfl rfl (lt_ok rfl) (by kernel_rfl) rfl rfl rfl rfl) ?_
  refine TL.cons rfl (Step.call (f := 39) (xs := [.tmp 105, .tmp 106]) (ps := [(.agg [.d (.int .i64 (getHead aL aB aAt).1.f0), .d (.int .i64 (getHead aL aB aAt).1.f1), .d (.int .i64 (getHead aL aB aAt).1.f2), .row 4101 [], .row 5101 [], .d (.int .i64 (getHead aL aB aAt).1.f5.f0), .d (.int .i64 (getHead aL aB aAt).1.f5.f1), .row 8101 [], .row 9101 [], .row 10101 []]), (.agg [.d (.int .i64 (getHead aL aB aAt).1.f0), .d (.int .i64 (getHead aL aB aAt).1.f1), .d (.int .i64 (getHead aL aB aAt).1.f2), .row 4029 [], .row 5029 [], .d (.int .i64 (getHead aL aB aAt).1.f5.f0), .d (.int .i64 (getHead aL aB aAt).1.f5.f1), .row 8029 [], .row 9029 [], .row 10029 []])]) false (g := .func 39) rfl rfl (lt_ok rfl) rfl (by kernel_rfl) rfl (.cons (.agg (.cons (.d _) (.cons (.d _) (.cons (.d _) (.cons (.row rfl rfl rfl rfl) (.cons (.row rfl rfl rfl rfl) (.cons (.d _) (.cons (.d _) (.cons (.row rfl rfl rfl rfl) (.cons (.row rfl rfl rfl rfl) (.cons (.row rfl rfl rfl rfl) .nil))))))))))) (.cons (.agg (.cons (.d _) (.cons (.d _) (.cons (.d _) (.cons (.row rfl rfl rfl rfl) (.cons (.row rfl rfl rfl rfl) (.cons (.d _) (.cons (.d _) (.cons (.row rfl rfl rfl rfl) (.cons (.row rfl rfl rfl rfl) (.cons (.row rfl rfl rfl rfl) .nil))))))))))) .nil)) (ok_laws_eqHead (getHead aL aB aAt).1 (getHead aL aB aAt).1) (.inr rfl) rfl (by simp) rfl) ?_
  refine TL.known 107 (c := true) (by simp) rfl ?_
  refine TL.cons rfl (Step.not (b := true) rfl rfl (lt_ok rfl) rfl) ?_
  refine TL.cons rfl (Step.move (p := (.one (.d (.bool false)))) rfl rfl (lt_ok rfl) rfl) ?_
  refine TL.gyes 109 rfl rfl (lt_ok rfl) rfl (Step.move (p := (.one (.d (.int .i64 (getHead aL aB aAt).2.1)))) rfl rfl (lt_ok rfl) rfl) ?_
  refine TL.gyes 109 rfl rfl (lt_ok rfl) rfl (Step.move (p := (.one (.d (.int .i64 (getHead aL aB aAt).2.1)))) rfl rfl (lt_ok rfl) rfl) ?_
  refine TL.gyes 109 rfl rfl (lt_ok rfl) rfl (Step.bin rfl rfl (lt_ok rfl) rfl rfl (Bin.neq (k := .i64) (a := (getHead aL aB aAt).2.1) (b := (getHead aL aB aAt).2.1))) ?_
  refine TL.known 112 (c := false) (by simp) rfl ?_
  refine TL.cons rfl (Step.pick (b := false) (p := (.one (.d (.bool false)))) rfl rfl (lt_ok rfl) rfl rfl) ?_
  refine TL.cons rfl (Step.move (p := (.one (.d (.bool false)))) rfl rfl (lt_ok rfl) rfl) ?_
  refine TL.gyes 114 rfl rfl (lt_ok rfl) rfl (Step.move (p := (.one (.d (.int .i64 (getHead aL aB aAt).2.2)))) rfl rfl (lt_ok rfl) rfl) ?_
  refine TL.gyes 114 rfl rfl (lt_ok rfl) rfl (Step.move (p := (.one (.d (.int .i64 (getHead aL aB aAt).2.2)))) rfl rfl (lt_ok rfl) rfl) ?_
  refine TL.gyes 114 rfl rfl (lt_ok rfl) rfl (Step.bin rfl rfl (lt_ok rfl) rfl rfl (Bin.neq (k := .i64) (a := (getHead aL aB aAt).2.2) (b := (getHead aL aB aAt).2.2))) ?_
  refine TL.known 117 (c := false) (by simp) rfl ?_
  refine TL.cons rfl (Step.pick (b := false) (p := (.one (.d (.bool false)))) rfl rfl (lt_ok rfl) rfl rfl) ?_
  refine TL.nil ?_
  refine T.cond (b := false) rfl (fun h12_ => absurd h12_ (by simp)) (fun h12_ => ?_)
  refine T.skip ?_
  refine T.seq ?_
  refine T.region ?_
  refine TL.cons rfl (Step.assign (p := (.one (.d (.int .i64 1)))) rfl rfl (lt_ok rfl) rfl) ?_
  refine TL.nil ?_
  refine T.seq ?_
  refine T.region ?_
  refine TL.cons rfl (Step.load_box_agg (n := 10) (qs := [.d (.int .i64 (getHead aL aB aAt).1.f0), .d (.int .i64 (getHead aL aB aAt).1.f1), .d (.int .i64 (getHead aL aB aAt).1.f2), .row 4040 [], .row 5040 [], .d (.int .i64 (getHead aL aB aAt).1.f5.f0), .d (.int .i64 (getHead aL aB aAt).1.f5.f1), .row 8040 [], .row 9040 [], .row 10040 []]) rfl rfl (lt_ok rfl) (by kernel_rfl) rfl rfl rfl rfl) ?_
  refine TL.cons rfl (Step.move (p := (.one (.d (.int .i64 1)))) rfl rfl (lt_ok rfl) rfl) ?_
  have nn13 := SHead.cm_nn (getHead aL aB aAt).1
  refine TL.cons rfl (Step.call (f := 41) (xs := [.tmp 119, .tmp 120]) (ps := [(.agg [.d (.int .i64 (getHead aL aB aAt).1.f0), .d (.int .i64 (getHead aL aB aAt).1.f1), .d (.int .i64 (getHead aL aB aAt).1.f2), .row 4040 [], .row 5040 [], .d (.int .i64 (getHead aL aB aAt).1.f5.f0), .d (.int .i64 (getHead aL aB aAt).1.f5.f1), .row 8040 [], .row 9040 [], .row 10040 []]), (.one (.d (.int .i64 1)))]) false (g := .func 41) rfl rfl (lt_ok rfl) rfl (by kernel_rfl) rfl (.cons (.agg (.cons (.d _) (.cons (.d _) (.cons (.d _) (.cons (.row rfl rfl rfl rfl) (.cons (.row rfl rfl rfl rfl) (.cons (.d _) (.cons (.d _) (.cons (.row rfl rfl rfl rfl) (.cons (.row rfl rfl rfl rfl) (.cons (.row rfl rfl rfl rfl) .nil))))))))))) (.cons (.one (.d _)) .nil)) (ok_laws_heldHead (getHead aL aB aAt).1 (⟨(getHead aL aB aAt).1.f0, (getHead aL aB aAt).1.f1, (getHead aL aB aAt).1.f2, mkB (getHead aL aB aAt).1.f3 1, mkB (getHead aL aB aAt).1.f4 (1 + ((getHead aL aB aAt).1.f3.length : Int)), (⟨(getHead aL aB aAt).1.f5.f0, (getHead aL aB aAt).1.f5.f1, mkB (getHead aL aB aAt).1.f5.f2 ((1 + ((getHead aL aB aAt).1.f3.length : Int)) + ((getHead aL aB aAt).1.f4.length : Int)), mkB (getHead aL aB aAt).1.f5.f3 (((1 + ((getHead aL aB aAt).1.f3.length : Int)) + ((getHead aL aB aAt).1.f4.length : Int)) + ((getHead aL aB aAt).1.f5.f2.length : Int)), mkBs (getHead aL aB aAt).1.f5.f4 ((((1 + ((getHead aL aB aAt).1.f3.length : Int)) + ((getHead aL aB aAt).1.f4.length : Int)) + ((getHead aL aB aAt).1.f5.f2.length : Int)) + ((getHead aL aB aAt).1.f5.f3.length : Int))⟩ : SQc)⟩ : SHead) 1 (by omega) (by first | omega | (have := SHead.cm_le (x := (getHead aL aB aAt).1) (by assumption); omega)) (by first | rfl | assumption | (repeat' (first | rfl | apply And.intro)))) (.inr rfl) rfl (by simp) rfl) ?_
  refine TL.cons rfl (Step.assign (p := (.one (.d (.int .i64 (1 + (getHead aL aB aAt).1.cm))))) rfl rfl (lt_ok rfl) rfl) ?_
  refine TL.nil ?_
  refine T.seq ?_
  refine T.seq ?_
  refine T.region ?_
  refine TL.cons rfl (Step.move (p := (.one (.d (.int .i64 (1 + (getHead aL aB aAt).1.cm))))) rfl rfl (lt_ok rfl) rfl) ?_
  refine TL.cons rfl (Step.bin rfl rfl (lt_ok rfl) rfl rfl (Bin.lss (k := .i64) (a := (1 + (getHead aL aB aAt).1.cm)) (b := 0))) ?_
  refine TL.known 123 (c := false) (decide_eq_false (by omega)) rfl ?_
  refine TL.nil ?_
  refine T.cond (b := false) rfl (fun h14_ => absurd h14_ (by simp)) (fun h14_ => ?_)
  refine T.skip ?_
  refine T.seq ?_
  refine T.seq ?_
  refine T.region ?_
  refine TL.cons rfl (Step.move (p := (.one (.d (.int .i64 (1 + (getHead aL aB aAt).1.cm))))) rfl rfl (lt_ok rfl) rfl) ?_
  refine TL.cons rfl (Step.move (p := (.one (.d (.int .i64 (1 + (getHead aL aB aAt).1.cm))))) rfl rfl (lt_ok rfl) rfl) ?_
  refine TL.cons rfl (Step.bin rfl rfl (lt_ok rfl) rfl rfl (Bin.neq (k := .i64) (a := (1 + (getHead aL aB aAt).1.cm)) (b := (1 + (getHead aL aB aAt).1.cm)))) ?_
  refine TL.known 126 (c := false) (by simp) rfl ?_
  refine TL.nil ?_
  refine T.cond (b := false) rfl (fun h15_ => absurd h15_ (by simp)) (fun h15_ => ?_)
  refine T.skip ?_
  refine T.seq ?_
  refine T.region ?_
  refine TL.cons rfl (Step.assign (p := (.one (.d (.bool true)))) rfl rfl (lt_ok rfl) rfl) ?_
  refine TL.nil ?_
  refine T.ret ?_
  exact ⟨[(false, [.d (.bool true)])], (.cons rfl .nil), rfl, [], (RetC.rd' (by rfl) .nil)⟩
end Go.Proofs.Ytlcmflenbddliaa.Rf
