/- The functions that FnExactPutBlock calls, each held to what it answers. Printed by a program of this session; Lean checks it. -/
import Derived.Test.YtlcmflenbddliaaProg
import Derived.Test.YtlcmflenbddliaaRFnExactPutBlockx2
namespace Go.Proofs.Ytlcmflenbddliaa.Rf
open Go.RowKit
set_option linter.unusedVariables false
set_option linter.unnecessarySimpa false
set_option linter.unusedSimpArgs false
set_option maxRecDepth 100000
set_option maxHeartbeats 4000000
theorem ok_laws_eqQc (a : SQc) (b : SQc) : RO Try.prog 34 [.agg a.cells, .agg b.cells] [(false, [.rd (.bool (decide (a = b)))])] := by
 refine RO.intro Try.func34 rfl 33 rfl (le_ok rfl) fun w Z => ?_
 refine T.seq ?_
 refine T.region ?_
 refine TL.c (Step.box (p := (.agg [cI a.f0, cI a.f1, cS a.f2, cS a.f3, .d (.bss a.f4)])) (ps := [cI a.f0, cI a.f1, cS a.f2, cS a.f3, .d (.bss a.f4)]) rfl rfl (lt_ok rfl) rfl rfl rfl rfl rfl) ?_
 refine TL.c (Step.box (p := (.agg [cI b.f0, cI b.f1, cS b.f2, cS b.f3, .d (.bss b.f4)])) (ps := [cI b.f0, cI b.f1, cS b.f2, cS b.f3, .d (.bss b.f4)]) rfl rfl (lt_ok rfl) rfl rfl rfl rfl rfl) ?_
 refine TL.as (pB false) ?_
 refine TL.nil ?_
 refine T.seq ?_
 refine T.seq ?_
 refine T.region ?_
 refine TL.c (Step.fieldAddr (q := 0) (off := 0) (n := 1) (one := true) rfl rfl (lt_ok rfl) (by kernel_rfl) (Nat.succ_ne_zero _) rfl) ?_
 refine TL.c (Step.load_box (c := cI a.f0) rfl rfl (lt_ok rfl) (by kernel_rfl) rfl rfl rfl) ?_
 refine TL.c (Step.fieldAddr (q := 0) (off := 0) (n := 1) (one := true) rfl rfl (lt_ok rfl) (by kernel_rfl) (Nat.succ_ne_zero _) rfl) ?_
 refine TL.c (Step.load_box (c := cI b.f0) rfl rfl (lt_ok rfl) (by kernel_rfl) rfl rfl rfl) ?_
 refine TL.c (Step.bin rfl rfl (lt_ok rfl) rfl rfl (Bin.neq (k := .i64) (a := a.f0) (b := b.f0))) ?_
 refine TL.nil ?_
 refine T.cond (b := decide (a.f0 ≠ b.f0)) rfl (fun h1 => ?_) (fun h1 => ?_)
 ·
  replace h1 := of_decide_eq_true h1
  refine T.seq ?_
  refine T.region ?_
  refine TL.as (pB false) ?_
  refine TL.nil ?_
  refine T.ret ?_
  refine ⟨[(false, [.d (.bool false)])], (.cons rfl .nil), rfl, [], (RetC.rd' ?_ .nil)⟩ <;> ((congr 1; symm; first | (apply decide_eq_false; rintro rfl; first | exact absurd rfl ‹¬ _ = _› | contradiction) | (apply decide_eq_true; apply SQc.ext <;> first | assumption | exact Decidable.not_not.1 (by assumption))))
 ·
  replace h1 := of_decide_eq_false h1
  refine T.skip ?_
  refine T.seq ?_
  refine T.seq ?_
  refine T.region ?_
  refine TL.c (Step.fieldAddr (q := 0) (off := 1) (n := 1) (one := true) rfl rfl (lt_ok rfl) (by kernel_rfl) (Nat.succ_ne_zero _) rfl) ?_
  refine TL.c (Step.load_box (c := cI a.f1) rfl rfl (lt_ok rfl) (by kernel_rfl) rfl rfl rfl) ?_
  refine TL.c (Step.fieldAddr (q := 0) (off := 1) (n := 1) (one := true) rfl rfl (lt_ok rfl) (by kernel_rfl) (Nat.succ_ne_zero _) rfl) ?_
  refine TL.c (Step.load_box (c := cI b.f1) rfl rfl (lt_ok rfl) (by kernel_rfl) rfl rfl rfl) ?_
  refine TL.c (Step.bin rfl rfl (lt_ok rfl) rfl rfl (Bin.neq (k := .i64) (a := a.f1) (b := b.f1))) ?_
  refine TL.nil ?_
  refine T.cond (b := decide (a.f1 ≠ b.f1)) rfl (fun h2 => ?_) (fun h2 => ?_)
  ·
   replace h2 := of_decide_eq_true h2
   refine T.seq ?_
   refine T.region ?_
   refine TL.as (pB false) ?_
   refine TL.nil ?_
   refine T.ret ?_
   refine ⟨[(false, [.d (.bool false)])], (.cons rfl .nil), rfl, [], (RetC.rd' ?_ .nil)⟩ <;> ((congr 1; symm; first | (apply decide_eq_false; rintro rfl; first | exact absurd rfl ‹¬ _ = _› | contradiction) | (apply decide_eq_true; apply SQc.ext <;> first | assumption | exact Decidable.not_not.1 (by assumption))))
  ·
   replace h2 := of_decide_eq_false h2
   refine T.skip ?_
   refine T.seq ?_
   refine T.seq ?_
   refine T.region ?_
   refine TL.c (Step.fieldAddr (q := 0) (off := 2) (n := 1) (one := true) rfl rfl (lt_ok rfl) (by kernel_rfl) (Nat.succ_ne_zero _) rfl) ?_
   refine TL.c (Step.load_box (c := cS a.f2) rfl rfl (lt_ok rfl) (by kernel_rfl) rfl rfl rfl) ?_
   refine TL.c (Step.fieldAddr (q := 0) (off := 2) (n := 1) (one := true) rfl rfl (lt_ok rfl) (by kernel_rfl) (Nat.succ_ne_zero _) rfl) ?_
   refine TL.c (Step.load_box (c := cS b.f2) rfl rfl (lt_ok rfl) (by kernel_rfl) rfl rfl rfl) ?_
   refine TL.c (Step.cl (xs := [.tmp 16, .tmp 18]) (ps := [(pS a.f2), (pS b.f2)]) (g := .func 21) false (.cons (.one (.d _)) (.cons (.one (.d _)) .nil)) (ok_laws_eqByteS a.f2 b.f2)) ?_
   refine TL.c (Step.not (b := (decide (a.f2 = b.f2))) rfl rfl (lt_ok rfl) rfl) ?_
   refine TL.nil ?_
   refine T.cond (b := !(decide (a.f2 = b.f2))) rfl (fun h3 => ?_) (fun h3 => ?_)
   ·
    replace h3 : (decide (a.f2 = b.f2)) = false := by simpa only [Bool.not_eq_true', Bool.not_eq_false'] using h3
    replace h3 := of_decide_eq_false h3
    refine T.seq ?_
    refine T.region ?_
    refine TL.as (pB false) ?_
    refine TL.nil ?_
    refine T.ret ?_
    refine ⟨[(false, [.d (.bool false)])], (.cons rfl .nil), rfl, [], (RetC.rd' ?_ .nil)⟩ <;> ((congr 1; symm; first | (apply decide_eq_false; rintro rfl; first | exact absurd rfl ‹¬ _ = _› | contradiction) | (apply decide_eq_true; apply SQc.ext <;> first | assumption | exact Decidable.not_not.1 (by assumption))))
   ·
    replace h3 : (decide (a.f2 = b.f2)) = true := by simpa only [Bool.not_eq_true', Bool.not_eq_false'] using h3
    replace h3 := of_decide_eq_true h3
    refine T.skip ?_
    refine T.seq ?_
    refine T.seq ?_
    refine T.region ?_
    refine TL.c (Step.fieldAddr (q := 0) (off := 3) (n := 1) (one := true) rfl rfl (lt_ok rfl) (by kernel_rfl) (Nat.succ_ne_zero _) rfl) ?_
    refine TL.c (Step.load_box (c := cS a.f3) rfl rfl (lt_ok rfl) (by kernel_rfl) rfl rfl rfl) ?_
    refine TL.c (Step.fieldAddr (q := 0) (off := 3) (n := 1) (one := true) rfl rfl (lt_ok rfl) (by kernel_rfl) (Nat.succ_ne_zero _) rfl) ?_
    refine TL.c (Step.load_box (c := cS b.f3) rfl rfl (lt_ok rfl) (by kernel_rfl) rfl rfl rfl) ?_
    refine TL.c (Step.cl (xs := [.tmp 22, .tmp 24]) (ps := [(pS a.f3), (pS b.f3)]) (g := .func 21) false (.cons (.one (.d _)) (.cons (.one (.d _)) .nil)) (ok_laws_eqByteS a.f3 b.f3)) ?_
    refine TL.c (Step.not (b := (decide (a.f3 = b.f3))) rfl rfl (lt_ok rfl) rfl) ?_
    refine TL.nil ?_
    refine T.cond (b := !(decide (a.f3 = b.f3))) rfl (fun h4 => ?_) (fun h4 => ?_)
    ·
     replace h4 : (decide (a.f3 = b.f3)) = false := by simpa only [Bool.not_eq_true', Bool.not_eq_false'] using h4
     replace h4 := of_decide_eq_false h4
     refine T.seq ?_
     refine T.region ?_
     refine TL.as (pB false) ?_
     refine TL.nil ?_
     refine T.ret ?_
     refine ⟨[(false, [.d (.bool false)])], (.cons rfl .nil), rfl, [], (RetC.rd' ?_ .nil)⟩ <;> ((congr 1; symm; first | (apply decide_eq_false; rintro rfl; first | exact absurd rfl ‹¬ _ = _› | contradiction) | (apply decide_eq_true; apply SQc.ext <;> first | assumption | exact Decidable.not_not.1 (by assumption))))
    ·
     replace h4 : (decide (a.f3 = b.f3)) = true := by simpa only [Bool.not_eq_true', Bool.not_eq_false'] using h4
     replace h4 := of_decide_eq_true h4
     refine T.skip ?_
     refine T.seq ?_
     refine T.seq ?_
     refine T.region ?_
     refine TL.c (Step.fieldAddr (q := 0) (off := 4) (n := 1) (one := true) rfl rfl (lt_ok rfl) (by kernel_rfl) (Nat.succ_ne_zero _) rfl) ?_
     refine TL.c (Step.load_box (c := .d (.bss a.f4)) rfl rfl (lt_ok rfl) (by kernel_rfl) rfl rfl rfl) ?_
     refine TL.c (Step.fieldAddr (q := 0) (off := 4) (n := 1) (one := true) rfl rfl (lt_ok rfl) (by kernel_rfl) (Nat.succ_ne_zero _) rfl) ?_
     refine TL.c (Step.load_box (c := .d (.bss b.f4)) rfl rfl (lt_ok rfl) (by kernel_rfl) rfl rfl rfl) ?_
     refine TL.c (Step.cl (xs := [.tmp 28, .tmp 30]) (ps := [(.one (.d (.bss a.f4))), (.one (.d (.bss b.f4)))]) (g := .func 58) false (.cons (.one (.d _)) (.cons (.one (.d _)) .nil)) (ok_laws_eqByteSS a.f4 b.f4)) ?_
     refine TL.c (Step.not (b := (decide (a.f4 = b.f4))) rfl rfl (lt_ok rfl) rfl) ?_
     refine TL.nil ?_
     refine T.cond (b := !(decide (a.f4 = b.f4))) rfl (fun h5 => ?_) (fun h5 => ?_)
     ·
      replace h5 : (decide (a.f4 = b.f4)) = false := by simpa only [Bool.not_eq_true', Bool.not_eq_false'] using h5
      replace h5 := of_decide_eq_false h5
      refine T.seq ?_
      refine T.region ?_
      refine TL.as (pB false) ?_
      refine TL.nil ?_
      refine T.ret ?_
      refine ⟨[(false, [.d (.bool false)])], (.cons rfl .nil), rfl, [], (RetC.rd' ?_ .nil)⟩ <;> ((congr 1; symm; first | (apply decide_eq_false; rintro rfl; first | exact absurd rfl ‹¬ _ = _› | contradiction) | (apply decide_eq_true; apply SQc.ext <;> first | assumption | exact Decidable.not_not.1 (by assumption))))
     ·
      replace h5 : (decide (a.f4 = b.f4)) = true := by simpa only [Bool.not_eq_true', Bool.not_eq_false'] using h5
      replace h5 := of_decide_eq_true h5
      refine T.skip ?_
      refine T.seq ?_
      refine T.region ?_
      refine TL.as (pB true) ?_
      refine TL.nil ?_
      refine T.ret ?_
      refine ⟨[(false, [.d (.bool true)])], (.cons rfl .nil), rfl, [], (RetC.rd' ?_ .nil)⟩ <;> ((congr 1; symm; first | (apply decide_eq_false; rintro rfl; first | exact absurd rfl ‹¬ _ = _› | contradiction) | (apply decide_eq_true; apply SQc.ext <;> first | assumption | exact Decidable.not_not.1 (by assumption))))
theorem ok_laws_eqHead (a : SHead) (b : SHead) : RO Try.prog 39 [.agg a.cells, .agg b.cells] [(false, [.rd (.bool (decide (a = b)))])] := by
 refine RO.intro Try.func39 rfl 38 rfl (le_ok rfl) fun w Z => ?_
 refine T.seq ?_
 refine T.region ?_
 refine TL.c (Step.box (p := (.agg [cI a.f0, cI a.f1, cI a.f2, cS a.f3, cS a.f4, cI a.f5.f0, cI a.f5.f1, cS a.f5.f2, cS a.f5.f3, .d (.bss a.f5.f4)])) (ps := [cI a.f0, cI a.f1, cI a.f2, cS a.f3, cS a.f4, cI a.f5.f0, cI a.f5.f1, cS a.f5.f2, cS a.f5.f3, .d (.bss a.f5.f4)]) rfl rfl (lt_ok rfl) rfl rfl rfl rfl rfl) ?_
 refine TL.c (Step.box (p := (.agg [cI b.f0, cI b.f1, cI b.f2, cS b.f3, cS b.f4, cI b.f5.f0, cI b.f5.f1, cS b.f5.f2, cS b.f5.f3, .d (.bss b.f5.f4)])) (ps := [cI b.f0, cI b.f1, cI b.f2, cS b.f3, cS b.f4, cI b.f5.f0, cI b.f5.f1, cS b.f5.f2, cS b.f5.f3, .d (.bss b.f5.f4)]) rfl rfl (lt_ok rfl) rfl rfl rfl rfl rfl) ?_
 refine TL.as (pB false) ?_
 refine TL.nil ?_
 refine T.seq ?_
 refine T.seq ?_
 refine T.region ?_
 refine TL.c (Step.fieldAddr (q := 0) (off := 0) (n := 1) (one := true) rfl rfl (lt_ok rfl) (by kernel_rfl) (Nat.succ_ne_zero _) rfl) ?_
 refine TL.c (Step.load_box (c := cI a.f0) rfl rfl (lt_ok rfl) (by kernel_rfl) rfl rfl rfl) ?_
 refine TL.c (Step.fieldAddr (q := 0) (off := 0) (n := 1) (one := true) rfl rfl (lt_ok rfl) (by kernel_rfl) (Nat.succ_ne_zero _) rfl) ?_
 refine TL.c (Step.load_box (c := cI b.f0) rfl rfl (lt_ok rfl) (by kernel_rfl) rfl rfl rfl) ?_
 refine TL.c (Step.bin rfl rfl (lt_ok rfl) rfl rfl (Bin.neq (k := .i64) (a := a.f0) (b := b.f0))) ?_
 refine TL.nil ?_
 refine T.cond (b := decide (a.f0 ≠ b.f0)) rfl (fun h1 => ?_) (fun h1 => ?_)
 ·
  replace h1 := of_decide_eq_true h1
  refine T.seq ?_
  refine T.region ?_
  refine TL.as (pB false) ?_
  refine TL.nil ?_
  refine T.ret ?_
  refine ⟨[(false, [.d (.bool false)])], (.cons rfl .nil), rfl, [], (RetC.rd' ?_ .nil)⟩ <;> ((congr 1; symm; first | (apply decide_eq_false; rintro rfl; first | exact absurd rfl ‹¬ _ = _› | contradiction) | (apply decide_eq_true; apply SHead.ext <;> first | assumption | exact Decidable.not_not.1 (by assumption))))
 ·
  replace h1 := of_decide_eq_false h1
  refine T.skip ?_
  refine T.seq ?_
  refine T.seq ?_
  refine T.region ?_
  refine TL.c (Step.fieldAddr (q := 0) (off := 1) (n := 1) (one := true) rfl rfl (lt_ok rfl) (by kernel_rfl) (Nat.succ_ne_zero _) rfl) ?_
  refine TL.c (Step.load_box (c := cI a.f1) rfl rfl (lt_ok rfl) (by kernel_rfl) rfl rfl rfl) ?_
  refine TL.c (Step.fieldAddr (q := 0) (off := 1) (n := 1) (one := true) rfl rfl (lt_ok rfl) (by kernel_rfl) (Nat.succ_ne_zero _) rfl) ?_
  refine TL.c (Step.load_box (c := cI b.f1) rfl rfl (lt_ok rfl) (by kernel_rfl) rfl rfl rfl) ?_
  refine TL.c (Step.bin rfl rfl (lt_ok rfl) rfl rfl (Bin.neq (k := .i64) (a := a.f1) (b := b.f1))) ?_
  refine TL.nil ?_
  refine T.cond (b := decide (a.f1 ≠ b.f1)) rfl (fun h2 => ?_) (fun h2 => ?_)
  ·
   replace h2 := of_decide_eq_true h2
   refine T.seq ?_
   refine T.region ?_
   refine TL.as (pB false) ?_
   refine TL.nil ?_
   refine T.ret ?_
   refine ⟨[(false, [.d (.bool false)])], (.cons rfl .nil), rfl, [], (RetC.rd' ?_ .nil)⟩ <;> ((congr 1; symm; first | (apply decide_eq_false; rintro rfl; first | exact absurd rfl ‹¬ _ = _› | contradiction) | (apply decide_eq_true; apply SHead.ext <;> first | assumption | exact Decidable.not_not.1 (by assumption))))
  ·
   replace h2 := of_decide_eq_false h2
   refine T.skip ?_
   refine T.seq ?_
   refine T.seq ?_
   refine T.region ?_
   refine TL.c (Step.fieldAddr (q := 0) (off := 2) (n := 1) (one := true) rfl rfl (lt_ok rfl) (by kernel_rfl) (Nat.succ_ne_zero _) rfl) ?_
   refine TL.c (Step.load_box (c := cI a.f2) rfl rfl (lt_ok rfl) (by kernel_rfl) rfl rfl rfl) ?_
   refine TL.c (Step.fieldAddr (q := 0) (off := 2) (n := 1) (one := true) rfl rfl (lt_ok rfl) (by kernel_rfl) (Nat.succ_ne_zero _) rfl) ?_
   refine TL.c (Step.load_box (c := cI b.f2) rfl rfl (lt_ok rfl) (by kernel_rfl) rfl rfl rfl) ?_
   refine TL.c (Step.bin rfl rfl (lt_ok rfl) rfl rfl (Bin.neq (k := .i64) (a := a.f2) (b := b.f2))) ?_
   refine TL.nil ?_
   refine T.cond (b := decide (a.f2 ≠ b.f2)) rfl (fun h3 => ?_) (fun h3 => ?_)
   ·
    replace h3 := of_decide_eq_true h3
    refine T.seq ?_
    refine T.region ?_
    refine TL.as (pB false) ?_
    refine TL.nil ?_
    refine T.ret ?_
    refine ⟨[(false, [.d (.bool false)])], (.cons rfl .nil), rfl, [], (RetC.rd' ?_ .nil)⟩ <;> ((congr 1; symm; first | (apply decide_eq_false; rintro rfl; first | exact absurd rfl ‹¬ _ = _› | contradiction) | (apply decide_eq_true; apply SHead.ext <;> first | assumption | exact Decidable.not_not.1 (by assumption))))
   ·
    replace h3 := of_decide_eq_false h3
    refine T.skip ?_
    refine T.seq ?_
    refine T.seq ?_
    refine T.region ?_
    refine TL.c (Step.fieldAddr (q := 0) (off := 3) (n := 1) (one := true) rfl rfl (lt_ok rfl) (by kernel_rfl) (Nat.succ_ne_zero _) rfl) ?_
    refine TL.c (Step.load_box (c := cS a.f3) rfl rfl (lt_ok rfl) (by kernel_rfl) rfl rfl rfl) ?_
    refine TL.c (Step.fieldAddr (q := 0) (off := 3) (n := 1) (one := true) rfl rfl (lt_ok rfl) (by kernel_rfl) (Nat.succ_ne_zero _) rfl) ?_
    refine TL.c (Step.load_box (c := cS b.f3) rfl rfl (lt_ok rfl) (by kernel_rfl) rfl rfl rfl) ?_
    refine TL.c (Step.cl (xs := [.tmp 21, .tmp 23]) (ps := [(pS a.f3), (pS b.f3)]) (g := .func 21) false (.cons (.one (.d _)) (.cons (.one (.d _)) .nil)) (ok_laws_eqByteS a.f3 b.f3)) ?_
    refine TL.c (Step.not (b := (decide (a.f3 = b.f3))) rfl rfl (lt_ok rfl) rfl) ?_
    refine TL.nil ?_
    refine T.cond (b := !(decide (a.f3 = b.f3))) rfl (fun h4 => ?_) (fun h4 => ?_)
    ·
     replace h4 : (decide (a.f3 = b.f3)) = false := by simpa only [Bool.not_eq_true', Bool.not_eq_false'] using h4
     replace h4 := of_decide_eq_false h4
     refine T.seq ?_
     refine T.region ?_
     refine TL.as (pB false) ?_
     refine TL.nil ?_
     refine T.ret ?_
     refine ⟨[(false, [.d (.bool false)])], (.cons rfl .nil), rfl, [], (RetC.rd' ?_ .nil)⟩ <;> ((congr 1; symm; first | (apply decide_eq_false; rintro rfl; first | exact absurd rfl ‹¬ _ = _› | contradiction) | (apply decide_eq_true; apply SHead.ext <;> first | assumption | exact Decidable.not_not.1 (by assumption))))
    ·
     replace h4 : (decide (a.f3 = b.f3)) = true := by simpa only [Bool.not_eq_true', Bool.not_eq_false'] using h4
     replace h4 := of_decide_eq_true h4
     refine T.skip ?_
     refine T.seq ?_
     refine T.seq ?_
     refine T.region ?_
     refine TL.c (Step.fieldAddr (q := 0) (off := 4) (n := 1) (one := true) rfl rfl (lt_ok rfl) (by kernel_rfl) (Nat.succ_ne_zero _) rfl) ?_
     refine TL.c (Step.load_box (c := cS a.f4) rfl rfl (lt_ok rfl) (by kernel_rfl) rfl rfl rfl) ?_
     refine TL.c (Step.fieldAddr (q := 0) (off := 4) (n := 1) (one := true) rfl rfl (lt_ok rfl) (by kernel_rfl) (Nat.succ_ne_zero _) rfl) ?_
     refine TL.c (Step.load_box (c := cS b.f4) rfl rfl (lt_ok rfl) (by kernel_rfl) rfl rfl rfl) ?_
     refine TL.c (Step.cl (xs := [.tmp 27, .tmp 29]) (ps := [(pS a.f4), (pS b.f4)]) (g := .func 21) false (.cons (.one (.d _)) (.cons (.one (.d _)) .nil)) (ok_laws_eqByteS a.f4 b.f4)) ?_
     refine TL.c (Step.not (b := (decide (a.f4 = b.f4))) rfl rfl (lt_ok rfl) rfl) ?_
     refine TL.nil ?_
     refine T.cond (b := !(decide (a.f4 = b.f4))) rfl (fun h5 => ?_) (fun h5 => ?_)
     ·
      replace h5 : (decide (a.f4 = b.f4)) = false := by simpa only [Bool.not_eq_true', Bool.not_eq_false'] using h5
      replace h5 := of_decide_eq_false h5
      refine T.seq ?_
      refine T.region ?_
      refine TL.as (pB false) ?_
      refine TL.nil ?_
      refine T.ret ?_
      refine ⟨[(false, [.d (.bool false)])], (.cons rfl .nil), rfl, [], (RetC.rd' ?_ .nil)⟩ <;> ((congr 1; symm; first | (apply decide_eq_false; rintro rfl; first | exact absurd rfl ‹¬ _ = _› | contradiction) | (apply decide_eq_true; apply SHead.ext <;> first | assumption | exact Decidable.not_not.1 (by assumption))))
     ·
      replace h5 : (decide (a.f4 = b.f4)) = true := by simpa only [Bool.not_eq_true', Bool.not_eq_false'] using h5
      replace h5 := of_decide_eq_true h5
      refine T.skip ?_
      refine T.seq ?_
      refine T.seq ?_
      refine T.region ?_
      refine TL.c (Step.fieldAddr (q := 0) (off := 5) (n := 5) (one := false) rfl rfl (lt_ok rfl) (by kernel_rfl) (Nat.succ_ne_zero _) rfl) ?_
      refine TL.c (Step.load_box_agg (n := 5) (qs := [cI a.f5.f0, cI a.f5.f1, cS a.f5.f2, cS a.f5.f3, .d (.bss a.f5.f4)]) rfl rfl (lt_ok rfl) (by kernel_rfl) rfl rfl rfl rfl) ?_
      refine TL.c (Step.fieldAddr (q := 0) (off := 5) (n := 5) (one := false) rfl rfl (lt_ok rfl) (by kernel_rfl) (Nat.succ_ne_zero _) rfl) ?_
      refine TL.c (Step.load_box_agg (n := 5) (qs := [cI b.f5.f0, cI b.f5.f1, cS b.f5.f2, cS b.f5.f3, .d (.bss b.f5.f4)]) rfl rfl (lt_ok rfl) (by kernel_rfl) rfl rfl rfl rfl) ?_
      refine TL.c (Step.cl (xs := [.tmp 33, .tmp 35]) (ps := [(.agg [cI a.f5.f0, cI a.f5.f1, cS a.f5.f2, cS a.f5.f3, .d (.bss a.f5.f4)]), (.agg [cI b.f5.f0, cI b.f5.f1, cS b.f5.f2, cS b.f5.f3, .d (.bss b.f5.f4)])]) (g := .func 34) false (.cons (.agg (.cons (.d _) (.cons (.d _) (.cons (.d _) (.cons (.d _) (.cons (.d _) .nil)))))) (.cons (.agg (.cons (.d _) (.cons (.d _) (.cons (.d _) (.cons (.d _) (.cons (.d _) .nil)))))) .nil)) (ok_laws_eqQc a.f5 b.f5)) ?_
      refine TL.c (Step.not (b := (decide (a.f5 = b.f5))) rfl rfl (lt_ok rfl) rfl) ?_
      refine TL.nil ?_
      refine T.weaken (E' := { tm := [(4, (pB false)), (37, (pB (!(decide (a.f5 = b.f5)))))], rows := [], boxes := [] }) (Env.le_mk ⟨by kernel_rfl, by kernel_rfl, trivial⟩ trivial trivial) ?_
      refine T.cond (b := !(decide (a.f5 = b.f5))) rfl (fun h6 => ?_) (fun h6 => ?_)
      ·
       replace h6 : (decide (a.f5 = b.f5)) = false := by simpa only [Bool.not_eq_true', Bool.not_eq_false'] using h6
       replace h6 := of_decide_eq_false h6
       refine T.seq ?_
       refine T.region ?_
       refine TL.as (pB false) ?_
       refine TL.nil ?_
       refine T.ret ?_
       refine ⟨[(false, [.d (.bool false)])], (.cons rfl .nil), rfl, [], (RetC.rd' ?_ .nil)⟩ <;> ((congr 1; symm; first | (apply decide_eq_false; rintro rfl; first | exact absurd rfl ‹¬ _ = _› | contradiction) | (apply decide_eq_true; apply SHead.ext <;> first | assumption | exact Decidable.not_not.1 (by assumption))))
      ·
       replace h6 : (decide (a.f5 = b.f5)) = true := by simpa only [Bool.not_eq_true', Bool.not_eq_false'] using h6
       replace h6 := of_decide_eq_true h6
       refine T.skip ?_
       refine T.seq ?_
       refine T.region ?_
       refine TL.as (pB true) ?_
       refine TL.nil ?_
       refine T.ret ?_
       refine ⟨[(false, [.d (.bool true)])], (.cons rfl .nil), rfl, [], (RetC.rd' ?_ .nil)⟩ <;> ((congr 1; symm; first | (apply decide_eq_false; rintro rfl; first | exact absurd rfl ‹¬ _ = _› | contradiction) | (apply decide_eq_true; apply SHead.ext <;> first | assumption | exact Decidable.not_not.1 (by assumption))))
theorem ok_laws_eqBlock (a : SBlock) (b : SBlock) : RO Try.prog 30 [.agg a.cells, .agg b.cells] [(false, [.rd (.bool (decide (a = b)))])] := by
 refine RO.intro Try.func30 rfl 17 rfl (le_ok rfl) fun w Z => ?_
 refine T.seq ?_
 refine T.region ?_
 refine TL.c (Step.box (p := (.agg [cI a.f0.f0, cI a.f0.f1, cI a.f0.f2, cS a.f0.f3, cS a.f0.f4, cI a.f0.f5.f0, cI a.f0.f5.f1, cS a.f0.f5.f2, cS a.f0.f5.f3, .d (.bss a.f0.f5.f4), .d (.bss a.f1)])) (ps := [cI a.f0.f0, cI a.f0.f1, cI a.f0.f2, cS a.f0.f3, cS a.f0.f4, cI a.f0.f5.f0, cI a.f0.f5.f1, cS a.f0.f5.f2, cS a.f0.f5.f3, .d (.bss a.f0.f5.f4), .d (.bss a.f1)]) rfl rfl (lt_ok rfl) rfl rfl rfl rfl rfl) ?_
 refine TL.c (Step.box (p := (.agg [cI b.f0.f0, cI b.f0.f1, cI b.f0.f2, cS b.f0.f3, cS b.f0.f4, cI b.f0.f5.f0, cI b.f0.f5.f1, cS b.f0.f5.f2, cS b.f0.f5.f3, .d (.bss b.f0.f5.f4), .d (.bss b.f1)])) (ps := [cI b.f0.f0, cI b.f0.f1, cI b.f0.f2, cS b.f0.f3, cS b.f0.f4, cI b.f0.f5.f0, cI b.f0.f5.f1, cS b.f0.f5.f2, cS b.f0.f5.f3, .d (.bss b.f0.f5.f4), .d (.bss b.f1)]) rfl rfl (lt_ok rfl) rfl rfl rfl rfl rfl) ?_
 refine TL.as (pB false) ?_
 refine TL.nil ?_
 refine T.seq ?_
 refine T.seq ?_
 refine T.region ?_
 refine TL.c (Step.fieldAddr (q := 0) (off := 0) (n := 10) (one := false) rfl rfl (lt_ok rfl) (by kernel_rfl) (Nat.succ_ne_zero _) rfl) ?_
 refine TL.c (Step.load_box_agg (n := 10) (qs := [cI a.f0.f0, cI a.f0.f1, cI a.f0.f2, cS a.f0.f3, cS a.f0.f4, cI a.f0.f5.f0, cI a.f0.f5.f1, cS a.f0.f5.f2, cS a.f0.f5.f3, .d (.bss a.f0.f5.f4)]) rfl rfl (lt_ok rfl) (by kernel_rfl) rfl rfl rfl rfl) ?_
 refine TL.c (Step.fieldAddr (q := 0) (off := 0) (n := 10) (one := false) rfl rfl (lt_ok rfl) (by kernel_rfl) (Nat.succ_ne_zero _) rfl) ?_
 refine TL.c (Step.load_box_agg (n := 10) (qs := [cI b.f0.f0, cI b.f0.f1, cI b.f0.f2, cS b.f0.f3, cS b.f0.f4, cI b.f0.f5.f0, cI b.f0.f5.f1, cS b.f0.f5.f2, cS b.f0.f5.f3, .d (.bss b.f0.f5.f4)]) rfl rfl (lt_ok rfl) (by kernel_rfl) rfl rfl rfl rfl) ?_
 refine TL.c (Step.cl (xs := [.tmp 6, .tmp 8]) (ps := [(.agg [cI a.f0.f0, cI a.f0.f1, cI a.f0.f2, cS a.f0.f3, cS a.f0.f4, cI a.f0.f5.f0, cI a.f0.f5.f1, cS a.f0.f5.f2, cS a.f0.f5.f3, .d (.bss a.f0.f5.f4)]), (.agg [cI b.f0.f0, cI b.f0.f1, cI b.f0.f2, cS b.f0.f3, cS b.f0.f4, cI b.f0.f5.f0, cI b.f0.f5.f1, cS b.f0.f5.f2, cS b.f0.f5.f3, .d (.bss b.f0.f5.f4)])]) (g := .func 39) false (.cons (.agg (.cons (.d _) (.cons (.d _) (.cons (.d _) (.cons (.d _) (.cons (.d _) (.cons (.d _) (.cons (.d _) (.cons (.d _) (.cons (.d _) (.cons (.d _) .nil))))))))))) (.cons (.agg (.cons (.d _) (.cons (.d _) (.cons (.d _) (.cons (.d _) (.cons (.d _) (.cons (.d _) (.cons (.d _) (.cons (.d _) (.cons (.d _) (.cons (.d _) .nil))))))))))) .nil)) (ok_laws_eqHead a.f0 b.f0)) ?_
 refine TL.c (Step.not (b := (decide (a.f0 = b.f0))) rfl rfl (lt_ok rfl) rfl) ?_
 refine TL.nil ?_
 refine T.cond (b := !(decide (a.f0 = b.f0))) rfl (fun h1 => ?_) (fun h1 => ?_)
 ·
  replace h1 : (decide (a.f0 = b.f0)) = false := by simpa only [Bool.not_eq_true', Bool.not_eq_false'] using h1
  replace h1 := of_decide_eq_false h1
  refine T.seq ?_
  refine T.region ?_
  refine TL.as (pB false) ?_
  refine TL.nil ?_
  refine T.ret ?_
  refine ⟨[(false, [.d (.bool false)])], (.cons rfl .nil), rfl, [], (RetC.rd' ?_ .nil)⟩ <;> ((congr 1; symm; first | (apply decide_eq_false; rintro rfl; first | exact absurd rfl ‹¬ _ = _› | contradiction) | (apply decide_eq_true; apply SBlock.ext <;> first | assumption | exact Decidable.not_not.1 (by assumption))))
 ·
  replace h1 : (decide (a.f0 = b.f0)) = true := by simpa only [Bool.not_eq_true', Bool.not_eq_false'] using h1
  replace h1 := of_decide_eq_true h1
  refine T.skip ?_
  refine T.seq ?_
  refine T.seq ?_
  refine T.region ?_
  refine TL.c (Step.fieldAddr (q := 0) (off := 10) (n := 1) (one := true) rfl rfl (lt_ok rfl) (by kernel_rfl) (Nat.succ_ne_zero _) rfl) ?_
  refine TL.c (Step.load_box (c := .d (.bss a.f1)) rfl rfl (lt_ok rfl) (by kernel_rfl) rfl rfl rfl) ?_
  refine TL.c (Step.fieldAddr (q := 0) (off := 10) (n := 1) (one := true) rfl rfl (lt_ok rfl) (by kernel_rfl) (Nat.succ_ne_zero _) rfl) ?_
  refine TL.c (Step.load_box (c := .d (.bss b.f1)) rfl rfl (lt_ok rfl) (by kernel_rfl) rfl rfl rfl) ?_
  refine TL.c (Step.cl (xs := [.tmp 12, .tmp 14]) (ps := [(.one (.d (.bss a.f1))), (.one (.d (.bss b.f1)))]) (g := .func 58) false (.cons (.one (.d _)) (.cons (.one (.d _)) .nil)) (ok_laws_eqByteSS a.f1 b.f1)) ?_
  refine TL.c (Step.not (b := (decide (a.f1 = b.f1))) rfl rfl (lt_ok rfl) rfl) ?_
  refine TL.nil ?_
  refine T.cond (b := !(decide (a.f1 = b.f1))) rfl (fun h2 => ?_) (fun h2 => ?_)
  ·
   replace h2 : (decide (a.f1 = b.f1)) = false := by simpa only [Bool.not_eq_true', Bool.not_eq_false'] using h2
   replace h2 := of_decide_eq_false h2
   refine T.seq ?_
   refine T.region ?_
   refine TL.as (pB false) ?_
   refine TL.nil ?_
   refine T.ret ?_
   refine ⟨[(false, [.d (.bool false)])], (.cons rfl .nil), rfl, [], (RetC.rd' ?_ .nil)⟩ <;> ((congr 1; symm; first | (apply decide_eq_false; rintro rfl; first | exact absurd rfl ‹¬ _ = _› | contradiction) | (apply decide_eq_true; apply SBlock.ext <;> first | assumption | exact Decidable.not_not.1 (by assumption))))
  ·
   replace h2 : (decide (a.f1 = b.f1)) = true := by simpa only [Bool.not_eq_true', Bool.not_eq_false'] using h2
   replace h2 := of_decide_eq_true h2
   refine T.skip ?_
   refine T.seq ?_
   refine T.region ?_
   refine TL.as (pB true) ?_
   refine TL.nil ?_
   refine T.ret ?_
   refine ⟨[(false, [.d (.bool true)])], (.cons rfl .nil), rfl, [], (RetC.rd' ?_ .nil)⟩ <;> ((congr 1; symm; first | (apply decide_eq_false; rintro rfl; first | exact absurd rfl ‹¬ _ = _› | contradiction) | (apply decide_eq_true; apply SBlock.ext <;> first | assumption | exact Decidable.not_not.1 (by assumption))))
theorem ok_laws_markByteSS (a : List (List Int)) (k : Int) (h0_ : 0 ≤ k) (h1_ : k + cntL (fun x : List Int => (x.length : Int)) a ≤ 4611686018427387904) : MK Try.prog 63 [.one (.mk (.bss a) (.bss (mkBs a k))), .one (.rd (.int .i64 k))] [(false, [.rd (.int .i64 (k + cntL (fun x : List Int => (x.length : Int)) a))])] := by
 refine MK.intro Try.func63 rfl 19 rfl (le_ok rfl) (le_ok rfl) rfl fun w Z IX pin Ts hp => ?_
 refine T.bndRow 900 rfl fun hb_900 => ?_
 simp only [D.size, List.length_map] at hb_900
 refine T.seq ?_
 refine T.region ?_
 refine TL.as (pI 0) ?_
 refine TL.nil ?_
 refine T.seq ?_
 refine T.seq ?_
 refine T.region ?_
 refine TL.as (pI 0) ?_
 refine TL.nil ?_
 refine T.block ?_
 refine T.loop (ι := Nat) (fun xx_ => { tm := [(0, (.one (.row 900 []))), (4, (pI 0)), (5, (pI (xx_ : Int))), (1, (pI (k + cntL (fun x : List Int => (x.length : Int)) (a.take xx_))))], rows := [(900, ((Ts 0), (.bss ((upTo (fun x : List Int => (x.length : Int)) mkB a k xx_).set xx_ (a.getD xx_ [])))))], boxes := [] }) (fun xx_ => xx_ ≤ a.length) (fun xx_ => a.length - xx_) 0 ?_ ?_ ?_
 · refine Env.le_mk ⟨rfl, rfl, ?_, ?_, trivial⟩ ⟨?_, trivial⟩ trivial <;> (first | exact congrArg (fun x => some (Ts 0, D.bss x)) (upTo_next (df := []) (by omega) rfl) | exact congrArg (fun x => some (Ts 0, D.bss x)) (upTo_first a k []) | rfl | (refine congrArg (fun n => PV.one (.d (.int .i64 n))) ?_; first | omega | (simp; done) | (simp [cntL]; done)))
 · exact Nat.zero_le _
 ·
  intro i hx
  try dsimp only at hx ⊢
  refine T.seq ?_
  refine T.seq ?_
  refine T.region ?_
  refine TL.mv (pI (i : Int)) ?_
  refine TL.mv (.one (.row 900 [])) ?_
  refine TL.c (Step.len' (e := 24) (z := 1) (d := (.bss ((upTo (fun x : List Int => (x.length : Int)) mkB a k i).set i (a.getD i [])))) (n := a.length) rfl rfl (lt_ok rfl) (by kernel_rfl) rfl rfl (by simp [D.size, upTo_length])) ?_
  refine TL.c (Step.bin rfl rfl (lt_ok rfl) rfl rfl (Bin.lss (k := .i64) (a := (i : Int)) (b := (a.length : Int)))) ?_
  refine TL.nil ?_
  refine T.cond (b := decide ((i : Int) < (a.length : Int))) rfl (fun h1 => ?_) (fun h1 => ?_)
  ·
   replace h1 := of_decide_eq_true h1
   have hc1 := cntL_take_le (cnt := (fun x : List Int => (x.length : Int))) (fun x => by omega) a (i + 1)
   have hc2 := cntL_take_succ (cnt := (fun x : List Int => (x.length : Int))) (i := i) [] (show i < a.length by omega)
   have hc3 := cntL_nonneg (cnt := (fun x : List Int => (x.length : Int))) (fun x => by omega) (a.take i)
   try dsimp only at hc2
   refine T.skip ?_
   refine T.seq ?_
   refine T.block ?_
   refine T.region ?_
   refine TL.mv (.one (.row 900 [])) ?_
   refine TL.mv (pI (i : Int)) ?_
   refine TL.c (Step.index_row (d := (.bss ((upTo (fun x : List Int => (x.length : Int)) mkB a k i).set i (a.getD i [])))) (e := 24) (z := 1) (i := (i : Int)) rfl rfl (lt_ok rfl) (by kernel_rfl) rfl rfl rfl rfl (lt_ok rfl) rfl (by first | omega | (simp; omega)) (by simp only [D.at_, D.cell, D.size, List.length_set, List.length_map, upTo_length]; first | omega | (simp; omega))) ?_
   refine TL.c (Step.load_row (d := (.bss ((upTo (fun x : List Int => (x.length : Int)) mkB a k i).set i (a.getD i [])))) (c := .row 900 [(i, 0)]) rfl rfl (lt_ok rfl) (by kernel_rfl) rfl rfl (ofRow_sl (cell_set_bss (by simp only [upTo_length]; first | omega | (simp; omega))) rfl)) ?_
   refine TL.mv (pI (k + cntL (fun x : List Int => (x.length : Int)) (a.take i))) ?_
   refine TL.c (Step.callM2 (xs := [.tmp 15, .tmp 16]) (ps := [(.one (.row 900 [(i, 0)])), (pI (k + cntL (fun x : List Int => (x.length : Int)) (a.take i)))]) (js := [(900, (.bss ((upTo (fun x : List Int => (x.length : Int)) mkB a k i).set i (mkB (a.getD i []) (k + cntL (fun x : List Int => (x.length : Int)) (a.take i))))))]) (g := .func 23) (ok_laws_markByteS (a.getD i []) (k + cntL (fun x : List Int => (x.length : Int)) (a.take i)) (by omega) (by first | omega | (have := (by assumption); omega))) rfl rfl (lt_ok rfl) rfl (by kernel_rfl) rfl rfl (.row (T := (Ts 0)) (d := (.bss ((upTo (fun x : List Int => (x.length : Int)) mkB a k i).set i (a.getD i [])))) (e' := (.ints .u8 (mkB (a.getD i []) (k + cntL (fun x : List Int => (x.length : Int)) (a.take i))))) (d' := (.bss ((upTo (fun x : List Int => (x.length : Int)) mkB a k i).set i (mkB (a.getD i []) (k + cntL (fun x : List Int => (x.length : Int)) (a.take i)))))) rfl (cell_set_bss (by simp only [upTo_length]; first | omega | (simp; omega))) rfl putAt_bss2 rfl (by simp [D.size]) rfl rfl (.d .nil)) rfl) ?_
   refine TL.as (pI ((k + cntL (fun x : List Int => (x.length : Int)) (a.take i)) + ((a.getD i []).length : Int))) ?_
   refine TL.nil ?_
   refine T.region ?_
   refine TL.mv (pI (i : Int)) ?_
   refine TL.c (Step.bin (r := .int .i64 ((i : Int) + 1)) rfl rfl (lt_ok rfl) rfl rfl (Bin.add (a := (i : Int)) (b := 1) (by first | exact wrap_ok (by first | omega | (simp; omega)) (by first | omega | (simp; omega)) | rfl))) ?_
   refine TL.as (pI ((i : Int) + 1)) ?_
   refine TL.nil ?_
   refine ⟨i + 1, by omega, by first | omega | (dsimp only; omega), Env.le_mk ⟨rfl, rfl, ?_, ?_, trivial⟩ ⟨?_, trivial⟩ trivial⟩ <;> (first | exact congrArg (fun x => some (Ts 0, D.bss x)) (upTo_next (df := []) (by omega) rfl) | exact congrArg (fun x => some (Ts 0, D.bss x)) (upTo_first a k []) | rfl | (refine congrArg (fun n => PV.one (.d (.int .i64 n))) ?_; first | omega | (simp; done) | (simp [cntL]; done)))
  ·
   replace h1 := of_decide_eq_false h1
   refine T.exit ?_
   refine T.seq ?_
   refine T.region ?_
   refine TL.mv (pI (k + cntL (fun x : List Int => (x.length : Int)) (a.take i))) ?_
   refine TL.as (pI (k + cntL (fun x : List Int => (x.length : Int)) (a.take i))) ?_
   refine TL.nil ?_
   refine T.ret ?_
   refine ⟨⟨⟨[(false, [cI (k + cntL (fun x : List Int => (x.length : Int)) (a.take i))])], (.cons rfl .nil), rfl, [], (RetC.rd' ?_ .nil)⟩, rfl⟩, (.mk' (by exact congrArg (fun x => some (Ts 0, D.bss x)) (upTo_end (by omega))) (.rd .nil'))⟩ <;> ((congr 1; rw [cntL_all (by omega)]))
theorem ok_laws_markQc (a : SQc) (k : Int) (h0_ : 0 ≤ k) (h1_ : k + a.cm ≤ 4611686018427387904) : MK Try.prog 35 [.agg [.rd (.int .i64 a.f0), .rd (.int .i64 a.f1), .mk (.ints .u8 a.f2) (.ints .u8 (mkB a.f2 k)), .mk (.ints .u8 a.f3) (.ints .u8 (mkB a.f3 (k + (a.f2.length : Int)))), .mk (.bss a.f4) (.bss (mkBs a.f4 ((k + (a.f2.length : Int)) + (a.f3.length : Int))))], .one (.rd (.int .i64 k))] [(false, [.rd (.int .i64 (k + a.cm))])] := by
 refine MK.intro Try.func35 rfl 18 rfl (le_ok rfl) (le_ok rfl) rfl fun w Z IX pin Ts hp => ?_
 have n4 := cntBs_nonneg a.f4
 simp only [SQc.cm] at h1_
 refine T.seq ?_
 refine T.region ?_
 refine TL.c (Step.box (p := (.agg [cI a.f0, cI a.f1, .row 902 [], .row 903 [], .row 904 []])) (ps := [cI a.f0, cI a.f1, .row 902 [], .row 903 [], .row 904 []]) rfl rfl (lt_ok rfl) rfl rfl rfl rfl rfl) ?_
 refine TL.as (pI 0) ?_
 refine TL.nil ?_
 refine T.seq ?_
 refine T.region ?_
 refine TL.c (Step.fieldAddr (q := 0) (off := 2) (n := 1) (one := true) rfl rfl (lt_ok rfl) (by kernel_rfl) (Nat.succ_ne_zero _) rfl) ?_
 refine TL.c (Step.load_box (c := .row 902 []) rfl rfl (lt_ok rfl) (by kernel_rfl) rfl rfl rfl) ?_
 refine TL.mv (pI k) ?_
 refine TL.c (Step.callM2 (xs := [.tmp 6, .tmp 7]) (ps := [(.one (.row 902 [])), (pI k)]) (js := [(902, (.ints .u8 (mkB a.f2 k)))]) (g := .func 23) (ok_laws_markByteS a.f2 k (by omega) (by first | omega | (have := (by assumption); omega))) rfl rfl (lt_ok rfl) rfl (by kernel_rfl) rfl rfl (.row (T := (Ts 2)) (d := (.ints .u8 a.f2)) (e' := (.ints .u8 (mkB a.f2 k))) (d' := (.ints .u8 (mkB a.f2 k))) rfl rfl rfl rfl rfl (by simp [D.size, mkL_length]) rfl rfl (.d .nil)) rfl) ?_
 refine TL.as (pI (k + (a.f2.length : Int))) ?_
 refine TL.nil ?_
 refine T.seq ?_
 refine T.region ?_
 refine TL.c (Step.fieldAddr (q := 0) (off := 3) (n := 1) (one := true) rfl rfl (lt_ok rfl) (by kernel_rfl) (Nat.succ_ne_zero _) rfl) ?_
 refine TL.c (Step.load_box (c := .row 903 []) rfl rfl (lt_ok rfl) (by kernel_rfl) rfl rfl rfl) ?_
 refine TL.mv (pI (k + (a.f2.length : Int))) ?_
 refine TL.c (Step.callM2 (xs := [.tmp 10, .tmp 11]) (ps := [(.one (.row 903 [])), (pI (k + (a.f2.length : Int)))]) (js := [(903, (.ints .u8 (mkB a.f3 (k + (a.f2.length : Int)))))]) (g := .func 23) (ok_laws_markByteS a.f3 (k + (a.f2.length : Int)) (by omega) (by first | omega | (have := (by assumption); omega))) rfl rfl (lt_ok rfl) rfl (by kernel_rfl) rfl rfl (.row (T := (Ts 3)) (d := (.ints .u8 a.f3)) (e' := (.ints .u8 (mkB a.f3 (k + (a.f2.length : Int))))) (d' := (.ints .u8 (mkB a.f3 (k + (a.f2.length : Int))))) rfl rfl rfl rfl rfl (by simp [D.size, mkL_length]) rfl rfl (.d .nil)) rfl) ?_
 refine TL.as (pI ((k + (a.f2.length : Int)) + (a.f3.length : Int))) ?_
 refine TL.nil ?_
 refine T.seq ?_
 refine T.region ?_
 refine TL.c (Step.fieldAddr (q := 0) (off := 4) (n := 1) (one := true) rfl rfl (lt_ok rfl) (by kernel_rfl) (Nat.succ_ne_zero _) rfl) ?_
 refine TL.c (Step.load_box (c := .row 904 []) rfl rfl (lt_ok rfl) (by kernel_rfl) rfl rfl rfl) ?_
 refine TL.mv (pI ((k + (a.f2.length : Int)) + (a.f3.length : Int))) ?_
 have nn1 := cntBs_nonneg a.f4
 refine TL.c (Step.callM2 (xs := [.tmp 14, .tmp 15]) (ps := [(.one (.row 904 [])), (pI ((k + (a.f2.length : Int)) + (a.f3.length : Int)))]) (js := [(904, (.bss (mkBs a.f4 ((k + (a.f2.length : Int)) + (a.f3.length : Int)))))]) (g := .func 63) (ok_laws_markByteSS a.f4 ((k + (a.f2.length : Int)) + (a.f3.length : Int)) (by omega) (by first | omega | (have := cntBs_le (xs := a.f4) (by assumption); omega))) rfl rfl (lt_ok rfl) rfl (by kernel_rfl) rfl rfl (.row (T := (Ts 4)) (d := (.bss a.f4)) (e' := (.bss (mkBs a.f4 ((k + (a.f2.length : Int)) + (a.f3.length : Int))))) (d' := (.bss (mkBs a.f4 ((k + (a.f2.length : Int)) + (a.f3.length : Int))))) rfl rfl rfl rfl rfl (by simp [D.size, mkL_length]) rfl rfl (.d .nil)) rfl) ?_
 refine TL.as (pI (((k + (a.f2.length : Int)) + (a.f3.length : Int)) + cntL (fun x : List Int => (x.length : Int)) a.f4)) ?_
 refine TL.nil ?_
 refine T.seq ?_
 refine T.region ?_
 refine TL.mv (pI (((k + (a.f2.length : Int)) + (a.f3.length : Int)) + cntL (fun x : List Int => (x.length : Int)) a.f4)) ?_
 refine TL.as (pI (((k + (a.f2.length : Int)) + (a.f3.length : Int)) + cntL (fun x : List Int => (x.length : Int)) a.f4)) ?_
 refine TL.nil ?_
 refine T.ret ?_
 refine ⟨⟨⟨[(false, [cI (((k + (a.f2.length : Int)) + (a.f3.length : Int)) + cntL (fun x : List Int => (x.length : Int)) a.f4)])], (.cons rfl .nil), rfl, [], (RetC.rd' ?_ .nil)⟩, rfl⟩, (.rd (.rd (.mk' (by rfl) (.mk' (by rfl) (.mk' (by rfl) (.rd .nil'))))))⟩ <;> (first | rfl | (congr 1; simp only [SQc.cm]; omega))
theorem ok_laws_markHead (a : SHead) (k : Int) (h0_ : 0 ≤ k) (h1_ : k + a.cm ≤ 4611686018427387904) : MK Try.prog 40 [.agg [.rd (.int .i64 a.f0), .rd (.int .i64 a.f1), .rd (.int .i64 a.f2), .mk (.ints .u8 a.f3) (.ints .u8 (mkB a.f3 k)), .mk (.ints .u8 a.f4) (.ints .u8 (mkB a.f4 (k + (a.f3.length : Int)))), .rd (.int .i64 a.f5.f0), .rd (.int .i64 a.f5.f1), .mk (.ints .u8 a.f5.f2) (.ints .u8 (mkB a.f5.f2 ((k + (a.f3.length : Int)) + (a.f4.length : Int)))), .mk (.ints .u8 a.f5.f3) (.ints .u8 (mkB a.f5.f3 (((k + (a.f3.length : Int)) + (a.f4.length : Int)) + (a.f5.f2.length : Int)))), .mk (.bss a.f5.f4) (.bss (mkBs a.f5.f4 ((((k + (a.f3.length : Int)) + (a.f4.length : Int)) + (a.f5.f2.length : Int)) + (a.f5.f3.length : Int))))], .one (.rd (.int .i64 k))] [(false, [.rd (.int .i64 (k + a.cm))])] := by
 refine MK.intro Try.func40 rfl 18 rfl (le_ok rfl) (le_ok rfl) rfl fun w Z IX pin Ts hp => ?_
 have n5 := SQc.cm_nn a.f5
 simp only [SHead.cm] at h1_
 refine T.seq ?_
 refine T.region ?_
 refine TL.c (Step.box (p := (.agg [cI a.f0, cI a.f1, cI a.f2, .row 903 [], .row 904 [], cI a.f5.f0, cI a.f5.f1, .row 907 [], .row 908 [], .row 909 []])) (ps := [cI a.f0, cI a.f1, cI a.f2, .row 903 [], .row 904 [], cI a.f5.f0, cI a.f5.f1, .row 907 [], .row 908 [], .row 909 []]) rfl rfl (lt_ok rfl) rfl rfl rfl rfl rfl) ?_
 refine TL.as (pI 0) ?_
 refine TL.nil ?_
 refine T.seq ?_
 refine T.region ?_
 refine TL.c (Step.fieldAddr (q := 0) (off := 3) (n := 1) (one := true) rfl rfl (lt_ok rfl) (by kernel_rfl) (Nat.succ_ne_zero _) rfl) ?_
 refine TL.c (Step.load_box (c := .row 903 []) rfl rfl (lt_ok rfl) (by kernel_rfl) rfl rfl rfl) ?_
 refine TL.mv (pI k) ?_
 refine TL.c (Step.callM2 (xs := [.tmp 6, .tmp 7]) (ps := [(.one (.row 903 [])), (pI k)]) (js := [(903, (.ints .u8 (mkB a.f3 k)))]) (g := .func 23) (ok_laws_markByteS a.f3 k (by omega) (by first | omega | (have := (by assumption); omega))) rfl rfl (lt_ok rfl) rfl (by kernel_rfl) rfl rfl (.row (T := (Ts 3)) (d := (.ints .u8 a.f3)) (e' := (.ints .u8 (mkB a.f3 k))) (d' := (.ints .u8 (mkB a.f3 k))) rfl rfl rfl rfl rfl (by simp [D.size, mkL_length]) rfl rfl (.d .nil)) rfl) ?_
 refine TL.as (pI (k + (a.f3.length : Int))) ?_
 refine TL.nil ?_
 refine T.seq ?_
 refine T.region ?_
 refine TL.c (Step.fieldAddr (q := 0) (off := 4) (n := 1) (one := true) rfl rfl (lt_ok rfl) (by kernel_rfl) (Nat.succ_ne_zero _) rfl) ?_
 refine TL.c (Step.load_box (c := .row 904 []) rfl rfl (lt_ok rfl) (by kernel_rfl) rfl rfl rfl) ?_
 refine TL.mv (pI (k + (a.f3.length : Int))) ?_
 refine TL.c (Step.callM2 (xs := [.tmp 10, .tmp 11]) (ps := [(.one (.row 904 [])), (pI (k + (a.f3.length : Int)))]) (js := [(904, (.ints .u8 (mkB a.f4 (k + (a.f3.length : Int)))))]) (g := .func 23) (ok_laws_markByteS a.f4 (k + (a.f3.length : Int)) (by omega) (by first | omega | (have := (by assumption); omega))) rfl rfl (lt_ok rfl) rfl (by kernel_rfl) rfl rfl (.row (T := (Ts 4)) (d := (.ints .u8 a.f4)) (e' := (.ints .u8 (mkB a.f4 (k + (a.f3.length : Int))))) (d' := (.ints .u8 (mkB a.f4 (k + (a.f3.length : Int))))) rfl rfl rfl rfl rfl (by simp [D.size, mkL_length]) rfl rfl (.d .nil)) rfl) ?_
 refine TL.as (pI ((k + (a.f3.length : Int)) + (a.f4.length : Int))) ?_
 refine TL.nil ?_
 refine T.seq ?_
 refine T.region ?_
 refine TL.c (Step.fieldAddr (q := 0) (off := 5) (n := 5) (one := false) rfl rfl (lt_ok rfl) (by kernel_rfl) (Nat.succ_ne_zero _) rfl) ?_
 refine TL.c (Step.load_box_agg (n := 5) (qs := [cI a.f5.f0, cI a.f5.f1, .row 907 [], .row 908 [], .row 909 []]) rfl rfl (lt_ok rfl) (by kernel_rfl) rfl rfl rfl rfl) ?_
 refine TL.mv (pI ((k + (a.f3.length : Int)) + (a.f4.length : Int))) ?_
 have nn1 := SQc.cm_nn a.f5
 refine TL.c (Step.callM2 (xs := [.tmp 14, .tmp 15]) (ps := [(.agg [cI a.f5.f0, cI a.f5.f1, .row 907 [], .row 908 [], .row 909 []]), (pI ((k + (a.f3.length : Int)) + (a.f4.length : Int)))]) (js := [(907, (.ints .u8 (mkB a.f5.f2 ((k + (a.f3.length : Int)) + (a.f4.length : Int))))), (908, (.ints .u8 (mkB a.f5.f3 (((k + (a.f3.length : Int)) + (a.f4.length : Int)) + (a.f5.f2.length : Int))))), (909, (.bss (mkBs a.f5.f4 ((((k + (a.f3.length : Int)) + (a.f4.length : Int)) + (a.f5.f2.length : Int)) + (a.f5.f3.length : Int)))))]) (g := .func 35) (ok_laws_markQc a.f5 ((k + (a.f3.length : Int)) + (a.f4.length : Int)) (by omega) (by first | omega | (have := SQc.cm_le (x := a.f5) (by assumption); omega))) rfl rfl (lt_ok rfl) rfl (by kernel_rfl) rfl rfl (.d (.d (.row (T := (Ts 7)) (d := (.ints .u8 a.f5.f2)) (e' := (.ints .u8 (mkB a.f5.f2 ((k + (a.f3.length : Int)) + (a.f4.length : Int))))) (d' := (.ints .u8 (mkB a.f5.f2 ((k + (a.f3.length : Int)) + (a.f4.length : Int))))) rfl rfl rfl rfl rfl (by simp [D.size, mkL_length]) rfl rfl (.row (T := (Ts 8)) (d := (.ints .u8 a.f5.f3)) (e' := (.ints .u8 (mkB a.f5.f3 (((k + (a.f3.length : Int)) + (a.f4.length : Int)) + (a.f5.f2.length : Int))))) (d' := (.ints .u8 (mkB a.f5.f3 (((k + (a.f3.length : Int)) + (a.f4.length : Int)) + (a.f5.f2.length : Int))))) rfl rfl rfl rfl rfl (by simp [D.size, mkL_length]) rfl rfl (.row (T := (Ts 9)) (d := (.bss a.f5.f4)) (e' := (.bss (mkBs a.f5.f4 ((((k + (a.f3.length : Int)) + (a.f4.length : Int)) + (a.f5.f2.length : Int)) + (a.f5.f3.length : Int))))) (d' := (.bss (mkBs a.f5.f4 ((((k + (a.f3.length : Int)) + (a.f4.length : Int)) + (a.f5.f2.length : Int)) + (a.f5.f3.length : Int))))) rfl rfl rfl rfl rfl (by simp [D.size, mkL_length]) rfl rfl (.d .nil)))))) rfl) ?_
 refine TL.as (pI (((k + (a.f3.length : Int)) + (a.f4.length : Int)) + a.f5.cm)) ?_
 refine TL.nil ?_
 refine T.seq ?_
 refine T.region ?_
 refine TL.mv (pI (((k + (a.f3.length : Int)) + (a.f4.length : Int)) + a.f5.cm)) ?_
 refine TL.as (pI (((k + (a.f3.length : Int)) + (a.f4.length : Int)) + a.f5.cm)) ?_
 refine TL.nil ?_
 refine T.ret ?_
 refine ⟨⟨⟨[(false, [cI (((k + (a.f3.length : Int)) + (a.f4.length : Int)) + a.f5.cm)])], (.cons rfl .nil), rfl, [], (RetC.rd' ?_ .nil)⟩, rfl⟩, (.rd (.rd (.rd (.mk' (by rfl) (.mk' (by rfl) (.rd (.rd (.mk' (by rfl) (.mk' (by rfl) (.mk' (by rfl) (.rd .nil')))))))))))⟩ <;> (first | rfl | (congr 1; simp only [SHead.cm]; omega))
theorem ok_laws_markBlock (a : SBlock) (k : Int) (h0_ : 0 ≤ k) (h1_ : k + a.cm ≤ 4611686018427387904) : MK Try.prog 31 [.agg [.rd (.int .i64 a.f0.f0), .rd (.int .i64 a.f0.f1), .rd (.int .i64 a.f0.f2), .mk (.ints .u8 a.f0.f3) (.ints .u8 (mkB a.f0.f3 k)), .mk (.ints .u8 a.f0.f4) (.ints .u8 (mkB a.f0.f4 (k + (a.f0.f3.length : Int)))), .rd (.int .i64 a.f0.f5.f0), .rd (.int .i64 a.f0.f5.f1), .mk (.ints .u8 a.f0.f5.f2) (.ints .u8 (mkB a.f0.f5.f2 ((k + (a.f0.f3.length : Int)) + (a.f0.f4.length : Int)))), .mk (.ints .u8 a.f0.f5.f3) (.ints .u8 (mkB a.f0.f5.f3 (((k + (a.f0.f3.length : Int)) + (a.f0.f4.length : Int)) + (a.f0.f5.f2.length : Int)))), .mk (.bss a.f0.f5.f4) (.bss (mkBs a.f0.f5.f4 ((((k + (a.f0.f3.length : Int)) + (a.f0.f4.length : Int)) + (a.f0.f5.f2.length : Int)) + (a.f0.f5.f3.length : Int)))), .mk (.bss a.f1) (.bss (mkBs a.f1 (k + a.f0.cm)))], .one (.rd (.int .i64 k))] [(false, [.rd (.int .i64 (k + a.cm))])] := by
 refine MK.intro Try.func31 rfl 14 rfl (le_ok rfl) (le_ok rfl) rfl fun w Z IX pin Ts hp => ?_
 have n0 := SHead.cm_nn a.f0
 have n1 := cntBs_nonneg a.f1
 simp only [SBlock.cm] at h1_
 refine T.seq ?_
 refine T.region ?_
 refine TL.c (Step.box (p := (.agg [cI a.f0.f0, cI a.f0.f1, cI a.f0.f2, .row 903 [], .row 904 [], cI a.f0.f5.f0, cI a.f0.f5.f1, .row 907 [], .row 908 [], .row 909 [], .row 910 []])) (ps := [cI a.f0.f0, cI a.f0.f1, cI a.f0.f2, .row 903 [], .row 904 [], cI a.f0.f5.f0, cI a.f0.f5.f1, .row 907 [], .row 908 [], .row 909 [], .row 910 []]) rfl rfl (lt_ok rfl) rfl rfl rfl rfl rfl) ?_
 refine TL.as (pI 0) ?_
 refine TL.nil ?_
 refine T.seq ?_
 refine T.region ?_
 refine TL.c (Step.fieldAddr (q := 0) (off := 0) (n := 10) (one := false) rfl rfl (lt_ok rfl) (by kernel_rfl) (Nat.succ_ne_zero _) rfl) ?_
 refine TL.c (Step.load_box_agg (n := 10) (qs := [cI a.f0.f0, cI a.f0.f1, cI a.f0.f2, .row 903 [], .row 904 [], cI a.f0.f5.f0, cI a.f0.f5.f1, .row 907 [], .row 908 [], .row 909 []]) rfl rfl (lt_ok rfl) (by kernel_rfl) rfl rfl rfl rfl) ?_
 refine TL.mv (pI k) ?_
 have nn1 := SHead.cm_nn a.f0
 refine TL.c (Step.callM2 (xs := [.tmp 6, .tmp 7]) (ps := [(.agg [cI a.f0.f0, cI a.f0.f1, cI a.f0.f2, .row 903 [], .row 904 [], cI a.f0.f5.f0, cI a.f0.f5.f1, .row 907 [], .row 908 [], .row 909 []]), (pI k)]) (js := [(903, (.ints .u8 (mkB a.f0.f3 k))), (904, (.ints .u8 (mkB a.f0.f4 (k + (a.f0.f3.length : Int))))), (907, (.ints .u8 (mkB a.f0.f5.f2 ((k + (a.f0.f3.length : Int)) + (a.f0.f4.length : Int))))), (908, (.ints .u8 (mkB a.f0.f5.f3 (((k + (a.f0.f3.length : Int)) + (a.f0.f4.length : Int)) + (a.f0.f5.f2.length : Int))))), (909, (.bss (mkBs a.f0.f5.f4 ((((k + (a.f0.f3.length : Int)) + (a.f0.f4.length : Int)) + (a.f0.f5.f2.length : Int)) + (a.f0.f5.f3.length : Int)))))]) (g := .func 40) (ok_laws_markHead a.f0 k (by omega) (by first | omega | (have := SHead.cm_le (x := a.f0) (by assumption); omega))) rfl rfl (lt_ok rfl) rfl (by kernel_rfl) rfl rfl (.d (.d (.d (.row (T := (Ts 3)) (d := (.ints .u8 a.f0.f3)) (e' := (.ints .u8 (mkB a.f0.f3 k))) (d' := (.ints .u8 (mkB a.f0.f3 k))) rfl rfl rfl rfl rfl (by simp [D.size, mkL_length]) rfl rfl (.row (T := (Ts 4)) (d := (.ints .u8 a.f0.f4)) (e' := (.ints .u8 (mkB a.f0.f4 (k + (a.f0.f3.length : Int))))) (d' := (.ints .u8 (mkB a.f0.f4 (k + (a.f0.f3.length : Int))))) rfl rfl rfl rfl rfl (by simp [D.size, mkL_length]) rfl rfl (.d (.d (.row (T := (Ts 7)) (d := (.ints .u8 a.f0.f5.f2)) (e' := (.ints .u8 (mkB a.f0.f5.f2 ((k + (a.f0.f3.length : Int)) + (a.f0.f4.length : Int))))) (d' := (.ints .u8 (mkB a.f0.f5.f2 ((k + (a.f0.f3.length : Int)) + (a.f0.f4.length : Int))))) rfl rfl rfl rfl rfl (by simp [D.size, mkL_length]) rfl rfl (.row (T := (Ts 8)) (d := (.ints .u8 a.f0.f5.f3)) (e' := (.ints .u8 (mkB a.f0.f5.f3 (((k + (a.f0.f3.length : Int)) + (a.f0.f4.length : Int)) + (a.f0.f5.f2.length : Int))))) (d' := (.ints .u8 (mkB a.f0.f5.f3 (((k + (a.f0.f3.length : Int)) + (a.f0.f4.length : Int)) + (a.f0.f5.f2.length : Int))))) rfl rfl rfl rfl rfl (by simp [D.size, mkL_length]) rfl rfl (.row (T := (Ts 9)) (d := (.bss a.f0.f5.f4)) (e' := (.bss (mkBs a.f0.f5.f4 ((((k + (a.f0.f3.length : Int)) + (a.f0.f4.length : Int)) + (a.f0.f5.f2.length : Int)) + (a.f0.f5.f3.length : Int))))) (d' := (.bss (mkBs a.f0.f5.f4 ((((k + (a.f0.f3.length : Int)) + (a.f0.f4.length : Int)) + (a.f0.f5.f2.length : Int)) + (a.f0.f5.f3.length : Int))))) rfl rfl rfl rfl rfl (by simp [D.size, mkL_length]) rfl rfl (.d .nil))))))))))) rfl) ?_
 refine TL.as (pI (k + a.f0.cm)) ?_
 refine TL.nil ?_
 refine T.seq ?_
 refine T.region ?_
 refine TL.c (Step.fieldAddr (q := 0) (off := 10) (n := 1) (one := true) rfl rfl (lt_ok rfl) (by kernel_rfl) (Nat.succ_ne_zero _) rfl) ?_
 refine TL.c (Step.load_box (c := .row 910 []) rfl rfl (lt_ok rfl) (by kernel_rfl) rfl rfl rfl) ?_
 refine TL.mv (pI (k + a.f0.cm)) ?_
 have nn2 := cntBs_nonneg a.f1
 refine TL.c (Step.callM2 (xs := [.tmp 10, .tmp 11]) (ps := [(.one (.row 910 [])), (pI (k + a.f0.cm))]) (js := [(910, (.bss (mkBs a.f1 (k + a.f0.cm))))]) (g := .func 63) (ok_laws_markByteSS a.f1 (k + a.f0.cm) (by omega) (by first | omega | (have := cntBs_le (xs := a.f1) (by assumption); omega))) rfl rfl (lt_ok rfl) rfl (by kernel_rfl) rfl rfl (.row (T := (Ts 10)) (d := (.bss a.f1)) (e' := (.bss (mkBs a.f1 (k + a.f0.cm)))) (d' := (.bss (mkBs a.f1 (k + a.f0.cm)))) rfl rfl rfl rfl rfl (by simp [D.size, mkL_length]) rfl rfl (.d .nil)) rfl) ?_
 refine TL.as (pI ((k + a.f0.cm) + cntL (fun x : List Int => (x.length : Int)) a.f1)) ?_
 refine TL.nil ?_
 refine T.seq ?_
 refine T.region ?_
 refine TL.mv (pI ((k + a.f0.cm) + cntL (fun x : List Int => (x.length : Int)) a.f1)) ?_
 refine TL.as (pI ((k + a.f0.cm) + cntL (fun x : List Int => (x.length : Int)) a.f1)) ?_
 refine TL.nil ?_
 refine T.ret ?_
 refine ⟨⟨⟨[(false, [cI ((k + a.f0.cm) + cntL (fun x : List Int => (x.length : Int)) a.f1)])], (.cons rfl .nil), rfl, [], (RetC.rd' ?_ .nil)⟩, rfl⟩, (.rd (.rd (.rd (.mk' (by rfl) (.mk' (by rfl) (.rd (.rd (.mk' (by rfl) (.mk' (by rfl) (.mk' (by rfl) (.mk' (by rfl) (.rd .nil'))))))))))))⟩ <;> (first | rfl | (congr 1; simp only [SBlock.cm]; omega))
theorem ok_laws_FnExactPutBlock (aL : SLimits) (aB : List Int) (aX : SBlock) (h0_ : aL.ok) (h1_ : U8s aB) (h2_ : aX.ok) : RO Try.prog 4 [.agg aL.cells, .one (.ints .u8 aB), .agg aX.cells] [(false, [.rd (.bool true)])] := by
 refine RO.intro Try.func4 rfl 125 rfl (le_ok rfl) fun w Z => ?_
 refine T.bnd 1 0 rfl rfl fun hb_1_0 => ?_
 simp only [D.size, List.length_map] at hb_1_0
 refine T.seq ?_
 refine T.region ?_
 refine TL.c (Step.box (p := (.agg [cI aL.f0, cI aL.f1, cI aL.f2, cI aL.f3, cI aL.f4])) (ps := [cI aL.f0, cI aL.f1, cI aL.f2, cI aL.f3, cI aL.f4]) rfl rfl (lt_ok rfl) rfl rfl rfl rfl rfl) ?_
 refine TL.c (Step.box (p := (.agg [cI aX.f0.f0, cI aX.f0.f1, cI aX.f0.f2, cS aX.f0.f3, cS aX.f0.f4, cI aX.f0.f5.f0, cI aX.f0.f5.f1, cS aX.f0.f5.f2, cS aX.f0.f5.f3, .d (.bss aX.f0.f5.f4), .d (.bss aX.f1)])) (ps := [cI aX.f0.f0, cI aX.f0.f1, cI aX.f0.f2, cS aX.f0.f3, cS aX.f0.f4, cI aX.f0.f5.f0, cI aX.f0.f5.f1, cS aX.f0.f5.f2, cS aX.f0.f5.f3, .d (.bss aX.f0.f5.f4), .d (.bss aX.f1)]) rfl rfl (lt_ok rfl) rfl rfl rfl rfl rfl) ?_
 refine TL.as (pB false) ?_
 refine TL.nil ?_
 refine T.seq ?_
 refine T.seq ?_
 refine T.region ?_
 refine TL.mv (pS aB) ?_
 refine TL.c (Step.len (e := 5) (z := 1) (d := (.ints .u8 aB)) rfl rfl (lt_ok rfl) (by kernel_rfl) rfl rfl) ?_
 refine TL.c (Step.bin rfl rfl (lt_ok rfl) rfl rfl (Bin.gtr (k := .i64) (a := (aB.length : Int)) (b := 1048576))) ?_
 refine TL.nil ?_
 refine T.cond (b := decide (1048576 < (aB.length : Int))) rfl (fun h1 => ?_) (fun h1 => ?_)
 ·
  replace h1 := of_decide_eq_true h1
  refine T.seq ?_
  refine T.region ?_
  refine TL.as (pB true) ?_
  refine TL.nil ?_
  refine T.ret ?_
  exact ⟨[(false, [.d (.bool true)])], (.cons rfl .nil), rfl, [], (RetC.rd' rfl .nil)⟩
 ·
  replace h1 := of_decide_eq_false h1
  refine T.skip ?_
  refine T.seq ?_
  refine T.region ?_
  refine TL.as (pI 1048576) ?_
  refine TL.nil ?_
  refine T.seq ?_
  refine T.region ?_
  refine TL.c (Step.load_box_agg (n := 11) (qs := [cI aX.f0.f0, cI aX.f0.f1, cI aX.f0.f2, cS aX.f0.f3, cS aX.f0.f4, cI aX.f0.f5.f0, cI aX.f0.f5.f1, cS aX.f0.f5.f2, cS aX.f0.f5.f3, .d (.bss aX.f0.f5.f4), .d (.bss aX.f1)]) rfl rfl (lt_ok rfl) (by kernel_rfl) rfl rfl rfl rfl) ?_
  refine TL.mv (pI 1048576) ?_
  refine TL.c (Step.cl (xs := [.tmp 22, .tmp 23]) (ps := [(.agg [cI aX.f0.f0, cI aX.f0.f1, cI aX.f0.f2, cS aX.f0.f3, cS aX.f0.f4, cI aX.f0.f5.f0, cI aX.f0.f5.f1, cS aX.f0.f5.f2, cS aX.f0.f5.f3, .d (.bss aX.f0.f5.f4), .d (.bss aX.f1)]), (pI 1048576)]) (g := .func 26) false (.cons (.agg (.cons (.d _) (.cons (.d _) (.cons (.d _) (.cons (.d _) (.cons (.d _) (.cons (.d _) (.cons (.d _) (.cons (.d _) (.cons (.d _) (.cons (.d _) (.cons (.d _) .nil)))))))))))) (.cons (.one (.d _)) .nil)) (ok_laws_szBlock aX 1048576 (by omega) (by omega))) ?_
  refine TL.as (pI (aX.sz 1048576)) ?_
  refine TL.nil ?_
  refine T.seq ?_
  refine T.seq ?_
  refine T.region ?_
  refine TL.mv (pI (aX.sz 1048576)) ?_
  refine TL.c (Step.bin rfl rfl (lt_ok rfl) rfl rfl (Bin.lss (k := .i64) (a := (aX.sz 1048576)) (b := 0))) ?_
  refine TL.nil ?_
  refine T.cond (b := decide ((aX.sz 1048576) < 0)) rfl (fun h3 => ?_) (fun h3 => ?_)
  ·
   replace h3 := of_decide_eq_true h3
   refine T.seq ?_
   refine T.region ?_
   refine TL.as (pB true) ?_
   refine TL.nil ?_
   refine T.ret ?_
   exact ⟨[(false, [.d (.bool true)])], (.cons rfl .nil), rfl, [], (RetC.rd' rfl .nil)⟩
  ·
   replace h3 := of_decide_eq_false h3
   have z2_le : aX.sz 1048576 ≤ 1048576 := SBlock.sz_le _ (by omega)
   have z2_sm := SBlock.sz_sm _ (by omega : (0 : Int) ≤ 1048576) (by omega : (1048576 : Int) ≤ 1048576) (by omega : (0 : Int) ≤ aX.sz 1048576)
   refine T.skip ?_
   refine T.seq ?_
   have nn4 := @putBlock_len aL aB aX (by assumption)
   refine T.draw [⟨28, (.agg [cI aL.f0, cI aL.f1, cI aL.f2, cI aL.f3, cI aL.f4]), []⟩, ⟨29, (.agg [cI aL.f0, cI aL.f1, cI aL.f2, cI aL.f3, cI aL.f4]), []⟩, ⟨30, (pS aB), []⟩, ⟨31, (.one (.row 1031 [])), [(1031, (5, (.ints .u8 aB)))]⟩, ⟨32, (.agg [cI aX.f0.f0, cI aX.f0.f1, cI aX.f0.f2, cS aX.f0.f3, cS aX.f0.f4, cI aX.f0.f5.f0, cI aX.f0.f5.f1, cS aX.f0.f5.f2, cS aX.f0.f5.f3, .d (.bss aX.f0.f5.f4), .d (.bss aX.f1)]), []⟩, ⟨33, (.agg [cI aX.f0.f0, cI aX.f0.f1, cI aX.f0.f2, .row 4033 [], .row 5033 [], cI aX.f0.f5.f0, cI aX.f0.f5.f1, .row 8033 [], .row 9033 [], .row 10033 [], .row 11033 []]), [(11033, (24, (.bss aX.f1))), (10033, (24, (.bss aX.f0.f5.f4))), (9033, (5, (.ints .u8 aX.f0.f5.f3))), (8033, (5, (.ints .u8 aX.f0.f5.f2))), (5033, (5, (.ints .u8 aX.f0.f4))), (4033, (5, (.ints .u8 aX.f0.f3)))]⟩, ⟨34, (.tup [(false, [.row 1034 []]), (false, [.d (.bool (blockOk aL aX))])]), [(1034, (5, (.ints .u8 (putBlock aL aB aX))))]⟩, ⟨27, (.tup [(false, [.row 1034 []]), (false, [.d (.bool (blockOk aL aX))])]), []⟩, ⟨35, (.one (.row 1034 [])), []⟩, ⟨36, (pB (blockOk aL aX)), []⟩, ⟨8, (.one (.row 1034 [])), []⟩, ⟨9, (pB (blockOk aL aX)), []⟩] (by kernel_rfl) (by kernel_rfl) ?_ ?_
   ·
    refine .cons (fun E A => OpStep.plain rfl (Step.load_box_agg (n := 5) (qs := [cI aL.f0, cI aL.f1, cI aL.f2, cI aL.f3, cI aL.f4]) (t := 28) rfl rfl (by exact lt_ok rfl) (by kernel_rfl) (A.g 3 rfl) (by exact A.box rfl) rfl rfl)) ?_
    refine .cons (fun E A => OpStep.plain rfl (Step.cd (xs := [.tmp 28]) (ps := [(.agg [cI aL.f0, cI aL.f1, cI aL.f2, cI aL.f3, cI aL.f4])]) (g := .func 17) false 29 (evs_cons (A.g 28 rfl) (rfl)) (.cons (.agg (.cons (.d _) (.cons (.d _) (.cons (.d _) (.cons (.d _) (.cons (.d _) .nil)))))) .nil) (ok_laws_toLimits aL) (At.freshRows A rfl))) ?_
    refine .cons (fun E A => A.mv 1 30) ?_
    refine .cons (fun E A => OpStep.plain rfl (Step.cd (xs := [.tmp 30]) (ps := [(pS aB)]) (g := .func 18) false 31 (evs_cons (A.g 30 rfl) (rfl)) (.cons (.one (.d _)) .nil) (ok_laws_toByteS aB (by first | omega | assumption | exact mem_getD h0_.2 (by omega))) (At.freshRows A rfl))) ?_
    refine .cons (fun E A => OpStep.plain rfl (Step.load_box_agg (n := 11) (qs := [cI aX.f0.f0, cI aX.f0.f1, cI aX.f0.f2, cS aX.f0.f3, cS aX.f0.f4, cI aX.f0.f5.f0, cI aX.f0.f5.f1, cS aX.f0.f5.f2, cS aX.f0.f5.f3, .d (.bss aX.f0.f5.f4), .d (.bss aX.f1)]) (t := 32) rfl rfl (by exact lt_ok rfl) (by kernel_rfl) (A.g 5 rfl) (by exact A.box rfl) rfl rfl)) ?_
    refine .cons (fun E A => OpStep.plain rfl (Step.cd (xs := [.tmp 32]) (ps := [(.agg [cI aX.f0.f0, cI aX.f0.f1, cI aX.f0.f2, cS aX.f0.f3, cS aX.f0.f4, cI aX.f0.f5.f0, cI aX.f0.f5.f1, cS aX.f0.f5.f2, cS aX.f0.f5.f3, .d (.bss aX.f0.f5.f4), .d (.bss aX.f1)])]) (g := .func 28) false 33 (evs_cons (A.g 32 rfl) (rfl)) (.cons (.agg (.cons (.d _) (.cons (.d _) (.cons (.d _) (.cons (.d _) (.cons (.d _) (.cons (.d _) (.cons (.d _) (.cons (.d _) (.cons (.d _) (.cons (.d _) (.cons (.d _) .nil)))))))))))) .nil) (ok_laws_toBlock aX (by first | assumption | exact ⟨‹_›, ‹_›⟩ | (refine mem_getD (p := SBlock.sm) h0_.2 (by omega)) | exact mem_getD h0_.2 (by omega))) (At.freshRows A rfl))) ?_
    refine .cons (fun E A => OpStep.plain rfl (Step.cd (xs := [.tmp 29, .tmp 31, .tmp 33]) (ps := [(.agg [cI aL.f0, cI aL.f1, cI aL.f2, cI aL.f3, cI aL.f4]), (.one (.row 1031 [])), (.agg [cI aX.f0.f0, cI aX.f0.f1, cI aX.f0.f2, .row 4033 [], .row 5033 [], cI aX.f0.f5.f0, cI aX.f0.f5.f1, .row 8033 [], .row 9033 [], .row 10033 [], .row 11033 []])]) (g := .func 27) false 34 (evs_cons (A.g 29 rfl) (evs_cons (A.g 31 rfl) (evs_cons (A.g 33 rfl) (rfl)))) (.cons (.agg (.cons (.d _) (.cons (.d _) (.cons (.d _) (.cons (.d _) (.cons (.d _) .nil)))))) (.cons (.one (.row rfl (by exact (A.row 1031 (by kernel_rfl)).trans rfl) rfl rfl)) (.cons (.agg (.cons (.d _) (.cons (.d _) (.cons (.d _) (.cons (.row rfl (by exact (A.row 4033 (by kernel_rfl)).trans rfl) rfl rfl) (.cons (.row rfl (by exact (A.row 5033 (by kernel_rfl)).trans rfl) rfl rfl) (.cons (.d _) (.cons (.d _) (.cons (.row rfl (by exact (A.row 8033 (by kernel_rfl)).trans rfl) rfl rfl) (.cons (.row rfl (by exact (A.row 9033 (by kernel_rfl)).trans rfl) rfl rfl) (.cons (.row rfl (by exact (A.row 10033 (by kernel_rfl)).trans rfl) rfl rfl) (.cons (.row rfl (by exact (A.row 11033 (by kernel_rfl)).trans rfl) rfl rfl) .nil)))))))))))) .nil))) (ok_spec_PutBlock aL aB aX (by first | omega | assumption | (simp only [List.length_append] at *; omega)) (by assumption) (by assumption)) (At.freshRows A rfl))) ?_
    refine .cons (fun E A => A.mv 34 27) ?_
    refine .cons (fun E A => OpStep.plain rfl (Step.extract (p := (.one (.row 1034 []))) (t := 35) rfl rfl (by exact lt_ok rfl) (A.g 27 rfl) rfl)) ?_
    refine .cons (fun E A => OpStep.plain rfl (Step.extract (p := (pB (blockOk aL aX))) (t := 36) rfl rfl (by exact lt_ok rfl) (A.g 27 rfl) rfl)) ?_
    refine .cons (fun E A => A.as 35 8) ?_
    refine .cons (fun E A => A.as 36 9) ?_
    exact .nil _ _
   refine TL.nil ?_
   refine T.weaken (E' := { tm := [(1, (pS aB)), (3, (.one (.ptr 3 0))), (5, (.one (.ptr 5 0))), (6, (pB false)), (8, (.one (.row 1034 []))), (9, (pB (blockOk aL aX)))], rows := [(1034, (5, (.ints .u8 (putBlock aL aB aX))))], boxes := [(3, (23, [cI aL.f0, cI aL.f1, cI aL.f2, cI aL.f3, cI aL.f4])), (5, (50, [cI aX.f0.f0, cI aX.f0.f1, cI aX.f0.f2, cS aX.f0.f3, cS aX.f0.f4, cI aX.f0.f5.f0, cI aX.f0.f5.f1, cS aX.f0.f5.f2, cS aX.f0.f5.f3, .d (.bss aX.f0.f5.f4), .d (.bss aX.f1)]))] }) (Env.le_mk ⟨by kernel_rfl, by kernel_rfl, by kernel_rfl, by kernel_rfl, by kernel_rfl, by kernel_rfl, trivial⟩ ⟨by kernel_rfl, trivial⟩ ⟨by kernel_rfl, by kernel_rfl, trivial⟩) ?_
   refine T.seq ?_
   refine T.region ?_
   refine TL.mv (pS aB) ?_
   refine TL.c (Step.cl (xs := [.tmp 37]) (ps := [(pS aB)]) (g := .func 18) false (.cons (.one (.d _)) .nil) (ok_laws_toByteS aB (by first | omega | assumption | exact mem_getD h0_.2 (by omega)))) ?_
   refine TL.as (.one (.row 1038 [])) ?_
   refine TL.nil ?_
   refine T.seq ?_
   refine T.region ?_
   refine TL.c (Step.load_box_agg (n := 11) (qs := [cI aX.f0.f0, cI aX.f0.f1, cI aX.f0.f2, cS aX.f0.f3, cS aX.f0.f4, cI aX.f0.f5.f0, cI aX.f0.f5.f1, cS aX.f0.f5.f2, cS aX.f0.f5.f3, .d (.bss aX.f0.f5.f4), .d (.bss aX.f1)]) rfl rfl (lt_ok rfl) (by kernel_rfl) rfl rfl rfl rfl) ?_
   refine TL.c (Step.cl (xs := [.tmp 39]) (ps := [(.agg [cI aX.f0.f0, cI aX.f0.f1, cI aX.f0.f2, cS aX.f0.f3, cS aX.f0.f4, cI aX.f0.f5.f0, cI aX.f0.f5.f1, cS aX.f0.f5.f2, cS aX.f0.f5.f3, .d (.bss aX.f0.f5.f4), .d (.bss aX.f1)])]) (g := .func 28) false (.cons (.agg (.cons (.d _) (.cons (.d _) (.cons (.d _) (.cons (.d _) (.cons (.d _) (.cons (.d _) (.cons (.d _) (.cons (.d _) (.cons (.d _) (.cons (.d _) (.cons (.d _) .nil)))))))))))) .nil) (ok_laws_toBlock aX (by first | assumption | exact ⟨‹_›, ‹_›⟩ | (refine mem_getD (p := SBlock.sm) h0_.2 (by omega)) | exact mem_getD h0_.2 (by omega)))) ?_
   refine TL.c (Step.alloc (cs := [.int .i64 0, .int .i64 0, .int .i64 0, .slice none 0 0, .slice none 0 0, .int .i64 0, .int .i64 0, .slice none 0 0, .slice none 0 0, .slice none 0 0, .slice none 0 0]) (ps := [cI 0, cI 0, cI 0, .nil, .nil, cI 0, cI 0, .nil, .nil, .nil, .nil]) rfl rfl (lt_ok rfl) (by kernel_rfl) rfl rfl rfl rfl) ?_
   refine TL.c (Step.store_box (n := 11) (p := (.agg [cI aX.f0.f0, cI aX.f0.f1, cI aX.f0.f2, .row 4040 [], .row 5040 [], cI aX.f0.f5.f0, cI aX.f0.f5.f1, .row 8040 [], .row 9040 [], .row 10040 [], .row 11040 []])) (qs := [cI aX.f0.f0, cI aX.f0.f1, cI aX.f0.f2, .row 4040 [], .row 5040 [], cI aX.f0.f5.f0, cI aX.f0.f5.f1, .row 8040 [], .row 9040 [], .row 10040 [], .row 11040 []]) (ps' := [cI aX.f0.f0, cI aX.f0.f1, cI aX.f0.f2, .row 4040 [], .row 5040 [], cI aX.f0.f5.f0, cI aX.f0.f5.f1, .row 8040 [], .row 9040 [], .row 10040 [], .row 11040 []]) rfl rfl (by kernel_rfl) rfl rfl rfl rfl rfl rfl (le_ok rfl) rfl) ?_
   refine TL.nil ?_
   refine T.seq ?_
   have nn5 := @putBlock_len aL aB aX (by assumption)
   refine T.draw [⟨42, (.agg [cI aL.f0, cI aL.f1, cI aL.f2, cI aL.f3, cI aL.f4]), []⟩, ⟨43, (.agg [cI aL.f0, cI aL.f1, cI aL.f2, cI aL.f3, cI aL.f4]), []⟩, ⟨44, (.one (.row 1038 [])), []⟩, ⟨45, (.agg [cI aX.f0.f0, cI aX.f0.f1, cI aX.f0.f2, .row 4040 [], .row 5040 [], cI aX.f0.f5.f0, cI aX.f0.f5.f1, .row 8040 [], .row 9040 [], .row 10040 [], .row 11040 []]), []⟩, ⟨46, (.tup [(false, [.row 1046 []]), (false, [.d (.bool (blockOk aL aX))])]), [(1046, (5, (.ints .u8 (putBlock aL aB aX))))]⟩, ⟨41, (.tup [(false, [.row 1046 []]), (false, [.d (.bool (blockOk aL aX))])]), []⟩, ⟨47, (.one (.row 1046 [])), []⟩, ⟨48, (pB (blockOk aL aX)), []⟩, ⟨12, (.one (.row 1046 [])), []⟩, ⟨13, (pB (blockOk aL aX)), []⟩] (by kernel_rfl) (by kernel_rfl) ?_ ?_
   ·
    refine .cons (fun E A => OpStep.plain rfl (Step.load_box_agg (n := 5) (qs := [cI aL.f0, cI aL.f1, cI aL.f2, cI aL.f3, cI aL.f4]) (t := 42) rfl rfl (by exact lt_ok rfl) (by kernel_rfl) (A.g 3 rfl) (by exact A.box rfl) rfl rfl)) ?_
    refine .cons (fun E A => OpStep.plain rfl (Step.cd (xs := [.tmp 42]) (ps := [(.agg [cI aL.f0, cI aL.f1, cI aL.f2, cI aL.f3, cI aL.f4])]) (g := .func 17) false 43 (evs_cons (A.g 42 rfl) (rfl)) (.cons (.agg (.cons (.d _) (.cons (.d _) (.cons (.d _) (.cons (.d _) (.cons (.d _) .nil)))))) .nil) (ok_laws_toLimits aL) (At.freshRows A rfl))) ?_
    refine .cons (fun E A => A.mv 10 44) ?_
    refine .cons (fun E A => OpStep.plain rfl (Step.load_box_agg (n := 11) (qs := [cI aX.f0.f0, cI aX.f0.f1, cI aX.f0.f2, .row 4040 [], .row 5040 [], cI aX.f0.f5.f0, cI aX.f0.f5.f1, .row 8040 [], .row 9040 [], .row 10040 [], .row 11040 []]) (t := 45) rfl rfl (by exact lt_ok rfl) (by kernel_rfl) (A.g 11 rfl) (by exact A.box rfl) rfl rfl)) ?_
    refine .cons (fun E A => OpStep.plain rfl (Step.cd (xs := [.tmp 43, .tmp 44, .tmp 45]) (ps := [(.agg [cI aL.f0, cI aL.f1, cI aL.f2, cI aL.f3, cI aL.f4]), (.one (.row 1038 [])), (.agg [cI aX.f0.f0, cI aX.f0.f1, cI aX.f0.f2, .row 4040 [], .row 5040 [], cI aX.f0.f5.f0, cI aX.f0.f5.f1, .row 8040 [], .row 9040 [], .row 10040 [], .row 11040 []])]) (g := .func 29) false 46 (evs_cons (A.g 43 rfl) (evs_cons (A.g 44 rfl) (evs_cons (A.g 45 rfl) (rfl)))) (.cons (.agg (.cons (.d _) (.cons (.d _) (.cons (.d _) (.cons (.d _) (.cons (.d _) .nil)))))) (.cons (.one (.row rfl (by exact (A.row 1038 (by kernel_rfl)).trans rfl) rfl rfl)) (.cons (.agg (.cons (.d _) (.cons (.d _) (.cons (.d _) (.cons (.row rfl (by exact (A.row 4040 (by kernel_rfl)).trans rfl) rfl rfl) (.cons (.row rfl (by exact (A.row 5040 (by kernel_rfl)).trans rfl) rfl rfl) (.cons (.d _) (.cons (.d _) (.cons (.row rfl (by exact (A.row 8040 (by kernel_rfl)).trans rfl) rfl rfl) (.cons (.row rfl (by exact (A.row 9040 (by kernel_rfl)).trans rfl) rfl rfl) (.cons (.row rfl (by exact (A.row 10040 (by kernel_rfl)).trans rfl) rfl rfl) (.cons (.row rfl (by exact (A.row 11040 (by kernel_rfl)).trans rfl) rfl rfl) .nil)))))))))))) .nil))) (ok_impl_PutBlock aL aB aX (by first | omega | assumption | (simp only [List.length_append] at *; omega)) (by assumption) (by assumption)) (At.freshRows A rfl))) ?_
    refine .cons (fun E A => A.mv 46 41) ?_
    refine .cons (fun E A => OpStep.plain rfl (Step.extract (p := (.one (.row 1046 []))) (t := 47) rfl rfl (by exact lt_ok rfl) (A.g 41 rfl) rfl)) ?_
    refine .cons (fun E A => OpStep.plain rfl (Step.extract (p := (pB (blockOk aL aX))) (t := 48) rfl rfl (by exact lt_ok rfl) (A.g 41 rfl) rfl)) ?_
    refine .cons (fun E A => A.as 47 12) ?_
    refine .cons (fun E A => A.as 48 13) ?_
    exact .nil _ _
   refine TL.nil ?_
   refine T.seq ?_
   refine T.seq ?_
   refine T.region ?_
   refine TL.mv (.one (.row 1046 [])) ?_
   refine TL.mv (.one (.row 1034 [])) ?_
   refine TL.c (Step.cl (xs := [.tmp 49, .tmp 50]) (ps := [(.one (.row 1046 [])), (.one (.row 1034 []))]) (g := .func 21) false (.cons (.one (.row rfl rfl rfl rfl)) (.cons (.one (.row rfl rfl rfl rfl)) .nil)) (ok_laws_eqByteS (putBlock aL aB aX) (putBlock aL aB aX))) ?_
   refine TL.known 51 (c := true) (by simp) rfl ?_
   refine TL.c (Step.not (b := true) rfl rfl (lt_ok rfl) rfl) ?_
   refine TL.mv (pB false) ?_
   refine TL.gm 53 (pB (blockOk aL aX)) ?_
   refine TL.gm 53 (pB (blockOk aL aX)) ?_
   refine TL.gy 53 (Step.bneq (b := (blockOk aL aX)) (c := (blockOk aL aX)) rfl rfl (lt_ok rfl) (by kernel_rfl) rfl rfl) ?_
   refine TL.known 56 (c := false) (by simp) rfl ?_
   refine TL.pk false (pB false) ?_
   refine TL.nil ?_
   refine T.weaken (E' := { tm := [(1, (pS aB)), (3, (.one (.ptr 3 0))), (5, (.one (.ptr 5 0))), (6, (pB false)), (8, (.one (.row 1034 []))), (9, (pB (blockOk aL aX))), (10, (.one (.row 1038 []))), (11, (.one (.ptr 11 0))), (12, (.one (.row 1046 []))), (13, (pB (blockOk aL aX))), (57, (pB false))], rows := [(1034, (5, (.ints .u8 (putBlock aL aB aX)))), (1038, (5, (.ints .u8 aB))), (4040, (5, (.ints .u8 aX.f0.f3))), (5040, (5, (.ints .u8 aX.f0.f4))), (8040, (5, (.ints .u8 aX.f0.f5.f2))), (9040, (5, (.ints .u8 aX.f0.f5.f3))), (10040, (24, (.bss aX.f0.f5.f4))), (11040, (24, (.bss aX.f1))), (1046, (5, (.ints .u8 (putBlock aL aB aX))))], boxes := [(3, (23, [cI aL.f0, cI aL.f1, cI aL.f2, cI aL.f3, cI aL.f4])), (11, (56, [cI aX.f0.f0, cI aX.f0.f1, cI aX.f0.f2, .row 4040 [], .row 5040 [], cI aX.f0.f5.f0, cI aX.f0.f5.f1, .row 8040 [], .row 9040 [], .row 10040 [], .row 11040 []])), (5, (50, [cI aX.f0.f0, cI aX.f0.f1, cI aX.f0.f2, cS aX.f0.f3, cS aX.f0.f4, cI aX.f0.f5.f0, cI aX.f0.f5.f1, cS aX.f0.f5.f2, cS aX.f0.f5.f3, .d (.bss aX.f0.f5.f4), .d (.bss aX.f1)]))] }) (Env.le_mk ⟨by kernel_rfl, by kernel_rfl, by kernel_rfl, by kernel_rfl, by kernel_rfl, by kernel_rfl, by kernel_rfl, by kernel_rfl, by kernel_rfl, by kernel_rfl, by kernel_rfl, trivial⟩ ⟨by kernel_rfl, by kernel_rfl, by kernel_rfl, by kernel_rfl, by kernel_rfl, by kernel_rfl, by kernel_rfl, by kernel_rfl, by kernel_rfl, trivial⟩ ⟨by kernel_rfl, by kernel_rfl, by kernel_rfl, trivial⟩) ?_
   refine T.cond (b := false) rfl (fun h6_ => absurd h6_ (by simp)) (fun h6_ => ?_)
   refine T.skip ?_
   refine T.seq ?_
   refine T.seq ?_
   refine T.region ?_
   refine TL.mv (.one (.row 1038 [])) ?_
   refine TL.mv (pS aB) ?_
   refine TL.c (Step.cl (xs := [.tmp 59]) (ps := [(pS aB)]) (g := .func 18) false (.cons (.one (.d _)) .nil) (ok_laws_toByteS aB (by first | omega | assumption | exact mem_getD h0_.2 (by omega)))) ?_
   refine TL.c (Step.cl (xs := [.tmp 58, .tmp 60]) (ps := [(.one (.row 1038 [])), (.one (.row 1060 []))]) (g := .func 21) false (.cons (.one (.row rfl rfl rfl rfl)) (.cons (.one (.row rfl rfl rfl rfl)) .nil)) (ok_laws_eqByteS aB aB)) ?_
   refine TL.known 61 (c := true) (by simp) rfl ?_
   refine TL.c (Step.not (b := true) rfl rfl (lt_ok rfl) rfl) ?_
   refine TL.nil ?_
   refine T.cond (b := false) rfl (fun h7_ => absurd h7_ (by simp)) (fun h7_ => ?_)
   refine T.skip ?_
   refine T.seq ?_
   refine T.seq ?_
   refine T.draw [⟨63, (.agg [cI aX.f0.f0, cI aX.f0.f1, cI aX.f0.f2, .row 4040 [], .row 5040 [], cI aX.f0.f5.f0, cI aX.f0.f5.f1, .row 8040 [], .row 9040 [], .row 10040 [], .row 11040 []]), []⟩, ⟨64, (.agg [cI aX.f0.f0, cI aX.f0.f1, cI aX.f0.f2, cS aX.f0.f3, cS aX.f0.f4, cI aX.f0.f5.f0, cI aX.f0.f5.f1, cS aX.f0.f5.f2, cS aX.f0.f5.f3, .d (.bss aX.f0.f5.f4), .d (.bss aX.f1)]), []⟩, ⟨65, (.agg [cI aX.f0.f0, cI aX.f0.f1, cI aX.f0.f2, .row 4065 [], .row 5065 [], cI aX.f0.f5.f0, cI aX.f0.f5.f1, .row 8065 [], .row 9065 [], .row 10065 [], .row 11065 []]), [(11065, (24, (.bss aX.f1))), (10065, (24, (.bss aX.f0.f5.f4))), (9065, (5, (.ints .u8 aX.f0.f5.f3))), (8065, (5, (.ints .u8 aX.f0.f5.f2))), (5065, (5, (.ints .u8 aX.f0.f4))), (4065, (5, (.ints .u8 aX.f0.f3)))]⟩, ⟨66, (pB true), []⟩, ⟨67, (pB false), []⟩] (by kernel_rfl) (by kernel_rfl) ?_ ?_
   ·
    refine .cons (fun E A => OpStep.plain rfl (Step.load_box_agg (n := 11) (qs := [cI aX.f0.f0, cI aX.f0.f1, cI aX.f0.f2, .row 4040 [], .row 5040 [], cI aX.f0.f5.f0, cI aX.f0.f5.f1, .row 8040 [], .row 9040 [], .row 10040 [], .row 11040 []]) (t := 63) rfl rfl (by exact lt_ok rfl) (by kernel_rfl) (A.g 11 rfl) (by exact A.box rfl) rfl rfl)) ?_
    refine .cons (fun E A => OpStep.plain rfl (Step.load_box_agg (n := 11) (qs := [cI aX.f0.f0, cI aX.f0.f1, cI aX.f0.f2, cS aX.f0.f3, cS aX.f0.f4, cI aX.f0.f5.f0, cI aX.f0.f5.f1, cS aX.f0.f5.f2, cS aX.f0.f5.f3, .d (.bss aX.f0.f5.f4), .d (.bss aX.f1)]) (t := 64) rfl rfl (by exact lt_ok rfl) (by kernel_rfl) (A.g 5 rfl) (by exact A.box rfl) rfl rfl)) ?_
    refine .cons (fun E A => OpStep.plain rfl (Step.cd (xs := [.tmp 64]) (ps := [(.agg [cI aX.f0.f0, cI aX.f0.f1, cI aX.f0.f2, cS aX.f0.f3, cS aX.f0.f4, cI aX.f0.f5.f0, cI aX.f0.f5.f1, cS aX.f0.f5.f2, cS aX.f0.f5.f3, .d (.bss aX.f0.f5.f4), .d (.bss aX.f1)])]) (g := .func 28) false 65 (evs_cons (A.g 64 rfl) (rfl)) (.cons (.agg (.cons (.d _) (.cons (.d _) (.cons (.d _) (.cons (.d _) (.cons (.d _) (.cons (.d _) (.cons (.d _) (.cons (.d _) (.cons (.d _) (.cons (.d _) (.cons (.d _) .nil)))))))))))) .nil) (ok_laws_toBlock aX (by first | assumption | exact ⟨‹_›, ‹_›⟩ | (refine mem_getD (p := SBlock.sm) h0_.2 (by omega)) | exact mem_getD h0_.2 (by omega))) (At.freshRows A rfl))) ?_
    refine .cons (fun E A => OpStep.plain rfl (Step.tb 66 (decide (aX = aX)) (by simp : (decide (aX = aX)) = true) (Step.cd (xs := [.tmp 63, .tmp 65]) (ps := [(.agg [cI aX.f0.f0, cI aX.f0.f1, cI aX.f0.f2, .row 4040 [], .row 5040 [], cI aX.f0.f5.f0, cI aX.f0.f5.f1, .row 8040 [], .row 9040 [], .row 10040 [], .row 11040 []]), (.agg [cI aX.f0.f0, cI aX.f0.f1, cI aX.f0.f2, .row 4065 [], .row 5065 [], cI aX.f0.f5.f0, cI aX.f0.f5.f1, .row 8065 [], .row 9065 [], .row 10065 [], .row 11065 []])]) (g := .func 30) false 66 (evs_cons (A.g 63 rfl) (evs_cons (A.g 65 rfl) (rfl))) (.cons (.agg (.cons (.d _) (.cons (.d _) (.cons (.d _) (.cons (.row rfl (by exact (A.row 4040 (by kernel_rfl)).trans rfl) rfl rfl) (.cons (.row rfl (by exact (A.row 5040 (by kernel_rfl)).trans rfl) rfl rfl) (.cons (.d _) (.cons (.d _) (.cons (.row rfl (by exact (A.row 8040 (by kernel_rfl)).trans rfl) rfl rfl) (.cons (.row rfl (by exact (A.row 9040 (by kernel_rfl)).trans rfl) rfl rfl) (.cons (.row rfl (by exact (A.row 10040 (by kernel_rfl)).trans rfl) rfl rfl) (.cons (.row rfl (by exact (A.row 11040 (by kernel_rfl)).trans rfl) rfl rfl) .nil)))))))))))) (.cons (.agg (.cons (.d _) (.cons (.d _) (.cons (.d _) (.cons (.row rfl (by exact (A.row 4065 (by kernel_rfl)).trans rfl) rfl rfl) (.cons (.row rfl (by exact (A.row 5065 (by kernel_rfl)).trans rfl) rfl rfl) (.cons (.d _) (.cons (.d _) (.cons (.row rfl (by exact (A.row 8065 (by kernel_rfl)).trans rfl) rfl rfl) (.cons (.row rfl (by exact (A.row 9065 (by kernel_rfl)).trans rfl) rfl rfl) (.cons (.row rfl (by exact (A.row 10065 (by kernel_rfl)).trans rfl) rfl rfl) (.cons (.row rfl (by exact (A.row 11065 (by kernel_rfl)).trans rfl) rfl rfl) .nil)))))))))))) .nil)) (ok_laws_eqBlock aX aX) (At.freshRows A rfl)))) ?_
    refine .cons (fun E A => OpStep.plain rfl (Step.not (b := true) (t := 67) rfl rfl (by exact lt_ok rfl) (A.g 66 rfl))) ?_
    exact .nil _ _
   refine TL.nil ?_
   refine T.cond (b := false) rfl (fun h8_ => absurd h8_ (by simp)) (fun h8_ => ?_)
   refine T.skip ?_
   refine T.seq ?_
   refine T.region ?_
   refine TL.as (pI 1) ?_
   refine TL.nil ?_
   refine T.seq ?_
   refine T.region ?_
   refine TL.mv (.one (.row 1038 [])) ?_
   refine TL.mv (pI 1) ?_
   refine TL.c (Step.callM2 (xs := [.tmp 68, .tmp 69]) (ps := [(.one (.row 1038 [])), (pI 1)]) (js := [(1038, (.ints .u8 (mkB aB 1)))]) (g := .func 23) (ok_laws_markByteS aB 1 (by omega) (by first | omega | (have := (by assumption); omega))) rfl rfl (lt_ok rfl) rfl (by kernel_rfl) rfl rfl (.row (T := 5) (d := (.ints .u8 aB)) (e' := (.ints .u8 (mkB aB 1))) (d' := (.ints .u8 (mkB aB 1))) rfl rfl rfl rfl rfl (by simp [D.size, mkL_length]) rfl rfl (.d .nil)) rfl) ?_
   refine TL.as (pI (1 + (aB.length : Int))) ?_
   refine TL.nil ?_
   refine T.seq ?_
   refine T.region ?_
   refine TL.c (Step.load_box_agg (n := 11) (qs := [cI aX.f0.f0, cI aX.f0.f1, cI aX.f0.f2, .row 4040 [], .row 5040 [], cI aX.f0.f5.f0, cI aX.f0.f5.f1, .row 8040 [], .row 9040 [], .row 10040 [], .row 11040 []]) rfl rfl (lt_ok rfl) (by kernel_rfl) rfl rfl rfl rfl) ?_
   refine TL.mv (pI (1 + (aB.length : Int))) ?_
   have nn9 := SBlock.cm_nn aX
   refine TL.c (Step.callM2 (xs := [.tmp 71, .tmp 72]) (ps := [(.agg [cI aX.f0.f0, cI aX.f0.f1, cI aX.f0.f2, .row 4040 [], .row 5040 [], cI aX.f0.f5.f0, cI aX.f0.f5.f1, .row 8040 [], .row 9040 [], .row 10040 [], .row 11040 []]), (pI (1 + (aB.length : Int)))]) (js := [(4040, (.ints .u8 (mkB aX.f0.f3 (1 + (aB.length : Int))))), (5040, (.ints .u8 (mkB aX.f0.f4 ((1 + (aB.length : Int)) + (aX.f0.f3.length : Int))))), (8040, (.ints .u8 (mkB aX.f0.f5.f2 (((1 + (aB.length : Int)) + (aX.f0.f3.length : Int)) + (aX.f0.f4.length : Int))))), (9040, (.ints .u8 (mkB aX.f0.f5.f3 ((((1 + (aB.length : Int)) + (aX.f0.f3.length : Int)) + (aX.f0.f4.length : Int)) + (aX.f0.f5.f2.length : Int))))), (10040, (.bss (mkBs aX.f0.f5.f4 (((((1 + (aB.length : Int)) + (aX.f0.f3.length : Int)) + (aX.f0.f4.length : Int)) + (aX.f0.f5.f2.length : Int)) + (aX.f0.f5.f3.length : Int))))), (11040, (.bss (mkBs aX.f1 ((1 + (aB.length : Int)) + aX.f0.cm))))]) (g := .func 31) (ok_laws_markBlock aX (1 + (aB.length : Int)) (by omega) (by first | omega | (have := SBlock.cm_le (x := aX) (by assumption); omega))) rfl rfl (lt_ok rfl) rfl (by kernel_rfl) rfl rfl (.d (.d (.d (.row (T := 5) (d := (.ints .u8 aX.f0.f3)) (e' := (.ints .u8 (mkB aX.f0.f3 (1 + (aB.length : Int))))) (d' := (.ints .u8 (mkB aX.f0.f3 (1 + (aB.length : Int))))) rfl rfl rfl rfl rfl (by simp [D.size, mkL_length]) rfl rfl (.row (T := 5) (d := (.ints .u8 aX.f0.f4)) (e' := (.ints .u8 (mkB aX.f0.f4 ((1 + (aB.length : Int)) + (aX.f0.f3.length : Int))))) (d' := (.ints .u8 (mkB aX.f0.f4 ((1 + (aB.length : Int)) + (aX.f0.f3.length : Int))))) rfl rfl rfl rfl rfl (by simp [D.size, mkL_length]) rfl rfl (.d (.d (.row (T := 5) (d := (.ints .u8 aX.f0.f5.f2)) (e' := (.ints .u8 (mkB aX.f0.f5.f2 (((1 + (aB.length : Int)) + (aX.f0.f3.length : Int)) + (aX.f0.f4.length : Int))))) (d' := (.ints .u8 (mkB aX.f0.f5.f2 (((1 + (aB.length : Int)) + (aX.f0.f3.length : Int)) + (aX.f0.f4.length : Int))))) rfl rfl rfl rfl rfl (by simp [D.size, mkL_length]) rfl rfl (.row (T := 5) (d := (.ints .u8 aX.f0.f5.f3)) (e' := (.ints .u8 (mkB aX.f0.f5.f3 ((((1 + (aB.length : Int)) + (aX.f0.f3.length : Int)) + (aX.f0.f4.length : Int)) + (aX.f0.f5.f2.length : Int))))) (d' := (.ints .u8 (mkB aX.f0.f5.f3 ((((1 + (aB.length : Int)) + (aX.f0.f3.length : Int)) + (aX.f0.f4.length : Int)) + (aX.f0.f5.f2.length : Int))))) rfl rfl rfl rfl rfl (by simp [D.size, mkL_length]) rfl rfl (.row (T := 24) (d := (.bss aX.f0.f5.f4)) (e' := (.bss (mkBs aX.f0.f5.f4 (((((1 + (aB.length : Int)) + (aX.f0.f3.length : Int)) + (aX.f0.f4.length : Int)) + (aX.f0.f5.f2.length : Int)) + (aX.f0.f5.f3.length : Int))))) (d' := (.bss (mkBs aX.f0.f5.f4 (((((1 + (aB.length : Int)) + (aX.f0.f3.length : Int)) + (aX.f0.f4.length : Int)) + (aX.f0.f5.f2.length : Int)) + (aX.f0.f5.f3.length : Int))))) rfl rfl rfl rfl rfl (by simp [D.size, mkL_length]) rfl rfl (.row (T := 24) (d := (.bss aX.f1)) (e' := (.bss (mkBs aX.f1 ((1 + (aB.length : Int)) + aX.f0.cm)))) (d' := (.bss (mkBs aX.f1 ((1 + (aB.length : Int)) + aX.f0.cm)))) rfl rfl rfl rfl rfl (by simp [D.size, mkL_length]) rfl rfl (.d .nil)))))))))))) rfl) ?_
   refine TL.as (pI ((1 + (aB.length : Int)) + aX.cm)) ?_
   refine TL.nil ?_
   refine T.seq ?_
   refine T.seq ?_
   refine T.region ?_
   refine TL.mv (pI ((1 + (aB.length : Int)) + aX.cm)) ?_
   refine TL.c (Step.bin rfl rfl (lt_ok rfl) rfl rfl (Bin.lss (k := .i64) (a := ((1 + (aB.length : Int)) + aX.cm)) (b := 0))) ?_
   refine TL.known 75 (c := false) (decide_eq_false (by omega)) rfl ?_
   refine TL.mv (pB false) ?_
   refine TL.gm 76 (.one (.row 1046 [])) ?_
   refine TL.gm 76 (.one (.row 1034 [])) ?_
   refine TL.gy 76 (Step.cl (xs := [.tmp 77, .tmp 78]) (ps := [(.one (.row 1046 [])), (.one (.row 1034 []))]) (g := .func 21) false (.cons (.one (.row rfl rfl rfl rfl)) (.cons (.one (.row rfl rfl rfl rfl)) .nil)) (ok_laws_eqByteS (putBlock aL aB aX) (putBlock aL aB aX))) ?_
   refine TL.known 79 (c := true) (by simp) rfl ?_
   refine TL.gy 76 (Step.not (b := true) rfl rfl (lt_ok rfl) rfl) ?_
   refine TL.pk false (pB false) ?_
   refine TL.mv (pB false) ?_
   refine TL.gm 82 (pB (blockOk aL aX)) ?_
   refine TL.gm 82 (pB (blockOk aL aX)) ?_
   refine TL.gy 82 (Step.bneq (b := (blockOk aL aX)) (c := (blockOk aL aX)) rfl rfl (lt_ok rfl) (by kernel_rfl) rfl rfl) ?_
   refine TL.known 85 (c := false) (by simp) rfl ?_
   refine TL.pk false (pB false) ?_
   refine TL.nil ?_
   refine T.weaken (E' := { tm := [(1, (pS aB)), (3, (.one (.ptr 3 0))), (5, (.one (.ptr 5 0))), (6, (pB false)), (8, (.one (.row 1034 []))), (9, (pB (blockOk aL aX))), (12, (.one (.row 1046 []))), (86, (pB false))], rows := [(1034, (5, (.ints .u8 (putBlock aL aB aX)))), (1046, (5, (.ints .u8 (putBlock aL aB aX))))], boxes := [(3, (23, [cI aL.f0, cI aL.f1, cI aL.f2, cI aL.f3, cI aL.f4])), (5, (50, [cI aX.f0.f0, cI aX.f0.f1, cI aX.f0.f2, cS aX.f0.f3, cS aX.f0.f4, cI aX.f0.f5.f0, cI aX.f0.f5.f1, cS aX.f0.f5.f2, cS aX.f0.f5.f3, .d (.bss aX.f0.f5.f4), .d (.bss aX.f1)]))] }) (Env.le_mk ⟨by kernel_rfl, by kernel_rfl, by kernel_rfl, by kernel_rfl, by kernel_rfl, by kernel_rfl, by kernel_rfl, by kernel_rfl, trivial⟩ ⟨by kernel_rfl, by kernel_rfl, trivial⟩ ⟨by kernel_rfl, by kernel_rfl, trivial⟩) ?_
   refine T.cond (b := false) rfl (fun h10_ => absurd h10_ (by simp)) (fun h10_ => ?_)
   refine T.skip ?_
   refine T.seq ?_
   refine T.region ?_
   refine TL.as (pI 1) ?_
   refine TL.nil ?_
   refine T.seq ?_
   refine T.region ?_
   refine TL.mv (.one (.row 1046 [])) ?_
   refine TL.mv (pI 1) ?_
   refine TL.c (Step.callM2 (xs := [.tmp 87, .tmp 88]) (ps := [(.one (.row 1046 [])), (pI 1)]) (js := [(1046, (.ints .u8 (mkB (putBlock aL aB aX) 1)))]) (g := .func 23) (ok_laws_markByteS (putBlock aL aB aX) 1 (by omega) (by first | omega | (have := (by assumption); omega))) rfl rfl (lt_ok rfl) rfl (by kernel_rfl) rfl rfl (.row (T := 5) (d := (.ints .u8 (putBlock aL aB aX))) (e' := (.ints .u8 (mkB (putBlock aL aB aX) 1))) (d' := (.ints .u8 (mkB (putBlock aL aB aX) 1))) rfl rfl rfl rfl rfl (by simp [D.size, mkL_length]) rfl rfl (.d .nil)) rfl) ?_
   refine TL.as (pI (1 + ((putBlock aL aB aX).length : Int))) ?_
   refine TL.nil ?_
   refine T.seq ?_
   refine T.region ?_
   refine TL.as (pI 1) ?_
   refine TL.nil ?_
   refine T.seq ?_
   refine T.region ?_
   refine TL.mv (.one (.row 1046 [])) ?_
   refine TL.mv (pI 1) ?_
   refine TL.c (Step.cl (xs := [.tmp 90, .tmp 91]) (ps := [(.one (.row 1046 [])), (pI 1)]) (g := .func 25) false (.cons (.one (.row rfl rfl rfl rfl)) (.cons (.one (.d _)) .nil)) (ok_laws_heldByteS (putBlock aL aB aX) (mkB (putBlock aL aB aX) 1) 1 (by omega) (by first | omega | (have := (by assumption); omega)) (by first | rfl | assumption | (repeat' (first | rfl | apply And.intro))))) ?_
   refine TL.as (pI (1 + ((putBlock aL aB aX).length : Int))) ?_
   refine TL.nil ?_
   refine T.seq ?_
   refine T.seq ?_
   refine T.region ?_
   refine TL.mv (pI (1 + ((putBlock aL aB aX).length : Int))) ?_
   refine TL.c (Step.bin rfl rfl (lt_ok rfl) rfl rfl (Bin.lss (k := .i64) (a := (1 + ((putBlock aL aB aX).length : Int))) (b := 0))) ?_
   refine TL.known 94 (c := false) (decide_eq_false (by omega)) rfl ?_
   refine TL.nil ?_
   refine T.cond (b := false) rfl (fun h11_ => absurd h11_ (by simp)) (fun h11_ => ?_)
   refine T.skip ?_
   refine T.seq ?_
   refine T.seq ?_
   refine T.region ?_
   refine TL.mv (pI (1 + ((putBlock aL aB aX).length : Int))) ?_
   refine TL.mv (pI (1 + ((putBlock aL aB aX).length : Int))) ?_
   refine TL.c (Step.bin rfl rfl (lt_ok rfl) rfl rfl (Bin.neq (k := .i64) (a := (1 + ((putBlock aL aB aX).length : Int))) (b := (1 + ((putBlock aL aB aX).length : Int))))) ?_
   refine TL.known 97 (c := false) (by simp) rfl ?_
   refine TL.nil ?_
   refine T.cond (b := false) rfl (fun h12_ => absurd h12_ (by simp)) (fun h12_ => ?_)
   refine T.skip ?_
   refine T.seq ?_
   have nn13 := @putBlock_len aL aB aX (by assumption)
   refine T.draw [⟨99, (.agg [cI aL.f0, cI aL.f1, cI aL.f2, cI aL.f3, cI aL.f4]), []⟩, ⟨100, (.agg [cI aL.f0, cI aL.f1, cI aL.f2, cI aL.f3, cI aL.f4]), []⟩, ⟨101, (pS aB), []⟩, ⟨102, (.one (.row 1102 [])), [(1102, (5, (.ints .u8 aB)))]⟩, ⟨103, (.agg [cI aX.f0.f0, cI aX.f0.f1, cI aX.f0.f2, cS aX.f0.f3, cS aX.f0.f4, cI aX.f0.f5.f0, cI aX.f0.f5.f1, cS aX.f0.f5.f2, cS aX.f0.f5.f3, .d (.bss aX.f0.f5.f4), .d (.bss aX.f1)]), []⟩, ⟨104, (.agg [cI aX.f0.f0, cI aX.f0.f1, cI aX.f0.f2, .row 4104 [], .row 5104 [], cI aX.f0.f5.f0, cI aX.f0.f5.f1, .row 8104 [], .row 9104 [], .row 10104 [], .row 11104 []]), [(11104, (24, (.bss aX.f1))), (10104, (24, (.bss aX.f0.f5.f4))), (9104, (5, (.ints .u8 aX.f0.f5.f3))), (8104, (5, (.ints .u8 aX.f0.f5.f2))), (5104, (5, (.ints .u8 aX.f0.f4))), (4104, (5, (.ints .u8 aX.f0.f3)))]⟩, ⟨105, (.tup [(false, [.row 1105 []]), (false, [.d (.bool (blockOk aL aX))])]), [(1105, (5, (.ints .u8 (putBlock aL aB aX))))]⟩, ⟨98, (.tup [(false, [.row 1105 []]), (false, [.d (.bool (blockOk aL aX))])]), []⟩, ⟨106, (.one (.row 1105 [])), []⟩, ⟨107, (pB (blockOk aL aX)), []⟩, ⟨17, (.one (.row 1105 [])), []⟩, ⟨18, (pB (blockOk aL aX)), []⟩] (by kernel_rfl) (by kernel_rfl) ?_ ?_
   ·
    refine .cons (fun E A => OpStep.plain rfl (Step.load_box_agg (n := 5) (qs := [cI aL.f0, cI aL.f1, cI aL.f2, cI aL.f3, cI aL.f4]) (t := 99) rfl rfl (by exact lt_ok rfl) (by kernel_rfl) (A.g 3 rfl) (by exact A.box rfl) rfl rfl)) ?_
    refine .cons (fun E A => OpStep.plain rfl (Step.cd (xs := [.tmp 99]) (ps := [(.agg [cI aL.f0, cI aL.f1, cI aL.f2, cI aL.f3, cI aL.f4])]) (g := .func 17) false 100 (evs_cons (A.g 99 rfl) (rfl)) (.cons (.agg (.cons (.d _) (.cons (.d _) (.cons (.d _) (.cons (.d _) (.cons (.d _) .nil)))))) .nil) (ok_laws_toLimits aL) (At.freshRows A rfl))) ?_
    refine .cons (fun E A => A.mv 1 101) ?_
    refine .cons (fun E A => OpStep.plain rfl (Step.cd (xs := [.tmp 101]) (ps := [(pS aB)]) (g := .func 18) false 102 (evs_cons (A.g 101 rfl) (rfl)) (.cons (.one (.d _)) .nil) (ok_laws_toByteS aB (by first | omega | assumption | exact mem_getD h0_.2 (by omega))) (At.freshRows A rfl))) ?_
    refine .cons (fun E A => OpStep.plain rfl (Step.load_box_agg (n := 11) (qs := [cI aX.f0.f0, cI aX.f0.f1, cI aX.f0.f2, cS aX.f0.f3, cS aX.f0.f4, cI aX.f0.f5.f0, cI aX.f0.f5.f1, cS aX.f0.f5.f2, cS aX.f0.f5.f3, .d (.bss aX.f0.f5.f4), .d (.bss aX.f1)]) (t := 103) rfl rfl (by exact lt_ok rfl) (by kernel_rfl) (A.g 5 rfl) (by exact A.box rfl) rfl rfl)) ?_
    refine .cons (fun E A => OpStep.plain rfl (Step.cd (xs := [.tmp 103]) (ps := [(.agg [cI aX.f0.f0, cI aX.f0.f1, cI aX.f0.f2, cS aX.f0.f3, cS aX.f0.f4, cI aX.f0.f5.f0, cI aX.f0.f5.f1, cS aX.f0.f5.f2, cS aX.f0.f5.f3, .d (.bss aX.f0.f5.f4), .d (.bss aX.f1)])]) (g := .func 28) false 104 (evs_cons (A.g 103 rfl) (rfl)) (.cons (.agg (.cons (.d _) (.cons (.d _) (.cons (.d _) (.cons (.d _) (.cons (.d _) (.cons (.d _) (.cons (.d _) (.cons (.d _) (.cons (.d _) (.cons (.d _) (.cons (.d _) .nil)))))))))))) .nil) (ok_laws_toBlock aX (by first | assumption | exact ⟨‹_›, ‹_›⟩ | (refine mem_getD (p := SBlock.sm) h0_.2 (by omega)) | exact mem_getD h0_.2 (by omega))) (At.freshRows A rfl))) ?_
    refine .cons (fun E A => OpStep.plain rfl (Step.cd (xs := [.tmp 100, .tmp 102, .tmp 104]) (ps := [(.agg [cI aL.f0, cI aL.f1, cI aL.f2, cI aL.f3, cI aL.f4]), (.one (.row 1102 [])), (.agg [cI aX.f0.f0, cI aX.f0.f1, cI aX.f0.f2, .row 4104 [], .row 5104 [], cI aX.f0.f5.f0, cI aX.f0.f5.f1, .row 8104 [], .row 9104 [], .row 10104 [], .row 11104 []])]) (g := .func 29) false 105 (evs_cons (A.g 100 rfl) (evs_cons (A.g 102 rfl) (evs_cons (A.g 104 rfl) (rfl)))) (.cons (.agg (.cons (.d _) (.cons (.d _) (.cons (.d _) (.cons (.d _) (.cons (.d _) .nil)))))) (.cons (.one (.row rfl (by exact (A.row 1102 (by kernel_rfl)).trans rfl) rfl rfl)) (.cons (.agg (.cons (.d _) (.cons (.d _) (.cons (.d _) (.cons (.row rfl (by exact (A.row 4104 (by kernel_rfl)).trans rfl) rfl rfl) (.cons (.row rfl (by exact (A.row 5104 (by kernel_rfl)).trans rfl) rfl rfl) (.cons (.d _) (.cons (.d _) (.cons (.row rfl (by exact (A.row 8104 (by kernel_rfl)).trans rfl) rfl rfl) (.cons (.row rfl (by exact (A.row 9104 (by kernel_rfl)).trans rfl) rfl rfl) (.cons (.row rfl (by exact (A.row 10104 (by kernel_rfl)).trans rfl) rfl rfl) (.cons (.row rfl (by exact (A.row 11104 (by kernel_rfl)).trans rfl) rfl rfl) .nil)))))))))))) .nil))) (ok_impl_PutBlock aL aB aX (by first | omega | assumption | (simp only [List.length_append] at *; omega)) (by assumption) (by assumption)) (At.freshRows A rfl))) ?_
    refine .cons (fun E A => A.mv 105 98) ?_
    refine .cons (fun E A => OpStep.plain rfl (Step.extract (p := (.one (.row 1105 []))) (t := 106) rfl rfl (by exact lt_ok rfl) (A.g 98 rfl) rfl)) ?_
    refine .cons (fun E A => OpStep.plain rfl (Step.extract (p := (pB (blockOk aL aX))) (t := 107) rfl rfl (by exact lt_ok rfl) (A.g 98 rfl) rfl)) ?_
    refine .cons (fun E A => A.as 106 17) ?_
    refine .cons (fun E A => A.as 107 18) ?_
    exact .nil _ _
   refine TL.nil ?_
   refine T.seq ?_
   refine T.seq ?_
   refine T.region ?_
   refine TL.mv (.one (.row 1105 [])) ?_
   refine TL.mv (.one (.row 1034 [])) ?_
   refine TL.c (Step.cl (xs := [.tmp 108, .tmp 109]) (ps := [(.one (.row 1105 [])), (.one (.row 1034 []))]) (g := .func 21) false (.cons (.one (.row rfl rfl rfl rfl)) (.cons (.one (.row rfl rfl rfl rfl)) .nil)) (ok_laws_eqByteS (putBlock aL aB aX) (putBlock aL aB aX))) ?_
   refine TL.known 110 (c := true) (by simp) rfl ?_
   refine TL.c (Step.not (b := true) rfl rfl (lt_ok rfl) rfl) ?_
   refine TL.mv (pB false) ?_
   refine TL.gm 112 (pB (blockOk aL aX)) ?_
   refine TL.gm 112 (pB (blockOk aL aX)) ?_
   refine TL.gy 112 (Step.bneq (b := (blockOk aL aX)) (c := (blockOk aL aX)) rfl rfl (lt_ok rfl) (by kernel_rfl) rfl rfl) ?_
   refine TL.known 115 (c := false) (by simp) rfl ?_
   refine TL.pk false (pB false) ?_
   refine TL.nil ?_
   refine T.weaken (E' := { tm := [(6, (pB false)), (12, (.one (.row 1046 []))), (15, (pI (1 + ((putBlock aL aB aX).length : Int)))), (16, (pI (1 + ((putBlock aL aB aX).length : Int)))), (116, (pB false))], rows := [(1046, (5, (.ints .u8 (mkB (putBlock aL aB aX) 1))))], boxes := [] }) (Env.le_mk ⟨by kernel_rfl, by kernel_rfl, by kernel_rfl, by kernel_rfl, by kernel_rfl, trivial⟩ ⟨by kernel_rfl, trivial⟩ trivial) ?_
   refine T.cond (b := false) rfl (fun h14_ => absurd h14_ (by simp)) (fun h14_ => ?_)
   refine T.skip ?_
   refine T.seq ?_
   refine T.region ?_
   refine TL.as (pI 1) ?_
   refine TL.nil ?_
   refine T.seq ?_
   refine T.region ?_
   refine TL.mv (.one (.row 1046 [])) ?_
   refine TL.mv (pI 1) ?_
   refine TL.c (Step.cl (xs := [.tmp 117, .tmp 118]) (ps := [(.one (.row 1046 [])), (pI 1)]) (g := .func 25) false (.cons (.one (.row rfl rfl rfl rfl)) (.cons (.one (.d _)) .nil)) (ok_laws_heldByteS (putBlock aL aB aX) (mkB (putBlock aL aB aX) 1) 1 (by omega) (by first | omega | (have := (by assumption); omega)) (by first | rfl | assumption | (repeat' (first | rfl | apply And.intro))))) ?_
   refine TL.as (pI (1 + ((putBlock aL aB aX).length : Int))) ?_
   refine TL.nil ?_
   refine T.seq ?_
   refine T.seq ?_
   refine T.region ?_
   refine TL.mv (pI (1 + ((putBlock aL aB aX).length : Int))) ?_
   refine TL.c (Step.bin rfl rfl (lt_ok rfl) rfl rfl (Bin.lss (k := .i64) (a := (1 + ((putBlock aL aB aX).length : Int))) (b := 0))) ?_
   refine TL.known 121 (c := false) (decide_eq_false (by omega)) rfl ?_
   refine TL.nil ?_
   refine T.cond (b := false) rfl (fun h15_ => absurd h15_ (by simp)) (fun h15_ => ?_)
   refine T.skip ?_
   refine T.seq ?_
   refine T.seq ?_
   refine T.region ?_
   refine TL.mv (pI (1 + ((putBlock aL aB aX).length : Int))) ?_
   refine TL.mv (pI (1 + ((putBlock aL aB aX).length : Int))) ?_
   refine TL.c (Step.bin rfl rfl (lt_ok rfl) rfl rfl (Bin.neq (k := .i64) (a := (1 + ((putBlock aL aB aX).length : Int))) (b := (1 + ((putBlock aL aB aX).length : Int))))) ?_
   refine TL.known 124 (c := false) (by simp) rfl ?_
   refine TL.nil ?_
   refine T.cond (b := false) rfl (fun h16_ => absurd h16_ (by simp)) (fun h16_ => ?_)
   refine T.skip ?_
   refine T.seq ?_
   refine T.region ?_
   refine TL.as (pB true) ?_
   refine TL.nil ?_
   refine T.ret ?_
   exact ⟨[(false, [.d (.bool true)])], (.cons rfl .nil), rfl, [], (RetC.rd' rfl .nil)⟩
end Go.Proofs.Ytlcmflenbddliaa.Rf
