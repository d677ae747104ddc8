/- The functions that FnExactSkipped calls, each held to what it answers. Printed by a program of this session; Lean checks it. -/
import Derived.Test.YtniapflmmigbjaaProg
import Derived.Test.YtniapflmmigbjaaRf16
import Derived.Test.YtniapflmmigbjaaRFnExactSkippedx0
namespace Go.Proofs.Ytniapflmmigbjaa.Rf
open Go.RowKit
set_option linter.unusedVariables false
set_option linter.unnecessarySimpa false
set_option linter.unusedSimpArgs false
set_option maxRecDepth 100000
set_option maxHeartbeats 4000000
theorem ok_laws_toEvent (a : SEvent) (h0_ : a.sm) : RO Try.prog 125 [.agg a.cells] [(true, [.rd (.int .i64 a.f0), .rd (.int .i64 a.f1), .rd (.int .i64 a.f2.f0), .rd (.int .i64 a.f2.f1.f0), .rd (.int .i64 a.f2.f1.f1), .own 5 (.ints .u8 a.f2.f1.f2), .rd (.int .i64 a.f2.f1.f3), .own 5 (.ints .u8 a.f2.f1.f4), .rd (.int .i64 a.f2.f2.f0), .rd (.int .i64 a.f2.f2.f1), .own 5 (.ints .u8 a.f2.f2.f2), .own 5 (.ints .u8 a.f2.f2.f3), .own 37 (.bss a.f2.f2.f4), .rd (.int .i64 a.f2.f3.f0), .rd (.int .i64 a.f2.f3.f1), .rd (.int .i64 a.f2.f3.f2), .own 5 (.ints .u8 a.f2.f3.f3), .own 5 (.ints .u8 a.f2.f3.f4), .rd (.int .i64 a.f2.f3.f5.f0), .rd (.int .i64 a.f2.f3.f5.f1), .own 5 (.ints .u8 a.f2.f3.f5.f2), .own 5 (.ints .u8 a.f2.f3.f5.f3), .own 37 (.bss a.f2.f3.f5.f4), .rd (.int .i64 a.f2.f4.f0.f0), .rd (.int .i64 a.f2.f4.f0.f1), .rd (.int .i64 a.f2.f4.f0.f2), .own 5 (.ints .u8 a.f2.f4.f0.f3), .own 5 (.ints .u8 a.f2.f4.f0.f4), .rd (.int .i64 a.f2.f4.f0.f5.f0), .rd (.int .i64 a.f2.f4.f0.f5.f1), .own 5 (.ints .u8 a.f2.f4.f0.f5.f2), .own 5 (.ints .u8 a.f2.f4.f0.f5.f3), .own 37 (.bss a.f2.f4.f0.f5.f4), .own 37 (.bss a.f2.f4.f1), .rd (.int .i64 a.f2.f5.f0), .own 113 (.sl 3 (a.f2.f5.f1.map SEntry.cells)), .own 55 (.sl 10 (a.f2.f6.f0.map SHead.cells)), .rd (.int .i64 a.f2.f6.f1.f0), .rd (.int .i64 a.f2.f6.f1.f1), .own 5 (.ints .u8 a.f2.f6.f1.f2), .own 5 (.ints .u8 a.f2.f6.f1.f3), .own 37 (.bss a.f2.f6.f1.f4), .rd (.int .i64 a.f2.f7.f0), .rd (.int .i64 a.f2.f7.f1), .rd (.int .i64 a.f2.f7.f2), .own 5 (.ints .u8 a.f2.f7.f3), .own 37 (.bss a.f2.f7.f4)])] := by
 refine RO.intro Try.func125 rfl 15 rfl (le_ok rfl) fun w Z => ?_
 have s0 : a.f2.sm := h0_
 refine T.seq ?_
 refine T.region ?_
 refine TL.cons rfl (Step.box (p := (.agg [.d (.int .i64 a.f0), .d (.int .i64 a.f1), .d (.int .i64 a.f2.f0), .d (.int .i64 a.f2.f1.f0), .d (.int .i64 a.f2.f1.f1), .d (.ints .u8 a.f2.f1.f2), .d (.int .i64 a.f2.f1.f3), .d (.ints .u8 a.f2.f1.f4), .d (.int .i64 a.f2.f2.f0), .d (.int .i64 a.f2.f2.f1), .d (.ints .u8 a.f2.f2.f2), .d (.ints .u8 a.f2.f2.f3), .d (.bss a.f2.f2.f4), .d (.int .i64 a.f2.f3.f0), .d (.int .i64 a.f2.f3.f1), .d (.int .i64 a.f2.f3.f2), .d (.ints .u8 a.f2.f3.f3), .d (.ints .u8 a.f2.f3.f4), .d (.int .i64 a.f2.f3.f5.f0), .d (.int .i64 a.f2.f3.f5.f1), .d (.ints .u8 a.f2.f3.f5.f2), .d (.ints .u8 a.f2.f3.f5.f3), .d (.bss a.f2.f3.f5.f4), .d (.int .i64 a.f2.f4.f0.f0), .d (.int .i64 a.f2.f4.f0.f1), .d (.int .i64 a.f2.f4.f0.f2), .d (.ints .u8 a.f2.f4.f0.f3), .d (.ints .u8 a.f2.f4.f0.f4), .d (.int .i64 a.f2.f4.f0.f5.f0), .d (.int .i64 a.f2.f4.f0.f5.f1), .d (.ints .u8 a.f2.f4.f0.f5.f2), .d (.ints .u8 a.f2.f4.f0.f5.f3), .d (.bss a.f2.f4.f0.f5.f4), .d (.bss a.f2.f4.f1), .d (.int .i64 a.f2.f5.f0), .d (.sl 3 (a.f2.f5.f1.map SEntry.cells)), .d (.sl 10 (a.f2.f6.f0.map SHead.cells)), .d (.int .i64 a.f2.f6.f1.f0), .d (.int .i64 a.f2.f6.f1.f1), .d (.ints .u8 a.f2.f6.f1.f2), .d (.ints .u8 a.f2.f6.f1.f3), .d (.bss a.f2.f6.f1.f4), .d (.int .i64 a.f2.f7.f0), .d (.int .i64 a.f2.f7.f1), .d (.int .i64 a.f2.f7.f2), .d (.ints .u8 a.f2.f7.f3), .d (.bss a.f2.f7.f4)])) (ps := [.d (.int .i64 a.f0), .d (.int .i64 a.f1), .d (.int .i64 a.f2.f0), .d (.int .i64 a.f2.f1.f0), .d (.int .i64 a.f2.f1.f1), .d (.ints .u8 a.f2.f1.f2), .d (.int .i64 a.f2.f1.f3), .d (.ints .u8 a.f2.f1.f4), .d (.int .i64 a.f2.f2.f0), .d (.int .i64 a.f2.f2.f1), .d (.ints .u8 a.f2.f2.f2), .d (.ints .u8 a.f2.f2.f3), .d (.bss a.f2.f2.f4), .d (.int .i64 a.f2.f3.f0), .d (.int .i64 a.f2.f3.f1), .d (.int .i64 a.f2.f3.f2), .d (.ints .u8 a.f2.f3.f3), .d (.ints .u8 a.f2.f3.f4), .d (.int .i64 a.f2.f3.f5.f0), .d (.int .i64 a.f2.f3.f5.f1), .d (.ints .u8 a.f2.f3.f5.f2), .d (.ints .u8 a.f2.f3.f5.f3), .d (.bss a.f2.f3.f5.f4), .d (.int .i64 a.f2.f4.f0.f0), .d (.int .i64 a.f2.f4.f0.f1), .d (.int .i64 a.f2.f4.f0.f2), .d (.ints .u8 a.f2.f4.f0.f3), .d (.ints .u8 a.f2.f4.f0.f4), .d (.int .i64 a.f2.f4.f0.f5.f0), .d (.int .i64 a.f2.f4.f0.f5.f1), .d (.ints .u8 a.f2.f4.f0.f5.f2), .d (.ints .u8 a.f2.f4.f0.f5.f3), .d (.bss a.f2.f4.f0.f5.f4), .d (.bss a.f2.f4.f1), .d (.int .i64 a.f2.f5.f0), .d (.sl 3 (a.f2.f5.f1.map SEntry.cells)), .d (.sl 10 (a.f2.f6.f0.map SHead.cells)), .d (.int .i64 a.f2.f6.f1.f0), .d (.int .i64 a.f2.f6.f1.f1), .d (.ints .u8 a.f2.f6.f1.f2), .d (.ints .u8 a.f2.f6.f1.f3), .d (.bss a.f2.f6.f1.f4), .d (.int .i64 a.f2.f7.f0), .d (.int .i64 a.f2.f7.f1), .d (.int .i64 a.f2.f7.f2), .d (.ints .u8 a.f2.f7.f3), .d (.bss a.f2.f7.f4)]) rfl rfl (lt_ok rfl) rfl rfl rfl rfl rfl) ?_
 refine TL.cons rfl (Step.alloc (cs := [.int .i64 0, .int .i64 0, .int .i64 0, .int .i64 0, .int .i64 0, .slice none 0 0, .int .i64 0, .slice none 0 0, .int .i64 0, .int .i64 0, .slice none 0 0, .slice none 0 0, .slice none 0 0, .int .i64 0, .int .i64 0, .int .i64 0, .slice none 0 0, .slice none 0 0, .int .i64 0, .int .i64 0, .slice none 0 0, .slice none 0 0, .slice none 0 0, .int .i64 0, .int .i64 0, .int .i64 0, .slice none 0 0, .slice none 0 0, .int .i64 0, .int .i64 0, .slice none 0 0, .slice none 0 0, .slice none 0 0, .slice none 0 0, .int .i64 0, .slice none 0 0, .slice none 0 0, .int .i64 0, .int .i64 0, .slice none 0 0, .slice none 0 0, .slice none 0 0, .int .i64 0, .int .i64 0, .int .i64 0, .slice none 0 0, .slice none 0 0]) (ps := [.d (.int .i64 0), .d (.int .i64 0), .d (.int .i64 0), .d (.int .i64 0), .d (.int .i64 0), .nil, .d (.int .i64 0), .nil, .d (.int .i64 0), .d (.int .i64 0), .nil, .nil, .nil, .d (.int .i64 0), .d (.int .i64 0), .d (.int .i64 0), .nil, .nil, .d (.int .i64 0), .d (.int .i64 0), .nil, .nil, .nil, .d (.int .i64 0), .d (.int .i64 0), .d (.int .i64 0), .nil, .nil, .d (.int .i64 0), .d (.int .i64 0), .nil, .nil, .nil, .nil, .d (.int .i64 0), .nil, .nil, .d (.int .i64 0), .d (.int .i64 0), .nil, .nil, .nil, .d (.int .i64 0), .d (.int .i64 0), .d (.int .i64 0), .nil, .nil]) rfl rfl (lt_ok rfl) (by kernel_rfl) rfl rfl rfl rfl) ?_
 refine TL.nil ?_
 refine T.seq ?_
 refine T.region ?_
 refine TL.cons rfl (Step.alloc (cs := [.int .i64 0, .int .i64 0, .int .i64 0, .int .i64 0, .int .i64 0, .slice none 0 0, .int .i64 0, .slice none 0 0, .int .i64 0, .int .i64 0, .slice none 0 0, .slice none 0 0, .slice none 0 0, .int .i64 0, .int .i64 0, .int .i64 0, .slice none 0 0, .slice none 0 0, .int .i64 0, .int .i64 0, .slice none 0 0, .slice none 0 0, .slice none 0 0, .int .i64 0, .int .i64 0, .int .i64 0, .slice none 0 0, .slice none 0 0, .int .i64 0, .int .i64 0, .slice none 0 0, .slice none 0 0, .slice none 0 0, .slice none 0 0, .int .i64 0, .slice none 0 0, .slice none 0 0, .int .i64 0, .int .i64 0, .slice none 0 0, .slice none 0 0, .slice none 0 0, .int .i64 0, .int .i64 0, .int .i64 0, .slice none 0 0, .slice none 0 0]) (ps := [.d (.int .i64 0), .d (.int .i64 0), .d (.int .i64 0), .d (.int .i64 0), .d (.int .i64 0), .nil, .d (.int .i64 0), .nil, .d (.int .i64 0), .d (.int .i64 0), .nil, .nil, .nil, .d (.int .i64 0), .d (.int .i64 0), .d (.int .i64 0), .nil, .nil, .d (.int .i64 0), .d (.int .i64 0), .nil, .nil, .nil, .d (.int .i64 0), .d (.int .i64 0), .d (.int .i64 0), .nil, .nil, .d (.int .i64 0), .d (.int .i64 0), .nil, .nil, .nil, .nil, .d (.int .i64 0), .nil, .nil, .d (.int .i64 0), .d (.int .i64 0), .nil, .nil, .nil, .d (.int .i64 0), .d (.int .i64 0), .d (.int .i64 0), .nil, .nil]) rfl rfl (lt_ok rfl) (by kernel_rfl) rfl rfl rfl rfl) ?_
 refine TL.nil ?_
 refine T.seq ?_
 refine T.region ?_
 refine TL.cons rfl (Step.fieldAddr (q := 0) (off := 0) (n := 1) (one := true) rfl rfl (lt_ok rfl) (by kernel_rfl) (Nat.succ_ne_zero _) rfl) ?_
 refine TL.cons rfl (Step.load_box (c := .d (.int .i64 a.f0)) rfl rfl (lt_ok rfl) (by kernel_rfl) rfl rfl rfl) ?_
 refine TL.cons rfl (Step.fieldAddr (q := 0) (off := 0) (n := 1) (one := true) rfl rfl (lt_ok rfl) (by kernel_rfl) (Nat.succ_ne_zero _) rfl) ?_
 refine TL.cons rfl (Step.store_box (n := 1) (p := (.one (.d (.int .i64 a.f0)))) (qs := [.d (.int .i64 a.f0)]) (ps' := [.d (.int .i64 a.f0), .d (.int .i64 0), .d (.int .i64 0), .d (.int .i64 0), .d (.int .i64 0), .nil, .d (.int .i64 0), .nil, .d (.int .i64 0), .d (.int .i64 0), .nil, .nil, .nil, .d (.int .i64 0), .d (.int .i64 0), .d (.int .i64 0), .nil, .nil, .d (.int .i64 0), .d (.int .i64 0), .nil, .nil, .nil, .d (.int .i64 0), .d (.int .i64 0), .d (.int .i64 0), .nil, .nil, .d (.int .i64 0), .d (.int .i64 0), .nil, .nil, .nil, .nil, .d (.int .i64 0), .nil, .nil, .d (.int .i64 0), .d (.int .i64 0), .nil, .nil, .nil, .d (.int .i64 0), .d (.int .i64 0), .d (.int .i64 0), .nil, .nil]) rfl rfl (by kernel_rfl) rfl rfl rfl rfl rfl rfl (le_ok rfl) rfl) ?_
 refine TL.nil ?_
 refine T.seq ?_
 refine T.region ?_
 refine TL.cons rfl (Step.fieldAddr (q := 0) (off := 1) (n := 1) (one := true) rfl rfl (lt_ok rfl) (by kernel_rfl) (Nat.succ_ne_zero _) rfl) ?_
 refine TL.cons rfl (Step.load_box (c := .d (.int .i64 a.f1)) rfl rfl (lt_ok rfl) (by kernel_rfl) rfl rfl rfl) ?_
 refine TL.cons rfl (Step.fieldAddr (q := 0) (off := 1) (n := 1) (one := true) rfl rfl (lt_ok rfl) (by kernel_rfl) (Nat.succ_ne_zero _) rfl) ?_
 refine TL.cons rfl (Step.store_box (n := 1) (p := (.one (.d (.int .i64 a.f1)))) (qs := [.d (.int .i64 a.f1)]) (ps' := [.d (.int .i64 a.f0), .d (.int .i64 a.f1), .d (.int .i64 0), .d (.int .i64 0), .d (.int .i64 0), .nil, .d (.int .i64 0), .nil, .d (.int .i64 0), .d (.int .i64 0), .nil, .nil, .nil, .d (.int .i64 0), .d (.int .i64 0), .d (.int .i64 0), .nil, .nil, .d (.int .i64 0), .d (.int .i64 0), .nil, .nil, .nil, .d (.int .i64 0), .d (.int .i64 0), .d (.int .i64 0), .nil, .nil, .d (.int .i64 0), .d (.int .i64 0), .nil, .nil, .nil, .nil, .d (.int .i64 0), .nil, .nil, .d (.int .i64 0), .d (.int .i64 0), .nil, .nil, .nil, .d (.int .i64 0), .d (.int .i64 0), .d (.int .i64 0), .nil, .nil]) rfl rfl (by kernel_rfl) rfl rfl rfl rfl rfl rfl (le_ok rfl) rfl) ?_
 refine TL.nil ?_
 refine T.seq ?_
 refine T.region ?_
 refine TL.cons rfl (Step.fieldAddr (q := 0) (off := 2) (n := 45) (one := false) rfl rfl (lt_ok rfl) (by kernel_rfl) (Nat.succ_ne_zero _) rfl) ?_
 refine TL.cons rfl (Step.load_box_agg (n := 45) (qs := [.d (.int .i64 a.f2.f0), .d (.int .i64 a.f2.f1.f0), .d (.int .i64 a.f2.f1.f1), .d (.ints .u8 a.f2.f1.f2), .d (.int .i64 a.f2.f1.f3), .d (.ints .u8 a.f2.f1.f4), .d (.int .i64 a.f2.f2.f0), .d (.int .i64 a.f2.f2.f1), .d (.ints .u8 a.f2.f2.f2), .d (.ints .u8 a.f2.f2.f3), .d (.bss a.f2.f2.f4), .d (.int .i64 a.f2.f3.f0), .d (.int .i64 a.f2.f3.f1), .d (.int .i64 a.f2.f3.f2), .d (.ints .u8 a.f2.f3.f3), .d (.ints .u8 a.f2.f3.f4), .d (.int .i64 a.f2.f3.f5.f0), .d (.int .i64 a.f2.f3.f5.f1), .d (.ints .u8 a.f2.f3.f5.f2), .d (.ints .u8 a.f2.f3.f5.f3), .d (.bss a.f2.f3.f5.f4), .d (.int .i64 a.f2.f4.f0.f0), .d (.int .i64 a.f2.f4.f0.f1), .d (.int .i64 a.f2.f4.f0.f2), .d (.ints .u8 a.f2.f4.f0.f3), .d (.ints .u8 a.f2.f4.f0.f4), .d (.int .i64 a.f2.f4.f0.f5.f0), .d (.int .i64 a.f2.f4.f0.f5.f1), .d (.ints .u8 a.f2.f4.f0.f5.f2), .d (.ints .u8 a.f2.f4.f0.f5.f3), .d (.bss a.f2.f4.f0.f5.f4), .d (.bss a.f2.f4.f1), .d (.int .i64 a.f2.f5.f0), .d (.sl 3 (a.f2.f5.f1.map SEntry.cells)), .d (.sl 10 (a.f2.f6.f0.map SHead.cells)), .d (.int .i64 a.f2.f6.f1.f0), .d (.int .i64 a.f2.f6.f1.f1), .d (.ints .u8 a.f2.f6.f1.f2), .d (.ints .u8 a.f2.f6.f1.f3), .d (.bss a.f2.f6.f1.f4), .d (.int .i64 a.f2.f7.f0), .d (.int .i64 a.f2.f7.f1), .d (.int .i64 a.f2.f7.f2), .d (.ints .u8 a.f2.f7.f3), .d (.bss a.f2.f7.f4)]) rfl rfl (lt_ok rfl) (by kernel_rfl) rfl rfl rfl rfl) ?_
 refine TL.cons rfl (Step.call (f := 143) (xs := [.tmp 11]) (ps := [(.agg [.d (.int .i64 a.f2.f0), .d (.int .i64 a.f2.f1.f0), .d (.int .i64 a.f2.f1.f1), .d (.ints .u8 a.f2.f1.f2), .d (.int .i64 a.f2.f1.f3), .d (.ints .u8 a.f2.f1.f4), .d (.int .i64 a.f2.f2.f0), .d (.int .i64 a.f2.f2.f1), .d (.ints .u8 a.f2.f2.f2), .d (.ints .u8 a.f2.f2.f3), .d (.bss a.f2.f2.f4), .d (.int .i64 a.f2.f3.f0), .d (.int .i64 a.f2.f3.f1), .d (.int .i64 a.f2.f3.f2), .d (.ints .u8 a.f2.f3.f3), .d (.ints .u8 a.f2.f3.f4), .d (.int .i64 a.f2.f3.f5.f0), .d (.int .i64 a.f2.f3.f5.f1), .d (.ints .u8 a.f2.f3.f5.f2), .d (.ints .u8 a.f2.f3.f5.f3), .d (.bss a.f2.f3.f5.f4), .d (.int .i64 a.f2.f4.f0.f0), .d (.int .i64 a.f2.f4.f0.f1), .d (.int .i64 a.f2.f4.f0.f2), .d (.ints .u8 a.f2.f4.f0.f3), .d (.ints .u8 a.f2.f4.f0.f4), .d (.int .i64 a.f2.f4.f0.f5.f0), .d (.int .i64 a.f2.f4.f0.f5.f1), .d (.ints .u8 a.f2.f4.f0.f5.f2), .d (.ints .u8 a.f2.f4.f0.f5.f3), .d (.bss a.f2.f4.f0.f5.f4), .d (.bss a.f2.f4.f1), .d (.int .i64 a.f2.f5.f0), .d (.sl 3 (a.f2.f5.f1.map SEntry.cells)), .d (.sl 10 (a.f2.f6.f0.map SHead.cells)), .d (.int .i64 a.f2.f6.f1.f0), .d (.int .i64 a.f2.f6.f1.f1), .d (.ints .u8 a.f2.f6.f1.f2), .d (.ints .u8 a.f2.f6.f1.f3), .d (.bss a.f2.f6.f1.f4), .d (.int .i64 a.f2.f7.f0), .d (.int .i64 a.f2.f7.f1), .d (.int .i64 a.f2.f7.f2), .d (.ints .u8 a.f2.f7.f3), .d (.bss a.f2.f7.f4)])]) false (g := .func 143) rfl rfl (lt_ok rfl) rfl (by kernel_rfl) rfl (.cons (.agg (.cons (.d _) (.cons (.d _) (.cons (.d _) (.cons (.d _) (.cons (.d _) (.cons (.d _) (.cons (.d _) (.cons (.d _) (.cons (.d _) (.cons (.d _) (.cons (.d _) (.cons (.d _) (.cons (.d _) (.cons (.d _) (.cons (.d _) (.cons (.d _) (.cons (.d _) (.cons (.d _) (.cons (.d _) (.cons (.d _) (.cons (.d _) (.cons (.d _) (.cons (.d _) (.cons (.d _) (.cons (.d _) (.cons (.d _) (.cons (.d _) (.cons (.d _) (.cons (.d _) (.cons (.d _) (.cons (.d _) (.cons (.d _) (.cons (.d _) (.cons (.d _) (.cons (.d _) (.cons (.d _) (.cons (.d _) (.cons (.d _) (.cons (.d _) (.cons (.d _) (.cons (.d _) (.cons (.d _) (.cons (.d _) (.cons (.d _) (.cons (.d _) .nil)))))))))))))))))))))))))))))))))))))))))))))) .nil) (ok_laws_toMsg a.f2 (by first | assumption | exact ⟨‹_›, ‹_›⟩ | (refine mem_getD (p := SMsg.sm) h0_.2 (by omega)) | exact mem_getD h0_.2 (by omega))) (.inr rfl) rfl (by simp) rfl) ?_
 refine TL.cons rfl (Step.fieldAddr (q := 0) (off := 2) (n := 45) (one := false) rfl rfl (lt_ok rfl) (by kernel_rfl) (Nat.succ_ne_zero _) rfl) ?_
 refine TL.cons rfl (Step.store_box (n := 45) (p := (.agg [.d (.int .i64 a.f2.f0), .d (.int .i64 a.f2.f1.f0), .d (.int .i64 a.f2.f1.f1), .row 4012 [], .d (.int .i64 a.f2.f1.f3), .row 6012 [], .d (.int .i64 a.f2.f2.f0), .d (.int .i64 a.f2.f2.f1), .row 9012 [], .row 10012 [], .row 11012 [], .d (.int .i64 a.f2.f3.f0), .d (.int .i64 a.f2.f3.f1), .d (.int .i64 a.f2.f3.f2), .row 15012 [], .row 16012 [], .d (.int .i64 a.f2.f3.f5.f0), .d (.int .i64 a.f2.f3.f5.f1), .row 19012 [], .row 20012 [], .row 21012 [], .d (.int .i64 a.f2.f4.f0.f0), .d (.int .i64 a.f2.f4.f0.f1), .d (.int .i64 a.f2.f4.f0.f2), .row 25012 [], .row 26012 [], .d (.int .i64 a.f2.f4.f0.f5.f0), .d (.int .i64 a.f2.f4.f0.f5.f1), .row 29012 [], .row 30012 [], .row 31012 [], .row 32012 [], .d (.int .i64 a.f2.f5.f0), .row 34012 [], .row 35012 [], .d (.int .i64 a.f2.f6.f1.f0), .d (.int .i64 a.f2.f6.f1.f1), .row 38012 [], .row 39012 [], .row 40012 [], .d (.int .i64 a.f2.f7.f0), .d (.int .i64 a.f2.f7.f1), .d (.int .i64 a.f2.f7.f2), .row 44012 [], .row 45012 []])) (qs := [.d (.int .i64 a.f2.f0), .d (.int .i64 a.f2.f1.f0), .d (.int .i64 a.f2.f1.f1), .row 4012 [], .d (.int .i64 a.f2.f1.f3), .row 6012 [], .d (.int .i64 a.f2.f2.f0), .d (.int .i64 a.f2.f2.f1), .row 9012 [], .row 10012 [], .row 11012 [], .d (.int .i64 a.f2.f3.f0), .d (.int .i64 a.f2.f3.f1), .d (.int .i64 a.f2.f3.f2), .row 15012 [], .row 16012 [], .d (.int .i64 a.f2.f3.f5.f0), .d (.int .i64 a.f2.f3.f5.f1), .row 19012 [], .row 20012 [], .row 21012 [], .d (.int .i64 a.f2.f4.f0.f0), .d (.int .i64 a.f2.f4.f0.f1), .d (.int .i64 a.f2.f4.f0.f2), .row 25012 [], .row 26012 [], .d (.int .i64 a.f2.f4.f0.f5.f0), .d (.int .i64 a.f2.f4.f0.f5.f1), .row 29012 [], .row 30012 [], .row 31012 [], .row 32012 [], .d (.int .i64 a.f2.f5.f0), .row 34012 [], .row 35012 [], .d (.int .i64 a.f2.f6.f1.f0), .d (.int .i64 a.f2.f6.f1.f1), .row 38012 [], .row 39012 [], .row 40012 [], .d (.int .i64 a.f2.f7.f0), .d (.int .i64 a.f2.f7.f1), .d (.int .i64 a.f2.f7.f2), .row 44012 [], .row 45012 []]) (ps' := [.d (.int .i64 a.f0), .d (.int .i64 a.f1), .d (.int .i64 a.f2.f0), .d (.int .i64 a.f2.f1.f0), .d (.int .i64 a.f2.f1.f1), .row 4012 [], .d (.int .i64 a.f2.f1.f3), .row 6012 [], .d (.int .i64 a.f2.f2.f0), .d (.int .i64 a.f2.f2.f1), .row 9012 [], .row 10012 [], .row 11012 [], .d (.int .i64 a.f2.f3.f0), .d (.int .i64 a.f2.f3.f1), .d (.int .i64 a.f2.f3.f2), .row 15012 [], .row 16012 [], .d (.int .i64 a.f2.f3.f5.f0), .d (.int .i64 a.f2.f3.f5.f1), .row 19012 [], .row 20012 [], .row 21012 [], .d (.int .i64 a.f2.f4.f0.f0), .d (.int .i64 a.f2.f4.f0.f1), .d (.int .i64 a.f2.f4.f0.f2), .row 25012 [], .row 26012 [], .d (.int .i64 a.f2.f4.f0.f5.f0), .d (.int .i64 a.f2.f4.f0.f5.f1), .row 29012 [], .row 30012 [], .row 31012 [], .row 32012 [], .d (.int .i64 a.f2.f5.f0), .row 34012 [], .row 35012 [], .d (.int .i64 a.f2.f6.f1.f0), .d (.int .i64 a.f2.f6.f1.f1), .row 38012 [], .row 39012 [], .row 40012 [], .d (.int .i64 a.f2.f7.f0), .d (.int .i64 a.f2.f7.f1), .d (.int .i64 a.f2.f7.f2), .row 44012 [], .row 45012 []]) rfl rfl (by kernel_rfl) rfl rfl rfl rfl rfl rfl (le_ok rfl) rfl) ?_
 refine TL.nil ?_
 refine T.weaken (E' := { tm := [(2, (.one (.ptr 2 0))), (3, (.one (.ptr 3 0)))], rows := [(4012, (5, (.ints .u8 a.f2.f1.f2))), (6012, (5, (.ints .u8 a.f2.f1.f4))), (9012, (5, (.ints .u8 a.f2.f2.f2))), (10012, (5, (.ints .u8 a.f2.f2.f3))), (11012, (37, (.bss a.f2.f2.f4))), (15012, (5, (.ints .u8 a.f2.f3.f3))), (16012, (5, (.ints .u8 a.f2.f3.f4))), (19012, (5, (.ints .u8 a.f2.f3.f5.f2))), (20012, (5, (.ints .u8 a.f2.f3.f5.f3))), (21012, (37, (.bss a.f2.f3.f5.f4))), (25012, (5, (.ints .u8 a.f2.f4.f0.f3))), (26012, (5, (.ints .u8 a.f2.f4.f0.f4))), (29012, (5, (.ints .u8 a.f2.f4.f0.f5.f2))), (30012, (5, (.ints .u8 a.f2.f4.f0.f5.f3))), (31012, (37, (.bss a.f2.f4.f0.f5.f4))), (32012, (37, (.bss a.f2.f4.f1))), (34012, (113, (.sl 3 (a.f2.f5.f1.map SEntry.cells)))), (35012, (55, (.sl 10 (a.f2.f6.f0.map SHead.cells)))), (38012, (5, (.ints .u8 a.f2.f6.f1.f2))), (39012, (5, (.ints .u8 a.f2.f6.f1.f3))), (40012, (37, (.bss a.f2.f6.f1.f4))), (44012, (5, (.ints .u8 a.f2.f7.f3))), (45012, (37, (.bss a.f2.f7.f4)))], boxes := [(2, (152, [.d (.int .i64 0), .d (.int .i64 0), .d (.int .i64 0), .d (.int .i64 0), .d (.int .i64 0), .nil, .d (.int .i64 0), .nil, .d (.int .i64 0), .d (.int .i64 0), .nil, .nil, .nil, .d (.int .i64 0), .d (.int .i64 0), .d (.int .i64 0), .nil, .nil, .d (.int .i64 0), .d (.int .i64 0), .nil, .nil, .nil, .d (.int .i64 0), .d (.int .i64 0), .d (.int .i64 0), .nil, .nil, .d (.int .i64 0), .d (.int .i64 0), .nil, .nil, .nil, .nil, .d (.int .i64 0), .nil, .nil, .d (.int .i64 0), .d (.int .i64 0), .nil, .nil, .nil, .d (.int .i64 0), .d (.int .i64 0), .d (.int .i64 0), .nil, .nil])), (3, (152, [.d (.int .i64 a.f0), .d (.int .i64 a.f1), .d (.int .i64 a.f2.f0), .d (.int .i64 a.f2.f1.f0), .d (.int .i64 a.f2.f1.f1), .row 4012 [], .d (.int .i64 a.f2.f1.f3), .row 6012 [], .d (.int .i64 a.f2.f2.f0), .d (.int .i64 a.f2.f2.f1), .row 9012 [], .row 10012 [], .row 11012 [], .d (.int .i64 a.f2.f3.f0), .d (.int .i64 a.f2.f3.f1), .d (.int .i64 a.f2.f3.f2), .row 15012 [], .row 16012 [], .d (.int .i64 a.f2.f3.f5.f0), .d (.int .i64 a.f2.f3.f5.f1), .row 19012 [], .row 20012 [], .row 21012 [], .d (.int .i64 a.f2.f4.f0.f0), .d (.int .i64 a.f2.f4.f0.f1), .d (.int .i64 a.f2.f4.f0.f2), .row 25012 [], .row 26012 [], .d (.int .i64 a.f2.f4.f0.f5.f0), .d (.int .i64 a.f2.f4.f0.f5.f1), .row 29012 [], .row 30012 [], .row 31012 [], .row 32012 [], .d (.int .i64 a.f2.f5.f0), .row 34012 [], .row 35012 [], .d (.int .i64 a.f2.f6.f1.f0), .d (.int .i64 a.f2.f6.f1.f1), .row 38012 [], .row 39012 [], .row 40012 [], .d (.int .i64 a.f2.f7.f0), .d (.int .i64 a.f2.f7.f1), .d (.int .i64 a.f2.f7.f2), .row 44012 [], .row 45012 []]))] }) (Env.le_mk ⟨by kernel_rfl, by kernel_rfl, trivial⟩ ⟨by kernel_rfl, by kernel_rfl, by kernel_rfl, by kernel_rfl, by kernel_rfl, by kernel_rfl, by kernel_rfl, by kernel_rfl, by kernel_rfl, by kernel_rfl, by kernel_rfl, by kernel_rfl, by kernel_rfl, by kernel_rfl, by kernel_rfl, by kernel_rfl, by kernel_rfl, by kernel_rfl, by kernel_rfl, by kernel_rfl, by kernel_rfl, by kernel_rfl, by kernel_rfl, trivial⟩ ⟨by kernel_rfl, by kernel_rfl, trivial⟩) ?_
 refine T.seq ?_
 refine T.region ?_
 refine TL.cons rfl (Step.load_box_agg (n := 47) (qs := [.d (.int .i64 a.f0), .d (.int .i64 a.f1), .d (.int .i64 a.f2.f0), .d (.int .i64 a.f2.f1.f0), .d (.int .i64 a.f2.f1.f1), .row 4012 [], .d (.int .i64 a.f2.f1.f3), .row 6012 [], .d (.int .i64 a.f2.f2.f0), .d (.int .i64 a.f2.f2.f1), .row 9012 [], .row 10012 [], .row 11012 [], .d (.int .i64 a.f2.f3.f0), .d (.int .i64 a.f2.f3.f1), .d (.int .i64 a.f2.f3.f2), .row 15012 [], .row 16012 [], .d (.int .i64 a.f2.f3.f5.f0), .d (.int .i64 a.f2.f3.f5.f1), .row 19012 [], .row 20012 [], .row 21012 [], .d (.int .i64 a.f2.f4.f0.f0), .d (.int .i64 a.f2.f4.f0.f1), .d (.int .i64 a.f2.f4.f0.f2), .row 25012 [], .row 26012 [], .d (.int .i64 a.f2.f4.f0.f5.f0), .d (.int .i64 a.f2.f4.f0.f5.f1), .row 29012 [], .row 30012 [], .row 31012 [], .row 32012 [], .d (.int .i64 a.f2.f5.f0), .row 34012 [], .row 35012 [], .d (.int .i64 a.f2.f6.f1.f0), .d (.int .i64 a.f2.f6.f1.f1), .row 38012 [], .row 39012 [], .row 40012 [], .d (.int .i64 a.f2.f7.f0), .d (.int .i64 a.f2.f7.f1), .d (.int .i64 a.f2.f7.f2), .row 44012 [], .row 45012 []]) rfl rfl (lt_ok rfl) (by kernel_rfl) rfl rfl rfl rfl) ?_
 refine TL.cons rfl (Step.store_box (n := 47) (p := (.agg [.d (.int .i64 a.f0), .d (.int .i64 a.f1), .d (.int .i64 a.f2.f0), .d (.int .i64 a.f2.f1.f0), .d (.int .i64 a.f2.f1.f1), .row 4012 [], .d (.int .i64 a.f2.f1.f3), .row 6012 [], .d (.int .i64 a.f2.f2.f0), .d (.int .i64 a.f2.f2.f1), .row 9012 [], .row 10012 [], .row 11012 [], .d (.int .i64 a.f2.f3.f0), .d (.int .i64 a.f2.f3.f1), .d (.int .i64 a.f2.f3.f2), .row 15012 [], .row 16012 [], .d (.int .i64 a.f2.f3.f5.f0), .d (.int .i64 a.f2.f3.f5.f1), .row 19012 [], .row 20012 [], .row 21012 [], .d (.int .i64 a.f2.f4.f0.f0), .d (.int .i64 a.f2.f4.f0.f1), .d (.int .i64 a.f2.f4.f0.f2), .row 25012 [], .row 26012 [], .d (.int .i64 a.f2.f4.f0.f5.f0), .d (.int .i64 a.f2.f4.f0.f5.f1), .row 29012 [], .row 30012 [], .row 31012 [], .row 32012 [], .d (.int .i64 a.f2.f5.f0), .row 34012 [], .row 35012 [], .d (.int .i64 a.f2.f6.f1.f0), .d (.int .i64 a.f2.f6.f1.f1), .row 38012 [], .row 39012 [], .row 40012 [], .d (.int .i64 a.f2.f7.f0), .d (.int .i64 a.f2.f7.f1), .d (.int .i64 a.f2.f7.f2), .row 44012 [], .row 45012 []])) (qs := [.d (.int .i64 a.f0), .d (.int .i64 a.f1), .d (.int .i64 a.f2.f0), .d (.int .i64 a.f2.f1.f0), .d (.int .i64 a.f2.f1.f1), .row 4012 [], .d (.int .i64 a.f2.f1.f3), .row 6012 [], .d (.int .i64 a.f2.f2.f0), .d (.int .i64 a.f2.f2.f1), .row 9012 [], .row 10012 [], .row 11012 [], .d (.int .i64 a.f2.f3.f0), .d (.int .i64 a.f2.f3.f1), .d (.int .i64 a.f2.f3.f2), .row 15012 [], .row 16012 [], .d (.int .i64 a.f2.f3.f5.f0), .d (.int .i64 a.f2.f3.f5.f1), .row 19012 [], .row 20012 [], .row 21012 [], .d (.int .i64 a.f2.f4.f0.f0), .d (.int .i64 a.f2.f4.f0.f1), .d (.int .i64 a.f2.f4.f0.f2), .row 25012 [], .row 26012 [], .d (.int .i64 a.f2.f4.f0.f5.f0), .d (.int .i64 a.f2.f4.f0.f5.f1), .row 29012 [], .row 30012 [], .row 31012 [], .row 32012 [], .d (.int .i64 a.f2.f5.f0), .row 34012 [], .row 35012 [], .d (.int .i64 a.f2.f6.f1.f0), .d (.int .i64 a.f2.f6.f1.f1), .row 38012 [], .row 39012 [], .row 40012 [], .d (.int .i64 a.f2.f7.f0), .d (.int .i64 a.f2.f7.f1), .d (.int .i64 a.f2.f7.f2), .row 44012 [], .row 45012 []]) (ps' := [.d (.int .i64 a.f0), .d (.int .i64 a.f1), .d (.int .i64 a.f2.f0), .d (.int .i64 a.f2.f1.f0), .d (.int .i64 a.f2.f1.f1), .row 4012 [], .d (.int .i64 a.f2.f1.f3), .row 6012 [], .d (.int .i64 a.f2.f2.f0), .d (.int .i64 a.f2.f2.f1), .row 9012 [], .row 10012 [], .row 11012 [], .d (.int .i64 a.f2.f3.f0), .d (.int .i64 a.f2.f3.f1), .d (.int .i64 a.f2.f3.f2), .row 15012 [], .row 16012 [], .d (.int .i64 a.f2.f3.f5.f0), .d (.int .i64 a.f2.f3.f5.f1), .row 19012 [], .row 20012 [], .row 21012 [], .d (.int .i64 a.f2.f4.f0.f0), .d (.int .i64 a.f2.f4.f0.f1), .d (.int .i64 a.f2.f4.f0.f2), .row 25012 [], .row 26012 [], .d (.int .i64 a.f2.f4.f0.f5.f0), .d (.int .i64 a.f2.f4.f0.f5.f1), .row 29012 [], .row 30012 [], .row 31012 [], .row 32012 [], .d (.int .i64 a.f2.f5.f0), .row 34012 [], .row 35012 [], .d (.int .i64 a.f2.f6.f1.f0), .d (.int .i64 a.f2.f6.f1.f1), .row 38012 [], .row 39012 [], .row 40012 [], .d (.int .i64 a.f2.f7.f0), .d (.int .i64 a.f2.f7.f1), .d (.int .i64 a.f2.f7.f2), .row 44012 [], .row 45012 []]) rfl rfl (by kernel_rfl) rfl rfl rfl rfl rfl rfl (le_ok rfl) rfl) ?_
 refine TL.nil ?_
 refine T.ret ?_
 exact ⟨[(true, [.d (.int .i64 a.f0), .d (.int .i64 a.f1), .d (.int .i64 a.f2.f0), .d (.int .i64 a.f2.f1.f0), .d (.int .i64 a.f2.f1.f1), .row 4012 [], .d (.int .i64 a.f2.f1.f3), .row 6012 [], .d (.int .i64 a.f2.f2.f0), .d (.int .i64 a.f2.f2.f1), .row 9012 [], .row 10012 [], .row 11012 [], .d (.int .i64 a.f2.f3.f0), .d (.int .i64 a.f2.f3.f1), .d (.int .i64 a.f2.f3.f2), .row 15012 [], .row 16012 [], .d (.int .i64 a.f2.f3.f5.f0), .d (.int .i64 a.f2.f3.f5.f1), .row 19012 [], .row 20012 [], .row 21012 [], .d (.int .i64 a.f2.f4.f0.f0), .d (.int .i64 a.f2.f4.f0.f1), .d (.int .i64 a.f2.f4.f0.f2), .row 25012 [], .row 26012 [], .d (.int .i64 a.f2.f4.f0.f5.f0), .d (.int .i64 a.f2.f4.f0.f5.f1), .row 29012 [], .row 30012 [], .row 31012 [], .row 32012 [], .d (.int .i64 a.f2.f5.f0), .row 34012 [], .row 35012 [], .d (.int .i64 a.f2.f6.f1.f0), .d (.int .i64 a.f2.f6.f1.f1), .row 38012 [], .row 39012 [], .row 40012 [], .d (.int .i64 a.f2.f7.f0), .d (.int .i64 a.f2.f7.f1), .d (.int .i64 a.f2.f7.f2), .row 44012 [], .row 45012 []])], (.cons rfl .nil), rfl, [4012, 6012, 9012, 10012, 11012, 15012, 16012, 19012, 20012, 21012, 25012, 26012, 29012, 30012, 31012, 32012, 34012, 35012, 38012, 39012, 40012, 44012, 45012], (RetC.rd' (by rfl) (RetC.rd' (by rfl) (RetC.rd' (by rfl) (RetC.rd' (by rfl) (RetC.rd' (by rfl) (RetC.own' rfl (by rfl) rfl (RetC.rd' (by rfl) (RetC.own' rfl (by rfl) rfl (RetC.rd' (by rfl) (RetC.rd' (by rfl) (RetC.own' rfl (by rfl) rfl (RetC.own' rfl (by rfl) rfl (RetC.own' rfl (by rfl) rfl (RetC.rd' (by rfl) (RetC.rd' (by rfl) (RetC.rd' (by rfl) (RetC.own' rfl (by rfl) rfl (RetC.own' rfl (by rfl) rfl (RetC.rd' (by rfl) (RetC.rd' (by rfl) (RetC.own' rfl (by rfl) rfl (RetC.own' rfl (by rfl) rfl (RetC.own' rfl (by rfl) rfl (RetC.rd' (by rfl) (RetC.rd' (by rfl) (RetC.rd' (by rfl) (RetC.own' rfl (by rfl) rfl (RetC.own' rfl (by rfl) rfl (RetC.rd' (by rfl) (RetC.rd' (by rfl) (RetC.own' rfl (by rfl) rfl (RetC.own' rfl (by rfl) rfl (RetC.own' rfl (by rfl) rfl (RetC.own' rfl (by rfl) rfl (RetC.rd' (by rfl) (RetC.own' rfl (by rfl) rfl (RetC.own' rfl (by rfl) rfl (RetC.rd' (by rfl) (RetC.rd' (by rfl) (RetC.own' rfl (by rfl) rfl (RetC.own' rfl (by rfl) rfl (RetC.own' rfl (by rfl) rfl (RetC.rd' (by rfl) (RetC.rd' (by rfl) (RetC.rd' (by rfl) (RetC.own' rfl (by rfl) rfl (RetC.own' rfl (by rfl) rfl .nil)))))))))))))))))))))))))))))))))))))))))))))))⟩
theorem ok_laws_toEventS (a : List SEvent) (h0_ : a.length ≤ 1048576 ∧ ∀ y ∈ a, SEvent.sm y) : RO Try.prog 69 [.one (.sl 47 (a.map SEvent.cells))] [(false, [.own 152 (.sl 47 (a.map SEvent.cells))])] := by
 refine RO.intro Try.func69 rfl 23 rfl (le_ok rfl) fun w Z => ?_
 refine T.bnd 0 0 rfl rfl fun hb_0_0 => ?_
 simp only [D.size, List.length_map] at hb_0_0
 have h0b := h0_.1
 refine T.seq ?_
 refine T.region ?_
 refine TL.cons rfl (Step.assign (p := (.one (.nil))) rfl rfl (lt_ok rfl) rfl) ?_
 refine TL.nil ?_
 refine T.seq ?_
 refine T.region ?_
 refine TL.cons rfl (Step.move (p := (.one (.d (.sl 47 (a.map SEvent.cells))))) rfl rfl (lt_ok rfl) rfl) ?_
 refine TL.cons rfl (Step.len' (e := 148) (z := 47) (d := (.sl 47 (a.map SEvent.cells))) (n := a.length) rfl rfl (lt_ok rfl) (by kernel_rfl) rfl rfl (by simp [D.size])) ?_
 refine TL.cons rfl (Step.make (e := 152) (z := 47) (by_ := 744) (n := (a.length : Int)) (zs := [.int .i64 0, .int .i64 0, .int .i64 0, .int .i64 0, .int .i64 0, .slice none 0 0, .int .i64 0, .slice none 0 0, .int .i64 0, .int .i64 0, .slice none 0 0, .slice none 0 0, .slice none 0 0, .int .i64 0, .int .i64 0, .int .i64 0, .slice none 0 0, .slice none 0 0, .int .i64 0, .int .i64 0, .slice none 0 0, .slice none 0 0, .slice none 0 0, .int .i64 0, .int .i64 0, .int .i64 0, .slice none 0 0, .slice none 0 0, .int .i64 0, .int .i64 0, .slice none 0 0, .slice none 0 0, .slice none 0 0, .slice none 0 0, .int .i64 0, .slice none 0 0, .slice none 0 0, .int .i64 0, .int .i64 0, .slice none 0 0, .slice none 0 0, .slice none 0 0, .int .i64 0, .int .i64 0, .int .i64 0, .slice none 0 0, .slice none 0 0]) (zd := [(.int .i64 0), (.int .i64 0), (.int .i64 0), (.int .i64 0), (.int .i64 0), (.ints .u8 []), (.int .i64 0), (.ints .u8 []), (.int .i64 0), (.int .i64 0), (.ints .u8 []), (.ints .u8 []), (.bss []), (.int .i64 0), (.int .i64 0), (.int .i64 0), (.ints .u8 []), (.ints .u8 []), (.int .i64 0), (.int .i64 0), (.ints .u8 []), (.ints .u8 []), (.bss []), (.int .i64 0), (.int .i64 0), (.int .i64 0), (.ints .u8 []), (.ints .u8 []), (.int .i64 0), (.int .i64 0), (.ints .u8 []), (.ints .u8 []), (.bss []), (.bss []), (.int .i64 0), (.sl 3 []), (.sl 10 []), (.int .i64 0), (.int .i64 0), (.ints .u8 []), (.ints .u8 []), (.bss []), (.int .i64 0), (.int .i64 0), (.int .i64 0), (.ints .u8 []), (.bss [])]) (d := (.sl 47 ((List.replicate a.length default).map SEvent.cells))) rfl rfl (lt_ok rfl) (by kernel_rfl) (lt_ok rfl) rfl (by first | omega | (simp; omega)) (by first | omega | (simp; omega)) (by first | omega | (simp; omega)) (by kernel_rfl) (zeroB_ok _ _ (by kernel_rfl)) rfl (by simp) (by simp only [D.flat, List.map_replicate]; rfl) (by simp [D.size]) rfl (wf_map SEvent.len _)) ?_
 refine TL.cons rfl (Step.assign (p := (.one (.row 7 []))) rfl rfl (lt_ok rfl) rfl) ?_
 refine TL.nil ?_
 refine T.seq ?_
 refine T.seq ?_
 refine T.region ?_
 refine TL.cons rfl (Step.assign (p := (.one (.d (.int .i64 0)))) rfl rfl (lt_ok rfl) rfl) ?_
 refine TL.nil ?_
 refine T.block ?_
 refine T.loop (ι := Nat) (fun x => { tm := [(0, (.one (.d (.sl 47 (a.map SEvent.cells))))), (2, (.one (.nil))), (3, (.one (.row 7 []))), (4, (.one (.d (.int .i64 (x : Int)))))], rows := [(7, (152, (.sl 47 ((a.take x ++ List.replicate (a.length - x) default : List SEvent).map SEvent.cells))))], boxes := [] }) (fun x => x ≤ a.length) (fun x => a.length - x) 0 ?_ ?_ ?_
 · exact Env.le_mk ⟨rfl, rfl, rfl, by first | rfl | exact congrArg (fun x => some (152, ((.sl 47 (x.map SEvent.cells)) : D))) (fill_set a default default i (by omega)), trivial⟩ ⟨by first | rfl | exact congrArg (fun x => some (152, ((.sl 47 (x.map SEvent.cells)) : D))) (fill_set a default default i (by omega)), trivial⟩ trivial
 · exact Nat.zero_le _
 ·
  intro i hx
  try dsimp only at hx ⊢
  refine T.seq ?_
  refine T.seq ?_
  refine T.region ?_
  refine TL.cons rfl (Step.move (p := (.one (.d (.int .i64 (i : Int))))) rfl rfl (lt_ok rfl) rfl) ?_
  refine TL.cons rfl (Step.move (p := (.one (.d (.sl 47 (a.map SEvent.cells))))) rfl rfl (lt_ok rfl) rfl) ?_
  refine TL.cons rfl (Step.len' (e := 148) (z := 47) (d := (.sl 47 (a.map SEvent.cells))) (n := a.length) rfl rfl (lt_ok rfl) (by kernel_rfl) rfl rfl (by simp [D.size])) ?_
  refine TL.cons rfl (Step.bin rfl rfl (lt_ok rfl) rfl rfl (Bin.lss (k := .i64) (a := (i : Int)) (b := (a.length : Int)))) ?_
  refine TL.nil ?_
  refine T.cond (b := decide ((i : Int) < (a.length : Int))) rfl (fun h1 => ?_) (fun h1 => ?_)
  ·
   replace h1 := of_decide_eq_true h1
   refine T.skip ?_
   refine T.seq ?_
   refine T.block ?_
   refine T.region ?_
   refine TL.cons rfl (Step.move (p := (.one (.row 7 []))) rfl rfl (lt_ok rfl) rfl) ?_
   refine TL.cons rfl (Step.move (p := (.one (.d (.int .i64 (i : Int))))) rfl rfl (lt_ok rfl) rfl) ?_
   refine TL.cons rfl (Step.move (p := (.one (.d (.sl 47 (a.map SEvent.cells))))) rfl rfl (lt_ok rfl) rfl) ?_
   refine TL.cons rfl (Step.move (p := (.one (.d (.int .i64 (i : Int))))) rfl rfl (lt_ok rfl) rfl) ?_
   refine TL.cons rfl (Step.index (e := 148) (z := 47) (i := (i : Int)) rfl rfl (lt_ok rfl) (by kernel_rfl) rfl rfl rfl (lt_ok rfl) rfl (by first | omega | (simp; omega)) (by simp only [D.size]; first | omega | (simp; omega))) ?_
   refine TL.cons rfl (Step.load_agg (n := 47) (cs := [.d (.int .i64 (a.getD i default).f0), .d (.int .i64 (a.getD i default).f1), .d (.int .i64 (a.getD i default).f2.f0), .d (.int .i64 (a.getD i default).f2.f1.f0), .d (.int .i64 (a.getD i default).f2.f1.f1), .d (.ints .u8 (a.getD i default).f2.f1.f2), .d (.int .i64 (a.getD i default).f2.f1.f3), .d (.ints .u8 (a.getD i default).f2.f1.f4), .d (.int .i64 (a.getD i default).f2.f2.f0), .d (.int .i64 (a.getD i default).f2.f2.f1), .d (.ints .u8 (a.getD i default).f2.f2.f2), .d (.ints .u8 (a.getD i default).f2.f2.f3), .d (.bss (a.getD i default).f2.f2.f4), .d (.int .i64 (a.getD i default).f2.f3.f0), .d (.int .i64 (a.getD i default).f2.f3.f1), .d (.int .i64 (a.getD i default).f2.f3.f2), .d (.ints .u8 (a.getD i default).f2.f3.f3), .d (.ints .u8 (a.getD i default).f2.f3.f4), .d (.int .i64 (a.getD i default).f2.f3.f5.f0), .d (.int .i64 (a.getD i default).f2.f3.f5.f1), .d (.ints .u8 (a.getD i default).f2.f3.f5.f2), .d (.ints .u8 (a.getD i default).f2.f3.f5.f3), .d (.bss (a.getD i default).f2.f3.f5.f4), .d (.int .i64 (a.getD i default).f2.f4.f0.f0), .d (.int .i64 (a.getD i default).f2.f4.f0.f1), .d (.int .i64 (a.getD i default).f2.f4.f0.f2), .d (.ints .u8 (a.getD i default).f2.f4.f0.f3), .d (.ints .u8 (a.getD i default).f2.f4.f0.f4), .d (.int .i64 (a.getD i default).f2.f4.f0.f5.f0), .d (.int .i64 (a.getD i default).f2.f4.f0.f5.f1), .d (.ints .u8 (a.getD i default).f2.f4.f0.f5.f2), .d (.ints .u8 (a.getD i default).f2.f4.f0.f5.f3), .d (.bss (a.getD i default).f2.f4.f0.f5.f4), .d (.bss (a.getD i default).f2.f4.f1), .d (.int .i64 (a.getD i default).f2.f5.f0), .d (.sl 3 ((a.getD i default).f2.f5.f1.map SEntry.cells)), .d (.sl 10 ((a.getD i default).f2.f6.f0.map SHead.cells)), .d (.int .i64 (a.getD i default).f2.f6.f1.f0), .d (.int .i64 (a.getD i default).f2.f6.f1.f1), .d (.ints .u8 (a.getD i default).f2.f6.f1.f2), .d (.ints .u8 (a.getD i default).f2.f6.f1.f3), .d (.bss (a.getD i default).f2.f6.f1.f4), .d (.int .i64 (a.getD i default).f2.f7.f0), .d (.int .i64 (a.getD i default).f2.f7.f1), .d (.int .i64 (a.getD i default).f2.f7.f2), .d (.ints .u8 (a.getD i default).f2.f7.f3), .d (.bss (a.getD i default).f2.f7.f4)]) rfl rfl (lt_ok rfl) (by kernel_rfl) rfl rfl (by simp only [List.range, List.range.loop, List.map_cons, List.map_nil]; rw [cell_map default (by first | omega | (simp; omega)), cell_map default (by first | omega | (simp; omega)), cell_map default (by first | omega | (simp; omega)), cell_map default (by first | omega | (simp; omega)), cell_map default (by first | omega | (simp; omega)), cell_map default (by first | omega | (simp; omega)), cell_map default (by first | omega | (simp; omega)), cell_map default (by first | omega | (simp; omega)), cell_map default (by first | omega | (simp; omega)), cell_map default (by first | omega | (simp; omega)), cell_map default (by first | omega | (simp; omega)), cell_map default (by first | omega | (simp; omega)), cell_map default (by first | omega | (simp; omega)), cell_map default (by first | omega | (simp; omega)), cell_map default (by first | omega | (simp; omega)), cell_map default (by first | omega | (simp; omega)), cell_map default (by first | omega | (simp; omega)), cell_map default (by first | omega | (simp; omega)), cell_map default (by first | omega | (simp; omega)), cell_map default (by first | omega | (simp; omega)), cell_map default (by first | omega | (simp; omega)), cell_map default (by first | omega | (simp; omega)), cell_map default (by first | omega | (simp; omega)), cell_map default (by first | omega | (simp; omega)), cell_map default (by first | omega | (simp; omega)), cell_map default (by first | omega | (simp; omega)), cell_map default (by first | omega | (simp; omega)), cell_map default (by first | omega | (simp; omega)), cell_map default (by first | omega | (simp; omega)), cell_map default (by first | omega | (simp; omega)), cell_map default (by first | omega | (simp; omega)), cell_map default (by first | omega | (simp; omega)), cell_map default (by first | omega | (simp; omega)), cell_map default (by first | omega | (simp; omega)), cell_map default (by first | omega | (simp; omega)), cell_map default (by first | omega | (simp; omega)), cell_map default (by first | omega | (simp; omega)), cell_map default (by first | omega | (simp; omega)), cell_map default (by first | omega | (simp; omega)), cell_map default (by first | omega | (simp; omega)), cell_map default (by first | omega | (simp; omega)), cell_map default (by first | omega | (simp; omega)), cell_map default (by first | omega | (simp; omega)), cell_map default (by first | omega | (simp; omega)), cell_map default (by first | omega | (simp; omega)), cell_map default (by first | omega | (simp; omega)), cell_map default (by first | omega | (simp; omega))]; rfl)) ?_
   refine TL.cons rfl (Step.call (f := 125) (xs := [.tmp 19]) (ps := [(.agg [.d (.int .i64 (a.getD i default).f0), .d (.int .i64 (a.getD i default).f1), .d (.int .i64 (a.getD i default).f2.f0), .d (.int .i64 (a.getD i default).f2.f1.f0), .d (.int .i64 (a.getD i default).f2.f1.f1), .d (.ints .u8 (a.getD i default).f2.f1.f2), .d (.int .i64 (a.getD i default).f2.f1.f3), .d (.ints .u8 (a.getD i default).f2.f1.f4), .d (.int .i64 (a.getD i default).f2.f2.f0), .d (.int .i64 (a.getD i default).f2.f2.f1), .d (.ints .u8 (a.getD i default).f2.f2.f2), .d (.ints .u8 (a.getD i default).f2.f2.f3), .d (.bss (a.getD i default).f2.f2.f4), .d (.int .i64 (a.getD i default).f2.f3.f0), .d (.int .i64 (a.getD i default).f2.f3.f1), .d (.int .i64 (a.getD i default).f2.f3.f2), .d (.ints .u8 (a.getD i default).f2.f3.f3), .d (.ints .u8 (a.getD i default).f2.f3.f4), .d (.int .i64 (a.getD i default).f2.f3.f5.f0), .d (.int .i64 (a.getD i default).f2.f3.f5.f1), .d (.ints .u8 (a.getD i default).f2.f3.f5.f2), .d (.ints .u8 (a.getD i default).f2.f3.f5.f3), .d (.bss (a.getD i default).f2.f3.f5.f4), .d (.int .i64 (a.getD i default).f2.f4.f0.f0), .d (.int .i64 (a.getD i default).f2.f4.f0.f1), .d (.int .i64 (a.getD i default).f2.f4.f0.f2), .d (.ints .u8 (a.getD i default).f2.f4.f0.f3), .d (.ints .u8 (a.getD i default).f2.f4.f0.f4), .d (.int .i64 (a.getD i default).f2.f4.f0.f5.f0), .d (.int .i64 (a.getD i default).f2.f4.f0.f5.f1), .d (.ints .u8 (a.getD i default).f2.f4.f0.f5.f2), .d (.ints .u8 (a.getD i default).f2.f4.f0.f5.f3), .d (.bss (a.getD i default).f2.f4.f0.f5.f4), .d (.bss (a.getD i default).f2.f4.f1), .d (.int .i64 (a.getD i default).f2.f5.f0), .d (.sl 3 ((a.getD i default).f2.f5.f1.map SEntry.cells)), .d (.sl 10 ((a.getD i default).f2.f6.f0.map SHead.cells)), .d (.int .i64 (a.getD i default).f2.f6.f1.f0), .d (.int .i64 (a.getD i default).f2.f6.f1.f1), .d (.ints .u8 (a.getD i default).f2.f6.f1.f2), .d (.ints .u8 (a.getD i default).f2.f6.f1.f3), .d (.bss (a.getD i default).f2.f6.f1.f4), .d (.int .i64 (a.getD i default).f2.f7.f0), .d (.int .i64 (a.getD i default).f2.f7.f1), .d (.int .i64 (a.getD i default).f2.f7.f2), .d (.ints .u8 (a.getD i default).f2.f7.f3), .d (.bss (a.getD i default).f2.f7.f4)])]) false (g := .func 125) rfl rfl (lt_ok rfl) rfl (by kernel_rfl) rfl (.cons (.agg (.cons (.d _) (.cons (.d _) (.cons (.d _) (.cons (.d _) (.cons (.d _) (.cons (.d _) (.cons (.d _) (.cons (.d _) (.cons (.d _) (.cons (.d _) (.cons (.d _) (.cons (.d _) (.cons (.d _) (.cons (.d _) (.cons (.d _) (.cons (.d _) (.cons (.d _) (.cons (.d _) (.cons (.d _) (.cons (.d _) (.cons (.d _) (.cons (.d _) (.cons (.d _) (.cons (.d _) (.cons (.d _) (.cons (.d _) (.cons (.d _) (.cons (.d _) (.cons (.d _) (.cons (.d _) (.cons (.d _) (.cons (.d _) (.cons (.d _) (.cons (.d _) (.cons (.d _) (.cons (.d _) (.cons (.d _) (.cons (.d _) (.cons (.d _) (.cons (.d _) (.cons (.d _) (.cons (.d _) (.cons (.d _) (.cons (.d _) (.cons (.d _) (.cons (.d _) (.cons (.d _) .nil)))))))))))))))))))))))))))))))))))))))))))))))) .nil) (ok_laws_toEvent (a.getD i default) (by first | assumption | exact ⟨‹_›, ‹_›⟩ | (refine mem_getD (p := SEvent.sm) h0_.2 (by omega)) | exact mem_getD h0_.2 (by omega))) (.inr rfl) rfl (by simp) rfl) ?_
   refine TL.cons rfl (Step.index_row (e := 152) (z := 47) (i := (i : Int)) rfl rfl (lt_ok rfl) (by kernel_rfl) rfl rfl rfl rfl (lt_ok rfl) rfl (by first | omega | (simp; omega)) (by simp only [D.at_, D.cell, D.size]; first | omega | (simp; omega))) ?_
   refine TL.cons rfl (Step.store_row (n := 47) (p := (.agg [.d (.int .i64 (a.getD i default).f0), .d (.int .i64 (a.getD i default).f1), .d (.int .i64 (a.getD i default).f2.f0), .d (.int .i64 (a.getD i default).f2.f1.f0), .d (.int .i64 (a.getD i default).f2.f1.f1), .row 6020 [], .d (.int .i64 (a.getD i default).f2.f1.f3), .row 8020 [], .d (.int .i64 (a.getD i default).f2.f2.f0), .d (.int .i64 (a.getD i default).f2.f2.f1), .row 11020 [], .row 12020 [], .row 13020 [], .d (.int .i64 (a.getD i default).f2.f3.f0), .d (.int .i64 (a.getD i default).f2.f3.f1), .d (.int .i64 (a.getD i default).f2.f3.f2), .row 17020 [], .row 18020 [], .d (.int .i64 (a.getD i default).f2.f3.f5.f0), .d (.int .i64 (a.getD i default).f2.f3.f5.f1), .row 21020 [], .row 22020 [], .row 23020 [], .d (.int .i64 (a.getD i default).f2.f4.f0.f0), .d (.int .i64 (a.getD i default).f2.f4.f0.f1), .d (.int .i64 (a.getD i default).f2.f4.f0.f2), .row 27020 [], .row 28020 [], .d (.int .i64 (a.getD i default).f2.f4.f0.f5.f0), .d (.int .i64 (a.getD i default).f2.f4.f0.f5.f1), .row 31020 [], .row 32020 [], .row 33020 [], .row 34020 [], .d (.int .i64 (a.getD i default).f2.f5.f0), .row 36020 [], .row 37020 [], .d (.int .i64 (a.getD i default).f2.f6.f1.f0), .d (.int .i64 (a.getD i default).f2.f6.f1.f1), .row 40020 [], .row 41020 [], .row 42020 [], .d (.int .i64 (a.getD i default).f2.f7.f0), .d (.int .i64 (a.getD i default).f2.f7.f1), .d (.int .i64 (a.getD i default).f2.f7.f2), .row 46020 [], .row 47020 []])) (ps := [.d (.int .i64 (a.getD i default).f0), .d (.int .i64 (a.getD i default).f1), .d (.int .i64 (a.getD i default).f2.f0), .d (.int .i64 (a.getD i default).f2.f1.f0), .d (.int .i64 (a.getD i default).f2.f1.f1), .row 6020 [], .d (.int .i64 (a.getD i default).f2.f1.f3), .row 8020 [], .d (.int .i64 (a.getD i default).f2.f2.f0), .d (.int .i64 (a.getD i default).f2.f2.f1), .row 11020 [], .row 12020 [], .row 13020 [], .d (.int .i64 (a.getD i default).f2.f3.f0), .d (.int .i64 (a.getD i default).f2.f3.f1), .d (.int .i64 (a.getD i default).f2.f3.f2), .row 17020 [], .row 18020 [], .d (.int .i64 (a.getD i default).f2.f3.f5.f0), .d (.int .i64 (a.getD i default).f2.f3.f5.f1), .row 21020 [], .row 22020 [], .row 23020 [], .d (.int .i64 (a.getD i default).f2.f4.f0.f0), .d (.int .i64 (a.getD i default).f2.f4.f0.f1), .d (.int .i64 (a.getD i default).f2.f4.f0.f2), .row 27020 [], .row 28020 [], .d (.int .i64 (a.getD i default).f2.f4.f0.f5.f0), .d (.int .i64 (a.getD i default).f2.f4.f0.f5.f1), .row 31020 [], .row 32020 [], .row 33020 [], .row 34020 [], .d (.int .i64 (a.getD i default).f2.f5.f0), .row 36020 [], .row 37020 [], .d (.int .i64 (a.getD i default).f2.f6.f1.f0), .d (.int .i64 (a.getD i default).f2.f6.f1.f1), .row 40020 [], .row 41020 [], .row 42020 [], .d (.int .i64 (a.getD i default).f2.f7.f0), .d (.int .i64 (a.getD i default).f2.f7.f1), .d (.int .i64 (a.getD i default).f2.f7.f2), .row 46020 [], .row 47020 []]) (es := SEvent.cells (a.getD i default)) (ss := [6020, 8020, 11020, 12020, 13020, 17020, 18020, 21020, 22020, 23020, 27020, 28020, 31020, 32020, 33020, 34020, 36020, 37020, 40020, 41020, 42020, 46020, 47020]) (d1 := (.sl 47 (((a.take i ++ List.replicate (a.length - i) default : List SEvent).set i (a.getD i default)).map SEvent.cells))) (d' := (.sl 47 (((a.take i ++ List.replicate (a.length - i) default : List SEvent).set i (a.getD i default)).map SEvent.cells))) rfl rfl (by kernel_rfl) rfl rfl rfl rfl rfl rfl (.val rfl (.val rfl (.val rfl (.val rfl (.val rfl (.row rfl (by simp) (.val rfl (.row rfl (by simp) (.val rfl (.val rfl (.row rfl (by simp) (.row rfl (by simp) (.row rfl (by simp) (.val rfl (.val rfl (.val rfl (.row rfl (by simp) (.row rfl (by simp) (.val rfl (.val rfl (.row rfl (by simp) (.row rfl (by simp) (.row rfl (by simp) (.val rfl (.val rfl (.val rfl (.row rfl (by simp) (.row rfl (by simp) (.val rfl (.val rfl (.row rfl (by simp) (.row rfl (by simp) (.row rfl (by simp) (.row rfl (by simp) (.val rfl (.row rfl (by simp) (.row rfl (by simp) (.val rfl (.val rfl (.row rfl (by simp) (.row rfl (by simp) (.row rfl (by simp) (.val rfl (.val rfl (.val rfl (.row rfl (by simp) (.row rfl (by simp) .nil))))))))))))))))))))))))))))))))))))))))))))))) (by simp) (Putd.enc SEvent.len (xs := (a.take i ++ List.replicate (a.length - i) default : List SEvent)) (by simp; first | omega | (simp; omega)) (a.getD i default)) rfl) ?_
   refine TL.nil ?_
   refine T.weaken (E' := { tm := [(0, (.one (.d (.sl 47 (a.map SEvent.cells))))), (2, (.one (.nil))), (3, (.one (.row 7 []))), (4, (.one (.d (.int .i64 (i : Int)))))], rows := [(7, (152, (.sl 47 (((a.take i ++ List.replicate (a.length - i) default : List SEvent).set i (a.getD i default)).map SEvent.cells))))], boxes := [] }) (Env.le_mk ⟨by kernel_rfl, by kernel_rfl, by kernel_rfl, by kernel_rfl, trivial⟩ ⟨by kernel_rfl, trivial⟩ trivial) ?_
   refine T.region ?_
   refine TL.cons rfl (Step.move (p := (.one (.d (.int .i64 (i : Int))))) rfl rfl (lt_ok rfl) rfl) ?_
   refine TL.cons rfl (Step.bin (r := .int .i64 ((i : Int) + 1)) rfl rfl (lt_ok rfl) rfl rfl (Bin.add (a := (i : Int)) (b := 1) (by first | exact wrap_ok (by first | omega | (simp; omega)) (by first | omega | (simp; omega)) | rfl))) ?_
   refine TL.cons rfl (Step.assign (p := (.one (.d (.int .i64 ((i : Int) + 1))))) rfl rfl (lt_ok rfl) rfl) ?_
   refine TL.nil ?_
   exact ⟨i + 1, by omega, by omega, Env.le_mk ⟨rfl, rfl, rfl, by first | rfl | exact congrArg (fun x => some (152, ((.sl 47 (x.map SEvent.cells)) : D))) (fill_set a default default i (by omega)), trivial⟩ ⟨by first | rfl | exact congrArg (fun x => some (152, ((.sl 47 (x.map SEvent.cells)) : D))) (fill_set a default default i (by omega)), trivial⟩ trivial⟩
  ·
   replace h1 := of_decide_eq_false h1
   refine T.exit ?_
   refine T.seq ?_
   refine T.region ?_
   refine TL.cons rfl (Step.move (p := (.one (.row 7 []))) rfl rfl (lt_ok rfl) rfl) ?_
   refine TL.cons rfl (Step.assign (p := (.one (.row 7 []))) rfl rfl (lt_ok rfl) rfl) ?_
   refine TL.nil ?_
   refine T.ret ?_
   exact ⟨[(false, [.row 7 []])], (.cons rfl .nil), rfl, [7], (RetC.own' rfl (by first | rfl | (congr 1; rw [fill_all' _ _ _ (by omega)]) | (rw [fill_all' _ _ _ (by omega)])) rfl .nil)⟩
theorem ok_impl_within (n : Int) (low : Int) (high : Int) : RO Try.prog 78 [.one (.int .i64 n), .one (.int .i64 low), .one (.int .i64 high)] [(false, [.rd (.bool (decide (low ≤ n ∧ n ≤ high)))])] := by
 refine RO.intro Try.func78 rfl 15 rfl (le_ok rfl) fun w Z => ?_
 refine T.seq ?_
 refine T.region ?_
 refine TL.cons rfl (Step.assign (p := (.one (.d (.bool false)))) rfl rfl (lt_ok rfl) rfl) ?_
 refine TL.nil ?_
 refine T.seq ?_
 refine T.region ?_
 refine TL.cons rfl (Step.move (p := (.one (.d (.int .i64 low)))) rfl rfl (lt_ok rfl) rfl) ?_
 refine TL.cons rfl (Step.move (p := (.one (.d (.int .i64 n)))) rfl rfl (lt_ok rfl) rfl) ?_
 refine TL.cons rfl (Step.bin rfl rfl (lt_ok rfl) rfl rfl (Bin.leq (k := .i64) (a := low) (b := n))) ?_
 refine TL.cons rfl (Step.move (p := (.one (.d (.bool (decide (low ≤ n)))))) rfl rfl (lt_ok rfl) rfl) ?_
 rcases Bool.eq_false_or_eq_true (decide (low ≤ n)) with hb1 | hb1
 ·
  refine TL.known 10 hb1 rfl ?_
  refine TL.gyes 10 rfl rfl (lt_ok rfl) rfl (Step.move (p := (.one (.d (.int .i64 n)))) rfl rfl (lt_ok rfl) rfl) ?_
  refine TL.gyes 10 rfl rfl (lt_ok rfl) rfl (Step.move (p := (.one (.d (.int .i64 high)))) rfl rfl (lt_ok rfl) rfl) ?_
  refine TL.gyes 10 rfl rfl (lt_ok rfl) rfl (Step.bin rfl rfl (lt_ok rfl) rfl rfl (Bin.leq (k := .i64) (a := n) (b := high))) ?_
  refine TL.cons rfl (Step.pick (b := true) (p := (.one (.d (.bool (decide (n ≤ high)))))) rfl rfl (lt_ok rfl) rfl rfl) ?_
  refine TL.cons rfl (Step.assign (p := (.one (.d (.bool (decide (n ≤ high)))))) rfl rfl (lt_ok rfl) rfl) ?_
  refine TL.nil ?_
  refine T.ret ?_
  exact ⟨[(false, [.d (.bool (decide (n ≤ high)))])], (.cons rfl .nil), rfl, [], (RetC.rd' (by first | (congr 1; simp_all; done) | (congr 1; simp_all; omega)) .nil)⟩
 ·
  refine TL.known 10 hb1 rfl ?_
  refine TL.gno 10 rfl rfl (lt_ok rfl) rfl rfl rfl (lt_ok rfl) ?_
  refine TL.gno 10 rfl rfl (lt_ok rfl) rfl rfl rfl (lt_ok rfl) ?_
  refine TL.gno 10 rfl rfl (lt_ok rfl) rfl rfl rfl (lt_ok rfl) ?_
  refine TL.cons rfl (Step.pick (b := false) (p := (.one (.d (.bool false)))) rfl rfl (lt_ok rfl) rfl rfl) ?_
  refine TL.cons rfl (Step.assign (p := (.one (.d (.bool false)))) rfl rfl (lt_ok rfl) rfl) ?_
  refine TL.nil ?_
  refine T.ret ?_
  exact ⟨[(false, [.d (.bool false)])], (.cons rfl .nil), rfl, [], (RetC.rd' (by first | (congr 1; simp_all; done) | (congr 1; simp_all; omega)) .nil)⟩
theorem ok_impl_isNum (n : Int) : RO Try.prog 81 [.one (.int .i64 n)] [(false, [.rd (.bool (decide (0 ≤ n ∧ n ≤ 1152921504606846975)))])] := by
 refine RO.intro Try.func81 rfl 5 rfl (le_ok rfl) fun w Z => ?_
 refine T.seq ?_
 refine T.region ?_
 refine TL.cons rfl (Step.assign (p := (.one (.d (.bool false)))) rfl rfl (lt_ok rfl) rfl) ?_
 refine TL.nil ?_
 refine T.seq ?_
 refine T.region ?_
 refine TL.cons rfl (Step.move (p := (.one (.d (.int .i64 n)))) rfl rfl (lt_ok rfl) rfl) ?_
 refine TL.cons rfl (Step.call (f := 78) (xs := [.tmp 3, .const (.int .i64 0), .const (.int .i64 1152921504606846975)]) (ps := [(.one (.d (.int .i64 n))), (.one (.d (.int .i64 0))), (.one (.d (.int .i64 1152921504606846975)))]) false (g := .func 78) rfl rfl (lt_ok rfl) rfl (by kernel_rfl) rfl (.cons (.one (.d _)) (.cons (.one (.d _)) (.cons (.one (.d _)) .nil))) (ok_impl_within n 0 1152921504606846975) (.inr rfl) rfl (by simp) rfl) ?_
 refine TL.cons rfl (Step.assign (p := (.one (.d (.bool (decide (0 ≤ n ∧ n ≤ 1152921504606846975)))))) rfl rfl (lt_ok rfl) rfl) ?_
 refine TL.nil ?_
 refine T.ret ?_
 exact ⟨[(false, [.d (.bool (decide (0 ≤ n ∧ n ≤ 1152921504606846975)))])], (.cons rfl .nil), rfl, [], (RetC.rd' (by rfl) .nil)⟩
theorem ok_impl_Skipped (l : List SEvent) : RO Try.prog 70 [.one (.sl 47 (l.map SEvent.cells))] [(false, [.rd (.int .i64 (skipped l 0))])] := by
 refine RO.intro Try.func70 rfl 26 rfl (le_ok rfl) fun w Z => ?_
 refine T.bnd 0 0 rfl rfl fun hb_0_0 => ?_
 simp only [D.size, List.length_map] at hb_0_0
 refine T.seq ?_
 refine T.region ?_
 refine TL.cons rfl (Step.assign (p := (.one (.d (.int .i64 0)))) rfl rfl (lt_ok rfl) rfl) ?_
 refine TL.nil ?_
 refine T.seq ?_
 refine T.region ?_
 refine TL.cons rfl (Step.assign (p := (.one (.d (.int .i64 0)))) rfl rfl (lt_ok rfl) rfl) ?_
 refine TL.nil ?_
 refine T.seq ?_
 refine T.seq ?_
 refine T.region ?_
 refine TL.cons rfl (Step.move (p := (.one (.d (.sl 47 (l.map SEvent.cells))))) rfl rfl (lt_ok rfl) rfl) ?_
 refine TL.cons rfl (Step.len' (e := 152) (z := 47) (d := (.sl 47 (l.map SEvent.cells))) (n := l.length) rfl rfl (lt_ok rfl) (by kernel_rfl) rfl rfl (by simp [D.size])) ?_
 refine TL.cons rfl (Step.move (p := (.one (.d (.int .i64 0)))) rfl rfl (lt_ok rfl) rfl) ?_
 refine TL.nil ?_
 refine T.block ?_
 refine T.loop (ι := Nat × Int) (fun x => { tm := [(2, (.one (.d (.int .i64 0)))), (6, (.one (.d (.sl 47 (l.map SEvent.cells))))), (7, (.one (.d (.int .i64 (l.length : Int))))), (8, (.one (.d (.int .i64 ((x.1) : Int))))), (3, (.one (.d (.int .i64 (x.2)))))], rows := [], boxes := [] }) (fun x => (x.1) ≤ l.length ∧ skipped (l.drop (x.1)) (x.2) = skipped l 0) (fun x => l.length - (x.1)) (0, 0) ?_ ?_ ?_
 · exact Env.le_mk ⟨rfl, rfl, rfl, by first | rfl | (simp; done) | (congr 3; omega), by first | rfl | (simp; done) | (congr 3; omega), trivial⟩ trivial trivial
 · (refine ⟨Nat.zero_le _, by rw [List.drop_zero]⟩)
 ·
  intro x hx
  obtain ⟨i, n⟩ := x
  try dsimp only at hx ⊢
  obtain ⟨hx1, hx2⟩ := hx
  refine T.seq ?_
  refine T.region ?_
  refine TL.cons rfl (Step.bin rfl rfl (lt_ok rfl) rfl rfl (Bin.lss (k := .i64) (a := (i : Int)) (b := (l.length : Int)))) ?_
  refine TL.nil ?_
  refine T.seq ?_
  refine T.cond (b := decide ((i : Int) < (l.length : Int))) rfl (fun h1 => ?_) (fun h1 => ?_)
  ·
   replace h1 := of_decide_eq_true h1
   refine T.skip ?_
   refine T.seq ?_
   refine T.block ?_
   refine T.seq ?_
   refine T.region ?_
   refine TL.cons rfl (Step.index (e := 152) (z := 47) (i := (i : Int)) rfl rfl (lt_ok rfl) (by kernel_rfl) rfl rfl rfl (lt_ok rfl) rfl (by first | omega | (simp; omega)) (by simp only [D.size]; first | omega | (simp; omega))) ?_
   refine TL.cons rfl (Step.load_agg (n := 47) (cs := [.d (.int .i64 (l.getD i default).f0), .d (.int .i64 (l.getD i default).f1), .d (.int .i64 (l.getD i default).f2.f0), .d (.int .i64 (l.getD i default).f2.f1.f0), .d (.int .i64 (l.getD i default).f2.f1.f1), .d (.ints .u8 (l.getD i default).f2.f1.f2), .d (.int .i64 (l.getD i default).f2.f1.f3), .d (.ints .u8 (l.getD i default).f2.f1.f4), .d (.int .i64 (l.getD i default).f2.f2.f0), .d (.int .i64 (l.getD i default).f2.f2.f1), .d (.ints .u8 (l.getD i default).f2.f2.f2), .d (.ints .u8 (l.getD i default).f2.f2.f3), .d (.bss (l.getD i default).f2.f2.f4), .d (.int .i64 (l.getD i default).f2.f3.f0), .d (.int .i64 (l.getD i default).f2.f3.f1), .d (.int .i64 (l.getD i default).f2.f3.f2), .d (.ints .u8 (l.getD i default).f2.f3.f3), .d (.ints .u8 (l.getD i default).f2.f3.f4), .d (.int .i64 (l.getD i default).f2.f3.f5.f0), .d (.int .i64 (l.getD i default).f2.f3.f5.f1), .d (.ints .u8 (l.getD i default).f2.f3.f5.f2), .d (.ints .u8 (l.getD i default).f2.f3.f5.f3), .d (.bss (l.getD i default).f2.f3.f5.f4), .d (.int .i64 (l.getD i default).f2.f4.f0.f0), .d (.int .i64 (l.getD i default).f2.f4.f0.f1), .d (.int .i64 (l.getD i default).f2.f4.f0.f2), .d (.ints .u8 (l.getD i default).f2.f4.f0.f3), .d (.ints .u8 (l.getD i default).f2.f4.f0.f4), .d (.int .i64 (l.getD i default).f2.f4.f0.f5.f0), .d (.int .i64 (l.getD i default).f2.f4.f0.f5.f1), .d (.ints .u8 (l.getD i default).f2.f4.f0.f5.f2), .d (.ints .u8 (l.getD i default).f2.f4.f0.f5.f3), .d (.bss (l.getD i default).f2.f4.f0.f5.f4), .d (.bss (l.getD i default).f2.f4.f1), .d (.int .i64 (l.getD i default).f2.f5.f0), .d (.sl 3 ((l.getD i default).f2.f5.f1.map SEntry.cells)), .d (.sl 10 ((l.getD i default).f2.f6.f0.map SHead.cells)), .d (.int .i64 (l.getD i default).f2.f6.f1.f0), .d (.int .i64 (l.getD i default).f2.f6.f1.f1), .d (.ints .u8 (l.getD i default).f2.f6.f1.f2), .d (.ints .u8 (l.getD i default).f2.f6.f1.f3), .d (.bss (l.getD i default).f2.f6.f1.f4), .d (.int .i64 (l.getD i default).f2.f7.f0), .d (.int .i64 (l.getD i default).f2.f7.f1), .d (.int .i64 (l.getD i default).f2.f7.f2), .d (.ints .u8 (l.getD i default).f2.f7.f3), .d (.bss (l.getD i default).f2.f7.f4)]) rfl rfl (lt_ok rfl) (by kernel_rfl) rfl rfl (by simp only [List.range, List.range.loop, List.map_cons, List.map_nil]; rw [cell_map default (by first | omega | (simp; omega)), cell_map default (by first | omega | (simp; omega)), cell_map default (by first | omega | (simp; omega)), cell_map default (by first | omega | (simp; omega)), cell_map default (by first | omega | (simp; omega)), cell_map default (by first | omega | (simp; omega)), cell_map default (by first | omega | (simp; omega)), cell_map default (by first | omega | (simp; omega)), cell_map default (by first | omega | (simp; omega)), cell_map default (by first | omega | (simp; omega)), cell_map default (by first | omega | (simp; omega)), cell_map default (by first | omega | (simp; omega)), cell_map default (by first | omega | (simp; omega)), cell_map default (by first | omega | (simp; omega)), cell_map default (by first | omega | (simp; omega)), cell_map default (by first | omega | (simp; omega)), cell_map default (by first | omega | (simp; omega)), cell_map default (by first | omega | (simp; omega)), cell_map default (by first | omega | (simp; omega)), cell_map default (by first | omega | (simp; omega)), cell_map default (by first | omega | (simp; omega)), cell_map default (by first | omega | (simp; omega)), cell_map default (by first | omega | (simp; omega)), cell_map default (by first | omega | (simp; omega)), cell_map default (by first | omega | (simp; omega)), cell_map default (by first | omega | (simp; omega)), cell_map default (by first | omega | (simp; omega)), cell_map default (by first | omega | (simp; omega)), cell_map default (by first | omega | (simp; omega)), cell_map default (by first | omega | (simp; omega)), cell_map default (by first | omega | (simp; omega)), cell_map default (by first | omega | (simp; omega)), cell_map default (by first | omega | (simp; omega)), cell_map default (by first | omega | (simp; omega)), cell_map default (by first | omega | (simp; omega)), cell_map default (by first | omega | (simp; omega)), cell_map default (by first | omega | (simp; omega)), cell_map default (by first | omega | (simp; omega)), cell_map default (by first | omega | (simp; omega)), cell_map default (by first | omega | (simp; omega)), cell_map default (by first | omega | (simp; omega)), cell_map default (by first | omega | (simp; omega)), cell_map default (by first | omega | (simp; omega)), cell_map default (by first | omega | (simp; omega)), cell_map default (by first | omega | (simp; omega)), cell_map default (by first | omega | (simp; omega)), cell_map default (by first | omega | (simp; omega))]; rfl)) ?_
   refine TL.cons rfl (Step.alloc (cs := [.int .i64 0, .int .i64 0, .int .i64 0, .int .i64 0, .int .i64 0, .slice none 0 0, .int .i64 0, .slice none 0 0, .int .i64 0, .int .i64 0, .slice none 0 0, .slice none 0 0, .slice none 0 0, .int .i64 0, .int .i64 0, .int .i64 0, .slice none 0 0, .slice none 0 0, .int .i64 0, .int .i64 0, .slice none 0 0, .slice none 0 0, .slice none 0 0, .int .i64 0, .int .i64 0, .int .i64 0, .slice none 0 0, .slice none 0 0, .int .i64 0, .int .i64 0, .slice none 0 0, .slice none 0 0, .slice none 0 0, .slice none 0 0, .int .i64 0, .slice none 0 0, .slice none 0 0, .int .i64 0, .int .i64 0, .slice none 0 0, .slice none 0 0, .slice none 0 0, .int .i64 0, .int .i64 0, .int .i64 0, .slice none 0 0, .slice none 0 0]) (ps := [.d (.int .i64 0), .d (.int .i64 0), .d (.int .i64 0), .d (.int .i64 0), .d (.int .i64 0), .nil, .d (.int .i64 0), .nil, .d (.int .i64 0), .d (.int .i64 0), .nil, .nil, .nil, .d (.int .i64 0), .d (.int .i64 0), .d (.int .i64 0), .nil, .nil, .d (.int .i64 0), .d (.int .i64 0), .nil, .nil, .nil, .d (.int .i64 0), .d (.int .i64 0), .d (.int .i64 0), .nil, .nil, .d (.int .i64 0), .d (.int .i64 0), .nil, .nil, .nil, .nil, .d (.int .i64 0), .nil, .nil, .d (.int .i64 0), .d (.int .i64 0), .nil, .nil, .nil, .d (.int .i64 0), .d (.int .i64 0), .d (.int .i64 0), .nil, .nil]) rfl rfl (lt_ok rfl) (by kernel_rfl) rfl rfl rfl rfl) ?_
   refine TL.cons rfl (Step.store_box (n := 47) (p := (.agg [.d (.int .i64 (l.getD i default).f0), .d (.int .i64 (l.getD i default).f1), .d (.int .i64 (l.getD i default).f2.f0), .d (.int .i64 (l.getD i default).f2.f1.f0), .d (.int .i64 (l.getD i default).f2.f1.f1), .d (.ints .u8 (l.getD i default).f2.f1.f2), .d (.int .i64 (l.getD i default).f2.f1.f3), .d (.ints .u8 (l.getD i default).f2.f1.f4), .d (.int .i64 (l.getD i default).f2.f2.f0), .d (.int .i64 (l.getD i default).f2.f2.f1), .d (.ints .u8 (l.getD i default).f2.f2.f2), .d (.ints .u8 (l.getD i default).f2.f2.f3), .d (.bss (l.getD i default).f2.f2.f4), .d (.int .i64 (l.getD i default).f2.f3.f0), .d (.int .i64 (l.getD i default).f2.f3.f1), .d (.int .i64 (l.getD i default).f2.f3.f2), .d (.ints .u8 (l.getD i default).f2.f3.f3), .d (.ints .u8 (l.getD i default).f2.f3.f4), .d (.int .i64 (l.getD i default).f2.f3.f5.f0), .d (.int .i64 (l.getD i default).f2.f3.f5.f1), .d (.ints .u8 (l.getD i default).f2.f3.f5.f2), .d (.ints .u8 (l.getD i default).f2.f3.f5.f3), .d (.bss (l.getD i default).f2.f3.f5.f4), .d (.int .i64 (l.getD i default).f2.f4.f0.f0), .d (.int .i64 (l.getD i default).f2.f4.f0.f1), .d (.int .i64 (l.getD i default).f2.f4.f0.f2), .d (.ints .u8 (l.getD i default).f2.f4.f0.f3), .d (.ints .u8 (l.getD i default).f2.f4.f0.f4), .d (.int .i64 (l.getD i default).f2.f4.f0.f5.f0), .d (.int .i64 (l.getD i default).f2.f4.f0.f5.f1), .d (.ints .u8 (l.getD i default).f2.f4.f0.f5.f2), .d (.ints .u8 (l.getD i default).f2.f4.f0.f5.f3), .d (.bss (l.getD i default).f2.f4.f0.f5.f4), .d (.bss (l.getD i default).f2.f4.f1), .d (.int .i64 (l.getD i default).f2.f5.f0), .d (.sl 3 ((l.getD i default).f2.f5.f1.map SEntry.cells)), .d (.sl 10 ((l.getD i default).f2.f6.f0.map SHead.cells)), .d (.int .i64 (l.getD i default).f2.f6.f1.f0), .d (.int .i64 (l.getD i default).f2.f6.f1.f1), .d (.ints .u8 (l.getD i default).f2.f6.f1.f2), .d (.ints .u8 (l.getD i default).f2.f6.f1.f3), .d (.bss (l.getD i default).f2.f6.f1.f4), .d (.int .i64 (l.getD i default).f2.f7.f0), .d (.int .i64 (l.getD i default).f2.f7.f1), .d (.int .i64 (l.getD i default).f2.f7.f2), .d (.ints .u8 (l.getD i default).f2.f7.f3), .d (.bss (l.getD i default).f2.f7.f4)])) (qs := [.d (.int .i64 (l.getD i default).f0), .d (.int .i64 (l.getD i default).f1), .d (.int .i64 (l.getD i default).f2.f0), .d (.int .i64 (l.getD i default).f2.f1.f0), .d (.int .i64 (l.getD i default).f2.f1.f1), .d (.ints .u8 (l.getD i default).f2.f1.f2), .d (.int .i64 (l.getD i default).f2.f1.f3), .d (.ints .u8 (l.getD i default).f2.f1.f4), .d (.int .i64 (l.getD i default).f2.f2.f0), .d (.int .i64 (l.getD i default).f2.f2.f1), .d (.ints .u8 (l.getD i default).f2.f2.f2), .d (.ints .u8 (l.getD i default).f2.f2.f3), .d (.bss (l.getD i default).f2.f2.f4), .d (.int .i64 (l.getD i default).f2.f3.f0), .d (.int .i64 (l.getD i default).f2.f3.f1), .d (.int .i64 (l.getD i default).f2.f3.f2), .d (.ints .u8 (l.getD i default).f2.f3.f3), .d (.ints .u8 (l.getD i default).f2.f3.f4), .d (.int .i64 (l.getD i default).f2.f3.f5.f0), .d (.int .i64 (l.getD i default).f2.f3.f5.f1), .d (.ints .u8 (l.getD i default).f2.f3.f5.f2), .d (.ints .u8 (l.getD i default).f2.f3.f5.f3), .d (.bss (l.getD i default).f2.f3.f5.f4), .d (.int .i64 (l.getD i default).f2.f4.f0.f0), .d (.int .i64 (l.getD i default).f2.f4.f0.f1), .d (.int .i64 (l.getD i default).f2.f4.f0.f2), .d (.ints .u8 (l.getD i default).f2.f4.f0.f3), .d (.ints .u8 (l.getD i default).f2.f4.f0.f4), .d (.int .i64 (l.getD i default).f2.f4.f0.f5.f0), .d (.int .i64 (l.getD i default).f2.f4.f0.f5.f1), .d (.ints .u8 (l.getD i default).f2.f4.f0.f5.f2), .d (.ints .u8 (l.getD i default).f2.f4.f0.f5.f3), .d (.bss (l.getD i default).f2.f4.f0.f5.f4), .d (.bss (l.getD i default).f2.f4.f1), .d (.int .i64 (l.getD i default).f2.f5.f0), .d (.sl 3 ((l.getD i default).f2.f5.f1.map SEntry.cells)), .d (.sl 10 ((l.getD i default).f2.f6.f0.map SHead.cells)), .d (.int .i64 (l.getD i default).f2.f6.f1.f0), .d (.int .i64 (l.getD i default).f2.f6.f1.f1), .d (.ints .u8 (l.getD i default).f2.f6.f1.f2), .d (.ints .u8 (l.getD i default).f2.f6.f1.f3), .d (.bss (l.getD i default).f2.f6.f1.f4), .d (.int .i64 (l.getD i default).f2.f7.f0), .d (.int .i64 (l.getD i default).f2.f7.f1), .d (.int .i64 (l.getD i default).f2.f7.f2), .d (.ints .u8 (l.getD i default).f2.f7.f3), .d (.bss (l.getD i default).f2.f7.f4)]) (ps' := [.d (.int .i64 (l.getD i default).f0), .d (.int .i64 (l.getD i default).f1), .d (.int .i64 (l.getD i default).f2.f0), .d (.int .i64 (l.getD i default).f2.f1.f0), .d (.int .i64 (l.getD i default).f2.f1.f1), .d (.ints .u8 (l.getD i default).f2.f1.f2), .d (.int .i64 (l.getD i default).f2.f1.f3), .d (.ints .u8 (l.getD i default).f2.f1.f4), .d (.int .i64 (l.getD i default).f2.f2.f0), .d (.int .i64 (l.getD i default).f2.f2.f1), .d (.ints .u8 (l.getD i default).f2.f2.f2), .d (.ints .u8 (l.getD i default).f2.f2.f3), .d (.bss (l.getD i default).f2.f2.f4), .d (.int .i64 (l.getD i default).f2.f3.f0), .d (.int .i64 (l.getD i default).f2.f3.f1), .d (.int .i64 (l.getD i default).f2.f3.f2), .d (.ints .u8 (l.getD i default).f2.f3.f3), .d (.ints .u8 (l.getD i default).f2.f3.f4), .d (.int .i64 (l.getD i default).f2.f3.f5.f0), .d (.int .i64 (l.getD i default).f2.f3.f5.f1), .d (.ints .u8 (l.getD i default).f2.f3.f5.f2), .d (.ints .u8 (l.getD i default).f2.f3.f5.f3), .d (.bss (l.getD i default).f2.f3.f5.f4), .d (.int .i64 (l.getD i default).f2.f4.f0.f0), .d (.int .i64 (l.getD i default).f2.f4.f0.f1), .d (.int .i64 (l.getD i default).f2.f4.f0.f2), .d (.ints .u8 (l.getD i default).f2.f4.f0.f3), .d (.ints .u8 (l.getD i default).f2.f4.f0.f4), .d (.int .i64 (l.getD i default).f2.f4.f0.f5.f0), .d (.int .i64 (l.getD i default).f2.f4.f0.f5.f1), .d (.ints .u8 (l.getD i default).f2.f4.f0.f5.f2), .d (.ints .u8 (l.getD i default).f2.f4.f0.f5.f3), .d (.bss (l.getD i default).f2.f4.f0.f5.f4), .d (.bss (l.getD i default).f2.f4.f1), .d (.int .i64 (l.getD i default).f2.f5.f0), .d (.sl 3 ((l.getD i default).f2.f5.f1.map SEntry.cells)), .d (.sl 10 ((l.getD i default).f2.f6.f0.map SHead.cells)), .d (.int .i64 (l.getD i default).f2.f6.f1.f0), .d (.int .i64 (l.getD i default).f2.f6.f1.f1), .d (.ints .u8 (l.getD i default).f2.f6.f1.f2), .d (.ints .u8 (l.getD i default).f2.f6.f1.f3), .d (.bss (l.getD i default).f2.f6.f1.f4), .d (.int .i64 (l.getD i default).f2.f7.f0), .d (.int .i64 (l.getD i default).f2.f7.f1), .d (.int .i64 (l.getD i default).f2.f7.f2), .d (.ints .u8 (l.getD i default).f2.f7.f3), .d (.bss (l.getD i default).f2.f7.f4)]) rfl rfl (by kernel_rfl) rfl rfl rfl rfl rfl rfl (le_ok rfl) rfl) ?_
   refine TL.nil ?_
   refine T.seq ?_
   refine T.region ?_
   refine TL.cons rfl (Step.fieldAddr (q := 0) (off := 0) (n := 1) (one := true) rfl rfl (lt_ok rfl) (by kernel_rfl) (Nat.succ_ne_zero _) rfl) ?_
   refine TL.cons rfl (Step.load_box (c := .d (.int .i64 (l.getD i default).f0)) rfl rfl (lt_ok rfl) (by kernel_rfl) rfl rfl rfl) ?_
   refine TL.cons rfl (Step.bin rfl rfl (lt_ok rfl) rfl rfl (Bin.eql (k := .i64) (a := (l.getD i default).f0) (b := 1))) ?_
   refine TL.cons rfl (Step.move (p := (.one (.d (.bool (decide ((l.getD i default).f0 = 1)))))) rfl rfl (lt_ok rfl) rfl) ?_
   rcases Bool.eq_false_or_eq_true (decide ((l.getD i default).f0 = 1)) with hb2 | hb2
   ·
    refine TL.known 15 hb2 rfl ?_
    refine TL.gyes 15 rfl rfl (lt_ok rfl) rfl (Step.fieldAddr (q := 0) (off := 1) (n := 1) (one := true) rfl rfl (lt_ok rfl) (by kernel_rfl) (Nat.succ_ne_zero _) rfl) ?_
    refine TL.gyes 15 rfl rfl (lt_ok rfl) rfl (Step.load_box (c := .d (.int .i64 (l.getD i default).f1)) rfl rfl (lt_ok rfl) (by kernel_rfl) rfl rfl rfl) ?_
    refine TL.gyes 15 rfl rfl (lt_ok rfl) rfl (Step.call (f := 81) (xs := [.tmp 17]) (ps := [(.one (.d (.int .i64 (l.getD i default).f1)))]) false (g := .func 81) rfl rfl (lt_ok rfl) rfl (by kernel_rfl) rfl (.cons (.one (.d _)) .nil) (ok_impl_isNum (l.getD i default).f1) (.inr rfl) rfl (by simp) rfl) ?_
    refine TL.cons rfl (Step.pick (b := true) (p := (.one (.d (.bool (decide (0 ≤ (l.getD i default).f1 ∧ (l.getD i default).f1 ≤ 1152921504606846975)))))) rfl rfl (lt_ok rfl) rfl rfl) ?_
    refine TL.nil ?_
    refine T.cond (b := decide (0 ≤ (l.getD i default).f1 ∧ (l.getD i default).f1 ≤ 1152921504606846975)) rfl (fun h3 => ?_) (fun h3 => ?_)
    ·
     replace h3 := of_decide_eq_true h3
     refine T.region ?_
     refine TL.cons rfl (Step.move (p := (.one (.d (.int .i64 n)))) rfl rfl (lt_ok rfl) rfl) ?_
     refine TL.cons rfl (Step.fieldAddr (q := 0) (off := 1) (n := 1) (one := true) rfl rfl (lt_ok rfl) (by kernel_rfl) (Nat.succ_ne_zero _) rfl) ?_
     refine TL.cons rfl (Step.load_box (c := .d (.int .i64 (l.getD i default).f1)) rfl rfl (lt_ok rfl) (by kernel_rfl) rfl rfl rfl) ?_
     refine TL.cons rfl (Step.bin (r := .int .i64 (IntKind.i64.wrap (n + (l.getD i default).f1))) rfl rfl (lt_ok rfl) rfl rfl (Bin.add (a := n) (b := (l.getD i default).f1) (rfl))) ?_
     refine TL.cons rfl (Step.assign (p := (.one (.d (.int .i64 (IntKind.i64.wrap (n + (l.getD i default).f1)))))) rfl rfl (lt_ok rfl) rfl) ?_
     refine TL.nil ?_
     refine T.weaken (E' := { tm := [(2, (.one (.d (.int .i64 0)))), (6, (.one (.d (.sl 47 (l.map SEvent.cells))))), (7, (.one (.d (.int .i64 (l.length : Int))))), (8, (.one (.d (.int .i64 (i : Int))))), (3, (.one (.d (.int .i64 (IntKind.i64.wrap (n + (l.getD i default).f1))))))], rows := [], boxes := [] }) (Env.le_mk ⟨by kernel_rfl, by kernel_rfl, by kernel_rfl, by kernel_rfl, by kernel_rfl, trivial⟩ trivial trivial) ?_
     refine T.region ?_
     refine TL.cons rfl (Step.bin (r := .int .i64 ((i : Int) + 1)) rfl rfl (lt_ok rfl) rfl rfl (Bin.add (a := (i : Int)) (b := 1) (by first | exact wrap_ok (by first | omega | (simp; omega)) (by first | omega | (simp; omega)) | rfl))) ?_
     refine TL.cons rfl (Step.move (p := (.one (.d (.int .i64 ((i : Int) + 1))))) rfl rfl (lt_ok rfl) rfl) ?_
     refine TL.nil ?_
     exact ⟨(i + 1, (IntKind.i64.wrap (n + (l.getD i default).f1))), by (refine ⟨by omega, ?_⟩; dsimp only; rw [← hx2, skipped_drop l i n (by omega)]; try simp only [decide_eq_true_eq, decide_eq_false_iff_not] at *; split <;> first | rfl | (exfalso; omega)), by (dsimp only; omega), Env.le_mk ⟨rfl, rfl, rfl, by first | rfl | (simp; done) | (congr 3; omega), by first | rfl | (simp; done) | (congr 3; omega), trivial⟩ trivial trivial⟩
    ·
     replace h3 := of_decide_eq_false h3
     refine T.skip ?_
     refine T.region ?_
     refine TL.cons rfl (Step.bin (r := .int .i64 ((i : Int) + 1)) rfl rfl (lt_ok rfl) rfl rfl (Bin.add (a := (i : Int)) (b := 1) (by first | exact wrap_ok (by first | omega | (simp; omega)) (by first | omega | (simp; omega)) | rfl))) ?_
     refine TL.cons rfl (Step.move (p := (.one (.d (.int .i64 ((i : Int) + 1))))) rfl rfl (lt_ok rfl) rfl) ?_
     refine TL.nil ?_
     exact ⟨(i + 1, n), by (refine ⟨by omega, ?_⟩; dsimp only; rw [← hx2, skipped_drop l i n (by omega)]; try simp only [decide_eq_true_eq, decide_eq_false_iff_not] at *; split <;> first | rfl | (exfalso; omega)), by (dsimp only; omega), Env.le_mk ⟨rfl, rfl, rfl, by first | rfl | (simp; done) | (congr 3; omega), rfl, trivial⟩ trivial trivial⟩
   ·
    refine TL.known 15 hb2 rfl ?_
    refine TL.gno 15 rfl rfl (lt_ok rfl) rfl rfl rfl (lt_ok rfl) ?_
    refine TL.gno 15 rfl rfl (lt_ok rfl) rfl rfl rfl (lt_ok rfl) ?_
    refine TL.gno 15 rfl rfl (lt_ok rfl) rfl rfl rfl (lt_ok rfl) ?_
    refine TL.cons rfl (Step.pick (b := false) (p := (.one (.d (.bool false)))) rfl rfl (lt_ok rfl) rfl rfl) ?_
    refine TL.nil ?_
    refine T.cond (b := false) rfl (fun h4_ => absurd h4_ (by simp)) (fun h4_ => ?_)
    refine T.skip ?_
    refine T.region ?_
    refine TL.cons rfl (Step.bin (r := .int .i64 ((i : Int) + 1)) rfl rfl (lt_ok rfl) rfl rfl (Bin.add (a := (i : Int)) (b := 1) (by first | exact wrap_ok (by first | omega | (simp; omega)) (by first | omega | (simp; omega)) | rfl))) ?_
    refine TL.cons rfl (Step.move (p := (.one (.d (.int .i64 ((i : Int) + 1))))) rfl rfl (lt_ok rfl) rfl) ?_
    refine TL.nil ?_
    exact ⟨(i + 1, n), by (refine ⟨by omega, ?_⟩; dsimp only; rw [← hx2, skipped_drop l i n (by omega)]; try simp only [decide_eq_true_eq, decide_eq_false_iff_not] at *; split <;> first | rfl | (exfalso; omega)), by (dsimp only; omega), Env.le_mk ⟨rfl, rfl, rfl, by first | rfl | (simp; done) | (congr 3; omega), rfl, trivial⟩ trivial trivial⟩
  ·
   replace h1 := of_decide_eq_false h1
   refine T.exit ?_
   refine T.seq ?_
   refine T.region ?_
   refine TL.cons rfl (Step.move (p := (.one (.d (.int .i64 n)))) rfl rfl (lt_ok rfl) rfl) ?_
   refine TL.cons rfl (Step.assign (p := (.one (.d (.int .i64 n)))) rfl rfl (lt_ok rfl) rfl) ?_
   refine TL.nil ?_
   refine T.ret ?_
   exact ⟨[(false, [.d (.int .i64 n)])], (.cons rfl .nil), rfl, [], (RetC.rd' (by (congr 1; rw [← hx2, List.drop_of_length_le (by omega)]; rfl)) .nil)⟩
theorem ok_laws_eqByteS (a : List Int) (b : List Int) : RO Try.prog 56 [.one (.ints .u8 a), .one (.ints .u8 b)] [(false, [.rd (.bool (decide (a = b)))])] := by
 refine RO.intro Try.func56 rfl 26 rfl (le_ok rfl) fun w Z => ?_
 refine T.bnd 0 0 rfl rfl fun hb_0_0 => ?_
 simp only [D.size, List.length_map] at hb_0_0
 refine T.bnd 1 0 rfl rfl fun hb_1_0 => ?_
 simp only [D.size, List.length_map] at hb_1_0
 refine T.seq ?_
 refine T.region ?_
 refine TL.cons rfl (Step.assign (p := (.one (.d (.bool false)))) rfl rfl (lt_ok rfl) rfl) ?_
 refine TL.nil ?_
 refine T.seq ?_
 refine T.seq ?_
 refine T.region ?_
 refine TL.cons rfl (Step.move (p := (.one (.d (.ints .u8 a)))) rfl rfl (lt_ok rfl) rfl) ?_
 refine TL.cons rfl (Step.len (e := 5) (z := 1) (d := (.ints .u8 a)) rfl rfl (lt_ok rfl) (by kernel_rfl) rfl rfl) ?_
 refine TL.cons rfl (Step.move (p := (.one (.d (.ints .u8 b)))) rfl rfl (lt_ok rfl) rfl) ?_
 refine TL.cons rfl (Step.len (e := 5) (z := 1) (d := (.ints .u8 b)) rfl rfl (lt_ok rfl) (by kernel_rfl) rfl rfl) ?_
 refine TL.cons rfl (Step.bin rfl rfl (lt_ok rfl) rfl rfl (Bin.neq (k := .i64) (a := (a.length : Int)) (b := (b.length : Int)))) ?_
 refine TL.nil ?_
 refine T.cond (b := decide ((a.length : Int) ≠ (b.length : Int))) rfl (fun h1 => ?_) (fun h1 => ?_)
 ·
  replace h1 := of_decide_eq_true h1
  refine T.seq ?_
  refine T.region ?_
  refine TL.cons rfl (Step.assign (p := (.one (.d (.bool false)))) rfl rfl (lt_ok rfl) rfl) ?_
  refine TL.nil ?_
  refine T.ret ?_
  exact ⟨[(false, [.d (.bool false)])], (.cons rfl .nil), rfl, [], (RetC.rd' (by (congr 1; symm; first | (apply decide_eq_false; rintro rfl; first | exact absurd rfl ‹¬ _ = _› | exact absurd rfl (of_decide_eq_false (by assumption)) | contradiction | simp_all) | (apply decide_eq_true; exact take_all hx2 (by omega) hx3))) .nil)⟩
 ·
  replace h1 := of_decide_eq_false h1
  refine T.skip ?_
  refine T.seq ?_
  refine T.seq ?_
  refine T.region ?_
  refine TL.cons rfl (Step.assign (p := (.one (.d (.int .i64 0)))) rfl rfl (lt_ok rfl) rfl) ?_
  refine TL.nil ?_
  refine T.block ?_
  refine T.loop (ι := Nat) (fun x => { tm := [(0, (.one (.d (.ints .u8 a)))), (1, (.one (.d (.ints .u8 b)))), (5, (.one (.d (.int .i64 (x : Int)))))], rows := [], boxes := [] }) (fun x => x ≤ a.length ∧ a.length = b.length ∧ a.take x = b.take x) (fun x => a.length - x) 0 ?_ ?_ ?_
  · exact Env.le_mk ⟨rfl, rfl, by first | rfl | (simp; done) | (congr 3; omega), trivial⟩ trivial trivial
  · (refine ⟨Nat.zero_le _, by omega, by simp⟩)
  ·
   intro i hx
   try dsimp only at hx ⊢
   obtain ⟨hx1, hx2, hx3⟩ := hx
   refine T.seq ?_
   refine T.seq ?_
   refine T.region ?_
   refine TL.cons rfl (Step.move (p := (.one (.d (.int .i64 (i : Int))))) rfl rfl (lt_ok rfl) rfl) ?_
   refine TL.cons rfl (Step.move (p := (.one (.d (.ints .u8 a)))) rfl rfl (lt_ok rfl) rfl) ?_
   refine TL.cons rfl (Step.len (e := 5) (z := 1) (d := (.ints .u8 a)) rfl rfl (lt_ok rfl) (by kernel_rfl) rfl rfl) ?_
   refine TL.cons rfl (Step.bin rfl rfl (lt_ok rfl) rfl rfl (Bin.lss (k := .i64) (a := (i : Int)) (b := (a.length : Int)))) ?_
   refine TL.nil ?_
   refine T.cond (b := decide ((i : Int) < (a.length : Int))) rfl (fun h2 => ?_) (fun h2 => ?_)
   ·
    replace h2 := of_decide_eq_true h2
    refine T.skip ?_
    refine T.seq ?_
    refine T.block ?_
    refine T.seq ?_
    refine T.draw [⟨17, (.one (.d (.ints .u8 a))), []⟩, ⟨18, (.one (.d (.int .i64 (i : Int)))), []⟩, ⟨19, (.one (.eptr (.ints .u8 a) i 0)), []⟩, ⟨20, (.one (.d (.int .u8 (a.getD i 0)))), []⟩, ⟨21, (.one (.d (.ints .u8 b))), []⟩, ⟨22, (.one (.d (.int .i64 (i : Int)))), []⟩, ⟨23, (.one (.eptr (.ints .u8 b) i 0)), []⟩, ⟨24, (.one (.d (.int .u8 (b.getD i 0)))), []⟩, ⟨25, (.one (.d (.bool (decide ((a.getD i 0) ≠ (b.getD i 0)))))), []⟩] (by kernel_rfl) (by kernel_rfl) ?_ ?_
    ·
     refine .cons (fun E h => by have g0 := h.get 0 (by decide); exact OpStep.plain rfl (Step.move (p := (.one (.d (.ints .u8 a)))) (t := 17) rfl rfl (by exact lt_ok rfl) (show Env.ev E (.tmp 0) = _ from g0.trans rfl))) ?_
     refine .cons (fun E h => by have g5 := h.get 5 (by decide); exact OpStep.plain rfl (Step.move (p := (.one (.d (.int .i64 (i : Int))))) (t := 18) rfl rfl (by exact lt_ok rfl) (show Env.ev E (.tmp 5) = _ from g5.trans rfl))) ?_
     refine .cons (fun E h => by have g17 := h.get 17 (by decide); have g18 := h.get 18 (by decide); exact OpStep.plain rfl (Step.index (e := 5) (z := 1) (i := (i : Int)) (t := 19) rfl rfl (by exact lt_ok rfl) (by kernel_rfl) (show Env.ev E (.tmp 17) = _ from g17.trans rfl) rfl rfl (lt_ok rfl) (show Env.ev E (.tmp 18) = _ from g18.trans rfl) (by first | omega | (simp; omega)) (by simp only [D.size]; first | omega | (simp; omega)))) ?_
     refine .cons (fun E h => by have g19 := h.get 19 (by decide); exact OpStep.plain rfl (Step.load (e := (.int .u8 (a.getD i 0))) (t := 20) rfl rfl (by exact lt_ok rfl) (by kernel_rfl) (show Env.ev E (.tmp 19) = _ from g19.trans rfl) rfl)) ?_
     refine .cons (fun E h => by have g1 := h.get 1 (by decide); exact OpStep.plain rfl (Step.move (p := (.one (.d (.ints .u8 b)))) (t := 21) rfl rfl (by exact lt_ok rfl) (show Env.ev E (.tmp 1) = _ from g1.trans rfl))) ?_
     refine .cons (fun E h => by have g5 := h.get 5 (by decide); exact OpStep.plain rfl (Step.move (p := (.one (.d (.int .i64 (i : Int))))) (t := 22) rfl rfl (by exact lt_ok rfl) (show Env.ev E (.tmp 5) = _ from g5.trans rfl))) ?_
     refine .cons (fun E h => by have g21 := h.get 21 (by decide); have g22 := h.get 22 (by decide); exact OpStep.plain rfl (Step.index (e := 5) (z := 1) (i := (i : Int)) (t := 23) rfl rfl (by exact lt_ok rfl) (by kernel_rfl) (show Env.ev E (.tmp 21) = _ from g21.trans rfl) rfl rfl (lt_ok rfl) (show Env.ev E (.tmp 22) = _ from g22.trans rfl) (by first | omega | (simp; omega)) (by simp only [D.size]; first | omega | (simp; omega)))) ?_
     refine .cons (fun E h => by have g23 := h.get 23 (by decide); exact OpStep.plain rfl (Step.load (e := (.int .u8 (b.getD i 0))) (t := 24) rfl rfl (by exact lt_ok rfl) (by kernel_rfl) (show Env.ev E (.tmp 23) = _ from g23.trans rfl) rfl)) ?_
     refine .cons (fun E h => by have g20 := h.get 20 (by decide); have g24 := h.get 24 (by decide); exact OpStep.plain rfl (Step.bin (t := 25) rfl rfl (by exact lt_ok rfl) (show Env.ev E (.tmp 20) = _ from g20.trans rfl) (show Env.ev E (.tmp 24) = _ from g24.trans rfl) (Bin.neq (k := .u8) (a := (a.getD i 0)) (b := (b.getD i 0))))) ?_
     exact .nil _ _
    refine TL.nil ?_
    refine T.cond (b := decide ((a.getD i 0) ≠ (b.getD i 0))) rfl (fun h3 => ?_) (fun h3 => ?_)
    ·
     replace h3 := of_decide_eq_true h3
     refine T.seq ?_
     refine T.region ?_
     refine TL.cons rfl (Step.assign (p := (.one (.d (.bool false)))) rfl rfl (lt_ok rfl) rfl) ?_
     refine TL.nil ?_
     refine T.ret ?_
     exact ⟨[(false, [.d (.bool false)])], (.cons rfl .nil), rfl, [], (RetC.rd' (by (congr 1; symm; first | (apply decide_eq_false; rintro rfl; first | exact absurd rfl ‹¬ _ = _› | exact absurd rfl (of_decide_eq_false (by assumption)) | contradiction | simp_all) | (apply decide_eq_true; exact take_all hx2 (by omega) hx3))) .nil)⟩
    ·
     replace h3 := of_decide_eq_false h3
     refine T.skip ?_
     refine T.region ?_
     refine TL.cons rfl (Step.move (p := (.one (.d (.int .i64 (i : Int))))) rfl rfl (lt_ok rfl) rfl) ?_
     refine TL.cons rfl (Step.bin (r := .int .i64 ((i : Int) + 1)) rfl rfl (lt_ok rfl) rfl rfl (Bin.add (a := (i : Int)) (b := 1) (by first | exact wrap_ok (by first | omega | (simp; omega)) (by first | omega | (simp; omega)) | rfl))) ?_
     refine TL.cons rfl (Step.assign (p := (.one (.d (.int .i64 ((i : Int) + 1))))) rfl rfl (lt_ok rfl) rfl) ?_
     refine TL.nil ?_
     exact ⟨i + 1, by (refine ⟨by omega, hx2, take_step (d := 0) hx2 (by omega) hx3 (by first | assumption | exact Decidable.not_not.1 (by assumption) | omega)⟩), by omega, Env.le_mk ⟨rfl, rfl, by first | rfl | (simp; done) | (congr 3; omega), trivial⟩ trivial trivial⟩
   ·
    replace h2 := of_decide_eq_false h2
    refine T.exit ?_
    refine T.seq ?_
    refine T.region ?_
    refine TL.cons rfl (Step.assign (p := (.one (.d (.bool true)))) rfl rfl (lt_ok rfl) rfl) ?_
    refine TL.nil ?_
    refine T.ret ?_
    exact ⟨[(false, [.d (.bool true)])], (.cons rfl .nil), rfl, [], (RetC.rd' (by (congr 1; symm; first | (apply decide_eq_false; rintro rfl; first | exact absurd rfl ‹¬ _ = _› | exact absurd rfl (of_decide_eq_false (by assumption)) | contradiction | simp_all) | (apply decide_eq_true; exact take_all hx2 (by omega) hx3))) .nil)⟩
theorem ok_laws_eqEntry (a : SEntry) (b : SEntry) : RO Try.prog 130 [.agg a.cells, .agg b.cells] [(false, [.rd (.bool (decide (a = b)))])] := by
 refine RO.intro Try.func130 rfl 21 rfl (le_ok rfl) fun w Z => ?_
 refine T.seq ?_
 refine T.region ?_
 refine TL.cons rfl (Step.box (p := (.agg [.d (.int .i64 a.f0), .d (.int .i64 a.f1), .d (.ints .u8 a.f2)])) (ps := [.d (.int .i64 a.f0), .d (.int .i64 a.f1), .d (.ints .u8 a.f2)]) rfl rfl (lt_ok rfl) rfl rfl rfl rfl rfl) ?_
 refine TL.cons rfl (Step.box (p := (.agg [.d (.int .i64 b.f0), .d (.int .i64 b.f1), .d (.ints .u8 b.f2)])) (ps := [.d (.int .i64 b.f0), .d (.int .i64 b.f1), .d (.ints .u8 b.f2)]) rfl rfl (lt_ok rfl) rfl rfl rfl rfl rfl) ?_
 refine TL.cons rfl (Step.assign (p := (.one (.d (.bool false)))) rfl rfl (lt_ok rfl) rfl) ?_
 refine TL.nil ?_
 refine T.seq ?_
 refine T.seq ?_
 refine T.region ?_
 refine TL.cons rfl (Step.fieldAddr (q := 0) (off := 0) (n := 1) (one := true) rfl rfl (lt_ok rfl) (by kernel_rfl) (Nat.succ_ne_zero _) rfl) ?_
 refine TL.cons rfl (Step.load_box (c := .d (.int .i64 a.f0)) rfl rfl (lt_ok rfl) (by kernel_rfl) rfl rfl rfl) ?_
 refine TL.cons rfl (Step.fieldAddr (q := 0) (off := 0) (n := 1) (one := true) rfl rfl (lt_ok rfl) (by kernel_rfl) (Nat.succ_ne_zero _) rfl) ?_
 refine TL.cons rfl (Step.load_box (c := .d (.int .i64 b.f0)) rfl rfl (lt_ok rfl) (by kernel_rfl) rfl rfl rfl) ?_
 refine TL.cons rfl (Step.bin rfl rfl (lt_ok rfl) rfl rfl (Bin.neq (k := .i64) (a := a.f0) (b := b.f0))) ?_
 refine TL.nil ?_
 refine T.cond (b := decide (a.f0 ≠ b.f0)) rfl (fun h1 => ?_) (fun h1 => ?_)
 ·
  replace h1 := of_decide_eq_true h1
  refine T.seq ?_
  refine T.region ?_
  refine TL.cons rfl (Step.assign (p := (.one (.d (.bool false)))) rfl rfl (lt_ok rfl) rfl) ?_
  refine TL.nil ?_
  refine T.ret ?_
  exact ⟨[(false, [.d (.bool false)])], (.cons rfl .nil), rfl, [], (RetC.rd' (by (congr 1; symm; first | (apply decide_eq_false; rintro rfl; first | exact absurd rfl ‹¬ _ = _› | contradiction) | (apply decide_eq_true; apply SEntry.ext <;> first | assumption | exact Decidable.not_not.1 (by assumption)))) .nil)⟩
 ·
  replace h1 := of_decide_eq_false h1
  refine T.skip ?_
  refine T.seq ?_
  refine T.seq ?_
  refine T.region ?_
  refine TL.cons rfl (Step.fieldAddr (q := 0) (off := 1) (n := 1) (one := true) rfl rfl (lt_ok rfl) (by kernel_rfl) (Nat.succ_ne_zero _) rfl) ?_
  refine TL.cons rfl (Step.load_box (c := .d (.int .i64 a.f1)) rfl rfl (lt_ok rfl) (by kernel_rfl) rfl rfl rfl) ?_
  refine TL.cons rfl (Step.fieldAddr (q := 0) (off := 1) (n := 1) (one := true) rfl rfl (lt_ok rfl) (by kernel_rfl) (Nat.succ_ne_zero _) rfl) ?_
  refine TL.cons rfl (Step.load_box (c := .d (.int .i64 b.f1)) rfl rfl (lt_ok rfl) (by kernel_rfl) rfl rfl rfl) ?_
  refine TL.cons rfl (Step.bin rfl rfl (lt_ok rfl) rfl rfl (Bin.neq (k := .i64) (a := a.f1) (b := b.f1))) ?_
  refine TL.nil ?_
  refine T.cond (b := decide (a.f1 ≠ b.f1)) rfl (fun h2 => ?_) (fun h2 => ?_)
  ·
   replace h2 := of_decide_eq_true h2
   refine T.seq ?_
   refine T.region ?_
   refine TL.cons rfl (Step.assign (p := (.one (.d (.bool false)))) rfl rfl (lt_ok rfl) rfl) ?_
   refine TL.nil ?_
   refine T.ret ?_
   exact ⟨[(false, [.d (.bool false)])], (.cons rfl .nil), rfl, [], (RetC.rd' (by (congr 1; symm; first | (apply decide_eq_false; rintro rfl; first | exact absurd rfl ‹¬ _ = _› | contradiction) | (apply decide_eq_true; apply SEntry.ext <;> first | assumption | exact Decidable.not_not.1 (by assumption)))) .nil)⟩
  ·
   replace h2 := of_decide_eq_false h2
   refine T.skip ?_
   refine T.seq ?_
   refine T.seq ?_
   refine T.region ?_
   refine TL.cons rfl (Step.fieldAddr (q := 0) (off := 2) (n := 1) (one := true) rfl rfl (lt_ok rfl) (by kernel_rfl) (Nat.succ_ne_zero _) rfl) ?_
   refine TL.cons rfl (Step.load_box (c := .d (.ints .u8 a.f2)) rfl rfl (lt_ok rfl) (by kernel_rfl) rfl rfl rfl) ?_
   refine TL.cons rfl (Step.fieldAddr (q := 0) (off := 2) (n := 1) (one := true) rfl rfl (lt_ok rfl) (by kernel_rfl) (Nat.succ_ne_zero _) rfl) ?_
   refine TL.cons rfl (Step.load_box (c := .d (.ints .u8 b.f2)) rfl rfl (lt_ok rfl) (by kernel_rfl) rfl rfl rfl) ?_
   refine TL.cons rfl (Step.call (f := 56) (xs := [.tmp 16, .tmp 18]) (ps := [(.one (.d (.ints .u8 a.f2))), (.one (.d (.ints .u8 b.f2)))]) false (g := .func 56) rfl rfl (lt_ok rfl) rfl (by kernel_rfl) rfl (.cons (.one (.d _)) (.cons (.one (.d _)) .nil)) (ok_laws_eqByteS a.f2 b.f2) (.inr rfl) rfl (by simp) rfl) ?_
   refine TL.cons rfl (Step.not (b := (decide (a.f2 = b.f2))) rfl rfl (lt_ok rfl) rfl) ?_
   refine TL.nil ?_
   refine T.cond (b := !(decide (a.f2 = b.f2))) rfl (fun h3 => ?_) (fun h3 => ?_)
   ·
    replace h3 : (decide (a.f2 = b.f2)) = false := by simpa only [Bool.not_eq_true', Bool.not_eq_false'] using h3
    replace h3 := of_decide_eq_false h3
    refine T.seq ?_
    refine T.region ?_
    refine TL.cons rfl (Step.assign (p := (.one (.d (.bool false)))) rfl rfl (lt_ok rfl) rfl) ?_
    refine TL.nil ?_
    refine T.ret ?_
    exact ⟨[(false, [.d (.bool false)])], (.cons rfl .nil), rfl, [], (RetC.rd' (by (congr 1; symm; first | (apply decide_eq_false; rintro rfl; first | exact absurd rfl ‹¬ _ = _› | contradiction) | (apply decide_eq_true; apply SEntry.ext <;> first | assumption | exact Decidable.not_not.1 (by assumption)))) .nil)⟩
   ·
    replace h3 : (decide (a.f2 = b.f2)) = true := by simpa only [Bool.not_eq_true', Bool.not_eq_false'] using h3
    replace h3 := of_decide_eq_true h3
    refine T.skip ?_
    refine T.seq ?_
    refine T.region ?_
    refine TL.cons rfl (Step.assign (p := (.one (.d (.bool true)))) rfl rfl (lt_ok rfl) rfl) ?_
    refine TL.nil ?_
    refine T.ret ?_
    exact ⟨[(false, [.d (.bool true)])], (.cons rfl .nil), rfl, [], (RetC.rd' (by (congr 1; symm; first | (apply decide_eq_false; rintro rfl; first | exact absurd rfl ‹¬ _ = _› | contradiction) | (apply decide_eq_true; apply SEntry.ext <;> first | assumption | exact Decidable.not_not.1 (by assumption)))) .nil)⟩
theorem ok_laws_eqEntryS (a : List SEntry) (b : List SEntry) : RO Try.prog 82 [.one (.sl 3 (a.map SEntry.cells)), .one (.sl 3 (b.map SEntry.cells))] [(false, [.rd (.bool (decide (a = b)))])] := by
 refine RO.intro Try.func82 rfl 27 rfl (le_ok rfl) fun w Z => ?_
 refine T.bnd 0 0 rfl rfl fun hb_0_0 => ?_
 simp only [D.size, List.length_map] at hb_0_0
 refine T.bnd 1 0 rfl rfl fun hb_1_0 => ?_
 simp only [D.size, List.length_map] at hb_1_0
 refine T.seq ?_
 refine T.region ?_
 refine TL.cons rfl (Step.assign (p := (.one (.d (.bool false)))) rfl rfl (lt_ok rfl) rfl) ?_
 refine TL.nil ?_
 refine T.seq ?_
 refine T.seq ?_
 refine T.region ?_
 refine TL.cons rfl (Step.move (p := (.one (.d (.sl 3 (a.map SEntry.cells))))) rfl rfl (lt_ok rfl) rfl) ?_
 refine TL.cons rfl (Step.len' (e := 113) (z := 3) (d := (.sl 3 (a.map SEntry.cells))) (n := a.length) rfl rfl (lt_ok rfl) (by kernel_rfl) rfl rfl (by simp [D.size])) ?_
 refine TL.cons rfl (Step.move (p := (.one (.d (.sl 3 (b.map SEntry.cells))))) rfl rfl (lt_ok rfl) rfl) ?_
 refine TL.cons rfl (Step.len' (e := 113) (z := 3) (d := (.sl 3 (b.map SEntry.cells))) (n := b.length) rfl rfl (lt_ok rfl) (by kernel_rfl) rfl rfl (by simp [D.size])) ?_
 refine TL.cons rfl (Step.bin rfl rfl (lt_ok rfl) rfl rfl (Bin.neq (k := .i64) (a := (a.length : Int)) (b := (b.length : Int)))) ?_
 refine TL.nil ?_
 refine T.cond (b := decide ((a.length : Int) ≠ (b.length : Int))) rfl (fun h1 => ?_) (fun h1 => ?_)
 ·
  replace h1 := of_decide_eq_true h1
  refine T.seq ?_
  refine T.region ?_
  refine TL.cons rfl (Step.assign (p := (.one (.d (.bool false)))) rfl rfl (lt_ok rfl) rfl) ?_
  refine TL.nil ?_
  refine T.ret ?_
  exact ⟨[(false, [.d (.bool false)])], (.cons rfl .nil), rfl, [], (RetC.rd' (by (congr 1; symm; first | (apply decide_eq_false; rintro rfl; first | exact absurd rfl ‹¬ _ = _› | exact absurd rfl (of_decide_eq_false (by assumption)) | contradiction | simp_all) | (apply decide_eq_true; exact take_all hx2 (by omega) hx3))) .nil)⟩
 ·
  replace h1 := of_decide_eq_false h1
  refine T.skip ?_
  refine T.seq ?_
  refine T.seq ?_
  refine T.region ?_
  refine TL.cons rfl (Step.assign (p := (.one (.d (.int .i64 0)))) rfl rfl (lt_ok rfl) rfl) ?_
  refine TL.nil ?_
  refine T.block ?_
  refine T.loop (ι := Nat) (fun x => { tm := [(0, (.one (.d (.sl 3 (a.map SEntry.cells))))), (1, (.one (.d (.sl 3 (b.map SEntry.cells))))), (5, (.one (.d (.int .i64 (x : Int)))))], rows := [], boxes := [] }) (fun x => x ≤ a.length ∧ a.length = b.length ∧ a.take x = b.take x) (fun x => a.length - x) 0 ?_ ?_ ?_
  · exact Env.le_mk ⟨rfl, rfl, by first | rfl | (simp; done) | (congr 3; omega), trivial⟩ trivial trivial
  · (refine ⟨Nat.zero_le _, by omega, by simp⟩)
  ·
   intro i hx
   try dsimp only at hx ⊢
   obtain ⟨hx1, hx2, hx3⟩ := hx
   refine T.seq ?_
   refine T.seq ?_
   refine T.region ?_
   refine TL.cons rfl (Step.move (p := (.one (.d (.int .i64 (i : Int))))) rfl rfl (lt_ok rfl) rfl) ?_
   refine TL.cons rfl (Step.move (p := (.one (.d (.sl 3 (a.map SEntry.cells))))) rfl rfl (lt_ok rfl) rfl) ?_
   refine TL.cons rfl (Step.len' (e := 113) (z := 3) (d := (.sl 3 (a.map SEntry.cells))) (n := a.length) rfl rfl (lt_ok rfl) (by kernel_rfl) rfl rfl (by simp [D.size])) ?_
   refine TL.cons rfl (Step.bin rfl rfl (lt_ok rfl) rfl rfl (Bin.lss (k := .i64) (a := (i : Int)) (b := (a.length : Int)))) ?_
   refine TL.nil ?_
   refine T.cond (b := decide ((i : Int) < (a.length : Int))) rfl (fun h2 => ?_) (fun h2 => ?_)
   ·
    replace h2 := of_decide_eq_true h2
    refine T.skip ?_
    refine T.seq ?_
    refine T.block ?_
    refine T.seq ?_
    refine T.draw [⟨17, (.one (.d (.sl 3 (a.map SEntry.cells)))), []⟩, ⟨18, (.one (.d (.int .i64 (i : Int)))), []⟩, ⟨19, (.one (.eptr (.sl 3 (a.map SEntry.cells)) i 0)), []⟩, ⟨20, (.agg [.d (.int .i64 (a.getD i default).f0), .d (.int .i64 (a.getD i default).f1), .d (.ints .u8 (a.getD i default).f2)]), []⟩, ⟨21, (.one (.d (.sl 3 (b.map SEntry.cells)))), []⟩, ⟨22, (.one (.d (.int .i64 (i : Int)))), []⟩, ⟨23, (.one (.eptr (.sl 3 (b.map SEntry.cells)) i 0)), []⟩, ⟨24, (.agg [.d (.int .i64 (b.getD i default).f0), .d (.int .i64 (b.getD i default).f1), .d (.ints .u8 (b.getD i default).f2)]), []⟩, ⟨25, (.one (.d (.bool (decide ((a.getD i default) = (b.getD i default)))))), []⟩, ⟨26, (.one (.d (.bool (!(decide ((a.getD i default) = (b.getD i default))))))), []⟩] (by kernel_rfl) (by kernel_rfl) ?_ ?_
    ·
     refine .cons (fun E h => by have g0 := h.get 0 (by decide); exact OpStep.plain rfl (Step.move (p := (.one (.d (.sl 3 (a.map SEntry.cells))))) (t := 17) rfl rfl (by exact lt_ok rfl) (show Env.ev E (.tmp 0) = _ from g0.trans rfl))) ?_
     refine .cons (fun E h => by have g5 := h.get 5 (by decide); exact OpStep.plain rfl (Step.move (p := (.one (.d (.int .i64 (i : Int))))) (t := 18) rfl rfl (by exact lt_ok rfl) (show Env.ev E (.tmp 5) = _ from g5.trans rfl))) ?_
     refine .cons (fun E h => by have g17 := h.get 17 (by decide); have g18 := h.get 18 (by decide); exact OpStep.plain rfl (Step.index (e := 113) (z := 3) (i := (i : Int)) (t := 19) rfl rfl (by exact lt_ok rfl) (by kernel_rfl) (show Env.ev E (.tmp 17) = _ from g17.trans rfl) rfl rfl (lt_ok rfl) (show Env.ev E (.tmp 18) = _ from g18.trans rfl) (by first | omega | (simp; omega)) (by simp only [D.size]; first | omega | (simp; omega)))) ?_
     refine .cons (fun E h => by have g19 := h.get 19 (by decide); exact OpStep.plain rfl (Step.load_agg (n := 3) (cs := [.d (.int .i64 (a.getD i default).f0), .d (.int .i64 (a.getD i default).f1), .d (.ints .u8 (a.getD i default).f2)]) (t := 20) rfl rfl (by exact lt_ok rfl) (by kernel_rfl) (show Env.ev E (.tmp 19) = _ from g19.trans rfl) rfl (by simp only [List.range, List.range.loop, List.map_cons, List.map_nil]; rw [cell_map default (by first | omega | (simp; omega)), cell_map default (by first | omega | (simp; omega)), cell_map default (by first | omega | (simp; omega))]; rfl))) ?_
     refine .cons (fun E h => by have g1 := h.get 1 (by decide); exact OpStep.plain rfl (Step.move (p := (.one (.d (.sl 3 (b.map SEntry.cells))))) (t := 21) rfl rfl (by exact lt_ok rfl) (show Env.ev E (.tmp 1) = _ from g1.trans rfl))) ?_
     refine .cons (fun E h => by have g5 := h.get 5 (by decide); exact OpStep.plain rfl (Step.move (p := (.one (.d (.int .i64 (i : Int))))) (t := 22) rfl rfl (by exact lt_ok rfl) (show Env.ev E (.tmp 5) = _ from g5.trans rfl))) ?_
     refine .cons (fun E h => by have g21 := h.get 21 (by decide); have g22 := h.get 22 (by decide); exact OpStep.plain rfl (Step.index (e := 113) (z := 3) (i := (i : Int)) (t := 23) rfl rfl (by exact lt_ok rfl) (by kernel_rfl) (show Env.ev E (.tmp 21) = _ from g21.trans rfl) rfl rfl (lt_ok rfl) (show Env.ev E (.tmp 22) = _ from g22.trans rfl) (by first | omega | (simp; omega)) (by simp only [D.size]; first | omega | (simp; omega)))) ?_
     refine .cons (fun E h => by have g23 := h.get 23 (by decide); exact OpStep.plain rfl (Step.load_agg (n := 3) (cs := [.d (.int .i64 (b.getD i default).f0), .d (.int .i64 (b.getD i default).f1), .d (.ints .u8 (b.getD i default).f2)]) (t := 24) rfl rfl (by exact lt_ok rfl) (by kernel_rfl) (show Env.ev E (.tmp 23) = _ from g23.trans rfl) rfl (by simp only [List.range, List.range.loop, List.map_cons, List.map_nil]; rw [cell_map default (by first | omega | (simp; omega)), cell_map default (by first | omega | (simp; omega)), cell_map default (by first | omega | (simp; omega))]; rfl))) ?_
     refine .cons (fun E h => by have g20 := h.get 20 (by decide); have g24 := h.get 24 (by decide); exact OpStep.plain rfl (Step.call (f := 130) (xs := [.tmp 20, .tmp 24]) (ps := [(.agg [.d (.int .i64 (a.getD i default).f0), .d (.int .i64 (a.getD i default).f1), .d (.ints .u8 (a.getD i default).f2)]), (.agg [.d (.int .i64 (b.getD i default).f0), .d (.int .i64 (b.getD i default).f1), .d (.ints .u8 (b.getD i default).f2)])]) false (g := .func 130) (t := 25) rfl rfl (by exact lt_ok rfl) rfl (by kernel_rfl) (evs_cons (show Env.ev E (.tmp 20) = _ from g20.trans rfl) (evs_cons (show Env.ev E (.tmp 24) = _ from g24.trans rfl) (rfl))) (.cons (.agg (.cons (.d _) (.cons (.d _) (.cons (.d _) .nil)))) (.cons (.agg (.cons (.d _) (.cons (.d _) (.cons (.d _) .nil)))) .nil)) (ok_laws_eqEntry (a.getD i default) (b.getD i default)) (.inr rfl) (At.freshRows h rfl) (by simp) rfl)) ?_
     refine .cons (fun E h => by have g25 := h.get 25 (by decide); exact OpStep.plain rfl (Step.not (b := (decide ((a.getD i default) = (b.getD i default)))) (t := 26) rfl rfl (by exact lt_ok rfl) (show Env.ev E (.tmp 25) = _ from g25.trans rfl))) ?_
     exact .nil _ _
    refine TL.nil ?_
    refine T.cond (b := !(decide ((a.getD i default) = (b.getD i default)))) rfl (fun h3 => ?_) (fun h3 => ?_)
    ·
     replace h3 : (decide ((a.getD i default) = (b.getD i default))) = false := by simpa only [Bool.not_eq_true', Bool.not_eq_false'] using h3
     replace h3 := of_decide_eq_false h3
     refine T.seq ?_
     refine T.region ?_
     refine TL.cons rfl (Step.assign (p := (.one (.d (.bool false)))) rfl rfl (lt_ok rfl) rfl) ?_
     refine TL.nil ?_
     refine T.ret ?_
     exact ⟨[(false, [.d (.bool false)])], (.cons rfl .nil), rfl, [], (RetC.rd' (by (congr 1; symm; first | (apply decide_eq_false; rintro rfl; first | exact absurd rfl ‹¬ _ = _› | exact absurd rfl (of_decide_eq_false (by assumption)) | contradiction | simp_all) | (apply decide_eq_true; exact take_all hx2 (by omega) hx3))) .nil)⟩
    ·
     replace h3 : (decide ((a.getD i default) = (b.getD i default))) = true := by simpa only [Bool.not_eq_true', Bool.not_eq_false'] using h3
     replace h3 := of_decide_eq_true h3
     refine T.skip ?_
     refine T.region ?_
     refine TL.cons rfl (Step.move (p := (.one (.d (.int .i64 (i : Int))))) rfl rfl (lt_ok rfl) rfl) ?_
     refine TL.cons rfl (Step.bin (r := .int .i64 ((i : Int) + 1)) rfl rfl (lt_ok rfl) rfl rfl (Bin.add (a := (i : Int)) (b := 1) (by first | exact wrap_ok (by first | omega | (simp; omega)) (by first | omega | (simp; omega)) | rfl))) ?_
     refine TL.cons rfl (Step.assign (p := (.one (.d (.int .i64 ((i : Int) + 1))))) rfl rfl (lt_ok rfl) rfl) ?_
     refine TL.nil ?_
     exact ⟨i + 1, by (refine ⟨by omega, hx2, take_step (d := default) hx2 (by omega) hx3 (by first | assumption | exact Decidable.not_not.1 (by assumption) | omega)⟩), by omega, Env.le_mk ⟨rfl, rfl, by first | rfl | (simp; done) | (congr 3; omega), trivial⟩ trivial trivial⟩
   ·
    replace h2 := of_decide_eq_false h2
    refine T.exit ?_
    refine T.seq ?_
    refine T.region ?_
    refine TL.cons rfl (Step.assign (p := (.one (.d (.bool true)))) rfl rfl (lt_ok rfl) rfl) ?_
    refine TL.nil ?_
    refine T.ret ?_
    exact ⟨[(false, [.d (.bool true)])], (.cons rfl .nil), rfl, [], (RetC.rd' (by (congr 1; symm; first | (apply decide_eq_false; rintro rfl; first | exact absurd rfl ‹¬ _ = _› | exact absurd rfl (of_decide_eq_false (by assumption)) | contradiction | simp_all) | (apply decide_eq_true; exact take_all hx2 (by omega) hx3))) .nil)⟩
theorem ok_laws_eqTc (a : STc) (b : STc) : RO Try.prog 20 [.agg a.cells, .agg b.cells] [(false, [.rd (.bool (decide (a = b)))])] := by
 refine RO.intro Try.func20 rfl 16 rfl (le_ok rfl) fun w Z => ?_
 refine T.seq ?_
 refine T.region ?_
 refine TL.cons rfl (Step.box (p := (.agg [.d (.int .i64 a.f0), .d (.sl 3 (a.f1.map SEntry.cells))])) (ps := [.d (.int .i64 a.f0), .d (.sl 3 (a.f1.map SEntry.cells))]) rfl rfl (lt_ok rfl) rfl rfl rfl rfl rfl) ?_
 refine TL.cons rfl (Step.box (p := (.agg [.d (.int .i64 b.f0), .d (.sl 3 (b.f1.map SEntry.cells))])) (ps := [.d (.int .i64 b.f0), .d (.sl 3 (b.f1.map SEntry.cells))]) rfl rfl (lt_ok rfl) rfl rfl rfl rfl rfl) ?_
 refine TL.cons rfl (Step.assign (p := (.one (.d (.bool false)))) rfl rfl (lt_ok rfl) rfl) ?_
 refine TL.nil ?_
 refine T.seq ?_
 refine T.seq ?_
 refine T.region ?_
 refine TL.cons rfl (Step.fieldAddr (q := 0) (off := 0) (n := 1) (one := true) rfl rfl (lt_ok rfl) (by kernel_rfl) (Nat.succ_ne_zero _) rfl) ?_
 refine TL.cons rfl (Step.load_box (c := .d (.int .i64 a.f0)) rfl rfl (lt_ok rfl) (by kernel_rfl) rfl rfl rfl) ?_
 refine TL.cons rfl (Step.fieldAddr (q := 0) (off := 0) (n := 1) (one := true) rfl rfl (lt_ok rfl) (by kernel_rfl) (Nat.succ_ne_zero _) rfl) ?_
 refine TL.cons rfl (Step.load_box (c := .d (.int .i64 b.f0)) rfl rfl (lt_ok rfl) (by kernel_rfl) rfl rfl rfl) ?_
 refine TL.cons rfl (Step.bin rfl rfl (lt_ok rfl) rfl rfl (Bin.neq (k := .i64) (a := a.f0) (b := b.f0))) ?_
 refine TL.nil ?_
 refine T.cond (b := decide (a.f0 ≠ b.f0)) rfl (fun h1 => ?_) (fun h1 => ?_)
 ·
  replace h1 := of_decide_eq_true h1
  refine T.seq ?_
  refine T.region ?_
  refine TL.cons rfl (Step.assign (p := (.one (.d (.bool false)))) rfl rfl (lt_ok rfl) rfl) ?_
  refine TL.nil ?_
  refine T.ret ?_
  exact ⟨[(false, [.d (.bool false)])], (.cons rfl .nil), rfl, [], (RetC.rd' (by (congr 1; symm; first | (apply decide_eq_false; rintro rfl; first | exact absurd rfl ‹¬ _ = _› | contradiction) | (apply decide_eq_true; apply STc.ext <;> first | assumption | exact Decidable.not_not.1 (by assumption)))) .nil)⟩
 ·
  replace h1 := of_decide_eq_false h1
  refine T.skip ?_
  refine T.seq ?_
  refine T.seq ?_
  refine T.region ?_
  refine TL.cons rfl (Step.fieldAddr (q := 0) (off := 1) (n := 1) (one := true) rfl rfl (lt_ok rfl) (by kernel_rfl) (Nat.succ_ne_zero _) rfl) ?_
  refine TL.cons rfl (Step.load_box (c := .d (.sl 3 (a.f1.map SEntry.cells))) rfl rfl (lt_ok rfl) (by kernel_rfl) rfl rfl rfl) ?_
  refine TL.cons rfl (Step.fieldAddr (q := 0) (off := 1) (n := 1) (one := true) rfl rfl (lt_ok rfl) (by kernel_rfl) (Nat.succ_ne_zero _) rfl) ?_
  refine TL.cons rfl (Step.load_box (c := .d (.sl 3 (b.f1.map SEntry.cells))) rfl rfl (lt_ok rfl) (by kernel_rfl) rfl rfl rfl) ?_
  refine TL.cons rfl (Step.call (f := 82) (xs := [.tmp 11, .tmp 13]) (ps := [(.one (.d (.sl 3 (a.f1.map SEntry.cells)))), (.one (.d (.sl 3 (b.f1.map SEntry.cells))))]) false (g := .func 82) rfl rfl (lt_ok rfl) rfl (by kernel_rfl) rfl (.cons (.one (.d _)) (.cons (.one (.d _)) .nil)) (ok_laws_eqEntryS a.f1 b.f1) (.inr rfl) rfl (by simp) rfl) ?_
  refine TL.cons rfl (Step.not (b := (decide (a.f1 = b.f1))) rfl rfl (lt_ok rfl) rfl) ?_
  refine TL.nil ?_
  refine T.cond (b := !(decide (a.f1 = b.f1))) rfl (fun h2 => ?_) (fun h2 => ?_)
  ·
   replace h2 : (decide (a.f1 = b.f1)) = false := by simpa only [Bool.not_eq_true', Bool.not_eq_false'] using h2
   replace h2 := of_decide_eq_false h2
   refine T.seq ?_
   refine T.region ?_
   refine TL.cons rfl (Step.assign (p := (.one (.d (.bool false)))) rfl rfl (lt_ok rfl) rfl) ?_
   refine TL.nil ?_
   refine T.ret ?_
   exact ⟨[(false, [.d (.bool false)])], (.cons rfl .nil), rfl, [], (RetC.rd' (by (congr 1; symm; first | (apply decide_eq_false; rintro rfl; first | exact absurd rfl ‹¬ _ = _› | contradiction) | (apply decide_eq_true; apply STc.ext <;> first | assumption | exact Decidable.not_not.1 (by assumption)))) .nil)⟩
  ·
   replace h2 : (decide (a.f1 = b.f1)) = true := by simpa only [Bool.not_eq_true', Bool.not_eq_false'] using h2
   replace h2 := of_decide_eq_true h2
   refine T.skip ?_
   refine T.seq ?_
   refine T.region ?_
   refine TL.cons rfl (Step.assign (p := (.one (.d (.bool true)))) rfl rfl (lt_ok rfl) rfl) ?_
   refine TL.nil ?_
   refine T.ret ?_
   exact ⟨[(false, [.d (.bool true)])], (.cons rfl .nil), rfl, [], (RetC.rd' (by (congr 1; symm; first | (apply decide_eq_false; rintro rfl; first | exact absurd rfl ‹¬ _ = _› | contradiction) | (apply decide_eq_true; apply STc.ext <;> first | assumption | exact Decidable.not_not.1 (by assumption)))) .nil)⟩
theorem ok_laws_eqByteSS (a : List (List Int)) (b : List (List Int)) : RO Try.prog 90 [.one (.bss a), .one (.bss b)] [(false, [.rd (.bool (decide (a = b)))])] := by
 refine RO.intro Try.func90 rfl 27 rfl (le_ok rfl) fun w Z => ?_
 refine T.bnd 0 0 rfl rfl fun hb_0_0 => ?_
 simp only [D.size, List.length_map] at hb_0_0
 refine T.bnd 1 0 rfl rfl fun hb_1_0 => ?_
 simp only [D.size, List.length_map] at hb_1_0
 refine T.seq ?_
 refine T.region ?_
 refine TL.cons rfl (Step.assign (p := (.one (.d (.bool false)))) rfl rfl (lt_ok rfl) rfl) ?_
 refine TL.nil ?_
 refine T.seq ?_
 refine T.seq ?_
 refine T.region ?_
 refine TL.cons rfl (Step.move (p := (.one (.d (.bss a)))) rfl rfl (lt_ok rfl) rfl) ?_
 refine TL.cons rfl (Step.len (e := 37) (z := 1) (d := (.bss a)) rfl rfl (lt_ok rfl) (by kernel_rfl) rfl rfl) ?_
 refine TL.cons rfl (Step.move (p := (.one (.d (.bss b)))) rfl rfl (lt_ok rfl) rfl) ?_
 refine TL.cons rfl (Step.len (e := 37) (z := 1) (d := (.bss b)) rfl rfl (lt_ok rfl) (by kernel_rfl) rfl rfl) ?_
 refine TL.cons rfl (Step.bin rfl rfl (lt_ok rfl) rfl rfl (Bin.neq (k := .i64) (a := (a.length : Int)) (b := (b.length : Int)))) ?_
 refine TL.nil ?_
 refine T.cond (b := decide ((a.length : Int) ≠ (b.length : Int))) rfl (fun h1 => ?_) (fun h1 => ?_)
 ·
  replace h1 := of_decide_eq_true h1
  refine T.seq ?_
  refine T.region ?_
  refine TL.cons rfl (Step.assign (p := (.one (.d (.bool false)))) rfl rfl (lt_ok rfl) rfl) ?_
  refine TL.nil ?_
  refine T.ret ?_
  exact ⟨[(false, [.d (.bool false)])], (.cons rfl .nil), rfl, [], (RetC.rd' (by (congr 1; symm; first | (apply decide_eq_false; rintro rfl; first | exact absurd rfl ‹¬ _ = _› | exact absurd rfl (of_decide_eq_false (by assumption)) | contradiction | simp_all) | (apply decide_eq_true; exact take_all hx2 (by omega) hx3))) .nil)⟩
 ·
  replace h1 := of_decide_eq_false h1
  refine T.skip ?_
  refine T.seq ?_
  refine T.seq ?_
  refine T.region ?_
  refine TL.cons rfl (Step.assign (p := (.one (.d (.int .i64 0)))) rfl rfl (lt_ok rfl) rfl) ?_
  refine TL.nil ?_
  refine T.block ?_
  refine T.loop (ι := Nat) (fun x => { tm := [(0, (.one (.d (.bss a)))), (1, (.one (.d (.bss b)))), (5, (.one (.d (.int .i64 (x : Int)))))], rows := [], boxes := [] }) (fun x => x ≤ a.length ∧ a.length = b.length ∧ a.take x = b.take x) (fun x => a.length - x) 0 ?_ ?_ ?_
  · exact Env.le_mk ⟨rfl, rfl, by first | rfl | (simp; done) | (congr 3; omega), trivial⟩ trivial trivial
  · (refine ⟨Nat.zero_le _, by omega, by simp⟩)
  ·
   intro i hx
   try dsimp only at hx ⊢
   obtain ⟨hx1, hx2, hx3⟩ := hx
   refine T.seq ?_
   refine T.seq ?_
   refine T.region ?_
   refine TL.cons rfl (Step.move (p := (.one (.d (.int .i64 (i : Int))))) rfl rfl (lt_ok rfl) rfl) ?_
   refine TL.cons rfl (Step.move (p := (.one (.d (.bss a)))) rfl rfl (lt_ok rfl) rfl) ?_
   refine TL.cons rfl (Step.len (e := 37) (z := 1) (d := (.bss a)) rfl rfl (lt_ok rfl) (by kernel_rfl) rfl rfl) ?_
   refine TL.cons rfl (Step.bin rfl rfl (lt_ok rfl) rfl rfl (Bin.lss (k := .i64) (a := (i : Int)) (b := (a.length : Int)))) ?_
   refine TL.nil ?_
   refine T.cond (b := decide ((i : Int) < (a.length : Int))) rfl (fun h2 => ?_) (fun h2 => ?_)
   ·
    replace h2 := of_decide_eq_true h2
    refine T.skip ?_
    refine T.seq ?_
    refine T.block ?_
    refine T.seq ?_
    refine T.draw [⟨17, (.one (.d (.bss a))), []⟩, ⟨18, (.one (.d (.int .i64 (i : Int)))), []⟩, ⟨19, (.one (.eptr (.bss a) i 0)), []⟩, ⟨20, (.one (.d (.ints .u8 (a.getD i [])))), []⟩, ⟨21, (.one (.d (.bss b))), []⟩, ⟨22, (.one (.d (.int .i64 (i : Int)))), []⟩, ⟨23, (.one (.eptr (.bss b) i 0)), []⟩, ⟨24, (.one (.d (.ints .u8 (b.getD i [])))), []⟩, ⟨25, (.one (.d (.bool (decide ((a.getD i []) = (b.getD i [])))))), []⟩, ⟨26, (.one (.d (.bool (!(decide ((a.getD i []) = (b.getD i []))))))), []⟩] (by kernel_rfl) (by kernel_rfl) ?_ ?_
    ·
     refine .cons (fun E h => by have g0 := h.get 0 (by decide); exact OpStep.plain rfl (Step.move (p := (.one (.d (.bss a)))) (t := 17) rfl rfl (by exact lt_ok rfl) (show Env.ev E (.tmp 0) = _ from g0.trans rfl))) ?_
     refine .cons (fun E h => by have g5 := h.get 5 (by decide); exact OpStep.plain rfl (Step.move (p := (.one (.d (.int .i64 (i : Int))))) (t := 18) rfl rfl (by exact lt_ok rfl) (show Env.ev E (.tmp 5) = _ from g5.trans rfl))) ?_
     refine .cons (fun E h => by have g17 := h.get 17 (by decide); have g18 := h.get 18 (by decide); exact OpStep.plain rfl (Step.index (e := 37) (z := 1) (i := (i : Int)) (t := 19) rfl rfl (by exact lt_ok rfl) (by kernel_rfl) (show Env.ev E (.tmp 17) = _ from g17.trans rfl) rfl rfl (lt_ok rfl) (show Env.ev E (.tmp 18) = _ from g18.trans rfl) (by first | omega | (simp; omega)) (by simp only [D.size]; first | omega | (simp; omega)))) ?_
     refine .cons (fun E h => by have g19 := h.get 19 (by decide); exact OpStep.plain rfl (Step.load (e := (.ints .u8 (a.getD i []))) (t := 20) rfl rfl (by exact lt_ok rfl) (by kernel_rfl) (show Env.ev E (.tmp 19) = _ from g19.trans rfl) rfl)) ?_
     refine .cons (fun E h => by have g1 := h.get 1 (by decide); exact OpStep.plain rfl (Step.move (p := (.one (.d (.bss b)))) (t := 21) rfl rfl (by exact lt_ok rfl) (show Env.ev E (.tmp 1) = _ from g1.trans rfl))) ?_
     refine .cons (fun E h => by have g5 := h.get 5 (by decide); exact OpStep.plain rfl (Step.move (p := (.one (.d (.int .i64 (i : Int))))) (t := 22) rfl rfl (by exact lt_ok rfl) (show Env.ev E (.tmp 5) = _ from g5.trans rfl))) ?_
     refine .cons (fun E h => by have g21 := h.get 21 (by decide); have g22 := h.get 22 (by decide); exact OpStep.plain rfl (Step.index (e := 37) (z := 1) (i := (i : Int)) (t := 23) rfl rfl (by exact lt_ok rfl) (by kernel_rfl) (show Env.ev E (.tmp 21) = _ from g21.trans rfl) rfl rfl (lt_ok rfl) (show Env.ev E (.tmp 22) = _ from g22.trans rfl) (by first | omega | (simp; omega)) (by simp only [D.size]; first | omega | (simp; omega)))) ?_
     refine .cons (fun E h => by have g23 := h.get 23 (by decide); exact OpStep.plain rfl (Step.load (e := (.ints .u8 (b.getD i []))) (t := 24) rfl rfl (by exact lt_ok rfl) (by kernel_rfl) (show Env.ev E (.tmp 23) = _ from g23.trans rfl) rfl)) ?_
     refine .cons (fun E h => by have g20 := h.get 20 (by decide); have g24 := h.get 24 (by decide); exact OpStep.plain rfl (Step.call (f := 56) (xs := [.tmp 20, .tmp 24]) (ps := [(.one (.d (.ints .u8 (a.getD i [])))), (.one (.d (.ints .u8 (b.getD i []))))]) false (g := .func 56) (t := 25) rfl rfl (by exact lt_ok rfl) rfl (by kernel_rfl) (evs_cons (show Env.ev E (.tmp 20) = _ from g20.trans rfl) (evs_cons (show Env.ev E (.tmp 24) = _ from g24.trans rfl) (rfl))) (.cons (.one (.d _)) (.cons (.one (.d _)) .nil)) (ok_laws_eqByteS (a.getD i []) (b.getD i [])) (.inr rfl) (At.freshRows h rfl) (by simp) rfl)) ?_
     refine .cons (fun E h => by have g25 := h.get 25 (by decide); exact OpStep.plain rfl (Step.not (b := (decide ((a.getD i []) = (b.getD i [])))) (t := 26) rfl rfl (by exact lt_ok rfl) (show Env.ev E (.tmp 25) = _ from g25.trans rfl))) ?_
     exact .nil _ _
    refine TL.nil ?_
    refine T.cond (b := !(decide ((a.getD i []) = (b.getD i [])))) rfl (fun h3 => ?_) (fun h3 => ?_)
    ·
     replace h3 : (decide ((a.getD i []) = (b.getD i []))) = false := by simpa only [Bool.not_eq_true', Bool.not_eq_false'] using h3
     replace h3 := of_decide_eq_false h3
     refine T.seq ?_
     refine T.region ?_
     refine TL.cons rfl (Step.assign (p := (.one (.d (.bool false)))) rfl rfl (lt_ok rfl) rfl) ?_
     refine TL.nil ?_
     refine T.ret ?_
     exact ⟨[(false, [.d (.bool false)])], (.cons rfl .nil), rfl, [], (RetC.rd' (by (congr 1; symm; first | (apply decide_eq_false; rintro rfl; first | exact absurd rfl ‹¬ _ = _› | exact absurd rfl (of_decide_eq_false (by assumption)) | contradiction | simp_all) | (apply decide_eq_true; exact take_all hx2 (by omega) hx3))) .nil)⟩
    ·
     replace h3 : (decide ((a.getD i []) = (b.getD i []))) = true := by simpa only [Bool.not_eq_true', Bool.not_eq_false'] using h3
     replace h3 := of_decide_eq_true h3
     refine T.skip ?_
     refine T.region ?_
     refine TL.cons rfl (Step.move (p := (.one (.d (.int .i64 (i : Int))))) rfl rfl (lt_ok rfl) rfl) ?_
     refine TL.cons rfl (Step.bin (r := .int .i64 ((i : Int) + 1)) rfl rfl (lt_ok rfl) rfl rfl (Bin.add (a := (i : Int)) (b := 1) (by first | exact wrap_ok (by first | omega | (simp; omega)) (by first | omega | (simp; omega)) | rfl))) ?_
     refine TL.cons rfl (Step.assign (p := (.one (.d (.int .i64 ((i : Int) + 1))))) rfl rfl (lt_ok rfl) rfl) ?_
     refine TL.nil ?_
     exact ⟨i + 1, by (refine ⟨by omega, hx2, take_step (d := []) hx2 (by omega) hx3 (by first | assumption | exact Decidable.not_not.1 (by assumption) | omega)⟩), by omega, Env.le_mk ⟨rfl, rfl, by first | rfl | (simp; done) | (congr 3; omega), trivial⟩ trivial trivial⟩
   ·
    replace h2 := of_decide_eq_false h2
    refine T.exit ?_
    refine T.seq ?_
    refine T.region ?_
    refine TL.cons rfl (Step.assign (p := (.one (.d (.bool true)))) rfl rfl (lt_ok rfl) rfl) ?_
    refine TL.nil ?_
    refine T.ret ?_
    exact ⟨[(false, [.d (.bool true)])], (.cons rfl .nil), rfl, [], (RetC.rd' (by (congr 1; symm; first | (apply decide_eq_false; rintro rfl; first | exact absurd rfl ‹¬ _ = _› | exact absurd rfl (of_decide_eq_false (by assumption)) | contradiction | simp_all) | (apply decide_eq_true; exact take_all hx2 (by omega) hx3))) .nil)⟩
theorem ok_laws_eqIncl (a : SIncl) (b : SIncl) : RO Try.prog 25 [.agg a.cells, .agg b.cells] [(false, [.rd (.bool (decide (a = b)))])] := by
 refine RO.intro Try.func25 rfl 32 rfl (le_ok rfl) fun w Z => ?_
 refine T.seq ?_
 refine T.region ?_
 refine TL.cons rfl (Step.box (p := (.agg [.d (.int .i64 a.f0), .d (.int .i64 a.f1), .d (.int .i64 a.f2), .d (.ints .u8 a.f3), .d (.bss a.f4)])) (ps := [.d (.int .i64 a.f0), .d (.int .i64 a.f1), .d (.int .i64 a.f2), .d (.ints .u8 a.f3), .d (.bss a.f4)]) rfl rfl (lt_ok rfl) rfl rfl rfl rfl rfl) ?_
 refine TL.cons rfl (Step.box (p := (.agg [.d (.int .i64 b.f0), .d (.int .i64 b.f1), .d (.int .i64 b.f2), .d (.ints .u8 b.f3), .d (.bss b.f4)])) (ps := [.d (.int .i64 b.f0), .d (.int .i64 b.f1), .d (.int .i64 b.f2), .d (.ints .u8 b.f3), .d (.bss b.f4)]) rfl rfl (lt_ok rfl) rfl rfl rfl rfl rfl) ?_
 refine TL.cons rfl (Step.assign (p := (.one (.d (.bool false)))) rfl rfl (lt_ok rfl) rfl) ?_
 refine TL.nil ?_
 refine T.seq ?_
 refine T.seq ?_
 refine T.region ?_
 refine TL.cons rfl (Step.fieldAddr (q := 0) (off := 0) (n := 1) (one := true) rfl rfl (lt_ok rfl) (by kernel_rfl) (Nat.succ_ne_zero _) rfl) ?_
 refine TL.cons rfl (Step.load_box (c := .d (.int .i64 a.f0)) rfl rfl (lt_ok rfl) (by kernel_rfl) rfl rfl rfl) ?_
 refine TL.cons rfl (Step.fieldAddr (q := 0) (off := 0) (n := 1) (one := true) rfl rfl (lt_ok rfl) (by kernel_rfl) (Nat.succ_ne_zero _) rfl) ?_
 refine TL.cons rfl (Step.load_box (c := .d (.int .i64 b.f0)) rfl rfl (lt_ok rfl) (by kernel_rfl) rfl rfl rfl) ?_
 refine TL.cons rfl (Step.bin rfl rfl (lt_ok rfl) rfl rfl (Bin.neq (k := .i64) (a := a.f0) (b := b.f0))) ?_
 refine TL.nil ?_
 refine T.cond (b := decide (a.f0 ≠ b.f0)) rfl (fun h1 => ?_) (fun h1 => ?_)
 ·
  replace h1 := of_decide_eq_true h1
  refine T.seq ?_
  refine T.region ?_
  refine TL.cons rfl (Step.assign (p := (.one (.d (.bool false)))) rfl rfl (lt_ok rfl) rfl) ?_
  refine TL.nil ?_
  refine T.ret ?_
  exact ⟨[(false, [.d (.bool false)])], (.cons rfl .nil), rfl, [], (RetC.rd' (by (congr 1; symm; first | (apply decide_eq_false; rintro rfl; first | exact absurd rfl ‹¬ _ = _› | contradiction) | (apply decide_eq_true; apply SIncl.ext <;> first | assumption | exact Decidable.not_not.1 (by assumption)))) .nil)⟩
 ·
  replace h1 := of_decide_eq_false h1
  refine T.skip ?_
  refine T.seq ?_
  refine T.seq ?_
  refine T.region ?_
  refine TL.cons rfl (Step.fieldAddr (q := 0) (off := 1) (n := 1) (one := true) rfl rfl (lt_ok rfl) (by kernel_rfl) (Nat.succ_ne_zero _) rfl) ?_
  refine TL.cons rfl (Step.load_box (c := .d (.int .i64 a.f1)) rfl rfl (lt_ok rfl) (by kernel_rfl) rfl rfl rfl) ?_
  refine TL.cons rfl (Step.fieldAddr (q := 0) (off := 1) (n := 1) (one := true) rfl rfl (lt_ok rfl) (by kernel_rfl) (Nat.succ_ne_zero _) rfl) ?_
  refine TL.cons rfl (Step.load_box (c := .d (.int .i64 b.f1)) rfl rfl (lt_ok rfl) (by kernel_rfl) rfl rfl rfl) ?_
  refine TL.cons rfl (Step.bin rfl rfl (lt_ok rfl) rfl rfl (Bin.neq (k := .i64) (a := a.f1) (b := b.f1))) ?_
  refine TL.nil ?_
  refine T.cond (b := decide (a.f1 ≠ b.f1)) rfl (fun h2 => ?_) (fun h2 => ?_)
  ·
   replace h2 := of_decide_eq_true h2
   refine T.seq ?_
   refine T.region ?_
   refine TL.cons rfl (Step.assign (p := (.one (.d (.bool false)))) rfl rfl (lt_ok rfl) rfl) ?_
   refine TL.nil ?_
   refine T.ret ?_
   exact ⟨[(false, [.d (.bool false)])], (.cons rfl .nil), rfl, [], (RetC.rd' (by (congr 1; symm; first | (apply decide_eq_false; rintro rfl; first | exact absurd rfl ‹¬ _ = _› | contradiction) | (apply decide_eq_true; apply SIncl.ext <;> first | assumption | exact Decidable.not_not.1 (by assumption)))) .nil)⟩
  ·
   replace h2 := of_decide_eq_false h2
   refine T.skip ?_
   refine T.seq ?_
   refine T.seq ?_
   refine T.region ?_
   refine TL.cons rfl (Step.fieldAddr (q := 0) (off := 2) (n := 1) (one := true) rfl rfl (lt_ok rfl) (by kernel_rfl) (Nat.succ_ne_zero _) rfl) ?_
   refine TL.cons rfl (Step.load_box (c := .d (.int .i64 a.f2)) rfl rfl (lt_ok rfl) (by kernel_rfl) rfl rfl rfl) ?_
   refine TL.cons rfl (Step.fieldAddr (q := 0) (off := 2) (n := 1) (one := true) rfl rfl (lt_ok rfl) (by kernel_rfl) (Nat.succ_ne_zero _) rfl) ?_
   refine TL.cons rfl (Step.load_box (c := .d (.int .i64 b.f2)) rfl rfl (lt_ok rfl) (by kernel_rfl) rfl rfl rfl) ?_
   refine TL.cons rfl (Step.bin rfl rfl (lt_ok rfl) rfl rfl (Bin.neq (k := .i64) (a := a.f2) (b := b.f2))) ?_
   refine TL.nil ?_
   refine T.cond (b := decide (a.f2 ≠ b.f2)) rfl (fun h3 => ?_) (fun h3 => ?_)
   ·
    replace h3 := of_decide_eq_true h3
    refine T.seq ?_
    refine T.region ?_
    refine TL.cons rfl (Step.assign (p := (.one (.d (.bool false)))) rfl rfl (lt_ok rfl) rfl) ?_
    refine TL.nil ?_
    refine T.ret ?_
    exact ⟨[(false, [.d (.bool false)])], (.cons rfl .nil), rfl, [], (RetC.rd' (by (congr 1; symm; first | (apply decide_eq_false; rintro rfl; first | exact absurd rfl ‹¬ _ = _› | contradiction) | (apply decide_eq_true; apply SIncl.ext <;> first | assumption | exact Decidable.not_not.1 (by assumption)))) .nil)⟩
   ·
    replace h3 := of_decide_eq_false h3
    refine T.skip ?_
    refine T.seq ?_
    refine T.seq ?_
    refine T.region ?_
    refine TL.cons rfl (Step.fieldAddr (q := 0) (off := 3) (n := 1) (one := true) rfl rfl (lt_ok rfl) (by kernel_rfl) (Nat.succ_ne_zero _) rfl) ?_
    refine TL.cons rfl (Step.load_box (c := .d (.ints .u8 a.f3)) rfl rfl (lt_ok rfl) (by kernel_rfl) rfl rfl rfl) ?_
    refine TL.cons rfl (Step.fieldAddr (q := 0) (off := 3) (n := 1) (one := true) rfl rfl (lt_ok rfl) (by kernel_rfl) (Nat.succ_ne_zero _) rfl) ?_
    refine TL.cons rfl (Step.load_box (c := .d (.ints .u8 b.f3)) rfl rfl (lt_ok rfl) (by kernel_rfl) rfl rfl rfl) ?_
    refine TL.cons rfl (Step.call (f := 56) (xs := [.tmp 21, .tmp 23]) (ps := [(.one (.d (.ints .u8 a.f3))), (.one (.d (.ints .u8 b.f3)))]) false (g := .func 56) rfl rfl (lt_ok rfl) rfl (by kernel_rfl) rfl (.cons (.one (.d _)) (.cons (.one (.d _)) .nil)) (ok_laws_eqByteS a.f3 b.f3) (.inr rfl) rfl (by simp) rfl) ?_
    refine TL.cons rfl (Step.not (b := (decide (a.f3 = b.f3))) rfl rfl (lt_ok rfl) rfl) ?_
    refine TL.nil ?_
    refine T.cond (b := !(decide (a.f3 = b.f3))) rfl (fun h4 => ?_) (fun h4 => ?_)
    ·
     replace h4 : (decide (a.f3 = b.f3)) = false := by simpa only [Bool.not_eq_true', Bool.not_eq_false'] using h4
     replace h4 := of_decide_eq_false h4
     refine T.seq ?_
     refine T.region ?_
     refine TL.cons rfl (Step.assign (p := (.one (.d (.bool false)))) rfl rfl (lt_ok rfl) rfl) ?_
     refine TL.nil ?_
     refine T.ret ?_
     exact ⟨[(false, [.d (.bool false)])], (.cons rfl .nil), rfl, [], (RetC.rd' (by (congr 1; symm; first | (apply decide_eq_false; rintro rfl; first | exact absurd rfl ‹¬ _ = _› | contradiction) | (apply decide_eq_true; apply SIncl.ext <;> first | assumption | exact Decidable.not_not.1 (by assumption)))) .nil)⟩
    ·
     replace h4 : (decide (a.f3 = b.f3)) = true := by simpa only [Bool.not_eq_true', Bool.not_eq_false'] using h4
     replace h4 := of_decide_eq_true h4
     refine T.skip ?_
     refine T.seq ?_
     refine T.seq ?_
     refine T.region ?_
     refine TL.cons rfl (Step.fieldAddr (q := 0) (off := 4) (n := 1) (one := true) rfl rfl (lt_ok rfl) (by kernel_rfl) (Nat.succ_ne_zero _) rfl) ?_
     refine TL.cons rfl (Step.load_box (c := .d (.bss a.f4)) rfl rfl (lt_ok rfl) (by kernel_rfl) rfl rfl rfl) ?_
     refine TL.cons rfl (Step.fieldAddr (q := 0) (off := 4) (n := 1) (one := true) rfl rfl (lt_ok rfl) (by kernel_rfl) (Nat.succ_ne_zero _) rfl) ?_
     refine TL.cons rfl (Step.load_box (c := .d (.bss b.f4)) rfl rfl (lt_ok rfl) (by kernel_rfl) rfl rfl rfl) ?_
     refine TL.cons rfl (Step.call (f := 90) (xs := [.tmp 27, .tmp 29]) (ps := [(.one (.d (.bss a.f4))), (.one (.d (.bss b.f4)))]) false (g := .func 90) rfl rfl (lt_ok rfl) rfl (by kernel_rfl) rfl (.cons (.one (.d _)) (.cons (.one (.d _)) .nil)) (ok_laws_eqByteSS a.f4 b.f4) (.inr rfl) rfl (by simp) rfl) ?_
     refine TL.cons rfl (Step.not (b := (decide (a.f4 = b.f4))) rfl rfl (lt_ok rfl) rfl) ?_
     refine TL.nil ?_
     refine T.cond (b := !(decide (a.f4 = b.f4))) rfl (fun h5 => ?_) (fun h5 => ?_)
     ·
      replace h5 : (decide (a.f4 = b.f4)) = false := by simpa only [Bool.not_eq_true', Bool.not_eq_false'] using h5
      replace h5 := of_decide_eq_false h5
      refine T.seq ?_
      refine T.region ?_
      refine TL.cons rfl (Step.assign (p := (.one (.d (.bool false)))) rfl rfl (lt_ok rfl) rfl) ?_
      refine TL.nil ?_
      refine T.ret ?_
      exact ⟨[(false, [.d (.bool false)])], (.cons rfl .nil), rfl, [], (RetC.rd' (by (congr 1; symm; first | (apply decide_eq_false; rintro rfl; first | exact absurd rfl ‹¬ _ = _› | contradiction) | (apply decide_eq_true; apply SIncl.ext <;> first | assumption | exact Decidable.not_not.1 (by assumption)))) .nil)⟩
     ·
      replace h5 : (decide (a.f4 = b.f4)) = true := by simpa only [Bool.not_eq_true', Bool.not_eq_false'] using h5
      replace h5 := of_decide_eq_true h5
      refine T.skip ?_
      refine T.seq ?_
      refine T.region ?_
      refine TL.cons rfl (Step.assign (p := (.one (.d (.bool true)))) rfl rfl (lt_ok rfl) rfl) ?_
      refine TL.nil ?_
      refine T.ret ?_
      exact ⟨[(false, [.d (.bool true)])], (.cons rfl .nil), rfl, [], (RetC.rd' (by (congr 1; symm; first | (apply decide_eq_false; rintro rfl; first | exact absurd rfl ‹¬ _ = _› | contradiction) | (apply decide_eq_true; apply SIncl.ext <;> first | assumption | exact Decidable.not_not.1 (by assumption)))) .nil)⟩
theorem ok_laws_eqQc (a : SQc) (b : SQc) : RO Try.prog 35 [.agg a.cells, .agg b.cells] [(false, [.rd (.bool (decide (a = b)))])] := by
 refine RO.intro Try.func35 rfl 33 rfl (le_ok rfl) fun w Z => ?_
 refine T.seq ?_
 refine T.region ?_
 refine TL.cons rfl (Step.box (p := (.agg [.d (.int .i64 a.f0), .d (.int .i64 a.f1), .d (.ints .u8 a.f2), .d (.ints .u8 a.f3), .d (.bss a.f4)])) (ps := [.d (.int .i64 a.f0), .d (.int .i64 a.f1), .d (.ints .u8 a.f2), .d (.ints .u8 a.f3), .d (.bss a.f4)]) rfl rfl (lt_ok rfl) rfl rfl rfl rfl rfl) ?_
 refine TL.cons rfl (Step.box (p := (.agg [.d (.int .i64 b.f0), .d (.int .i64 b.f1), .d (.ints .u8 b.f2), .d (.ints .u8 b.f3), .d (.bss b.f4)])) (ps := [.d (.int .i64 b.f0), .d (.int .i64 b.f1), .d (.ints .u8 b.f2), .d (.ints .u8 b.f3), .d (.bss b.f4)]) rfl rfl (lt_ok rfl) rfl rfl rfl rfl rfl) ?_
 refine TL.cons rfl (Step.assign (p := (.one (.d (.bool false)))) rfl rfl (lt_ok rfl) rfl) ?_
 refine TL.nil ?_
 refine T.seq ?_
 refine T.seq ?_
 refine T.region ?_
 refine TL.cons rfl (Step.fieldAddr (q := 0) (off := 0) (n := 1) (one := true) rfl rfl (lt_ok rfl) (by kernel_rfl) (Nat.succ_ne_zero _) rfl) ?_
 refine TL.cons rfl (Step.load_box (c := .d (.int .i64 a.f0)) rfl rfl (lt_ok rfl) (by kernel_rfl) rfl rfl rfl) ?_
 refine TL.cons rfl (Step.fieldAddr (q := 0) (off := 0) (n := 1) (one := true) rfl rfl (lt_ok rfl) (by kernel_rfl) (Nat.succ_ne_zero _) rfl) ?_
 refine TL.cons rfl (Step.load_box (c := .d (.int .i64 b.f0)) rfl rfl (lt_ok rfl) (by kernel_rfl) rfl rfl rfl) ?_
 refine TL.cons rfl (Step.bin rfl rfl (lt_ok rfl) rfl rfl (Bin.neq (k := .i64) (a := a.f0) (b := b.f0))) ?_
 refine TL.nil ?_
 refine T.cond (b := decide (a.f0 ≠ b.f0)) rfl (fun h1 => ?_) (fun h1 => ?_)
 ·
  replace h1 := of_decide_eq_true h1
  refine T.seq ?_
  refine T.region ?_
  refine TL.cons rfl (Step.assign (p := (.one (.d (.bool false)))) rfl rfl (lt_ok rfl) rfl) ?_
  refine TL.nil ?_
  refine T.ret ?_
  exact ⟨[(false, [.d (.bool false)])], (.cons rfl .nil), rfl, [], (RetC.rd' (by (congr 1; symm; first | (apply decide_eq_false; rintro rfl; first | exact absurd rfl ‹¬ _ = _› | contradiction) | (apply decide_eq_true; apply SQc.ext <;> first | assumption | exact Decidable.not_not.1 (by assumption)))) .nil)⟩
 ·
  replace h1 := of_decide_eq_false h1
  refine T.skip ?_
  refine T.seq ?_
  refine T.seq ?_
  refine T.region ?_
  refine TL.cons rfl (Step.fieldAddr (q := 0) (off := 1) (n := 1) (one := true) rfl rfl (lt_ok rfl) (by kernel_rfl) (Nat.succ_ne_zero _) rfl) ?_
  refine TL.cons rfl (Step.load_box (c := .d (.int .i64 a.f1)) rfl rfl (lt_ok rfl) (by kernel_rfl) rfl rfl rfl) ?_
  refine TL.cons rfl (Step.fieldAddr (q := 0) (off := 1) (n := 1) (one := true) rfl rfl (lt_ok rfl) (by kernel_rfl) (Nat.succ_ne_zero _) rfl) ?_
  refine TL.cons rfl (Step.load_box (c := .d (.int .i64 b.f1)) rfl rfl (lt_ok rfl) (by kernel_rfl) rfl rfl rfl) ?_
  refine TL.cons rfl (Step.bin rfl rfl (lt_ok rfl) rfl rfl (Bin.neq (k := .i64) (a := a.f1) (b := b.f1))) ?_
  refine TL.nil ?_
  refine T.cond (b := decide (a.f1 ≠ b.f1)) rfl (fun h2 => ?_) (fun h2 => ?_)
  ·
   replace h2 := of_decide_eq_true h2
   refine T.seq ?_
   refine T.region ?_
   refine TL.cons rfl (Step.assign (p := (.one (.d (.bool false)))) rfl rfl (lt_ok rfl) rfl) ?_
   refine TL.nil ?_
   refine T.ret ?_
   exact ⟨[(false, [.d (.bool false)])], (.cons rfl .nil), rfl, [], (RetC.rd' (by (congr 1; symm; first | (apply decide_eq_false; rintro rfl; first | exact absurd rfl ‹¬ _ = _› | contradiction) | (apply decide_eq_true; apply SQc.ext <;> first | assumption | exact Decidable.not_not.1 (by assumption)))) .nil)⟩
  ·
   replace h2 := of_decide_eq_false h2
   refine T.skip ?_
   refine T.seq ?_
   refine T.seq ?_
   refine T.region ?_
   refine TL.cons rfl (Step.fieldAddr (q := 0) (off := 2) (n := 1) (one := true) rfl rfl (lt_ok rfl) (by kernel_rfl) (Nat.succ_ne_zero _) rfl) ?_
   refine TL.cons rfl (Step.load_box (c := .d (.ints .u8 a.f2)) rfl rfl (lt_ok rfl) (by kernel_rfl) rfl rfl rfl) ?_
   refine TL.cons rfl (Step.fieldAddr (q := 0) (off := 2) (n := 1) (one := true) rfl rfl (lt_ok rfl) (by kernel_rfl) (Nat.succ_ne_zero _) rfl) ?_
   refine TL.cons rfl (Step.load_box (c := .d (.ints .u8 b.f2)) rfl rfl (lt_ok rfl) (by kernel_rfl) rfl rfl rfl) ?_
   refine TL.cons rfl (Step.call (f := 56) (xs := [.tmp 16, .tmp 18]) (ps := [(.one (.d (.ints .u8 a.f2))), (.one (.d (.ints .u8 b.f2)))]) false (g := .func 56) rfl rfl (lt_ok rfl) rfl (by kernel_rfl) rfl (.cons (.one (.d _)) (.cons (.one (.d _)) .nil)) (ok_laws_eqByteS a.f2 b.f2) (.inr rfl) rfl (by simp) rfl) ?_
   refine TL.cons rfl (Step.not (b := (decide (a.f2 = b.f2))) rfl rfl (lt_ok rfl) rfl) ?_
   refine TL.nil ?_
   refine T.cond (b := !(decide (a.f2 = b.f2))) rfl (fun h3 => ?_) (fun h3 => ?_)
   ·
    replace h3 : (decide (a.f2 = b.f2)) = false := by simpa only [Bool.not_eq_true', Bool.not_eq_false'] using h3
    replace h3 := of_decide_eq_false h3
    refine T.seq ?_
    refine T.region ?_
    refine TL.cons rfl (Step.assign (p := (.one (.d (.bool false)))) rfl rfl (lt_ok rfl) rfl) ?_
    refine TL.nil ?_
    refine T.ret ?_
    exact ⟨[(false, [.d (.bool false)])], (.cons rfl .nil), rfl, [], (RetC.rd' (by (congr 1; symm; first | (apply decide_eq_false; rintro rfl; first | exact absurd rfl ‹¬ _ = _› | contradiction) | (apply decide_eq_true; apply SQc.ext <;> first | assumption | exact Decidable.not_not.1 (by assumption)))) .nil)⟩
   ·
    replace h3 : (decide (a.f2 = b.f2)) = true := by simpa only [Bool.not_eq_true', Bool.not_eq_false'] using h3
    replace h3 := of_decide_eq_true h3
    refine T.skip ?_
    refine T.seq ?_
    refine T.seq ?_
    refine T.region ?_
    refine TL.cons rfl (Step.fieldAddr (q := 0) (off := 3) (n := 1) (one := true) rfl rfl (lt_ok rfl) (by kernel_rfl) (Nat.succ_ne_zero _) rfl) ?_
    refine TL.cons rfl (Step.load_box (c := .d (.ints .u8 a.f3)) rfl rfl (lt_ok rfl) (by kernel_rfl) rfl rfl rfl) ?_
    refine TL.cons rfl (Step.fieldAddr (q := 0) (off := 3) (n := 1) (one := true) rfl rfl (lt_ok rfl) (by kernel_rfl) (Nat.succ_ne_zero _) rfl) ?_
    refine TL.cons rfl (Step.load_box (c := .d (.ints .u8 b.f3)) rfl rfl (lt_ok rfl) (by kernel_rfl) rfl rfl rfl) ?_
    refine TL.cons rfl (Step.call (f := 56) (xs := [.tmp 22, .tmp 24]) (ps := [(.one (.d (.ints .u8 a.f3))), (.one (.d (.ints .u8 b.f3)))]) false (g := .func 56) rfl rfl (lt_ok rfl) rfl (by kernel_rfl) rfl (.cons (.one (.d _)) (.cons (.one (.d _)) .nil)) (ok_laws_eqByteS a.f3 b.f3) (.inr rfl) rfl (by simp) rfl) ?_
    refine TL.cons rfl (Step.not (b := (decide (a.f3 = b.f3))) rfl rfl (lt_ok rfl) rfl) ?_
    refine TL.nil ?_
    refine T.cond (b := !(decide (a.f3 = b.f3))) rfl (fun h4 => ?_) (fun h4 => ?_)
    ·
     replace h4 : (decide (a.f3 = b.f3)) = false := by simpa only [Bool.not_eq_true', Bool.not_eq_false'] using h4
     replace h4 := of_decide_eq_false h4
     refine T.seq ?_
     refine T.region ?_
     refine TL.cons rfl (Step.assign (p := (.one (.d (.bool false)))) rfl rfl (lt_ok rfl) rfl) ?_
     refine TL.nil ?_
     refine T.ret ?_
     exact ⟨[(false, [.d (.bool false)])], (.cons rfl .nil), rfl, [], (RetC.rd' (by (congr 1; symm; first | (apply decide_eq_false; rintro rfl; first | exact absurd rfl ‹¬ _ = _› | contradiction) | (apply decide_eq_true; apply SQc.ext <;> first | assumption | exact Decidable.not_not.1 (by assumption)))) .nil)⟩
    ·
     replace h4 : (decide (a.f3 = b.f3)) = true := by simpa only [Bool.not_eq_true', Bool.not_eq_false'] using h4
     replace h4 := of_decide_eq_true h4
     refine T.skip ?_
     refine T.seq ?_
     refine T.seq ?_
     refine T.region ?_
     refine TL.cons rfl (Step.fieldAddr (q := 0) (off := 4) (n := 1) (one := true) rfl rfl (lt_ok rfl) (by kernel_rfl) (Nat.succ_ne_zero _) rfl) ?_
     refine TL.cons rfl (Step.load_box (c := .d (.bss a.f4)) rfl rfl (lt_ok rfl) (by kernel_rfl) rfl rfl rfl) ?_
     refine TL.cons rfl (Step.fieldAddr (q := 0) (off := 4) (n := 1) (one := true) rfl rfl (lt_ok rfl) (by kernel_rfl) (Nat.succ_ne_zero _) rfl) ?_
     refine TL.cons rfl (Step.load_box (c := .d (.bss b.f4)) rfl rfl (lt_ok rfl) (by kernel_rfl) rfl rfl rfl) ?_
     refine TL.cons rfl (Step.call (f := 90) (xs := [.tmp 28, .tmp 30]) (ps := [(.one (.d (.bss a.f4))), (.one (.d (.bss b.f4)))]) false (g := .func 90) rfl rfl (lt_ok rfl) rfl (by kernel_rfl) rfl (.cons (.one (.d _)) (.cons (.one (.d _)) .nil)) (ok_laws_eqByteSS a.f4 b.f4) (.inr rfl) rfl (by simp) rfl) ?_
     refine TL.cons rfl (Step.not (b := (decide (a.f4 = b.f4))) rfl rfl (lt_ok rfl) rfl) ?_
     refine TL.nil ?_
     refine T.cond (b := !(decide (a.f4 = b.f4))) rfl (fun h5 => ?_) (fun h5 => ?_)
     ·
      replace h5 : (decide (a.f4 = b.f4)) = false := by simpa only [Bool.not_eq_true', Bool.not_eq_false'] using h5
      replace h5 := of_decide_eq_false h5
      refine T.seq ?_
      refine T.region ?_
      refine TL.cons rfl (Step.assign (p := (.one (.d (.bool false)))) rfl rfl (lt_ok rfl) rfl) ?_
      refine TL.nil ?_
      refine T.ret ?_
      exact ⟨[(false, [.d (.bool false)])], (.cons rfl .nil), rfl, [], (RetC.rd' (by (congr 1; symm; first | (apply decide_eq_false; rintro rfl; first | exact absurd rfl ‹¬ _ = _› | contradiction) | (apply decide_eq_true; apply SQc.ext <;> first | assumption | exact Decidable.not_not.1 (by assumption)))) .nil)⟩
     ·
      replace h5 : (decide (a.f4 = b.f4)) = true := by simpa only [Bool.not_eq_true', Bool.not_eq_false'] using h5
      replace h5 := of_decide_eq_true h5
      refine T.skip ?_
      refine T.seq ?_
      refine T.region ?_
      refine TL.cons rfl (Step.assign (p := (.one (.d (.bool true)))) rfl rfl (lt_ok rfl) rfl) ?_
      refine TL.nil ?_
      refine T.ret ?_
      exact ⟨[(false, [.d (.bool true)])], (.cons rfl .nil), rfl, [], (RetC.rd' (by (congr 1; symm; first | (apply decide_eq_false; rintro rfl; first | exact absurd rfl ‹¬ _ = _› | contradiction) | (apply decide_eq_true; apply SQc.ext <;> first | assumption | exact Decidable.not_not.1 (by assumption)))) .nil)⟩
theorem ok_laws_eqHead (a : SHead) (b : SHead) : RO Try.prog 30 [.agg a.cells, .agg b.cells] [(false, [.rd (.bool (decide (a = b)))])] := by
 refine RO.intro Try.func30 rfl 38 rfl (le_ok rfl) fun w Z => ?_
 refine T.seq ?_
 refine T.region ?_
 refine TL.cons rfl (Step.box (p := (.agg [.d (.int .i64 a.f0), .d (.int .i64 a.f1), .d (.int .i64 a.f2), .d (.ints .u8 a.f3), .d (.ints .u8 a.f4), .d (.int .i64 a.f5.f0), .d (.int .i64 a.f5.f1), .d (.ints .u8 a.f5.f2), .d (.ints .u8 a.f5.f3), .d (.bss a.f5.f4)])) (ps := [.d (.int .i64 a.f0), .d (.int .i64 a.f1), .d (.int .i64 a.f2), .d (.ints .u8 a.f3), .d (.ints .u8 a.f4), .d (.int .i64 a.f5.f0), .d (.int .i64 a.f5.f1), .d (.ints .u8 a.f5.f2), .d (.ints .u8 a.f5.f3), .d (.bss a.f5.f4)]) rfl rfl (lt_ok rfl) rfl rfl rfl rfl rfl) ?_
 refine TL.cons rfl (Step.box (p := (.agg [.d (.int .i64 b.f0), .d (.int .i64 b.f1), .d (.int .i64 b.f2), .d (.ints .u8 b.f3), .d (.ints .u8 b.f4), .d (.int .i64 b.f5.f0), .d (.int .i64 b.f5.f1), .d (.ints .u8 b.f5.f2), .d (.ints .u8 b.f5.f3), .d (.bss b.f5.f4)])) (ps := [.d (.int .i64 b.f0), .d (.int .i64 b.f1), .d (.int .i64 b.f2), .d (.ints .u8 b.f3), .d (.ints .u8 b.f4), .d (.int .i64 b.f5.f0), .d (.int .i64 b.f5.f1), .d (.ints .u8 b.f5.f2), .d (.ints .u8 b.f5.f3), .d (.bss b.f5.f4)]) rfl rfl (lt_ok rfl) rfl rfl rfl rfl rfl) ?_
 refine TL.cons rfl (Step.assign (p := (.one (.d (.bool false)))) rfl rfl (lt_ok rfl) rfl) ?_
 refine TL.nil ?_
 refine T.seq ?_
 refine T.seq ?_
 refine T.region ?_
 refine TL.cons rfl (Step.fieldAddr (q := 0) (off := 0) (n := 1) (one := true) rfl rfl (lt_ok rfl) (by kernel_rfl) (Nat.succ_ne_zero _) rfl) ?_
 refine TL.cons rfl (Step.load_box (c := .d (.int .i64 a.f0)) rfl rfl (lt_ok rfl) (by kernel_rfl) rfl rfl rfl) ?_
 refine TL.cons rfl (Step.fieldAddr (q := 0) (off := 0) (n := 1) (one := true) rfl rfl (lt_ok rfl) (by kernel_rfl) (Nat.succ_ne_zero _) rfl) ?_
 refine TL.cons rfl (Step.load_box (c := .d (.int .i64 b.f0)) rfl rfl (lt_ok rfl) (by kernel_rfl) rfl rfl rfl) ?_
 refine TL.cons rfl (Step.bin rfl rfl (lt_ok rfl) rfl rfl (Bin.neq (k := .i64) (a := a.f0) (b := b.f0))) ?_
 refine TL.nil ?_
 refine T.cond (b := decide (a.f0 ≠ b.f0)) rfl (fun h1 => ?_) (fun h1 => ?_)
 ·
  replace h1 := of_decide_eq_true h1
  refine T.seq ?_
  refine T.region ?_
  refine TL.cons rfl (Step.assign (p := (.one (.d (.bool false)))) rfl rfl (lt_ok rfl) rfl) ?_
  refine TL.nil ?_
  refine T.ret ?_
  exact ⟨[(false, [.d (.bool false)])], (.cons rfl .nil), rfl, [], (RetC.rd' (by (congr 1; symm; first | (apply decide_eq_false; rintro rfl; first | exact absurd rfl ‹¬ _ = _› | contradiction) | (apply decide_eq_true; apply SHead.ext <;> first | assumption | exact Decidable.not_not.1 (by assumption)))) .nil)⟩
 ·
  replace h1 := of_decide_eq_false h1
  refine T.skip ?_
  refine T.seq ?_
  refine T.seq ?_
  refine T.region ?_
  refine TL.cons rfl (Step.fieldAddr (q := 0) (off := 1) (n := 1) (one := true) rfl rfl (lt_ok rfl) (by kernel_rfl) (Nat.succ_ne_zero _) rfl) ?_
  refine TL.cons rfl (Step.load_box (c := .d (.int .i64 a.f1)) rfl rfl (lt_ok rfl) (by kernel_rfl) rfl rfl rfl) ?_
  refine TL.cons rfl (Step.fieldAddr (q := 0) (off := 1) (n := 1) (one := true) rfl rfl (lt_ok rfl) (by kernel_rfl) (Nat.succ_ne_zero _) rfl) ?_
  refine TL.cons rfl (Step.load_box (c := .d (.int .i64 b.f1)) rfl rfl (lt_ok rfl) (by kernel_rfl) rfl rfl rfl) ?_
  refine TL.cons rfl (Step.bin rfl rfl (lt_ok rfl) rfl rfl (Bin.neq (k := .i64) (a := a.f1) (b := b.f1))) ?_
  refine TL.nil ?_
  refine T.cond (b := decide (a.f1 ≠ b.f1)) rfl (fun h2 => ?_) (fun h2 => ?_)
  ·
   replace h2 := of_decide_eq_true h2
   refine T.seq ?_
   refine T.region ?_
   refine TL.cons rfl (Step.assign (p := (.one (.d (.bool false)))) rfl rfl (lt_ok rfl) rfl) ?_
   refine TL.nil ?_
   refine T.ret ?_
   exact ⟨[(false, [.d (.bool false)])], (.cons rfl .nil), rfl, [], (RetC.rd' (by (congr 1; symm; first | (apply decide_eq_false; rintro rfl; first | exact absurd rfl ‹¬ _ = _› | contradiction) | (apply decide_eq_true; apply SHead.ext <;> first | assumption | exact Decidable.not_not.1 (by assumption)))) .nil)⟩
  ·
   replace h2 := of_decide_eq_false h2
   refine T.skip ?_
   refine T.seq ?_
   refine T.seq ?_
   refine T.region ?_
   refine TL.cons rfl (Step.fieldAddr (q := 0) (off := 2) (n := 1) (one := true) rfl rfl (lt_ok rfl) (by kernel_rfl) (Nat.succ_ne_zero _) rfl) ?_
   refine TL.cons rfl (Step.load_box (c := .d (.int .i64 a.f2)) rfl rfl (lt_ok rfl) (by kernel_rfl) rfl rfl rfl) ?_
   refine TL.cons rfl (Step.fieldAddr (q := 0) (off := 2) (n := 1) (one := true) rfl rfl (lt_ok rfl) (by kernel_rfl) (Nat.succ_ne_zero _) rfl) ?_
   refine TL.cons rfl (Step.load_box (c := .d (.int .i64 b.f2)) rfl rfl (lt_ok rfl) (by kernel_rfl) rfl rfl rfl) ?_
   refine TL.cons rfl (Step.bin rfl rfl (lt_ok rfl) rfl rfl (Bin.neq (k := .i64) (a := a.f2) (b := b.f2))) ?_
   refine TL.nil ?_
   refine T.cond (b := decide (a.f2 ≠ b.f2)) rfl (fun h3 => ?_) (fun h3 => ?_)
   ·
    replace h3 := of_decide_eq_true h3
    refine T.seq ?_
    refine T.region ?_
    refine TL.cons rfl (Step.assign (p := (.one (.d (.bool false)))) rfl rfl (lt_ok rfl) rfl) ?_
    refine TL.nil ?_
    refine T.ret ?_
    exact ⟨[(false, [.d (.bool false)])], (.cons rfl .nil), rfl, [], (RetC.rd' (by (congr 1; symm; first | (apply decide_eq_false; rintro rfl; first | exact absurd rfl ‹¬ _ = _› | contradiction) | (apply decide_eq_true; apply SHead.ext <;> first | assumption | exact Decidable.not_not.1 (by assumption)))) .nil)⟩
   ·
    replace h3 := of_decide_eq_false h3
    refine T.skip ?_
    refine T.seq ?_
    refine T.seq ?_
    refine T.region ?_
    refine TL.cons rfl (Step.fieldAddr (q := 0) (off := 3) (n := 1) (one := true) rfl rfl (lt_ok rfl) (by kernel_rfl) (Nat.succ_ne_zero _) rfl) ?_
    refine TL.cons rfl (Step.load_box (c := .d (.ints .u8 a.f3)) rfl rfl (lt_ok rfl) (by kernel_rfl) rfl rfl rfl) ?_
    refine TL.cons rfl (Step.fieldAddr (q := 0) (off := 3) (n := 1) (one := true) rfl rfl (lt_ok rfl) (by kernel_rfl) (Nat.succ_ne_zero _) rfl) ?_
    refine TL.cons rfl (Step.load_box (c := .d (.ints .u8 b.f3)) rfl rfl (lt_ok rfl) (by kernel_rfl) rfl rfl rfl) ?_
    refine TL.cons rfl (Step.call (f := 56) (xs := [.tmp 21, .tmp 23]) (ps := [(.one (.d (.ints .u8 a.f3))), (.one (.d (.ints .u8 b.f3)))]) false (g := .func 56) rfl rfl (lt_ok rfl) rfl (by kernel_rfl) rfl (.cons (.one (.d _)) (.cons (.one (.d _)) .nil)) (ok_laws_eqByteS a.f3 b.f3) (.inr rfl) rfl (by simp) rfl) ?_
    refine TL.cons rfl (Step.not (b := (decide (a.f3 = b.f3))) rfl rfl (lt_ok rfl) rfl) ?_
    refine TL.nil ?_
    refine T.cond (b := !(decide (a.f3 = b.f3))) rfl (fun h4 => ?_) (fun h4 => ?_)
    ·
     replace h4 : (decide (a.f3 = b.f3)) = false := by simpa only [Bool.not_eq_true', Bool.not_eq_false'] using h4
     replace h4 := of_decide_eq_false h4
     refine T.seq ?_
     refine T.region ?_
     refine TL.cons rfl (Step.assign (p := (.one (.d (.bool false)))) rfl rfl (lt_ok rfl) rfl) ?_
     refine TL.nil ?_
     refine T.ret ?_
     exact ⟨[(false, [.d (.bool false)])], (.cons rfl .nil), rfl, [], (RetC.rd' (by (congr 1; symm; first | (apply decide_eq_false; rintro rfl; first | exact absurd rfl ‹¬ _ = _› | contradiction) | (apply decide_eq_true; apply SHead.ext <;> first | assumption | exact Decidable.not_not.1 (by assumption)))) .nil)⟩
    ·
     replace h4 : (decide (a.f3 = b.f3)) = true := by simpa only [Bool.not_eq_true', Bool.not_eq_false'] using h4
     replace h4 := of_decide_eq_true h4
     refine T.skip ?_
     refine T.seq ?_
     refine T.seq ?_
     refine T.region ?_
     refine TL.cons rfl (Step.fieldAddr (q := 0) (off := 4) (n := 1) (one := true) rfl rfl (lt_ok rfl) (by kernel_rfl) (Nat.succ_ne_zero _) rfl) ?_
     refine TL.cons rfl (Step.load_box (c := .d (.ints .u8 a.f4)) rfl rfl (lt_ok rfl) (by kernel_rfl) rfl rfl rfl) ?_
     refine TL.cons rfl (Step.fieldAddr (q := 0) (off := 4) (n := 1) (one := true) rfl rfl (lt_ok rfl) (by kernel_rfl) (Nat.succ_ne_zero _) rfl) ?_
     refine TL.cons rfl (Step.load_box (c := .d (.ints .u8 b.f4)) rfl rfl (lt_ok rfl) (by kernel_rfl) rfl rfl rfl) ?_
     refine TL.cons rfl (Step.call (f := 56) (xs := [.tmp 27, .tmp 29]) (ps := [(.one (.d (.ints .u8 a.f4))), (.one (.d (.ints .u8 b.f4)))]) false (g := .func 56) rfl rfl (lt_ok rfl) rfl (by kernel_rfl) rfl (.cons (.one (.d _)) (.cons (.one (.d _)) .nil)) (ok_laws_eqByteS a.f4 b.f4) (.inr rfl) rfl (by simp) rfl) ?_
     refine TL.cons rfl (Step.not (b := (decide (a.f4 = b.f4))) rfl rfl (lt_ok rfl) rfl) ?_
     refine TL.nil ?_
     refine T.cond (b := !(decide (a.f4 = b.f4))) rfl (fun h5 => ?_) (fun h5 => ?_)
     ·
      replace h5 : (decide (a.f4 = b.f4)) = false := by simpa only [Bool.not_eq_true', Bool.not_eq_false'] using h5
      replace h5 := of_decide_eq_false h5
      refine T.seq ?_
      refine T.region ?_
      refine TL.cons rfl (Step.assign (p := (.one (.d (.bool false)))) rfl rfl (lt_ok rfl) rfl) ?_
      refine TL.nil ?_
      refine T.ret ?_
      exact ⟨[(false, [.d (.bool false)])], (.cons rfl .nil), rfl, [], (RetC.rd' (by (congr 1; symm; first | (apply decide_eq_false; rintro rfl; first | exact absurd rfl ‹¬ _ = _› | contradiction) | (apply decide_eq_true; apply SHead.ext <;> first | assumption | exact Decidable.not_not.1 (by assumption)))) .nil)⟩
     ·
      replace h5 : (decide (a.f4 = b.f4)) = true := by simpa only [Bool.not_eq_true', Bool.not_eq_false'] using h5
      replace h5 := of_decide_eq_true h5
      refine T.skip ?_
      refine T.seq ?_
      refine T.seq ?_
      refine T.region ?_
      refine TL.cons rfl (Step.fieldAddr (q := 0) (off := 5) (n := 5) (one := false) rfl rfl (lt_ok rfl) (by kernel_rfl) (Nat.succ_ne_zero _) rfl) ?_
      refine TL.cons rfl (Step.load_box_agg (n := 5) (qs := [.d (.int .i64 a.f5.f0), .d (.int .i64 a.f5.f1), .d (.ints .u8 a.f5.f2), .d (.ints .u8 a.f5.f3), .d (.bss a.f5.f4)]) rfl rfl (lt_ok rfl) (by kernel_rfl) rfl rfl rfl rfl) ?_
      refine TL.cons rfl (Step.fieldAddr (q := 0) (off := 5) (n := 5) (one := false) rfl rfl (lt_ok rfl) (by kernel_rfl) (Nat.succ_ne_zero _) rfl) ?_
      refine TL.cons rfl (Step.load_box_agg (n := 5) (qs := [.d (.int .i64 b.f5.f0), .d (.int .i64 b.f5.f1), .d (.ints .u8 b.f5.f2), .d (.ints .u8 b.f5.f3), .d (.bss b.f5.f4)]) rfl rfl (lt_ok rfl) (by kernel_rfl) rfl rfl rfl rfl) ?_
      refine TL.cons rfl (Step.call (f := 35) (xs := [.tmp 33, .tmp 35]) (ps := [(.agg [.d (.int .i64 a.f5.f0), .d (.int .i64 a.f5.f1), .d (.ints .u8 a.f5.f2), .d (.ints .u8 a.f5.f3), .d (.bss a.f5.f4)]), (.agg [.d (.int .i64 b.f5.f0), .d (.int .i64 b.f5.f1), .d (.ints .u8 b.f5.f2), .d (.ints .u8 b.f5.f3), .d (.bss b.f5.f4)])]) false (g := .func 35) rfl rfl (lt_ok rfl) rfl (by kernel_rfl) rfl (.cons (.agg (.cons (.d _) (.cons (.d _) (.cons (.d _) (.cons (.d _) (.cons (.d _) .nil)))))) (.cons (.agg (.cons (.d _) (.cons (.d _) (.cons (.d _) (.cons (.d _) (.cons (.d _) .nil)))))) .nil)) (ok_laws_eqQc a.f5 b.f5) (.inr rfl) rfl (by simp) rfl) ?_
      refine TL.cons rfl (Step.not (b := (decide (a.f5 = b.f5))) rfl rfl (lt_ok rfl) rfl) ?_
      refine TL.nil ?_
      refine T.weaken (E' := { tm := [(4, (.one (.d (.bool false)))), (37, (.one (.d (.bool (!(decide (a.f5 = b.f5)))))))], rows := [], boxes := [] }) (Env.le_mk ⟨by kernel_rfl, by kernel_rfl, trivial⟩ trivial trivial) ?_
      refine T.cond (b := !(decide (a.f5 = b.f5))) rfl (fun h6 => ?_) (fun h6 => ?_)
      ·
       replace h6 : (decide (a.f5 = b.f5)) = false := by simpa only [Bool.not_eq_true', Bool.not_eq_false'] using h6
       replace h6 := of_decide_eq_false h6
       refine T.seq ?_
       refine T.region ?_
       refine TL.cons rfl (Step.assign (p := (.one (.d (.bool false)))) rfl rfl (lt_ok rfl) rfl) ?_
       refine TL.nil ?_
       refine T.ret ?_
       exact ⟨[(false, [.d (.bool false)])], (.cons rfl .nil), rfl, [], (RetC.rd' (by (congr 1; symm; first | (apply decide_eq_false; rintro rfl; first | exact absurd rfl ‹¬ _ = _› | contradiction) | (apply decide_eq_true; apply SHead.ext <;> first | assumption | exact Decidable.not_not.1 (by assumption)))) .nil)⟩
      ·
       replace h6 : (decide (a.f5 = b.f5)) = true := by simpa only [Bool.not_eq_true', Bool.not_eq_false'] using h6
       replace h6 := of_decide_eq_true h6
       refine T.skip ?_
       refine T.seq ?_
       refine T.region ?_
       refine TL.cons rfl (Step.assign (p := (.one (.d (.bool true)))) rfl rfl (lt_ok rfl) rfl) ?_
       refine TL.nil ?_
       refine T.ret ?_
       exact ⟨[(false, [.d (.bool true)])], (.cons rfl .nil), rfl, [], (RetC.rd' (by (congr 1; symm; first | (apply decide_eq_false; rintro rfl; first | exact absurd rfl ‹¬ _ = _› | contradiction) | (apply decide_eq_true; apply SHead.ext <;> first | assumption | exact Decidable.not_not.1 (by assumption)))) .nil)⟩
theorem ok_laws_eqBlock (a : SBlock) (b : SBlock) : RO Try.prog 40 [.agg a.cells, .agg b.cells] [(false, [.rd (.bool (decide (a = b)))])] := by
 refine RO.intro Try.func40 rfl 17 rfl (le_ok rfl) fun w Z => ?_
 refine T.seq ?_
 refine T.region ?_
 refine TL.cons rfl (Step.box (p := (.agg [.d (.int .i64 a.f0.f0), .d (.int .i64 a.f0.f1), .d (.int .i64 a.f0.f2), .d (.ints .u8 a.f0.f3), .d (.ints .u8 a.f0.f4), .d (.int .i64 a.f0.f5.f0), .d (.int .i64 a.f0.f5.f1), .d (.ints .u8 a.f0.f5.f2), .d (.ints .u8 a.f0.f5.f3), .d (.bss a.f0.f5.f4), .d (.bss a.f1)])) (ps := [.d (.int .i64 a.f0.f0), .d (.int .i64 a.f0.f1), .d (.int .i64 a.f0.f2), .d (.ints .u8 a.f0.f3), .d (.ints .u8 a.f0.f4), .d (.int .i64 a.f0.f5.f0), .d (.int .i64 a.f0.f5.f1), .d (.ints .u8 a.f0.f5.f2), .d (.ints .u8 a.f0.f5.f3), .d (.bss a.f0.f5.f4), .d (.bss a.f1)]) rfl rfl (lt_ok rfl) rfl rfl rfl rfl rfl) ?_
 refine TL.cons rfl (Step.box (p := (.agg [.d (.int .i64 b.f0.f0), .d (.int .i64 b.f0.f1), .d (.int .i64 b.f0.f2), .d (.ints .u8 b.f0.f3), .d (.ints .u8 b.f0.f4), .d (.int .i64 b.f0.f5.f0), .d (.int .i64 b.f0.f5.f1), .d (.ints .u8 b.f0.f5.f2), .d (.ints .u8 b.f0.f5.f3), .d (.bss b.f0.f5.f4), .d (.bss b.f1)])) (ps := [.d (.int .i64 b.f0.f0), .d (.int .i64 b.f0.f1), .d (.int .i64 b.f0.f2), .d (.ints .u8 b.f0.f3), .d (.ints .u8 b.f0.f4), .d (.int .i64 b.f0.f5.f0), .d (.int .i64 b.f0.f5.f1), .d (.ints .u8 b.f0.f5.f2), .d (.ints .u8 b.f0.f5.f3), .d (.bss b.f0.f5.f4), .d (.bss b.f1)]) rfl rfl (lt_ok rfl) rfl rfl rfl rfl rfl) ?_
 refine TL.cons rfl (Step.assign (p := (.one (.d (.bool false)))) rfl rfl (lt_ok rfl) rfl) ?_
 refine TL.nil ?_
 refine T.seq ?_
 refine T.seq ?_
 refine T.region ?_
 refine TL.cons rfl (Step.fieldAddr (q := 0) (off := 0) (n := 10) (one := false) rfl rfl (lt_ok rfl) (by kernel_rfl) (Nat.succ_ne_zero _) rfl) ?_
 refine TL.cons rfl (Step.load_box_agg (n := 10) (qs := [.d (.int .i64 a.f0.f0), .d (.int .i64 a.f0.f1), .d (.int .i64 a.f0.f2), .d (.ints .u8 a.f0.f3), .d (.ints .u8 a.f0.f4), .d (.int .i64 a.f0.f5.f0), .d (.int .i64 a.f0.f5.f1), .d (.ints .u8 a.f0.f5.f2), .d (.ints .u8 a.f0.f5.f3), .d (.bss a.f0.f5.f4)]) rfl rfl (lt_ok rfl) (by kernel_rfl) rfl rfl rfl rfl) ?_
 refine TL.cons rfl (Step.fieldAddr (q := 0) (off := 0) (n := 10) (one := false) rfl rfl (lt_ok rfl) (by kernel_rfl) (Nat.succ_ne_zero _) rfl) ?_
 refine TL.cons rfl (Step.load_box_agg (n := 10) (qs := [.d (.int .i64 b.f0.f0), .d (.int .i64 b.f0.f1), .d (.int .i64 b.f0.f2), .d (.ints .u8 b.f0.f3), .d (.ints .u8 b.f0.f4), .d (.int .i64 b.f0.f5.f0), .d (.int .i64 b.f0.f5.f1), .d (.ints .u8 b.f0.f5.f2), .d (.ints .u8 b.f0.f5.f3), .d (.bss b.f0.f5.f4)]) rfl rfl (lt_ok rfl) (by kernel_rfl) rfl rfl rfl rfl) ?_
 refine TL.cons rfl (Step.call (f := 30) (xs := [.tmp 6, .tmp 8]) (ps := [(.agg [.d (.int .i64 a.f0.f0), .d (.int .i64 a.f0.f1), .d (.int .i64 a.f0.f2), .d (.ints .u8 a.f0.f3), .d (.ints .u8 a.f0.f4), .d (.int .i64 a.f0.f5.f0), .d (.int .i64 a.f0.f5.f1), .d (.ints .u8 a.f0.f5.f2), .d (.ints .u8 a.f0.f5.f3), .d (.bss a.f0.f5.f4)]), (.agg [.d (.int .i64 b.f0.f0), .d (.int .i64 b.f0.f1), .d (.int .i64 b.f0.f2), .d (.ints .u8 b.f0.f3), .d (.ints .u8 b.f0.f4), .d (.int .i64 b.f0.f5.f0), .d (.int .i64 b.f0.f5.f1), .d (.ints .u8 b.f0.f5.f2), .d (.ints .u8 b.f0.f5.f3), .d (.bss b.f0.f5.f4)])]) false (g := .func 30) rfl rfl (lt_ok rfl) rfl (by kernel_rfl) rfl (.cons (.agg (.cons (.d _) (.cons (.d _) (.cons (.d _) (.cons (.d _) (.cons (.d _) (.cons (.d _) (.cons (.d _) (.cons (.d _) (.cons (.d _) (.cons (.d _) .nil))))))))))) (.cons (.agg (.cons (.d _) (.cons (.d _) (.cons (.d _) (.cons (.d _) (.cons (.d _) (.cons (.d _) (.cons (.d _) (.cons (.d _) (.cons (.d _) (.cons (.d _) .nil))))))))))) .nil)) (ok_laws_eqHead a.f0 b.f0) (.inr rfl) rfl (by simp) rfl) ?_
 refine TL.cons rfl (Step.not (b := (decide (a.f0 = b.f0))) rfl rfl (lt_ok rfl) rfl) ?_
 refine TL.nil ?_
 refine T.cond (b := !(decide (a.f0 = b.f0))) rfl (fun h1 => ?_) (fun h1 => ?_)
 ·
  replace h1 : (decide (a.f0 = b.f0)) = false := by simpa only [Bool.not_eq_true', Bool.not_eq_false'] using h1
  replace h1 := of_decide_eq_false h1
  refine T.seq ?_
  refine T.region ?_
  refine TL.cons rfl (Step.assign (p := (.one (.d (.bool false)))) rfl rfl (lt_ok rfl) rfl) ?_
  refine TL.nil ?_
  refine T.ret ?_
  exact ⟨[(false, [.d (.bool false)])], (.cons rfl .nil), rfl, [], (RetC.rd' (by (congr 1; symm; first | (apply decide_eq_false; rintro rfl; first | exact absurd rfl ‹¬ _ = _› | contradiction) | (apply decide_eq_true; apply SBlock.ext <;> first | assumption | exact Decidable.not_not.1 (by assumption)))) .nil)⟩
 ·
  replace h1 : (decide (a.f0 = b.f0)) = true := by simpa only [Bool.not_eq_true', Bool.not_eq_false'] using h1
  replace h1 := of_decide_eq_true h1
  refine T.skip ?_
  refine T.seq ?_
  refine T.seq ?_
  refine T.region ?_
  refine TL.cons rfl (Step.fieldAddr (q := 0) (off := 10) (n := 1) (one := true) rfl rfl (lt_ok rfl) (by kernel_rfl) (Nat.succ_ne_zero _) rfl) ?_
  refine TL.cons rfl (Step.load_box (c := .d (.bss a.f1)) rfl rfl (lt_ok rfl) (by kernel_rfl) rfl rfl rfl) ?_
  refine TL.cons rfl (Step.fieldAddr (q := 0) (off := 10) (n := 1) (one := true) rfl rfl (lt_ok rfl) (by kernel_rfl) (Nat.succ_ne_zero _) rfl) ?_
  refine TL.cons rfl (Step.load_box (c := .d (.bss b.f1)) rfl rfl (lt_ok rfl) (by kernel_rfl) rfl rfl rfl) ?_
  refine TL.cons rfl (Step.call (f := 90) (xs := [.tmp 12, .tmp 14]) (ps := [(.one (.d (.bss a.f1))), (.one (.d (.bss b.f1)))]) false (g := .func 90) rfl rfl (lt_ok rfl) rfl (by kernel_rfl) rfl (.cons (.one (.d _)) (.cons (.one (.d _)) .nil)) (ok_laws_eqByteSS a.f1 b.f1) (.inr rfl) rfl (by simp) rfl) ?_
  refine TL.cons rfl (Step.not (b := (decide (a.f1 = b.f1))) rfl rfl (lt_ok rfl) rfl) ?_
  refine TL.nil ?_
  refine T.cond (b := !(decide (a.f1 = b.f1))) rfl (fun h2 => ?_) (fun h2 => ?_)
  ·
   replace h2 : (decide (a.f1 = b.f1)) = false := by simpa only [Bool.not_eq_true', Bool.not_eq_false'] using h2
   replace h2 := of_decide_eq_false h2
   refine T.seq ?_
   refine T.region ?_
   refine TL.cons rfl (Step.assign (p := (.one (.d (.bool false)))) rfl rfl (lt_ok rfl) rfl) ?_
   refine TL.nil ?_
   refine T.ret ?_
   exact ⟨[(false, [.d (.bool false)])], (.cons rfl .nil), rfl, [], (RetC.rd' (by (congr 1; symm; first | (apply decide_eq_false; rintro rfl; first | exact absurd rfl ‹¬ _ = _› | contradiction) | (apply decide_eq_true; apply SBlock.ext <;> first | assumption | exact Decidable.not_not.1 (by assumption)))) .nil)⟩
  ·
   replace h2 : (decide (a.f1 = b.f1)) = true := by simpa only [Bool.not_eq_true', Bool.not_eq_false'] using h2
   replace h2 := of_decide_eq_true h2
   refine T.skip ?_
   refine T.seq ?_
   refine T.region ?_
   refine TL.cons rfl (Step.assign (p := (.one (.d (.bool true)))) rfl rfl (lt_ok rfl) rfl) ?_
   refine TL.nil ?_
   refine T.ret ?_
   exact ⟨[(false, [.d (.bool true)])], (.cons rfl .nil), rfl, [], (RetC.rd' (by (congr 1; symm; first | (apply decide_eq_false; rintro rfl; first | exact absurd rfl ‹¬ _ = _› | contradiction) | (apply decide_eq_true; apply SBlock.ext <;> first | assumption | exact Decidable.not_not.1 (by assumption)))) .nil)⟩
theorem ok_laws_eqHeadS (a : List SHead) (b : List SHead) : RO Try.prog 110 [.one (.sl 10 (a.map SHead.cells)), .one (.sl 10 (b.map SHead.cells))] [(false, [.rd (.bool (decide (a = b)))])] := by
 refine RO.intro Try.func110 rfl 27 rfl (le_ok rfl) fun w Z => ?_
 refine T.bnd 0 0 rfl rfl fun hb_0_0 => ?_
 simp only [D.size, List.length_map] at hb_0_0
 refine T.bnd 1 0 rfl rfl fun hb_1_0 => ?_
 simp only [D.size, List.length_map] at hb_1_0
 refine T.seq ?_
 refine T.region ?_
 refine TL.cons rfl (Step.assign (p := (.one (.d (.bool false)))) rfl rfl (lt_ok rfl) rfl) ?_
 refine TL.nil ?_
 refine T.seq ?_
 refine T.seq ?_
 refine T.region ?_
 refine TL.cons rfl (Step.move (p := (.one (.d (.sl 10 (a.map SHead.cells))))) rfl rfl (lt_ok rfl) rfl) ?_
 refine TL.cons rfl (Step.len' (e := 55) (z := 10) (d := (.sl 10 (a.map SHead.cells))) (n := a.length) rfl rfl (lt_ok rfl) (by kernel_rfl) rfl rfl (by simp [D.size])) ?_
 refine TL.cons rfl (Step.move (p := (.one (.d (.sl 10 (b.map SHead.cells))))) rfl rfl (lt_ok rfl) rfl) ?_
 refine TL.cons rfl (Step.len' (e := 55) (z := 10) (d := (.sl 10 (b.map SHead.cells))) (n := b.length) rfl rfl (lt_ok rfl) (by kernel_rfl) rfl rfl (by simp [D.size])) ?_
 refine TL.cons rfl (Step.bin rfl rfl (lt_ok rfl) rfl rfl (Bin.neq (k := .i64) (a := (a.length : Int)) (b := (b.length : Int)))) ?_
 refine TL.nil ?_
 refine T.cond (b := decide ((a.length : Int) ≠ (b.length : Int))) rfl (fun h1 => ?_) (fun h1 => ?_)
 ·
  replace h1 := of_decide_eq_true h1
  refine T.seq ?_
  refine T.region ?_
  refine TL.cons rfl (Step.assign (p := (.one (.d (.bool false)))) rfl rfl (lt_ok rfl) rfl) ?_
  refine TL.nil ?_
  refine T.ret ?_
  exact ⟨[(false, [.d (.bool false)])], (.cons rfl .nil), rfl, [], (RetC.rd' (by (congr 1; symm; first | (apply decide_eq_false; rintro rfl; first | exact absurd rfl ‹¬ _ = _› | exact absurd rfl (of_decide_eq_false (by assumption)) | contradiction | simp_all) | (apply decide_eq_true; exact take_all hx2 (by omega) hx3))) .nil)⟩
 ·
  replace h1 := of_decide_eq_false h1
  refine T.skip ?_
  refine T.seq ?_
  refine T.seq ?_
  refine T.region ?_
  refine TL.cons rfl (Step.assign (p := (.one (.d (.int .i64 0)))) rfl rfl (lt_ok rfl) rfl) ?_
  refine TL.nil ?_
  refine T.block ?_
  refine T.loop (ι := Nat) (fun x => { tm := [(0, (.one (.d (.sl 10 (a.map SHead.cells))))), (1, (.one (.d (.sl 10 (b.map SHead.cells))))), (5, (.one (.d (.int .i64 (x : Int)))))], rows := [], boxes := [] }) (fun x => x ≤ a.length ∧ a.length = b.length ∧ a.take x = b.take x) (fun x => a.length - x) 0 ?_ ?_ ?_
  · exact Env.le_mk ⟨rfl, rfl, by first | rfl | (simp; done) | (congr 3; omega), trivial⟩ trivial trivial
  · (refine ⟨Nat.zero_le _, by omega, by simp⟩)
  ·
   intro i hx
   try dsimp only at hx ⊢
   obtain ⟨hx1, hx2, hx3⟩ := hx
   refine T.seq ?_
   refine T.seq ?_
   refine T.region ?_
   refine TL.cons rfl (Step.move (p := (.one (.d (.int .i64 (i : Int))))) rfl rfl (lt_ok rfl) rfl) ?_
   refine TL.cons rfl (Step.move (p := (.one (.d (.sl 10 (a.map SHead.cells))))) rfl rfl (lt_ok rfl) rfl) ?_
   refine TL.cons rfl (Step.len' (e := 55) (z := 10) (d := (.sl 10 (a.map SHead.cells))) (n := a.length) rfl rfl (lt_ok rfl) (by kernel_rfl) rfl rfl (by simp [D.size])) ?_
   refine TL.cons rfl (Step.bin rfl rfl (lt_ok rfl) rfl rfl (Bin.lss (k := .i64) (a := (i : Int)) (b := (a.length : Int)))) ?_
   refine TL.nil ?_
   refine T.cond (b := decide ((i : Int) < (a.length : Int))) rfl (fun h2 => ?_) (fun h2 => ?_)
   ·
    replace h2 := of_decide_eq_true h2
    refine T.skip ?_
    refine T.seq ?_
    refine T.block ?_
    refine T.seq ?_
    refine T.draw [⟨17, (.one (.d (.sl 10 (a.map SHead.cells)))), []⟩, ⟨18, (.one (.d (.int .i64 (i : Int)))), []⟩, ⟨19, (.one (.eptr (.sl 10 (a.map SHead.cells)) i 0)), []⟩, ⟨20, (.agg [.d (.int .i64 (a.getD i default).f0), .d (.int .i64 (a.getD i default).f1), .d (.int .i64 (a.getD i default).f2), .d (.ints .u8 (a.getD i default).f3), .d (.ints .u8 (a.getD i default).f4), .d (.int .i64 (a.getD i default).f5.f0), .d (.int .i64 (a.getD i default).f5.f1), .d (.ints .u8 (a.getD i default).f5.f2), .d (.ints .u8 (a.getD i default).f5.f3), .d (.bss (a.getD i default).f5.f4)]), []⟩, ⟨21, (.one (.d (.sl 10 (b.map SHead.cells)))), []⟩, ⟨22, (.one (.d (.int .i64 (i : Int)))), []⟩, ⟨23, (.one (.eptr (.sl 10 (b.map SHead.cells)) i 0)), []⟩, ⟨24, (.agg [.d (.int .i64 (b.getD i default).f0), .d (.int .i64 (b.getD i default).f1), .d (.int .i64 (b.getD i default).f2), .d (.ints .u8 (b.getD i default).f3), .d (.ints .u8 (b.getD i default).f4), .d (.int .i64 (b.getD i default).f5.f0), .d (.int .i64 (b.getD i default).f5.f1), .d (.ints .u8 (b.getD i default).f5.f2), .d (.ints .u8 (b.getD i default).f5.f3), .d (.bss (b.getD i default).f5.f4)]), []⟩, ⟨25, (.one (.d (.bool (decide ((a.getD i default) = (b.getD i default)))))), []⟩, ⟨26, (.one (.d (.bool (!(decide ((a.getD i default) = (b.getD i default))))))), []⟩] (by kernel_rfl) (by kernel_rfl) ?_ ?_
    ·
     refine .cons (fun E h => by have g0 := h.get 0 (by decide); exact OpStep.plain rfl (Step.move (p := (.one (.d (.sl 10 (a.map SHead.cells))))) (t := 17) rfl rfl (by exact lt_ok rfl) (show Env.ev E (.tmp 0) = _ from g0.trans rfl))) ?_
     refine .cons (fun E h => by have g5 := h.get 5 (by decide); exact OpStep.plain rfl (Step.move (p := (.one (.d (.int .i64 (i : Int))))) (t := 18) rfl rfl (by exact lt_ok rfl) (show Env.ev E (.tmp 5) = _ from g5.trans rfl))) ?_
     refine .cons (fun E h => by have g17 := h.get 17 (by decide); have g18 := h.get 18 (by decide); exact OpStep.plain rfl (Step.index (e := 55) (z := 10) (i := (i : Int)) (t := 19) rfl rfl (by exact lt_ok rfl) (by kernel_rfl) (show Env.ev E (.tmp 17) = _ from g17.trans rfl) rfl rfl (lt_ok rfl) (show Env.ev E (.tmp 18) = _ from g18.trans rfl) (by first | omega | (simp; omega)) (by simp only [D.size]; first | omega | (simp; omega)))) ?_
     refine .cons (fun E h => by have g19 := h.get 19 (by decide); exact OpStep.plain rfl (Step.load_agg (n := 10) (cs := [.d (.int .i64 (a.getD i default).f0), .d (.int .i64 (a.getD i default).f1), .d (.int .i64 (a.getD i default).f2), .d (.ints .u8 (a.getD i default).f3), .d (.ints .u8 (a.getD i default).f4), .d (.int .i64 (a.getD i default).f5.f0), .d (.int .i64 (a.getD i default).f5.f1), .d (.ints .u8 (a.getD i default).f5.f2), .d (.ints .u8 (a.getD i default).f5.f3), .d (.bss (a.getD i default).f5.f4)]) (t := 20) rfl rfl (by exact lt_ok rfl) (by kernel_rfl) (show Env.ev E (.tmp 19) = _ from g19.trans rfl) rfl (by simp only [List.range, List.range.loop, List.map_cons, List.map_nil]; rw [cell_map default (by first | omega | (simp; omega)), cell_map default (by first | omega | (simp; omega)), cell_map default (by first | omega | (simp; omega)), cell_map default (by first | omega | (simp; omega)), cell_map default (by first | omega | (simp; omega)), cell_map default (by first | omega | (simp; omega)), cell_map default (by first | omega | (simp; omega)), cell_map default (by first | omega | (simp; omega)), cell_map default (by first | omega | (simp; omega)), cell_map default (by first | omega | (simp; omega))]; rfl))) ?_
     refine .cons (fun E h => by have g1 := h.get 1 (by decide); exact OpStep.plain rfl (Step.move (p := (.one (.d (.sl 10 (b.map SHead.cells))))) (t := 21) rfl rfl (by exact lt_ok rfl) (show Env.ev E (.tmp 1) = _ from g1.trans rfl))) ?_
     refine .cons (fun E h => by have g5 := h.get 5 (by decide); exact OpStep.plain rfl (Step.move (p := (.one (.d (.int .i64 (i : Int))))) (t := 22) rfl rfl (by exact lt_ok rfl) (show Env.ev E (.tmp 5) = _ from g5.trans rfl))) ?_
     refine .cons (fun E h => by have g21 := h.get 21 (by decide); have g22 := h.get 22 (by decide); exact OpStep.plain rfl (Step.index (e := 55) (z := 10) (i := (i : Int)) (t := 23) rfl rfl (by exact lt_ok rfl) (by kernel_rfl) (show Env.ev E (.tmp 21) = _ from g21.trans rfl) rfl rfl (lt_ok rfl) (show Env.ev E (.tmp 22) = _ from g22.trans rfl) (by first | omega | (simp; omega)) (by simp only [D.size]; first | omega | (simp; omega)))) ?_
     refine .cons (fun E h => by have g23 := h.get 23 (by decide); exact OpStep.plain rfl (Step.load_agg (n := 10) (cs := [.d (.int .i64 (b.getD i default).f0), .d (.int .i64 (b.getD i default).f1), .d (.int .i64 (b.getD i default).f2), .d (.ints .u8 (b.getD i default).f3), .d (.ints .u8 (b.getD i default).f4), .d (.int .i64 (b.getD i default).f5.f0), .d (.int .i64 (b.getD i default).f5.f1), .d (.ints .u8 (b.getD i default).f5.f2), .d (.ints .u8 (b.getD i default).f5.f3), .d (.bss (b.getD i default).f5.f4)]) (t := 24) rfl rfl (by exact lt_ok rfl) (by kernel_rfl) (show Env.ev E (.tmp 23) = _ from g23.trans rfl) rfl (by simp only [List.range, List.range.loop, List.map_cons, List.map_nil]; rw [cell_map default (by first | omega | (simp; omega)), cell_map default (by first | omega | (simp; omega)), cell_map default (by first | omega | (simp; omega)), cell_map default (by first | omega | (simp; omega)), cell_map default (by first | omega | (simp; omega)), cell_map default (by first | omega | (simp; omega)), cell_map default (by first | omega | (simp; omega)), cell_map default (by first | omega | (simp; omega)), cell_map default (by first | omega | (simp; omega)), cell_map default (by first | omega | (simp; omega))]; rfl))) ?_
     refine .cons (fun E h => by have g20 := h.get 20 (by decide); have g24 := h.get 24 (by decide); exact OpStep.plain rfl (Step.call (f := 30) (xs := [.tmp 20, .tmp 24]) (ps := [(.agg [.d (.int .i64 (a.getD i default).f0), .d (.int .i64 (a.getD i default).f1), .d (.int .i64 (a.getD i default).f2), .d (.ints .u8 (a.getD i default).f3), .d (.ints .u8 (a.getD i default).f4), .d (.int .i64 (a.getD i default).f5.f0), .d (.int .i64 (a.getD i default).f5.f1), .d (.ints .u8 (a.getD i default).f5.f2), .d (.ints .u8 (a.getD i default).f5.f3), .d (.bss (a.getD i default).f5.f4)]), (.agg [.d (.int .i64 (b.getD i default).f0), .d (.int .i64 (b.getD i default).f1), .d (.int .i64 (b.getD i default).f2), .d (.ints .u8 (b.getD i default).f3), .d (.ints .u8 (b.getD i default).f4), .d (.int .i64 (b.getD i default).f5.f0), .d (.int .i64 (b.getD i default).f5.f1), .d (.ints .u8 (b.getD i default).f5.f2), .d (.ints .u8 (b.getD i default).f5.f3), .d (.bss (b.getD i default).f5.f4)])]) false (g := .func 30) (t := 25) rfl rfl (by exact lt_ok rfl) rfl (by kernel_rfl) (evs_cons (show Env.ev E (.tmp 20) = _ from g20.trans rfl) (evs_cons (show Env.ev E (.tmp 24) = _ from g24.trans rfl) (rfl))) (.cons (.agg (.cons (.d _) (.cons (.d _) (.cons (.d _) (.cons (.d _) (.cons (.d _) (.cons (.d _) (.cons (.d _) (.cons (.d _) (.cons (.d _) (.cons (.d _) .nil))))))))))) (.cons (.agg (.cons (.d _) (.cons (.d _) (.cons (.d _) (.cons (.d _) (.cons (.d _) (.cons (.d _) (.cons (.d _) (.cons (.d _) (.cons (.d _) (.cons (.d _) .nil))))))))))) .nil)) (ok_laws_eqHead (a.getD i default) (b.getD i default)) (.inr rfl) (At.freshRows h rfl) (by simp) rfl)) ?_
     refine .cons (fun E h => by have g25 := h.get 25 (by decide); exact OpStep.plain rfl (Step.not (b := (decide ((a.getD i default) = (b.getD i default)))) (t := 26) rfl rfl (by exact lt_ok rfl) (show Env.ev E (.tmp 25) = _ from g25.trans rfl))) ?_
     exact .nil _ _
    refine TL.nil ?_
    refine T.cond (b := !(decide ((a.getD i default) = (b.getD i default)))) rfl (fun h3 => ?_) (fun h3 => ?_)
    ·
     replace h3 : (decide ((a.getD i default) = (b.getD i default))) = false := by simpa only [Bool.not_eq_true', Bool.not_eq_false'] using h3
     replace h3 := of_decide_eq_false h3
     refine T.seq ?_
     refine T.region ?_
     refine TL.cons rfl (Step.assign (p := (.one (.d (.bool false)))) rfl rfl (lt_ok rfl) rfl) ?_
     refine TL.nil ?_
     refine T.ret ?_
     exact ⟨[(false, [.d (.bool false)])], (.cons rfl .nil), rfl, [], (RetC.rd' (by (congr 1; symm; first | (apply decide_eq_false; rintro rfl; first | exact absurd rfl ‹¬ _ = _› | exact absurd rfl (of_decide_eq_false (by assumption)) | contradiction | simp_all) | (apply decide_eq_true; exact take_all hx2 (by omega) hx3))) .nil)⟩
    ·
     replace h3 : (decide ((a.getD i default) = (b.getD i default))) = true := by simpa only [Bool.not_eq_true', Bool.not_eq_false'] using h3
     replace h3 := of_decide_eq_true h3
     refine T.skip ?_
     refine T.region ?_
     refine TL.cons rfl (Step.move (p := (.one (.d (.int .i64 (i : Int))))) rfl rfl (lt_ok rfl) rfl) ?_
     refine TL.cons rfl (Step.bin (r := .int .i64 ((i : Int) + 1)) rfl rfl (lt_ok rfl) rfl rfl (Bin.add (a := (i : Int)) (b := 1) (by first | exact wrap_ok (by first | omega | (simp; omega)) (by first | omega | (simp; omega)) | rfl))) ?_
     refine TL.cons rfl (Step.assign (p := (.one (.d (.int .i64 ((i : Int) + 1))))) rfl rfl (lt_ok rfl) rfl) ?_
     refine TL.nil ?_
     exact ⟨i + 1, by (refine ⟨by omega, hx2, take_step (d := default) hx2 (by omega) hx3 (by first | assumption | exact Decidable.not_not.1 (by assumption) | omega)⟩), by omega, Env.le_mk ⟨rfl, rfl, by first | rfl | (simp; done) | (congr 3; omega), trivial⟩ trivial trivial⟩
   ·
    replace h2 := of_decide_eq_false h2
    refine T.exit ?_
    refine T.seq ?_
    refine T.region ?_
    refine TL.cons rfl (Step.assign (p := (.one (.d (.bool true)))) rfl rfl (lt_ok rfl) rfl) ?_
    refine TL.nil ?_
    refine T.ret ?_
    exact ⟨[(false, [.d (.bool true)])], (.cons rfl .nil), rfl, [], (RetC.rd' (by (congr 1; symm; first | (apply decide_eq_false; rintro rfl; first | exact absurd rfl ‹¬ _ = _› | exact absurd rfl (of_decide_eq_false (by assumption)) | contradiction | simp_all) | (apply decide_eq_true; exact take_all hx2 (by omega) hx3))) .nil)⟩
theorem ok_laws_eqProof (a : SProof) (b : SProof) : RO Try.prog 51 [.agg a.cells, .agg b.cells] [(false, [.rd (.bool (decide (a = b)))])] := by
 refine RO.intro Try.func51 rfl 17 rfl (le_ok rfl) fun w Z => ?_
 refine T.seq ?_
 refine T.region ?_
 refine TL.cons rfl (Step.box (p := (.agg [.d (.sl 10 (a.f0.map SHead.cells)), .d (.int .i64 a.f1.f0), .d (.int .i64 a.f1.f1), .d (.ints .u8 a.f1.f2), .d (.ints .u8 a.f1.f3), .d (.bss a.f1.f4)])) (ps := [.d (.sl 10 (a.f0.map SHead.cells)), .d (.int .i64 a.f1.f0), .d (.int .i64 a.f1.f1), .d (.ints .u8 a.f1.f2), .d (.ints .u8 a.f1.f3), .d (.bss a.f1.f4)]) rfl rfl (lt_ok rfl) rfl rfl rfl rfl rfl) ?_
 refine TL.cons rfl (Step.box (p := (.agg [.d (.sl 10 (b.f0.map SHead.cells)), .d (.int .i64 b.f1.f0), .d (.int .i64 b.f1.f1), .d (.ints .u8 b.f1.f2), .d (.ints .u8 b.f1.f3), .d (.bss b.f1.f4)])) (ps := [.d (.sl 10 (b.f0.map SHead.cells)), .d (.int .i64 b.f1.f0), .d (.int .i64 b.f1.f1), .d (.ints .u8 b.f1.f2), .d (.ints .u8 b.f1.f3), .d (.bss b.f1.f4)]) rfl rfl (lt_ok rfl) rfl rfl rfl rfl rfl) ?_
 refine TL.cons rfl (Step.assign (p := (.one (.d (.bool false)))) rfl rfl (lt_ok rfl) rfl) ?_
 refine TL.nil ?_
 refine T.seq ?_
 refine T.seq ?_
 refine T.region ?_
 refine TL.cons rfl (Step.fieldAddr (q := 0) (off := 0) (n := 1) (one := true) rfl rfl (lt_ok rfl) (by kernel_rfl) (Nat.succ_ne_zero _) rfl) ?_
 refine TL.cons rfl (Step.load_box (c := .d (.sl 10 (a.f0.map SHead.cells))) rfl rfl (lt_ok rfl) (by kernel_rfl) rfl rfl rfl) ?_
 refine TL.cons rfl (Step.fieldAddr (q := 0) (off := 0) (n := 1) (one := true) rfl rfl (lt_ok rfl) (by kernel_rfl) (Nat.succ_ne_zero _) rfl) ?_
 refine TL.cons rfl (Step.load_box (c := .d (.sl 10 (b.f0.map SHead.cells))) rfl rfl (lt_ok rfl) (by kernel_rfl) rfl rfl rfl) ?_
 refine TL.cons rfl (Step.call (f := 110) (xs := [.tmp 6, .tmp 8]) (ps := [(.one (.d (.sl 10 (a.f0.map SHead.cells)))), (.one (.d (.sl 10 (b.f0.map SHead.cells))))]) false (g := .func 110) rfl rfl (lt_ok rfl) rfl (by kernel_rfl) rfl (.cons (.one (.d _)) (.cons (.one (.d _)) .nil)) (ok_laws_eqHeadS a.f0 b.f0) (.inr rfl) rfl (by simp) rfl) ?_
 refine TL.cons rfl (Step.not (b := (decide (a.f0 = b.f0))) rfl rfl (lt_ok rfl) rfl) ?_
 refine TL.nil ?_
 refine T.cond (b := !(decide (a.f0 = b.f0))) rfl (fun h1 => ?_) (fun h1 => ?_)
 ·
  replace h1 : (decide (a.f0 = b.f0)) = false := by simpa only [Bool.not_eq_true', Bool.not_eq_false'] using h1
  replace h1 := of_decide_eq_false h1
  refine T.seq ?_
  refine T.region ?_
  refine TL.cons rfl (Step.assign (p := (.one (.d (.bool false)))) rfl rfl (lt_ok rfl) rfl) ?_
  refine TL.nil ?_
  refine T.ret ?_
  exact ⟨[(false, [.d (.bool false)])], (.cons rfl .nil), rfl, [], (RetC.rd' (by (congr 1; symm; first | (apply decide_eq_false; rintro rfl; first | exact absurd rfl ‹¬ _ = _› | contradiction) | (apply decide_eq_true; apply SProof.ext <;> first | assumption | exact Decidable.not_not.1 (by assumption)))) .nil)⟩
 ·
  replace h1 : (decide (a.f0 = b.f0)) = true := by simpa only [Bool.not_eq_true', Bool.not_eq_false'] using h1
  replace h1 := of_decide_eq_true h1
  refine T.skip ?_
  refine T.seq ?_
  refine T.seq ?_
  refine T.region ?_
  refine TL.cons rfl (Step.fieldAddr (q := 0) (off := 1) (n := 5) (one := false) rfl rfl (lt_ok rfl) (by kernel_rfl) (Nat.succ_ne_zero _) rfl) ?_
  refine TL.cons rfl (Step.load_box_agg (n := 5) (qs := [.d (.int .i64 a.f1.f0), .d (.int .i64 a.f1.f1), .d (.ints .u8 a.f1.f2), .d (.ints .u8 a.f1.f3), .d (.bss a.f1.f4)]) rfl rfl (lt_ok rfl) (by kernel_rfl) rfl rfl rfl rfl) ?_
  refine TL.cons rfl (Step.fieldAddr (q := 0) (off := 1) (n := 5) (one := false) rfl rfl (lt_ok rfl) (by kernel_rfl) (Nat.succ_ne_zero _) rfl) ?_
  refine TL.cons rfl (Step.load_box_agg (n := 5) (qs := [.d (.int .i64 b.f1.f0), .d (.int .i64 b.f1.f1), .d (.ints .u8 b.f1.f2), .d (.ints .u8 b.f1.f3), .d (.bss b.f1.f4)]) rfl rfl (lt_ok rfl) (by kernel_rfl) rfl rfl rfl rfl) ?_
  refine TL.cons rfl (Step.call (f := 35) (xs := [.tmp 12, .tmp 14]) (ps := [(.agg [.d (.int .i64 a.f1.f0), .d (.int .i64 a.f1.f1), .d (.ints .u8 a.f1.f2), .d (.ints .u8 a.f1.f3), .d (.bss a.f1.f4)]), (.agg [.d (.int .i64 b.f1.f0), .d (.int .i64 b.f1.f1), .d (.ints .u8 b.f1.f2), .d (.ints .u8 b.f1.f3), .d (.bss b.f1.f4)])]) false (g := .func 35) rfl rfl (lt_ok rfl) rfl (by kernel_rfl) rfl (.cons (.agg (.cons (.d _) (.cons (.d _) (.cons (.d _) (.cons (.d _) (.cons (.d _) .nil)))))) (.cons (.agg (.cons (.d _) (.cons (.d _) (.cons (.d _) (.cons (.d _) (.cons (.d _) .nil)))))) .nil)) (ok_laws_eqQc a.f1 b.f1) (.inr rfl) rfl (by simp) rfl) ?_
  refine TL.cons rfl (Step.not (b := (decide (a.f1 = b.f1))) rfl rfl (lt_ok rfl) rfl) ?_
  refine TL.nil ?_
  refine T.cond (b := !(decide (a.f1 = b.f1))) rfl (fun h2 => ?_) (fun h2 => ?_)
  ·
   replace h2 : (decide (a.f1 = b.f1)) = false := by simpa only [Bool.not_eq_true', Bool.not_eq_false'] using h2
   replace h2 := of_decide_eq_false h2
   refine T.seq ?_
   refine T.region ?_
   refine TL.cons rfl (Step.assign (p := (.one (.d (.bool false)))) rfl rfl (lt_ok rfl) rfl) ?_
   refine TL.nil ?_
   refine T.ret ?_
   exact ⟨[(false, [.d (.bool false)])], (.cons rfl .nil), rfl, [], (RetC.rd' (by (congr 1; symm; first | (apply decide_eq_false; rintro rfl; first | exact absurd rfl ‹¬ _ = _› | contradiction) | (apply decide_eq_true; apply SProof.ext <;> first | assumption | exact Decidable.not_not.1 (by assumption)))) .nil)⟩
  ·
   replace h2 : (decide (a.f1 = b.f1)) = true := by simpa only [Bool.not_eq_true', Bool.not_eq_false'] using h2
   replace h2 := of_decide_eq_true h2
   refine T.skip ?_
   refine T.seq ?_
   refine T.region ?_
   refine TL.cons rfl (Step.assign (p := (.one (.d (.bool true)))) rfl rfl (lt_ok rfl) rfl) ?_
   refine TL.nil ?_
   refine T.ret ?_
   exact ⟨[(false, [.d (.bool true)])], (.cons rfl .nil), rfl, [], (RetC.rd' (by (congr 1; symm; first | (apply decide_eq_false; rintro rfl; first | exact absurd rfl ‹¬ _ = _› | contradiction) | (apply decide_eq_true; apply SProof.ext <;> first | assumption | exact Decidable.not_not.1 (by assumption)))) .nil)⟩
theorem ok_laws_eqVote (a : SVote) (b : SVote) : RO Try.prog 105 [.agg a.cells, .agg b.cells] [(false, [.rd (.bool (decide (a = b)))])] := by
 refine RO.intro Try.func105 rfl 32 rfl (le_ok rfl) fun w Z => ?_
 refine T.seq ?_
 refine T.region ?_
 refine TL.cons rfl (Step.box (p := (.agg [.d (.int .i64 a.f0), .d (.int .i64 a.f1), .d (.ints .u8 a.f2), .d (.int .i64 a.f3), .d (.ints .u8 a.f4)])) (ps := [.d (.int .i64 a.f0), .d (.int .i64 a.f1), .d (.ints .u8 a.f2), .d (.int .i64 a.f3), .d (.ints .u8 a.f4)]) rfl rfl (lt_ok rfl) rfl rfl rfl rfl rfl) ?_
 refine TL.cons rfl (Step.box (p := (.agg [.d (.int .i64 b.f0), .d (.int .i64 b.f1), .d (.ints .u8 b.f2), .d (.int .i64 b.f3), .d (.ints .u8 b.f4)])) (ps := [.d (.int .i64 b.f0), .d (.int .i64 b.f1), .d (.ints .u8 b.f2), .d (.int .i64 b.f3), .d (.ints .u8 b.f4)]) rfl rfl (lt_ok rfl) rfl rfl rfl rfl rfl) ?_
 refine TL.cons rfl (Step.assign (p := (.one (.d (.bool false)))) rfl rfl (lt_ok rfl) rfl) ?_
 refine TL.nil ?_
 refine T.seq ?_
 refine T.seq ?_
 refine T.region ?_
 refine TL.cons rfl (Step.fieldAddr (q := 0) (off := 0) (n := 1) (one := true) rfl rfl (lt_ok rfl) (by kernel_rfl) (Nat.succ_ne_zero _) rfl) ?_
 refine TL.cons rfl (Step.load_box (c := .d (.int .i64 a.f0)) rfl rfl (lt_ok rfl) (by kernel_rfl) rfl rfl rfl) ?_
 refine TL.cons rfl (Step.fieldAddr (q := 0) (off := 0) (n := 1) (one := true) rfl rfl (lt_ok rfl) (by kernel_rfl) (Nat.succ_ne_zero _) rfl) ?_
 refine TL.cons rfl (Step.load_box (c := .d (.int .i64 b.f0)) rfl rfl (lt_ok rfl) (by kernel_rfl) rfl rfl rfl) ?_
 refine TL.cons rfl (Step.bin rfl rfl (lt_ok rfl) rfl rfl (Bin.neq (k := .i64) (a := a.f0) (b := b.f0))) ?_
 refine TL.nil ?_
 refine T.cond (b := decide (a.f0 ≠ b.f0)) rfl (fun h1 => ?_) (fun h1 => ?_)
 ·
  replace h1 := of_decide_eq_true h1
  refine T.seq ?_
  refine T.region ?_
  refine TL.cons rfl (Step.assign (p := (.one (.d (.bool false)))) rfl rfl (lt_ok rfl) rfl) ?_
  refine TL.nil ?_
  refine T.ret ?_
  exact ⟨[(false, [.d (.bool false)])], (.cons rfl .nil), rfl, [], (RetC.rd' (by (congr 1; symm; first | (apply decide_eq_false; rintro rfl; first | exact absurd rfl ‹¬ _ = _› | contradiction) | (apply decide_eq_true; apply SVote.ext <;> first | assumption | exact Decidable.not_not.1 (by assumption)))) .nil)⟩
 ·
  replace h1 := of_decide_eq_false h1
  refine T.skip ?_
  refine T.seq ?_
  refine T.seq ?_
  refine T.region ?_
  refine TL.cons rfl (Step.fieldAddr (q := 0) (off := 1) (n := 1) (one := true) rfl rfl (lt_ok rfl) (by kernel_rfl) (Nat.succ_ne_zero _) rfl) ?_
  refine TL.cons rfl (Step.load_box (c := .d (.int .i64 a.f1)) rfl rfl (lt_ok rfl) (by kernel_rfl) rfl rfl rfl) ?_
  refine TL.cons rfl (Step.fieldAddr (q := 0) (off := 1) (n := 1) (one := true) rfl rfl (lt_ok rfl) (by kernel_rfl) (Nat.succ_ne_zero _) rfl) ?_
  refine TL.cons rfl (Step.load_box (c := .d (.int .i64 b.f1)) rfl rfl (lt_ok rfl) (by kernel_rfl) rfl rfl rfl) ?_
  refine TL.cons rfl (Step.bin rfl rfl (lt_ok rfl) rfl rfl (Bin.neq (k := .i64) (a := a.f1) (b := b.f1))) ?_
  refine TL.nil ?_
  refine T.cond (b := decide (a.f1 ≠ b.f1)) rfl (fun h2 => ?_) (fun h2 => ?_)
  ·
   replace h2 := of_decide_eq_true h2
   refine T.seq ?_
   refine T.region ?_
   refine TL.cons rfl (Step.assign (p := (.one (.d (.bool false)))) rfl rfl (lt_ok rfl) rfl) ?_
   refine TL.nil ?_
   refine T.ret ?_
   exact ⟨[(false, [.d (.bool false)])], (.cons rfl .nil), rfl, [], (RetC.rd' (by (congr 1; symm; first | (apply decide_eq_false; rintro rfl; first | exact absurd rfl ‹¬ _ = _› | contradiction) | (apply decide_eq_true; apply SVote.ext <;> first | assumption | exact Decidable.not_not.1 (by assumption)))) .nil)⟩
  ·
   replace h2 := of_decide_eq_false h2
   refine T.skip ?_
   refine T.seq ?_
   refine T.seq ?_
   refine T.region ?_
   refine TL.cons rfl (Step.fieldAddr (q := 0) (off := 2) (n := 1) (one := true) rfl rfl (lt_ok rfl) (by kernel_rfl) (Nat.succ_ne_zero _) rfl) ?_
   refine TL.cons rfl (Step.load_box (c := .d (.ints .u8 a.f2)) rfl rfl (lt_ok rfl) (by kernel_rfl) rfl rfl rfl) ?_
   refine TL.cons rfl (Step.fieldAddr (q := 0) (off := 2) (n := 1) (one := true) rfl rfl (lt_ok rfl) (by kernel_rfl) (Nat.succ_ne_zero _) rfl) ?_
   refine TL.cons rfl (Step.load_box (c := .d (.ints .u8 b.f2)) rfl rfl (lt_ok rfl) (by kernel_rfl) rfl rfl rfl) ?_
   refine TL.cons rfl (Step.call (f := 56) (xs := [.tmp 16, .tmp 18]) (ps := [(.one (.d (.ints .u8 a.f2))), (.one (.d (.ints .u8 b.f2)))]) false (g := .func 56) rfl rfl (lt_ok rfl) rfl (by kernel_rfl) rfl (.cons (.one (.d _)) (.cons (.one (.d _)) .nil)) (ok_laws_eqByteS a.f2 b.f2) (.inr rfl) rfl (by simp) rfl) ?_
   refine TL.cons rfl (Step.not (b := (decide (a.f2 = b.f2))) rfl rfl (lt_ok rfl) rfl) ?_
   refine TL.nil ?_
   refine T.cond (b := !(decide (a.f2 = b.f2))) rfl (fun h3 => ?_) (fun h3 => ?_)
   ·
    replace h3 : (decide (a.f2 = b.f2)) = false := by simpa only [Bool.not_eq_true', Bool.not_eq_false'] using h3
    replace h3 := of_decide_eq_false h3
    refine T.seq ?_
    refine T.region ?_
    refine TL.cons rfl (Step.assign (p := (.one (.d (.bool false)))) rfl rfl (lt_ok rfl) rfl) ?_
    refine TL.nil ?_
    refine T.ret ?_
    exact ⟨[(false, [.d (.bool false)])], (.cons rfl .nil), rfl, [], (RetC.rd' (by (congr 1; symm; first | (apply decide_eq_false; rintro rfl; first | exact absurd rfl ‹¬ _ = _› | contradiction) | (apply decide_eq_true; apply SVote.ext <;> first | assumption | exact Decidable.not_not.1 (by assumption)))) .nil)⟩
   ·
    replace h3 : (decide (a.f2 = b.f2)) = true := by simpa only [Bool.not_eq_true', Bool.not_eq_false'] using h3
    replace h3 := of_decide_eq_true h3
    refine T.skip ?_
    refine T.seq ?_
    refine T.seq ?_
    refine T.region ?_
    refine TL.cons rfl (Step.fieldAddr (q := 0) (off := 3) (n := 1) (one := true) rfl rfl (lt_ok rfl) (by kernel_rfl) (Nat.succ_ne_zero _) rfl) ?_
    refine TL.cons rfl (Step.load_box (c := .d (.int .i64 a.f3)) rfl rfl (lt_ok rfl) (by kernel_rfl) rfl rfl rfl) ?_
    refine TL.cons rfl (Step.fieldAddr (q := 0) (off := 3) (n := 1) (one := true) rfl rfl (lt_ok rfl) (by kernel_rfl) (Nat.succ_ne_zero _) rfl) ?_
    refine TL.cons rfl (Step.load_box (c := .d (.int .i64 b.f3)) rfl rfl (lt_ok rfl) (by kernel_rfl) rfl rfl rfl) ?_
    refine TL.cons rfl (Step.bin rfl rfl (lt_ok rfl) rfl rfl (Bin.neq (k := .i64) (a := a.f3) (b := b.f3))) ?_
    refine TL.nil ?_
    refine T.cond (b := decide (a.f3 ≠ b.f3)) rfl (fun h4 => ?_) (fun h4 => ?_)
    ·
     replace h4 := of_decide_eq_true h4
     refine T.seq ?_
     refine T.region ?_
     refine TL.cons rfl (Step.assign (p := (.one (.d (.bool false)))) rfl rfl (lt_ok rfl) rfl) ?_
     refine TL.nil ?_
     refine T.ret ?_
     exact ⟨[(false, [.d (.bool false)])], (.cons rfl .nil), rfl, [], (RetC.rd' (by (congr 1; symm; first | (apply decide_eq_false; rintro rfl; first | exact absurd rfl ‹¬ _ = _› | contradiction) | (apply decide_eq_true; apply SVote.ext <;> first | assumption | exact Decidable.not_not.1 (by assumption)))) .nil)⟩
    ·
     replace h4 := of_decide_eq_false h4
     refine T.skip ?_
     refine T.seq ?_
     refine T.seq ?_
     refine T.region ?_
     refine TL.cons rfl (Step.fieldAddr (q := 0) (off := 4) (n := 1) (one := true) rfl rfl (lt_ok rfl) (by kernel_rfl) (Nat.succ_ne_zero _) rfl) ?_
     refine TL.cons rfl (Step.load_box (c := .d (.ints .u8 a.f4)) rfl rfl (lt_ok rfl) (by kernel_rfl) rfl rfl rfl) ?_
     refine TL.cons rfl (Step.fieldAddr (q := 0) (off := 4) (n := 1) (one := true) rfl rfl (lt_ok rfl) (by kernel_rfl) (Nat.succ_ne_zero _) rfl) ?_
     refine TL.cons rfl (Step.load_box (c := .d (.ints .u8 b.f4)) rfl rfl (lt_ok rfl) (by kernel_rfl) rfl rfl rfl) ?_
     refine TL.cons rfl (Step.call (f := 56) (xs := [.tmp 27, .tmp 29]) (ps := [(.one (.d (.ints .u8 a.f4))), (.one (.d (.ints .u8 b.f4)))]) false (g := .func 56) rfl rfl (lt_ok rfl) rfl (by kernel_rfl) rfl (.cons (.one (.d _)) (.cons (.one (.d _)) .nil)) (ok_laws_eqByteS a.f4 b.f4) (.inr rfl) rfl (by simp) rfl) ?_
     refine TL.cons rfl (Step.not (b := (decide (a.f4 = b.f4))) rfl rfl (lt_ok rfl) rfl) ?_
     refine TL.nil ?_
     refine T.cond (b := !(decide (a.f4 = b.f4))) rfl (fun h5 => ?_) (fun h5 => ?_)
     ·
      replace h5 : (decide (a.f4 = b.f4)) = false := by simpa only [Bool.not_eq_true', Bool.not_eq_false'] using h5
      replace h5 := of_decide_eq_false h5
      refine T.seq ?_
      refine T.region ?_
      refine TL.cons rfl (Step.assign (p := (.one (.d (.bool false)))) rfl rfl (lt_ok rfl) rfl) ?_
      refine TL.nil ?_
      refine T.ret ?_
      exact ⟨[(false, [.d (.bool false)])], (.cons rfl .nil), rfl, [], (RetC.rd' (by (congr 1; symm; first | (apply decide_eq_false; rintro rfl; first | exact absurd rfl ‹¬ _ = _› | contradiction) | (apply decide_eq_true; apply SVote.ext <;> first | assumption | exact Decidable.not_not.1 (by assumption)))) .nil)⟩
     ·
      replace h5 : (decide (a.f4 = b.f4)) = true := by simpa only [Bool.not_eq_true', Bool.not_eq_false'] using h5
      replace h5 := of_decide_eq_true h5
      refine T.skip ?_
      refine T.seq ?_
      refine T.region ?_
      refine TL.cons rfl (Step.assign (p := (.one (.d (.bool true)))) rfl rfl (lt_ok rfl) rfl) ?_
      refine TL.nil ?_
      refine T.ret ?_
      exact ⟨[(false, [.d (.bool true)])], (.cons rfl .nil), rfl, [], (RetC.rd' (by (congr 1; symm; first | (apply decide_eq_false; rintro rfl; first | exact absurd rfl ‹¬ _ = _› | contradiction) | (apply decide_eq_true; apply SVote.ext <;> first | assumption | exact Decidable.not_not.1 (by assumption)))) .nil)⟩
theorem ok_laws_eqMsg (a : SMsg) (b : SMsg) : RO Try.prog 144 [.agg a.cells, .agg b.cells] [(false, [.rd (.bool (decide (a = b)))])] := by
 refine RO.intro Try.func144 rfl 52 rfl (le_ok rfl) fun w Z => ?_
 refine T.seq ?_
 refine T.region ?_
 refine TL.cons rfl (Step.box (p := (.agg [.d (.int .i64 a.f0), .d (.int .i64 a.f1.f0), .d (.int .i64 a.f1.f1), .d (.ints .u8 a.f1.f2), .d (.int .i64 a.f1.f3), .d (.ints .u8 a.f1.f4), .d (.int .i64 a.f2.f0), .d (.int .i64 a.f2.f1), .d (.ints .u8 a.f2.f2), .d (.ints .u8 a.f2.f3), .d (.bss a.f2.f4), .d (.int .i64 a.f3.f0), .d (.int .i64 a.f3.f1), .d (.int .i64 a.f3.f2), .d (.ints .u8 a.f3.f3), .d (.ints .u8 a.f3.f4), .d (.int .i64 a.f3.f5.f0), .d (.int .i64 a.f3.f5.f1), .d (.ints .u8 a.f3.f5.f2), .d (.ints .u8 a.f3.f5.f3), .d (.bss a.f3.f5.f4), .d (.int .i64 a.f4.f0.f0), .d (.int .i64 a.f4.f0.f1), .d (.int .i64 a.f4.f0.f2), .d (.ints .u8 a.f4.f0.f3), .d (.ints .u8 a.f4.f0.f4), .d (.int .i64 a.f4.f0.f5.f0), .d (.int .i64 a.f4.f0.f5.f1), .d (.ints .u8 a.f4.f0.f5.f2), .d (.ints .u8 a.f4.f0.f5.f3), .d (.bss a.f4.f0.f5.f4), .d (.bss a.f4.f1), .d (.int .i64 a.f5.f0), .d (.sl 3 (a.f5.f1.map SEntry.cells)), .d (.sl 10 (a.f6.f0.map SHead.cells)), .d (.int .i64 a.f6.f1.f0), .d (.int .i64 a.f6.f1.f1), .d (.ints .u8 a.f6.f1.f2), .d (.ints .u8 a.f6.f1.f3), .d (.bss a.f6.f1.f4), .d (.int .i64 a.f7.f0), .d (.int .i64 a.f7.f1), .d (.int .i64 a.f7.f2), .d (.ints .u8 a.f7.f3), .d (.bss a.f7.f4)])) (ps := [.d (.int .i64 a.f0), .d (.int .i64 a.f1.f0), .d (.int .i64 a.f1.f1), .d (.ints .u8 a.f1.f2), .d (.int .i64 a.f1.f3), .d (.ints .u8 a.f1.f4), .d (.int .i64 a.f2.f0), .d (.int .i64 a.f2.f1), .d (.ints .u8 a.f2.f2), .d (.ints .u8 a.f2.f3), .d (.bss a.f2.f4), .d (.int .i64 a.f3.f0), .d (.int .i64 a.f3.f1), .d (.int .i64 a.f3.f2), .d (.ints .u8 a.f3.f3), .d (.ints .u8 a.f3.f4), .d (.int .i64 a.f3.f5.f0), .d (.int .i64 a.f3.f5.f1), .d (.ints .u8 a.f3.f5.f2), .d (.ints .u8 a.f3.f5.f3), .d (.bss a.f3.f5.f4), .d (.int .i64 a.f4.f0.f0), .d (.int .i64 a.f4.f0.f1), .d (.int .i64 a.f4.f0.f2), .d (.ints .u8 a.f4.f0.f3), .d (.ints .u8 a.f4.f0.f4), .d (.int .i64 a.f4.f0.f5.f0), .d (.int .i64 a.f4.f0.f5.f1), .d (.ints .u8 a.f4.f0.f5.f2), .d (.ints .u8 a.f4.f0.f5.f3), .d (.bss a.f4.f0.f5.f4), .d (.bss a.f4.f1), .d (.int .i64 a.f5.f0), .d (.sl 3 (a.f5.f1.map SEntry.cells)), .d (.sl 10 (a.f6.f0.map SHead.cells)), .d (.int .i64 a.f6.f1.f0), .d (.int .i64 a.f6.f1.f1), .d (.ints .u8 a.f6.f1.f2), .d (.ints .u8 a.f6.f1.f3), .d (.bss a.f6.f1.f4), .d (.int .i64 a.f7.f0), .d (.int .i64 a.f7.f1), .d (.int .i64 a.f7.f2), .d (.ints .u8 a.f7.f3), .d (.bss a.f7.f4)]) rfl rfl (lt_ok rfl) rfl rfl rfl rfl rfl) ?_
 refine TL.cons rfl (Step.box (p := (.agg [.d (.int .i64 b.f0), .d (.int .i64 b.f1.f0), .d (.int .i64 b.f1.f1), .d (.ints .u8 b.f1.f2), .d (.int .i64 b.f1.f3), .d (.ints .u8 b.f1.f4), .d (.int .i64 b.f2.f0), .d (.int .i64 b.f2.f1), .d (.ints .u8 b.f2.f2), .d (.ints .u8 b.f2.f3), .d (.bss b.f2.f4), .d (.int .i64 b.f3.f0), .d (.int .i64 b.f3.f1), .d (.int .i64 b.f3.f2), .d (.ints .u8 b.f3.f3), .d (.ints .u8 b.f3.f4), .d (.int .i64 b.f3.f5.f0), .d (.int .i64 b.f3.f5.f1), .d (.ints .u8 b.f3.f5.f2), .d (.ints .u8 b.f3.f5.f3), .d (.bss b.f3.f5.f4), .d (.int .i64 b.f4.f0.f0), .d (.int .i64 b.f4.f0.f1), .d (.int .i64 b.f4.f0.f2), .d (.ints .u8 b.f4.f0.f3), .d (.ints .u8 b.f4.f0.f4), .d (.int .i64 b.f4.f0.f5.f0), .d (.int .i64 b.f4.f0.f5.f1), .d (.ints .u8 b.f4.f0.f5.f2), .d (.ints .u8 b.f4.f0.f5.f3), .d (.bss b.f4.f0.f5.f4), .d (.bss b.f4.f1), .d (.int .i64 b.f5.f0), .d (.sl 3 (b.f5.f1.map SEntry.cells)), .d (.sl 10 (b.f6.f0.map SHead.cells)), .d (.int .i64 b.f6.f1.f0), .d (.int .i64 b.f6.f1.f1), .d (.ints .u8 b.f6.f1.f2), .d (.ints .u8 b.f6.f1.f3), .d (.bss b.f6.f1.f4), .d (.int .i64 b.f7.f0), .d (.int .i64 b.f7.f1), .d (.int .i64 b.f7.f2), .d (.ints .u8 b.f7.f3), .d (.bss b.f7.f4)])) (ps := [.d (.int .i64 b.f0), .d (.int .i64 b.f1.f0), .d (.int .i64 b.f1.f1), .d (.ints .u8 b.f1.f2), .d (.int .i64 b.f1.f3), .d (.ints .u8 b.f1.f4), .d (.int .i64 b.f2.f0), .d (.int .i64 b.f2.f1), .d (.ints .u8 b.f2.f2), .d (.ints .u8 b.f2.f3), .d (.bss b.f2.f4), .d (.int .i64 b.f3.f0), .d (.int .i64 b.f3.f1), .d (.int .i64 b.f3.f2), .d (.ints .u8 b.f3.f3), .d (.ints .u8 b.f3.f4), .d (.int .i64 b.f3.f5.f0), .d (.int .i64 b.f3.f5.f1), .d (.ints .u8 b.f3.f5.f2), .d (.ints .u8 b.f3.f5.f3), .d (.bss b.f3.f5.f4), .d (.int .i64 b.f4.f0.f0), .d (.int .i64 b.f4.f0.f1), .d (.int .i64 b.f4.f0.f2), .d (.ints .u8 b.f4.f0.f3), .d (.ints .u8 b.f4.f0.f4), .d (.int .i64 b.f4.f0.f5.f0), .d (.int .i64 b.f4.f0.f5.f1), .d (.ints .u8 b.f4.f0.f5.f2), .d (.ints .u8 b.f4.f0.f5.f3), .d (.bss b.f4.f0.f5.f4), .d (.bss b.f4.f1), .d (.int .i64 b.f5.f0), .d (.sl 3 (b.f5.f1.map SEntry.cells)), .d (.sl 10 (b.f6.f0.map SHead.cells)), .d (.int .i64 b.f6.f1.f0), .d (.int .i64 b.f6.f1.f1), .d (.ints .u8 b.f6.f1.f2), .d (.ints .u8 b.f6.f1.f3), .d (.bss b.f6.f1.f4), .d (.int .i64 b.f7.f0), .d (.int .i64 b.f7.f1), .d (.int .i64 b.f7.f2), .d (.ints .u8 b.f7.f3), .d (.bss b.f7.f4)]) rfl rfl (lt_ok rfl) rfl rfl rfl rfl rfl) ?_
 refine TL.cons rfl (Step.assign (p := (.one (.d (.bool false)))) rfl rfl (lt_ok rfl) rfl) ?_
 refine TL.nil ?_
 refine T.weaken (E' := { tm := [(2, (.one (.ptr 2 0))), (3, (.one (.ptr 3 0))), (4, (.one (.d (.bool false))))], rows := [], boxes := [(2, (150, [.d (.int .i64 a.f0), .d (.int .i64 a.f1.f0), .d (.int .i64 a.f1.f1), .d (.ints .u8 a.f1.f2), .d (.int .i64 a.f1.f3), .d (.ints .u8 a.f1.f4), .d (.int .i64 a.f2.f0), .d (.int .i64 a.f2.f1), .d (.ints .u8 a.f2.f2), .d (.ints .u8 a.f2.f3), .d (.bss a.f2.f4), .d (.int .i64 a.f3.f0), .d (.int .i64 a.f3.f1), .d (.int .i64 a.f3.f2), .d (.ints .u8 a.f3.f3), .d (.ints .u8 a.f3.f4), .d (.int .i64 a.f3.f5.f0), .d (.int .i64 a.f3.f5.f1), .d (.ints .u8 a.f3.f5.f2), .d (.ints .u8 a.f3.f5.f3), .d (.bss a.f3.f5.f4), .d (.int .i64 a.f4.f0.f0), .d (.int .i64 a.f4.f0.f1), .d (.int .i64 a.f4.f0.f2), .d (.ints .u8 a.f4.f0.f3), .d (.ints .u8 a.f4.f0.f4), .d (.int .i64 a.f4.f0.f5.f0), .d (.int .i64 a.f4.f0.f5.f1), .d (.ints .u8 a.f4.f0.f5.f2), .d (.ints .u8 a.f4.f0.f5.f3), .d (.bss a.f4.f0.f5.f4), .d (.bss a.f4.f1), .d (.int .i64 a.f5.f0), .d (.sl 3 (a.f5.f1.map SEntry.cells)), .d (.sl 10 (a.f6.f0.map SHead.cells)), .d (.int .i64 a.f6.f1.f0), .d (.int .i64 a.f6.f1.f1), .d (.ints .u8 a.f6.f1.f2), .d (.ints .u8 a.f6.f1.f3), .d (.bss a.f6.f1.f4), .d (.int .i64 a.f7.f0), .d (.int .i64 a.f7.f1), .d (.int .i64 a.f7.f2), .d (.ints .u8 a.f7.f3), .d (.bss a.f7.f4)])), (3, (150, [.d (.int .i64 b.f0), .d (.int .i64 b.f1.f0), .d (.int .i64 b.f1.f1), .d (.ints .u8 b.f1.f2), .d (.int .i64 b.f1.f3), .d (.ints .u8 b.f1.f4), .d (.int .i64 b.f2.f0), .d (.int .i64 b.f2.f1), .d (.ints .u8 b.f2.f2), .d (.ints .u8 b.f2.f3), .d (.bss b.f2.f4), .d (.int .i64 b.f3.f0), .d (.int .i64 b.f3.f1), .d (.int .i64 b.f3.f2), .d (.ints .u8 b.f3.f3), .d (.ints .u8 b.f3.f4), .d (.int .i64 b.f3.f5.f0), .d (.int .i64 b.f3.f5.f1), .d (.ints .u8 b.f3.f5.f2), .d (.ints .u8 b.f3.f5.f3), .d (.bss b.f3.f5.f4), .d (.int .i64 b.f4.f0.f0), .d (.int .i64 b.f4.f0.f1), .d (.int .i64 b.f4.f0.f2), .d (.ints .u8 b.f4.f0.f3), .d (.ints .u8 b.f4.f0.f4), .d (.int .i64 b.f4.f0.f5.f0), .d (.int .i64 b.f4.f0.f5.f1), .d (.ints .u8 b.f4.f0.f5.f2), .d (.ints .u8 b.f4.f0.f5.f3), .d (.bss b.f4.f0.f5.f4), .d (.bss b.f4.f1), .d (.int .i64 b.f5.f0), .d (.sl 3 (b.f5.f1.map SEntry.cells)), .d (.sl 10 (b.f6.f0.map SHead.cells)), .d (.int .i64 b.f6.f1.f0), .d (.int .i64 b.f6.f1.f1), .d (.ints .u8 b.f6.f1.f2), .d (.ints .u8 b.f6.f1.f3), .d (.bss b.f6.f1.f4), .d (.int .i64 b.f7.f0), .d (.int .i64 b.f7.f1), .d (.int .i64 b.f7.f2), .d (.ints .u8 b.f7.f3), .d (.bss b.f7.f4)]))] }) (Env.le_mk ⟨by kernel_rfl, by kernel_rfl, by kernel_rfl, trivial⟩ trivial ⟨by kernel_rfl, by kernel_rfl, trivial⟩) ?_
 refine T.seq ?_
 refine T.seq ?_
 refine T.region ?_
 refine TL.cons rfl (Step.fieldAddr (q := 0) (off := 0) (n := 1) (one := true) rfl rfl (lt_ok rfl) (by kernel_rfl) (Nat.succ_ne_zero _) rfl) ?_
 refine TL.cons rfl (Step.load_box (c := .d (.int .i64 a.f0)) rfl rfl (lt_ok rfl) (by kernel_rfl) rfl rfl rfl) ?_
 refine TL.cons rfl (Step.fieldAddr (q := 0) (off := 0) (n := 1) (one := true) rfl rfl (lt_ok rfl) (by kernel_rfl) (Nat.succ_ne_zero _) rfl) ?_
 refine TL.cons rfl (Step.load_box (c := .d (.int .i64 b.f0)) rfl rfl (lt_ok rfl) (by kernel_rfl) rfl rfl rfl) ?_
 refine TL.cons rfl (Step.bin rfl rfl (lt_ok rfl) rfl rfl (Bin.neq (k := .i64) (a := a.f0) (b := b.f0))) ?_
 refine TL.nil ?_
 refine T.cond (b := decide (a.f0 ≠ b.f0)) rfl (fun h1 => ?_) (fun h1 => ?_)
 ·
  replace h1 := of_decide_eq_true h1
  refine T.seq ?_
  refine T.region ?_
  refine TL.cons rfl (Step.assign (p := (.one (.d (.bool false)))) rfl rfl (lt_ok rfl) rfl) ?_
  refine TL.nil ?_
  refine T.ret ?_
  exact ⟨[(false, [.d (.bool false)])], (.cons rfl .nil), rfl, [], (RetC.rd' (by (congr 1; symm; first | (apply decide_eq_false; rintro rfl; first | exact absurd rfl ‹¬ _ = _› | contradiction) | (apply decide_eq_true; apply SMsg.ext <;> first | assumption | exact Decidable.not_not.1 (by assumption)))) .nil)⟩
 ·
  replace h1 := of_decide_eq_false h1
  refine T.skip ?_
  refine T.seq ?_
  refine T.seq ?_
  refine T.region ?_
  refine TL.cons rfl (Step.fieldAddr (q := 0) (off := 1) (n := 5) (one := false) rfl rfl (lt_ok rfl) (by kernel_rfl) (Nat.succ_ne_zero _) rfl) ?_
  refine TL.cons rfl (Step.load_box_agg (n := 5) (qs := [.d (.int .i64 a.f1.f0), .d (.int .i64 a.f1.f1), .d (.ints .u8 a.f1.f2), .d (.int .i64 a.f1.f3), .d (.ints .u8 a.f1.f4)]) rfl rfl (lt_ok rfl) (by kernel_rfl) rfl rfl rfl rfl) ?_
  refine TL.cons rfl (Step.fieldAddr (q := 0) (off := 1) (n := 5) (one := false) rfl rfl (lt_ok rfl) (by kernel_rfl) (Nat.succ_ne_zero _) rfl) ?_
  refine TL.cons rfl (Step.load_box_agg (n := 5) (qs := [.d (.int .i64 b.f1.f0), .d (.int .i64 b.f1.f1), .d (.ints .u8 b.f1.f2), .d (.int .i64 b.f1.f3), .d (.ints .u8 b.f1.f4)]) rfl rfl (lt_ok rfl) (by kernel_rfl) rfl rfl rfl rfl) ?_
  refine TL.cons rfl (Step.call (f := 105) (xs := [.tmp 11, .tmp 13]) (ps := [(.agg [.d (.int .i64 a.f1.f0), .d (.int .i64 a.f1.f1), .d (.ints .u8 a.f1.f2), .d (.int .i64 a.f1.f3), .d (.ints .u8 a.f1.f4)]), (.agg [.d (.int .i64 b.f1.f0), .d (.int .i64 b.f1.f1), .d (.ints .u8 b.f1.f2), .d (.int .i64 b.f1.f3), .d (.ints .u8 b.f1.f4)])]) false (g := .func 105) rfl rfl (lt_ok rfl) rfl (by kernel_rfl) rfl (.cons (.agg (.cons (.d _) (.cons (.d _) (.cons (.d _) (.cons (.d _) (.cons (.d _) .nil)))))) (.cons (.agg (.cons (.d _) (.cons (.d _) (.cons (.d _) (.cons (.d _) (.cons (.d _) .nil)))))) .nil)) (ok_laws_eqVote a.f1 b.f1) (.inr rfl) rfl (by simp) rfl) ?_
  refine TL.cons rfl (Step.not (b := (decide (a.f1 = b.f1))) rfl rfl (lt_ok rfl) rfl) ?_
  refine TL.nil ?_
  refine T.cond (b := !(decide (a.f1 = b.f1))) rfl (fun h2 => ?_) (fun h2 => ?_)
  ·
   replace h2 : (decide (a.f1 = b.f1)) = false := by simpa only [Bool.not_eq_true', Bool.not_eq_false'] using h2
   replace h2 := of_decide_eq_false h2
   refine T.seq ?_
   refine T.region ?_
   refine TL.cons rfl (Step.assign (p := (.one (.d (.bool false)))) rfl rfl (lt_ok rfl) rfl) ?_
   refine TL.nil ?_
   refine T.ret ?_
   exact ⟨[(false, [.d (.bool false)])], (.cons rfl .nil), rfl, [], (RetC.rd' (by (congr 1; symm; first | (apply decide_eq_false; rintro rfl; first | exact absurd rfl ‹¬ _ = _› | contradiction) | (apply decide_eq_true; apply SMsg.ext <;> first | assumption | exact Decidable.not_not.1 (by assumption)))) .nil)⟩
  ·
   replace h2 : (decide (a.f1 = b.f1)) = true := by simpa only [Bool.not_eq_true', Bool.not_eq_false'] using h2
   replace h2 := of_decide_eq_true h2
   refine T.skip ?_
   refine T.seq ?_
   refine T.seq ?_
   refine T.region ?_
   refine TL.cons rfl (Step.fieldAddr (q := 0) (off := 6) (n := 5) (one := false) rfl rfl (lt_ok rfl) (by kernel_rfl) (Nat.succ_ne_zero _) rfl) ?_
   refine TL.cons rfl (Step.load_box_agg (n := 5) (qs := [.d (.int .i64 a.f2.f0), .d (.int .i64 a.f2.f1), .d (.ints .u8 a.f2.f2), .d (.ints .u8 a.f2.f3), .d (.bss a.f2.f4)]) rfl rfl (lt_ok rfl) (by kernel_rfl) rfl rfl rfl rfl) ?_
   refine TL.cons rfl (Step.fieldAddr (q := 0) (off := 6) (n := 5) (one := false) rfl rfl (lt_ok rfl) (by kernel_rfl) (Nat.succ_ne_zero _) rfl) ?_
   refine TL.cons rfl (Step.load_box_agg (n := 5) (qs := [.d (.int .i64 b.f2.f0), .d (.int .i64 b.f2.f1), .d (.ints .u8 b.f2.f2), .d (.ints .u8 b.f2.f3), .d (.bss b.f2.f4)]) rfl rfl (lt_ok rfl) (by kernel_rfl) rfl rfl rfl rfl) ?_
   refine TL.cons rfl (Step.call (f := 35) (xs := [.tmp 17, .tmp 19]) (ps := [(.agg [.d (.int .i64 a.f2.f0), .d (.int .i64 a.f2.f1), .d (.ints .u8 a.f2.f2), .d (.ints .u8 a.f2.f3), .d (.bss a.f2.f4)]), (.agg [.d (.int .i64 b.f2.f0), .d (.int .i64 b.f2.f1), .d (.ints .u8 b.f2.f2), .d (.ints .u8 b.f2.f3), .d (.bss b.f2.f4)])]) false (g := .func 35) rfl rfl (lt_ok rfl) rfl (by kernel_rfl) rfl (.cons (.agg (.cons (.d _) (.cons (.d _) (.cons (.d _) (.cons (.d _) (.cons (.d _) .nil)))))) (.cons (.agg (.cons (.d _) (.cons (.d _) (.cons (.d _) (.cons (.d _) (.cons (.d _) .nil)))))) .nil)) (ok_laws_eqQc a.f2 b.f2) (.inr rfl) rfl (by simp) rfl) ?_
   refine TL.cons rfl (Step.not (b := (decide (a.f2 = b.f2))) rfl rfl (lt_ok rfl) rfl) ?_
   refine TL.nil ?_
   refine T.cond (b := !(decide (a.f2 = b.f2))) rfl (fun h3 => ?_) (fun h3 => ?_)
   ·
    replace h3 : (decide (a.f2 = b.f2)) = false := by simpa only [Bool.not_eq_true', Bool.not_eq_false'] using h3
    replace h3 := of_decide_eq_false h3
    refine T.seq ?_
    refine T.region ?_
    refine TL.cons rfl (Step.assign (p := (.one (.d (.bool false)))) rfl rfl (lt_ok rfl) rfl) ?_
    refine TL.nil ?_
    refine T.ret ?_
    exact ⟨[(false, [.d (.bool false)])], (.cons rfl .nil), rfl, [], (RetC.rd' (by (congr 1; symm; first | (apply decide_eq_false; rintro rfl; first | exact absurd rfl ‹¬ _ = _› | contradiction) | (apply decide_eq_true; apply SMsg.ext <;> first | assumption | exact Decidable.not_not.1 (by assumption)))) .nil)⟩
   ·
    replace h3 : (decide (a.f2 = b.f2)) = true := by simpa only [Bool.not_eq_true', Bool.not_eq_false'] using h3
    replace h3 := of_decide_eq_true h3
    refine T.skip ?_
    refine T.seq ?_
    refine T.seq ?_
    refine T.region ?_
    refine TL.cons rfl (Step.fieldAddr (q := 0) (off := 11) (n := 10) (one := false) rfl rfl (lt_ok rfl) (by kernel_rfl) (Nat.succ_ne_zero _) rfl) ?_
    refine TL.cons rfl (Step.load_box_agg (n := 10) (qs := [.d (.int .i64 a.f3.f0), .d (.int .i64 a.f3.f1), .d (.int .i64 a.f3.f2), .d (.ints .u8 a.f3.f3), .d (.ints .u8 a.f3.f4), .d (.int .i64 a.f3.f5.f0), .d (.int .i64 a.f3.f5.f1), .d (.ints .u8 a.f3.f5.f2), .d (.ints .u8 a.f3.f5.f3), .d (.bss a.f3.f5.f4)]) rfl rfl (lt_ok rfl) (by kernel_rfl) rfl rfl rfl rfl) ?_
    refine TL.cons rfl (Step.fieldAddr (q := 0) (off := 11) (n := 10) (one := false) rfl rfl (lt_ok rfl) (by kernel_rfl) (Nat.succ_ne_zero _) rfl) ?_
    refine TL.cons rfl (Step.load_box_agg (n := 10) (qs := [.d (.int .i64 b.f3.f0), .d (.int .i64 b.f3.f1), .d (.int .i64 b.f3.f2), .d (.ints .u8 b.f3.f3), .d (.ints .u8 b.f3.f4), .d (.int .i64 b.f3.f5.f0), .d (.int .i64 b.f3.f5.f1), .d (.ints .u8 b.f3.f5.f2), .d (.ints .u8 b.f3.f5.f3), .d (.bss b.f3.f5.f4)]) rfl rfl (lt_ok rfl) (by kernel_rfl) rfl rfl rfl rfl) ?_
    refine TL.cons rfl (Step.call (f := 30) (xs := [.tmp 23, .tmp 25]) (ps := [(.agg [.d (.int .i64 a.f3.f0), .d (.int .i64 a.f3.f1), .d (.int .i64 a.f3.f2), .d (.ints .u8 a.f3.f3), .d (.ints .u8 a.f3.f4), .d (.int .i64 a.f3.f5.f0), .d (.int .i64 a.f3.f5.f1), .d (.ints .u8 a.f3.f5.f2), .d (.ints .u8 a.f3.f5.f3), .d (.bss a.f3.f5.f4)]), (.agg [.d (.int .i64 b.f3.f0), .d (.int .i64 b.f3.f1), .d (.int .i64 b.f3.f2), .d (.ints .u8 b.f3.f3), .d (.ints .u8 b.f3.f4), .d (.int .i64 b.f3.f5.f0), .d (.int .i64 b.f3.f5.f1), .d (.ints .u8 b.f3.f5.f2), .d (.ints .u8 b.f3.f5.f3), .d (.bss b.f3.f5.f4)])]) false (g := .func 30) rfl rfl (lt_ok rfl) rfl (by kernel_rfl) rfl (.cons (.agg (.cons (.d _) (.cons (.d _) (.cons (.d _) (.cons (.d _) (.cons (.d _) (.cons (.d _) (.cons (.d _) (.cons (.d _) (.cons (.d _) (.cons (.d _) .nil))))))))))) (.cons (.agg (.cons (.d _) (.cons (.d _) (.cons (.d _) (.cons (.d _) (.cons (.d _) (.cons (.d _) (.cons (.d _) (.cons (.d _) (.cons (.d _) (.cons (.d _) .nil))))))))))) .nil)) (ok_laws_eqHead a.f3 b.f3) (.inr rfl) rfl (by simp) rfl) ?_
    refine TL.cons rfl (Step.not (b := (decide (a.f3 = b.f3))) rfl rfl (lt_ok rfl) rfl) ?_
    refine TL.nil ?_
    refine T.cond (b := !(decide (a.f3 = b.f3))) rfl (fun h4 => ?_) (fun h4 => ?_)
    ·
     replace h4 : (decide (a.f3 = b.f3)) = false := by simpa only [Bool.not_eq_true', Bool.not_eq_false'] using h4
     replace h4 := of_decide_eq_false h4
     refine T.seq ?_
     refine T.region ?_
     refine TL.cons rfl (Step.assign (p := (.one (.d (.bool false)))) rfl rfl (lt_ok rfl) rfl) ?_
     refine TL.nil ?_
     refine T.ret ?_
     exact ⟨[(false, [.d (.bool false)])], (.cons rfl .nil), rfl, [], (RetC.rd' (by (congr 1; symm; first | (apply decide_eq_false; rintro rfl; first | exact absurd rfl ‹¬ _ = _› | contradiction) | (apply decide_eq_true; apply SMsg.ext <;> first | assumption | exact Decidable.not_not.1 (by assumption)))) .nil)⟩
    ·
     replace h4 : (decide (a.f3 = b.f3)) = true := by simpa only [Bool.not_eq_true', Bool.not_eq_false'] using h4
     replace h4 := of_decide_eq_true h4
     refine T.skip ?_
     refine T.seq ?_
     refine T.seq ?_
     refine T.region ?_
     refine TL.cons rfl (Step.fieldAddr (q := 0) (off := 21) (n := 11) (one := false) rfl rfl (lt_ok rfl) (by kernel_rfl) (Nat.succ_ne_zero _) rfl) ?_
     refine TL.cons rfl (Step.load_box_agg (n := 11) (qs := [.d (.int .i64 a.f4.f0.f0), .d (.int .i64 a.f4.f0.f1), .d (.int .i64 a.f4.f0.f2), .d (.ints .u8 a.f4.f0.f3), .d (.ints .u8 a.f4.f0.f4), .d (.int .i64 a.f4.f0.f5.f0), .d (.int .i64 a.f4.f0.f5.f1), .d (.ints .u8 a.f4.f0.f5.f2), .d (.ints .u8 a.f4.f0.f5.f3), .d (.bss a.f4.f0.f5.f4), .d (.bss a.f4.f1)]) rfl rfl (lt_ok rfl) (by kernel_rfl) rfl rfl rfl rfl) ?_
     refine TL.cons rfl (Step.fieldAddr (q := 0) (off := 21) (n := 11) (one := false) rfl rfl (lt_ok rfl) (by kernel_rfl) (Nat.succ_ne_zero _) rfl) ?_
     refine TL.cons rfl (Step.load_box_agg (n := 11) (qs := [.d (.int .i64 b.f4.f0.f0), .d (.int .i64 b.f4.f0.f1), .d (.int .i64 b.f4.f0.f2), .d (.ints .u8 b.f4.f0.f3), .d (.ints .u8 b.f4.f0.f4), .d (.int .i64 b.f4.f0.f5.f0), .d (.int .i64 b.f4.f0.f5.f1), .d (.ints .u8 b.f4.f0.f5.f2), .d (.ints .u8 b.f4.f0.f5.f3), .d (.bss b.f4.f0.f5.f4), .d (.bss b.f4.f1)]) rfl rfl (lt_ok rfl) (by kernel_rfl) rfl rfl rfl rfl) ?_
     refine TL.cons rfl (Step.call (f := 40) (xs := [.tmp 29, .tmp 31]) (ps := [(.agg [.d (.int .i64 a.f4.f0.f0), .d (.int .i64 a.f4.f0.f1), .d (.int .i64 a.f4.f0.f2), .d (.ints .u8 a.f4.f0.f3), .d (.ints .u8 a.f4.f0.f4), .d (.int .i64 a.f4.f0.f5.f0), .d (.int .i64 a.f4.f0.f5.f1), .d (.ints .u8 a.f4.f0.f5.f2), .d (.ints .u8 a.f4.f0.f5.f3), .d (.bss a.f4.f0.f5.f4), .d (.bss a.f4.f1)]), (.agg [.d (.int .i64 b.f4.f0.f0), .d (.int .i64 b.f4.f0.f1), .d (.int .i64 b.f4.f0.f2), .d (.ints .u8 b.f4.f0.f3), .d (.ints .u8 b.f4.f0.f4), .d (.int .i64 b.f4.f0.f5.f0), .d (.int .i64 b.f4.f0.f5.f1), .d (.ints .u8 b.f4.f0.f5.f2), .d (.ints .u8 b.f4.f0.f5.f3), .d (.bss b.f4.f0.f5.f4), .d (.bss b.f4.f1)])]) false (g := .func 40) rfl rfl (lt_ok rfl) rfl (by kernel_rfl) rfl (.cons (.agg (.cons (.d _) (.cons (.d _) (.cons (.d _) (.cons (.d _) (.cons (.d _) (.cons (.d _) (.cons (.d _) (.cons (.d _) (.cons (.d _) (.cons (.d _) (.cons (.d _) .nil)))))))))))) (.cons (.agg (.cons (.d _) (.cons (.d _) (.cons (.d _) (.cons (.d _) (.cons (.d _) (.cons (.d _) (.cons (.d _) (.cons (.d _) (.cons (.d _) (.cons (.d _) (.cons (.d _) .nil)))))))))))) .nil)) (ok_laws_eqBlock a.f4 b.f4) (.inr rfl) rfl (by simp) rfl) ?_
     refine TL.cons rfl (Step.not (b := (decide (a.f4 = b.f4))) rfl rfl (lt_ok rfl) rfl) ?_
     refine TL.nil ?_
     refine T.weaken (E' := { tm := [(2, (.one (.ptr 2 0))), (3, (.one (.ptr 3 0))), (4, (.one (.d (.bool false)))), (33, (.one (.d (.bool (!(decide (a.f4 = b.f4)))))))], rows := [], boxes := [(2, (150, [.d (.int .i64 a.f0), .d (.int .i64 a.f1.f0), .d (.int .i64 a.f1.f1), .d (.ints .u8 a.f1.f2), .d (.int .i64 a.f1.f3), .d (.ints .u8 a.f1.f4), .d (.int .i64 a.f2.f0), .d (.int .i64 a.f2.f1), .d (.ints .u8 a.f2.f2), .d (.ints .u8 a.f2.f3), .d (.bss a.f2.f4), .d (.int .i64 a.f3.f0), .d (.int .i64 a.f3.f1), .d (.int .i64 a.f3.f2), .d (.ints .u8 a.f3.f3), .d (.ints .u8 a.f3.f4), .d (.int .i64 a.f3.f5.f0), .d (.int .i64 a.f3.f5.f1), .d (.ints .u8 a.f3.f5.f2), .d (.ints .u8 a.f3.f5.f3), .d (.bss a.f3.f5.f4), .d (.int .i64 a.f4.f0.f0), .d (.int .i64 a.f4.f0.f1), .d (.int .i64 a.f4.f0.f2), .d (.ints .u8 a.f4.f0.f3), .d (.ints .u8 a.f4.f0.f4), .d (.int .i64 a.f4.f0.f5.f0), .d (.int .i64 a.f4.f0.f5.f1), .d (.ints .u8 a.f4.f0.f5.f2), .d (.ints .u8 a.f4.f0.f5.f3), .d (.bss a.f4.f0.f5.f4), .d (.bss a.f4.f1), .d (.int .i64 a.f5.f0), .d (.sl 3 (a.f5.f1.map SEntry.cells)), .d (.sl 10 (a.f6.f0.map SHead.cells)), .d (.int .i64 a.f6.f1.f0), .d (.int .i64 a.f6.f1.f1), .d (.ints .u8 a.f6.f1.f2), .d (.ints .u8 a.f6.f1.f3), .d (.bss a.f6.f1.f4), .d (.int .i64 a.f7.f0), .d (.int .i64 a.f7.f1), .d (.int .i64 a.f7.f2), .d (.ints .u8 a.f7.f3), .d (.bss a.f7.f4)])), (3, (150, [.d (.int .i64 b.f0), .d (.int .i64 b.f1.f0), .d (.int .i64 b.f1.f1), .d (.ints .u8 b.f1.f2), .d (.int .i64 b.f1.f3), .d (.ints .u8 b.f1.f4), .d (.int .i64 b.f2.f0), .d (.int .i64 b.f2.f1), .d (.ints .u8 b.f2.f2), .d (.ints .u8 b.f2.f3), .d (.bss b.f2.f4), .d (.int .i64 b.f3.f0), .d (.int .i64 b.f3.f1), .d (.int .i64 b.f3.f2), .d (.ints .u8 b.f3.f3), .d (.ints .u8 b.f3.f4), .d (.int .i64 b.f3.f5.f0), .d (.int .i64 b.f3.f5.f1), .d (.ints .u8 b.f3.f5.f2), .d (.ints .u8 b.f3.f5.f3), .d (.bss b.f3.f5.f4), .d (.int .i64 b.f4.f0.f0), .d (.int .i64 b.f4.f0.f1), .d (.int .i64 b.f4.f0.f2), .d (.ints .u8 b.f4.f0.f3), .d (.ints .u8 b.f4.f0.f4), .d (.int .i64 b.f4.f0.f5.f0), .d (.int .i64 b.f4.f0.f5.f1), .d (.ints .u8 b.f4.f0.f5.f2), .d (.ints .u8 b.f4.f0.f5.f3), .d (.bss b.f4.f0.f5.f4), .d (.bss b.f4.f1), .d (.int .i64 b.f5.f0), .d (.sl 3 (b.f5.f1.map SEntry.cells)), .d (.sl 10 (b.f6.f0.map SHead.cells)), .d (.int .i64 b.f6.f1.f0), .d (.int .i64 b.f6.f1.f1), .d (.ints .u8 b.f6.f1.f2), .d (.ints .u8 b.f6.f1.f3), .d (.bss b.f6.f1.f4), .d (.int .i64 b.f7.f0), .d (.int .i64 b.f7.f1), .d (.int .i64 b.f7.f2), .d (.ints .u8 b.f7.f3), .d (.bss b.f7.f4)]))] }) (Env.le_mk ⟨by kernel_rfl, by kernel_rfl, by kernel_rfl, by kernel_rfl, trivial⟩ trivial ⟨by kernel_rfl, by kernel_rfl, trivial⟩) ?_
     refine T.cond (b := !(decide (a.f4 = b.f4))) rfl (fun h5 => ?_) (fun h5 => ?_)
     ·
      replace h5 : (decide (a.f4 = b.f4)) = false := by simpa only [Bool.not_eq_true', Bool.not_eq_false'] using h5
      replace h5 := of_decide_eq_false h5
      refine T.seq ?_
      refine T.region ?_
      refine TL.cons rfl (Step.assign (p := (.one (.d (.bool false)))) rfl rfl (lt_ok rfl) rfl) ?_
      refine TL.nil ?_
      refine T.ret ?_
      exact ⟨[(false, [.d (.bool false)])], (.cons rfl .nil), rfl, [], (RetC.rd' (by (congr 1; symm; first | (apply decide_eq_false; rintro rfl; first | exact absurd rfl ‹¬ _ = _› | contradiction) | (apply decide_eq_true; apply SMsg.ext <;> first | assumption | exact Decidable.not_not.1 (by assumption)))) .nil)⟩
     ·
      replace h5 : (decide (a.f4 = b.f4)) = true := by simpa only [Bool.not_eq_true', Bool.not_eq_false'] using h5
      replace h5 := of_decide_eq_true h5
      refine T.skip ?_
      refine T.seq ?_
      refine T.seq ?_
      refine T.region ?_
      refine TL.cons rfl (Step.fieldAddr (q := 0) (off := 32) (n := 2) (one := false) rfl rfl (lt_ok rfl) (by kernel_rfl) (Nat.succ_ne_zero _) rfl) ?_
      refine TL.cons rfl (Step.load_box_agg (n := 2) (qs := [.d (.int .i64 a.f5.f0), .d (.sl 3 (a.f5.f1.map SEntry.cells))]) rfl rfl (lt_ok rfl) (by kernel_rfl) rfl rfl rfl rfl) ?_
      refine TL.cons rfl (Step.fieldAddr (q := 0) (off := 32) (n := 2) (one := false) rfl rfl (lt_ok rfl) (by kernel_rfl) (Nat.succ_ne_zero _) rfl) ?_
      refine TL.cons rfl (Step.load_box_agg (n := 2) (qs := [.d (.int .i64 b.f5.f0), .d (.sl 3 (b.f5.f1.map SEntry.cells))]) rfl rfl (lt_ok rfl) (by kernel_rfl) rfl rfl rfl rfl) ?_
      refine TL.cons rfl (Step.call (f := 20) (xs := [.tmp 35, .tmp 37]) (ps := [(.agg [.d (.int .i64 a.f5.f0), .d (.sl 3 (a.f5.f1.map SEntry.cells))]), (.agg [.d (.int .i64 b.f5.f0), .d (.sl 3 (b.f5.f1.map SEntry.cells))])]) false (g := .func 20) rfl rfl (lt_ok rfl) rfl (by kernel_rfl) rfl (.cons (.agg (.cons (.d _) (.cons (.d _) .nil))) (.cons (.agg (.cons (.d _) (.cons (.d _) .nil))) .nil)) (ok_laws_eqTc a.f5 b.f5) (.inr rfl) rfl (by simp) rfl) ?_
      refine TL.cons rfl (Step.not (b := (decide (a.f5 = b.f5))) rfl rfl (lt_ok rfl) rfl) ?_
      refine TL.nil ?_
      refine T.cond (b := !(decide (a.f5 = b.f5))) rfl (fun h6 => ?_) (fun h6 => ?_)
      ·
       replace h6 : (decide (a.f5 = b.f5)) = false := by simpa only [Bool.not_eq_true', Bool.not_eq_false'] using h6
       replace h6 := of_decide_eq_false h6
       refine T.seq ?_
       refine T.region ?_
       refine TL.cons rfl (Step.assign (p := (.one (.d (.bool false)))) rfl rfl (lt_ok rfl) rfl) ?_
       refine TL.nil ?_
       refine T.ret ?_
       exact ⟨[(false, [.d (.bool false)])], (.cons rfl .nil), rfl, [], (RetC.rd' (by (congr 1; symm; first | (apply decide_eq_false; rintro rfl; first | exact absurd rfl ‹¬ _ = _› | contradiction) | (apply decide_eq_true; apply SMsg.ext <;> first | assumption | exact Decidable.not_not.1 (by assumption)))) .nil)⟩
      ·
       replace h6 : (decide (a.f5 = b.f5)) = true := by simpa only [Bool.not_eq_true', Bool.not_eq_false'] using h6
       replace h6 := of_decide_eq_true h6
       refine T.skip ?_
       refine T.seq ?_
       refine T.seq ?_
       refine T.region ?_
       refine TL.cons rfl (Step.fieldAddr (q := 0) (off := 34) (n := 6) (one := false) rfl rfl (lt_ok rfl) (by kernel_rfl) (Nat.succ_ne_zero _) rfl) ?_
       refine TL.cons rfl (Step.load_box_agg (n := 6) (qs := [.d (.sl 10 (a.f6.f0.map SHead.cells)), .d (.int .i64 a.f6.f1.f0), .d (.int .i64 a.f6.f1.f1), .d (.ints .u8 a.f6.f1.f2), .d (.ints .u8 a.f6.f1.f3), .d (.bss a.f6.f1.f4)]) rfl rfl (lt_ok rfl) (by kernel_rfl) rfl rfl rfl rfl) ?_
       refine TL.cons rfl (Step.fieldAddr (q := 0) (off := 34) (n := 6) (one := false) rfl rfl (lt_ok rfl) (by kernel_rfl) (Nat.succ_ne_zero _) rfl) ?_
       refine TL.cons rfl (Step.load_box_agg (n := 6) (qs := [.d (.sl 10 (b.f6.f0.map SHead.cells)), .d (.int .i64 b.f6.f1.f0), .d (.int .i64 b.f6.f1.f1), .d (.ints .u8 b.f6.f1.f2), .d (.ints .u8 b.f6.f1.f3), .d (.bss b.f6.f1.f4)]) rfl rfl (lt_ok rfl) (by kernel_rfl) rfl rfl rfl rfl) ?_
       refine TL.cons rfl (Step.call (f := 51) (xs := [.tmp 41, .tmp 43]) (ps := [(.agg [.d (.sl 10 (a.f6.f0.map SHead.cells)), .d (.int .i64 a.f6.f1.f0), .d (.int .i64 a.f6.f1.f1), .d (.ints .u8 a.f6.f1.f2), .d (.ints .u8 a.f6.f1.f3), .d (.bss a.f6.f1.f4)]), (.agg [.d (.sl 10 (b.f6.f0.map SHead.cells)), .d (.int .i64 b.f6.f1.f0), .d (.int .i64 b.f6.f1.f1), .d (.ints .u8 b.f6.f1.f2), .d (.ints .u8 b.f6.f1.f3), .d (.bss b.f6.f1.f4)])]) false (g := .func 51) rfl rfl (lt_ok rfl) rfl (by kernel_rfl) rfl (.cons (.agg (.cons (.d _) (.cons (.d _) (.cons (.d _) (.cons (.d _) (.cons (.d _) (.cons (.d _) .nil))))))) (.cons (.agg (.cons (.d _) (.cons (.d _) (.cons (.d _) (.cons (.d _) (.cons (.d _) (.cons (.d _) .nil))))))) .nil)) (ok_laws_eqProof a.f6 b.f6) (.inr rfl) rfl (by simp) rfl) ?_
       refine TL.cons rfl (Step.not (b := (decide (a.f6 = b.f6))) rfl rfl (lt_ok rfl) rfl) ?_
       refine TL.nil ?_
       refine T.cond (b := !(decide (a.f6 = b.f6))) rfl (fun h7 => ?_) (fun h7 => ?_)
       ·
        replace h7 : (decide (a.f6 = b.f6)) = false := by simpa only [Bool.not_eq_true', Bool.not_eq_false'] using h7
        replace h7 := of_decide_eq_false h7
        refine T.seq ?_
        refine T.region ?_
        refine TL.cons rfl (Step.assign (p := (.one (.d (.bool false)))) rfl rfl (lt_ok rfl) rfl) ?_
        refine TL.nil ?_
        refine T.ret ?_
        exact ⟨[(false, [.d (.bool false)])], (.cons rfl .nil), rfl, [], (RetC.rd' (by (congr 1; symm; first | (apply decide_eq_false; rintro rfl; first | exact absurd rfl ‹¬ _ = _› | contradiction) | (apply decide_eq_true; apply SMsg.ext <;> first | assumption | exact Decidable.not_not.1 (by assumption)))) .nil)⟩
       ·
        replace h7 : (decide (a.f6 = b.f6)) = true := by simpa only [Bool.not_eq_true', Bool.not_eq_false'] using h7
        replace h7 := of_decide_eq_true h7
        refine T.skip ?_
        refine T.seq ?_
        refine T.seq ?_
        refine T.region ?_
        refine TL.cons rfl (Step.fieldAddr (q := 0) (off := 40) (n := 5) (one := false) rfl rfl (lt_ok rfl) (by kernel_rfl) (Nat.succ_ne_zero _) rfl) ?_
        refine TL.cons rfl (Step.load_box_agg (n := 5) (qs := [.d (.int .i64 a.f7.f0), .d (.int .i64 a.f7.f1), .d (.int .i64 a.f7.f2), .d (.ints .u8 a.f7.f3), .d (.bss a.f7.f4)]) rfl rfl (lt_ok rfl) (by kernel_rfl) rfl rfl rfl rfl) ?_
        refine TL.cons rfl (Step.fieldAddr (q := 0) (off := 40) (n := 5) (one := false) rfl rfl (lt_ok rfl) (by kernel_rfl) (Nat.succ_ne_zero _) rfl) ?_
        refine TL.cons rfl (Step.load_box_agg (n := 5) (qs := [.d (.int .i64 b.f7.f0), .d (.int .i64 b.f7.f1), .d (.int .i64 b.f7.f2), .d (.ints .u8 b.f7.f3), .d (.bss b.f7.f4)]) rfl rfl (lt_ok rfl) (by kernel_rfl) rfl rfl rfl rfl) ?_
        refine TL.cons rfl (Step.call (f := 25) (xs := [.tmp 47, .tmp 49]) (ps := [(.agg [.d (.int .i64 a.f7.f0), .d (.int .i64 a.f7.f1), .d (.int .i64 a.f7.f2), .d (.ints .u8 a.f7.f3), .d (.bss a.f7.f4)]), (.agg [.d (.int .i64 b.f7.f0), .d (.int .i64 b.f7.f1), .d (.int .i64 b.f7.f2), .d (.ints .u8 b.f7.f3), .d (.bss b.f7.f4)])]) false (g := .func 25) rfl rfl (lt_ok rfl) rfl (by kernel_rfl) rfl (.cons (.agg (.cons (.d _) (.cons (.d _) (.cons (.d _) (.cons (.d _) (.cons (.d _) .nil)))))) (.cons (.agg (.cons (.d _) (.cons (.d _) (.cons (.d _) (.cons (.d _) (.cons (.d _) .nil)))))) .nil)) (ok_laws_eqIncl a.f7 b.f7) (.inr rfl) rfl (by simp) rfl) ?_
        refine TL.cons rfl (Step.not (b := (decide (a.f7 = b.f7))) rfl rfl (lt_ok rfl) rfl) ?_
        refine TL.nil ?_
        refine T.cond (b := !(decide (a.f7 = b.f7))) rfl (fun h8 => ?_) (fun h8 => ?_)
        ·
         replace h8 : (decide (a.f7 = b.f7)) = false := by simpa only [Bool.not_eq_true', Bool.not_eq_false'] using h8
         replace h8 := of_decide_eq_false h8
         refine T.seq ?_
         refine T.region ?_
         refine TL.cons rfl (Step.assign (p := (.one (.d (.bool false)))) rfl rfl (lt_ok rfl) rfl) ?_
         refine TL.nil ?_
         refine T.ret ?_
         exact ⟨[(false, [.d (.bool false)])], (.cons rfl .nil), rfl, [], (RetC.rd' (by (congr 1; symm; first | (apply decide_eq_false; rintro rfl; first | exact absurd rfl ‹¬ _ = _› | contradiction) | (apply decide_eq_true; apply SMsg.ext <;> first | assumption | exact Decidable.not_not.1 (by assumption)))) .nil)⟩
        ·
         replace h8 : (decide (a.f7 = b.f7)) = true := by simpa only [Bool.not_eq_true', Bool.not_eq_false'] using h8
         replace h8 := of_decide_eq_true h8
         refine T.skip ?_
         refine T.seq ?_
         refine T.region ?_
         refine TL.cons rfl (Step.assign (p := (.one (.d (.bool true)))) rfl rfl (lt_ok rfl) rfl) ?_
         refine TL.nil ?_
         refine T.ret ?_
         exact ⟨[(false, [.d (.bool true)])], (.cons rfl .nil), rfl, [], (RetC.rd' (by (congr 1; symm; first | (apply decide_eq_false; rintro rfl; first | exact absurd rfl ‹¬ _ = _› | contradiction) | (apply decide_eq_true; apply SMsg.ext <;> first | assumption | exact Decidable.not_not.1 (by assumption)))) .nil)⟩
theorem ok_laws_eqEvent (a : SEvent) (b : SEvent) : RO Try.prog 126 [.agg a.cells, .agg b.cells] [(false, [.rd (.bool (decide (a = b)))])] := by
 refine RO.intro Try.func126 rfl 21 rfl (le_ok rfl) fun w Z => ?_
 refine T.seq ?_
 refine T.region ?_
 refine TL.cons rfl (Step.box (p := (.agg [.d (.int .i64 a.f0), .d (.int .i64 a.f1), .d (.int .i64 a.f2.f0), .d (.int .i64 a.f2.f1.f0), .d (.int .i64 a.f2.f1.f1), .d (.ints .u8 a.f2.f1.f2), .d (.int .i64 a.f2.f1.f3), .d (.ints .u8 a.f2.f1.f4), .d (.int .i64 a.f2.f2.f0), .d (.int .i64 a.f2.f2.f1), .d (.ints .u8 a.f2.f2.f2), .d (.ints .u8 a.f2.f2.f3), .d (.bss a.f2.f2.f4), .d (.int .i64 a.f2.f3.f0), .d (.int .i64 a.f2.f3.f1), .d (.int .i64 a.f2.f3.f2), .d (.ints .u8 a.f2.f3.f3), .d (.ints .u8 a.f2.f3.f4), .d (.int .i64 a.f2.f3.f5.f0), .d (.int .i64 a.f2.f3.f5.f1), .d (.ints .u8 a.f2.f3.f5.f2), .d (.ints .u8 a.f2.f3.f5.f3), .d (.bss a.f2.f3.f5.f4), .d (.int .i64 a.f2.f4.f0.f0), .d (.int .i64 a.f2.f4.f0.f1), .d (.int .i64 a.f2.f4.f0.f2), .d (.ints .u8 a.f2.f4.f0.f3), .d (.ints .u8 a.f2.f4.f0.f4), .d (.int .i64 a.f2.f4.f0.f5.f0), .d (.int .i64 a.f2.f4.f0.f5.f1), .d (.ints .u8 a.f2.f4.f0.f5.f2), .d (.ints .u8 a.f2.f4.f0.f5.f3), .d (.bss a.f2.f4.f0.f5.f4), .d (.bss a.f2.f4.f1), .d (.int .i64 a.f2.f5.f0), .d (.sl 3 (a.f2.f5.f1.map SEntry.cells)), .d (.sl 10 (a.f2.f6.f0.map SHead.cells)), .d (.int .i64 a.f2.f6.f1.f0), .d (.int .i64 a.f2.f6.f1.f1), .d (.ints .u8 a.f2.f6.f1.f2), .d (.ints .u8 a.f2.f6.f1.f3), .d (.bss a.f2.f6.f1.f4), .d (.int .i64 a.f2.f7.f0), .d (.int .i64 a.f2.f7.f1), .d (.int .i64 a.f2.f7.f2), .d (.ints .u8 a.f2.f7.f3), .d (.bss a.f2.f7.f4)])) (ps := [.d (.int .i64 a.f0), .d (.int .i64 a.f1), .d (.int .i64 a.f2.f0), .d (.int .i64 a.f2.f1.f0), .d (.int .i64 a.f2.f1.f1), .d (.ints .u8 a.f2.f1.f2), .d (.int .i64 a.f2.f1.f3), .d (.ints .u8 a.f2.f1.f4), .d (.int .i64 a.f2.f2.f0), .d (.int .i64 a.f2.f2.f1), .d (.ints .u8 a.f2.f2.f2), .d (.ints .u8 a.f2.f2.f3), .d (.bss a.f2.f2.f4), .d (.int .i64 a.f2.f3.f0), .d (.int .i64 a.f2.f3.f1), .d (.int .i64 a.f2.f3.f2), .d (.ints .u8 a.f2.f3.f3), .d (.ints .u8 a.f2.f3.f4), .d (.int .i64 a.f2.f3.f5.f0), .d (.int .i64 a.f2.f3.f5.f1), .d (.ints .u8 a.f2.f3.f5.f2), .d (.ints .u8 a.f2.f3.f5.f3), .d (.bss a.f2.f3.f5.f4), .d (.int .i64 a.f2.f4.f0.f0), .d (.int .i64 a.f2.f4.f0.f1), .d (.int .i64 a.f2.f4.f0.f2), .d (.ints .u8 a.f2.f4.f0.f3), .d (.ints .u8 a.f2.f4.f0.f4), .d (.int .i64 a.f2.f4.f0.f5.f0), .d (.int .i64 a.f2.f4.f0.f5.f1), .d (.ints .u8 a.f2.f4.f0.f5.f2), .d (.ints .u8 a.f2.f4.f0.f5.f3), .d (.bss a.f2.f4.f0.f5.f4), .d (.bss a.f2.f4.f1), .d (.int .i64 a.f2.f5.f0), .d (.sl 3 (a.f2.f5.f1.map SEntry.cells)), .d (.sl 10 (a.f2.f6.f0.map SHead.cells)), .d (.int .i64 a.f2.f6.f1.f0), .d (.int .i64 a.f2.f6.f1.f1), .d (.ints .u8 a.f2.f6.f1.f2), .d (.ints .u8 a.f2.f6.f1.f3), .d (.bss a.f2.f6.f1.f4), .d (.int .i64 a.f2.f7.f0), .d (.int .i64 a.f2.f7.f1), .d (.int .i64 a.f2.f7.f2), .d (.ints .u8 a.f2.f7.f3), .d (.bss a.f2.f7.f4)]) rfl rfl (lt_ok rfl) rfl rfl rfl rfl rfl) ?_
 refine TL.cons rfl (Step.box (p := (.agg [.d (.int .i64 b.f0), .d (.int .i64 b.f1), .d (.int .i64 b.f2.f0), .d (.int .i64 b.f2.f1.f0), .d (.int .i64 b.f2.f1.f1), .d (.ints .u8 b.f2.f1.f2), .d (.int .i64 b.f2.f1.f3), .d (.ints .u8 b.f2.f1.f4), .d (.int .i64 b.f2.f2.f0), .d (.int .i64 b.f2.f2.f1), .d (.ints .u8 b.f2.f2.f2), .d (.ints .u8 b.f2.f2.f3), .d (.bss b.f2.f2.f4), .d (.int .i64 b.f2.f3.f0), .d (.int .i64 b.f2.f3.f1), .d (.int .i64 b.f2.f3.f2), .d (.ints .u8 b.f2.f3.f3), .d (.ints .u8 b.f2.f3.f4), .d (.int .i64 b.f2.f3.f5.f0), .d (.int .i64 b.f2.f3.f5.f1), .d (.ints .u8 b.f2.f3.f5.f2), .d (.ints .u8 b.f2.f3.f5.f3), .d (.bss b.f2.f3.f5.f4), .d (.int .i64 b.f2.f4.f0.f0), .d (.int .i64 b.f2.f4.f0.f1), .d (.int .i64 b.f2.f4.f0.f2), .d (.ints .u8 b.f2.f4.f0.f3), .d (.ints .u8 b.f2.f4.f0.f4), .d (.int .i64 b.f2.f4.f0.f5.f0), .d (.int .i64 b.f2.f4.f0.f5.f1), .d (.ints .u8 b.f2.f4.f0.f5.f2), .d (.ints .u8 b.f2.f4.f0.f5.f3), .d (.bss b.f2.f4.f0.f5.f4), .d (.bss b.f2.f4.f1), .d (.int .i64 b.f2.f5.f0), .d (.sl 3 (b.f2.f5.f1.map SEntry.cells)), .d (.sl 10 (b.f2.f6.f0.map SHead.cells)), .d (.int .i64 b.f2.f6.f1.f0), .d (.int .i64 b.f2.f6.f1.f1), .d (.ints .u8 b.f2.f6.f1.f2), .d (.ints .u8 b.f2.f6.f1.f3), .d (.bss b.f2.f6.f1.f4), .d (.int .i64 b.f2.f7.f0), .d (.int .i64 b.f2.f7.f1), .d (.int .i64 b.f2.f7.f2), .d (.ints .u8 b.f2.f7.f3), .d (.bss b.f2.f7.f4)])) (ps := [.d (.int .i64 b.f0), .d (.int .i64 b.f1), .d (.int .i64 b.f2.f0), .d (.int .i64 b.f2.f1.f0), .d (.int .i64 b.f2.f1.f1), .d (.ints .u8 b.f2.f1.f2), .d (.int .i64 b.f2.f1.f3), .d (.ints .u8 b.f2.f1.f4), .d (.int .i64 b.f2.f2.f0), .d (.int .i64 b.f2.f2.f1), .d (.ints .u8 b.f2.f2.f2), .d (.ints .u8 b.f2.f2.f3), .d (.bss b.f2.f2.f4), .d (.int .i64 b.f2.f3.f0), .d (.int .i64 b.f2.f3.f1), .d (.int .i64 b.f2.f3.f2), .d (.ints .u8 b.f2.f3.f3), .d (.ints .u8 b.f2.f3.f4), .d (.int .i64 b.f2.f3.f5.f0), .d (.int .i64 b.f2.f3.f5.f1), .d (.ints .u8 b.f2.f3.f5.f2), .d (.ints .u8 b.f2.f3.f5.f3), .d (.bss b.f2.f3.f5.f4), .d (.int .i64 b.f2.f4.f0.f0), .d (.int .i64 b.f2.f4.f0.f1), .d (.int .i64 b.f2.f4.f0.f2), .d (.ints .u8 b.f2.f4.f0.f3), .d (.ints .u8 b.f2.f4.f0.f4), .d (.int .i64 b.f2.f4.f0.f5.f0), .d (.int .i64 b.f2.f4.f0.f5.f1), .d (.ints .u8 b.f2.f4.f0.f5.f2), .d (.ints .u8 b.f2.f4.f0.f5.f3), .d (.bss b.f2.f4.f0.f5.f4), .d (.bss b.f2.f4.f1), .d (.int .i64 b.f2.f5.f0), .d (.sl 3 (b.f2.f5.f1.map SEntry.cells)), .d (.sl 10 (b.f2.f6.f0.map SHead.cells)), .d (.int .i64 b.f2.f6.f1.f0), .d (.int .i64 b.f2.f6.f1.f1), .d (.ints .u8 b.f2.f6.f1.f2), .d (.ints .u8 b.f2.f6.f1.f3), .d (.bss b.f2.f6.f1.f4), .d (.int .i64 b.f2.f7.f0), .d (.int .i64 b.f2.f7.f1), .d (.int .i64 b.f2.f7.f2), .d (.ints .u8 b.f2.f7.f3), .d (.bss b.f2.f7.f4)]) rfl rfl (lt_ok rfl) rfl rfl rfl rfl rfl) ?_
 refine TL.cons rfl (Step.assign (p := (.one (.d (.bool false)))) rfl rfl (lt_ok rfl) rfl) ?_
 refine TL.nil ?_
 refine T.weaken (E' := { tm := [(2, (.one (.ptr 2 0))), (3, (.one (.ptr 3 0))), (4, (.one (.d (.bool false))))], rows := [], boxes := [(2, (152, [.d (.int .i64 a.f0), .d (.int .i64 a.f1), .d (.int .i64 a.f2.f0), .d (.int .i64 a.f2.f1.f0), .d (.int .i64 a.f2.f1.f1), .d (.ints .u8 a.f2.f1.f2), .d (.int .i64 a.f2.f1.f3), .d (.ints .u8 a.f2.f1.f4), .d (.int .i64 a.f2.f2.f0), .d (.int .i64 a.f2.f2.f1), .d (.ints .u8 a.f2.f2.f2), .d (.ints .u8 a.f2.f2.f3), .d (.bss a.f2.f2.f4), .d (.int .i64 a.f2.f3.f0), .d (.int .i64 a.f2.f3.f1), .d (.int .i64 a.f2.f3.f2), .d (.ints .u8 a.f2.f3.f3), .d (.ints .u8 a.f2.f3.f4), .d (.int .i64 a.f2.f3.f5.f0), .d (.int .i64 a.f2.f3.f5.f1), .d (.ints .u8 a.f2.f3.f5.f2), .d (.ints .u8 a.f2.f3.f5.f3), .d (.bss a.f2.f3.f5.f4), .d (.int .i64 a.f2.f4.f0.f0), .d (.int .i64 a.f2.f4.f0.f1), .d (.int .i64 a.f2.f4.f0.f2), .d (.ints .u8 a.f2.f4.f0.f3), .d (.ints .u8 a.f2.f4.f0.f4), .d (.int .i64 a.f2.f4.f0.f5.f0), .d (.int .i64 a.f2.f4.f0.f5.f1), .d (.ints .u8 a.f2.f4.f0.f5.f2), .d (.ints .u8 a.f2.f4.f0.f5.f3), .d (.bss a.f2.f4.f0.f5.f4), .d (.bss a.f2.f4.f1), .d (.int .i64 a.f2.f5.f0), .d (.sl 3 (a.f2.f5.f1.map SEntry.cells)), .d (.sl 10 (a.f2.f6.f0.map SHead.cells)), .d (.int .i64 a.f2.f6.f1.f0), .d (.int .i64 a.f2.f6.f1.f1), .d (.ints .u8 a.f2.f6.f1.f2), .d (.ints .u8 a.f2.f6.f1.f3), .d (.bss a.f2.f6.f1.f4), .d (.int .i64 a.f2.f7.f0), .d (.int .i64 a.f2.f7.f1), .d (.int .i64 a.f2.f7.f2), .d (.ints .u8 a.f2.f7.f3), .d (.bss a.f2.f7.f4)])), (3, (152, [.d (.int .i64 b.f0), .d (.int .i64 b.f1), .d (.int .i64 b.f2.f0), .d (.int .i64 b.f2.f1.f0), .d (.int .i64 b.f2.f1.f1), .d (.ints .u8 b.f2.f1.f2), .d (.int .i64 b.f2.f1.f3), .d (.ints .u8 b.f2.f1.f4), .d (.int .i64 b.f2.f2.f0), .d (.int .i64 b.f2.f2.f1), .d (.ints .u8 b.f2.f2.f2), .d (.ints .u8 b.f2.f2.f3), .d (.bss b.f2.f2.f4), .d (.int .i64 b.f2.f3.f0), .d (.int .i64 b.f2.f3.f1), .d (.int .i64 b.f2.f3.f2), .d (.ints .u8 b.f2.f3.f3), .d (.ints .u8 b.f2.f3.f4), .d (.int .i64 b.f2.f3.f5.f0), .d (.int .i64 b.f2.f3.f5.f1), .d (.ints .u8 b.f2.f3.f5.f2), .d (.ints .u8 b.f2.f3.f5.f3), .d (.bss b.f2.f3.f5.f4), .d (.int .i64 b.f2.f4.f0.f0), .d (.int .i64 b.f2.f4.f0.f1), .d (.int .i64 b.f2.f4.f0.f2), .d (.ints .u8 b.f2.f4.f0.f3), .d (.ints .u8 b.f2.f4.f0.f4), .d (.int .i64 b.f2.f4.f0.f5.f0), .d (.int .i64 b.f2.f4.f0.f5.f1), .d (.ints .u8 b.f2.f4.f0.f5.f2), .d (.ints .u8 b.f2.f4.f0.f5.f3), .d (.bss b.f2.f4.f0.f5.f4), .d (.bss b.f2.f4.f1), .d (.int .i64 b.f2.f5.f0), .d (.sl 3 (b.f2.f5.f1.map SEntry.cells)), .d (.sl 10 (b.f2.f6.f0.map SHead.cells)), .d (.int .i64 b.f2.f6.f1.f0), .d (.int .i64 b.f2.f6.f1.f1), .d (.ints .u8 b.f2.f6.f1.f2), .d (.ints .u8 b.f2.f6.f1.f3), .d (.bss b.f2.f6.f1.f4), .d (.int .i64 b.f2.f7.f0), .d (.int .i64 b.f2.f7.f1), .d (.int .i64 b.f2.f7.f2), .d (.ints .u8 b.f2.f7.f3), .d (.bss b.f2.f7.f4)]))] }) (Env.le_mk ⟨by kernel_rfl, by kernel_rfl, by kernel_rfl, trivial⟩ trivial ⟨by kernel_rfl, by kernel_rfl, trivial⟩) ?_
 refine T.seq ?_
 refine T.seq ?_
 refine T.region ?_
 refine TL.cons rfl (Step.fieldAddr (q := 0) (off := 0) (n := 1) (one := true) rfl rfl (lt_ok rfl) (by kernel_rfl) (Nat.succ_ne_zero _) rfl) ?_
 refine TL.cons rfl (Step.load_box (c := .d (.int .i64 a.f0)) rfl rfl (lt_ok rfl) (by kernel_rfl) rfl rfl rfl) ?_
 refine TL.cons rfl (Step.fieldAddr (q := 0) (off := 0) (n := 1) (one := true) rfl rfl (lt_ok rfl) (by kernel_rfl) (Nat.succ_ne_zero _) rfl) ?_
 refine TL.cons rfl (Step.load_box (c := .d (.int .i64 b.f0)) rfl rfl (lt_ok rfl) (by kernel_rfl) rfl rfl rfl) ?_
 refine TL.cons rfl (Step.bin rfl rfl (lt_ok rfl) rfl rfl (Bin.neq (k := .i64) (a := a.f0) (b := b.f0))) ?_
 refine TL.nil ?_
 refine T.cond (b := decide (a.f0 ≠ b.f0)) rfl (fun h1 => ?_) (fun h1 => ?_)
 ·
  replace h1 := of_decide_eq_true h1
  refine T.seq ?_
  refine T.region ?_
  refine TL.cons rfl (Step.assign (p := (.one (.d (.bool false)))) rfl rfl (lt_ok rfl) rfl) ?_
  refine TL.nil ?_
  refine T.ret ?_
  exact ⟨[(false, [.d (.bool false)])], (.cons rfl .nil), rfl, [], (RetC.rd' (by (congr 1; symm; first | (apply decide_eq_false; rintro rfl; first | exact absurd rfl ‹¬ _ = _› | contradiction) | (apply decide_eq_true; apply SEvent.ext <;> first | assumption | exact Decidable.not_not.1 (by assumption)))) .nil)⟩
 ·
  replace h1 := of_decide_eq_false h1
  refine T.skip ?_
  refine T.seq ?_
  refine T.seq ?_
  refine T.region ?_
  refine TL.cons rfl (Step.fieldAddr (q := 0) (off := 1) (n := 1) (one := true) rfl rfl (lt_ok rfl) (by kernel_rfl) (Nat.succ_ne_zero _) rfl) ?_
  refine TL.cons rfl (Step.load_box (c := .d (.int .i64 a.f1)) rfl rfl (lt_ok rfl) (by kernel_rfl) rfl rfl rfl) ?_
  refine TL.cons rfl (Step.fieldAddr (q := 0) (off := 1) (n := 1) (one := true) rfl rfl (lt_ok rfl) (by kernel_rfl) (Nat.succ_ne_zero _) rfl) ?_
  refine TL.cons rfl (Step.load_box (c := .d (.int .i64 b.f1)) rfl rfl (lt_ok rfl) (by kernel_rfl) rfl rfl rfl) ?_
  refine TL.cons rfl (Step.bin rfl rfl (lt_ok rfl) rfl rfl (Bin.neq (k := .i64) (a := a.f1) (b := b.f1))) ?_
  refine TL.nil ?_
  refine T.cond (b := decide (a.f1 ≠ b.f1)) rfl (fun h2 => ?_) (fun h2 => ?_)
  ·
   replace h2 := of_decide_eq_true h2
   refine T.seq ?_
   refine T.region ?_
   refine TL.cons rfl (Step.assign (p := (.one (.d (.bool false)))) rfl rfl (lt_ok rfl) rfl) ?_
   refine TL.nil ?_
   refine T.ret ?_
   exact ⟨[(false, [.d (.bool false)])], (.cons rfl .nil), rfl, [], (RetC.rd' (by (congr 1; symm; first | (apply decide_eq_false; rintro rfl; first | exact absurd rfl ‹¬ _ = _› | contradiction) | (apply decide_eq_true; apply SEvent.ext <;> first | assumption | exact Decidable.not_not.1 (by assumption)))) .nil)⟩
  ·
   replace h2 := of_decide_eq_false h2
   refine T.skip ?_
   refine T.seq ?_
   refine T.seq ?_
   refine T.region ?_
   refine TL.cons rfl (Step.fieldAddr (q := 0) (off := 2) (n := 45) (one := false) rfl rfl (lt_ok rfl) (by kernel_rfl) (Nat.succ_ne_zero _) rfl) ?_
   refine TL.cons rfl (Step.load_box_agg (n := 45) (qs := [.d (.int .i64 a.f2.f0), .d (.int .i64 a.f2.f1.f0), .d (.int .i64 a.f2.f1.f1), .d (.ints .u8 a.f2.f1.f2), .d (.int .i64 a.f2.f1.f3), .d (.ints .u8 a.f2.f1.f4), .d (.int .i64 a.f2.f2.f0), .d (.int .i64 a.f2.f2.f1), .d (.ints .u8 a.f2.f2.f2), .d (.ints .u8 a.f2.f2.f3), .d (.bss a.f2.f2.f4), .d (.int .i64 a.f2.f3.f0), .d (.int .i64 a.f2.f3.f1), .d (.int .i64 a.f2.f3.f2), .d (.ints .u8 a.f2.f3.f3), .d (.ints .u8 a.f2.f3.f4), .d (.int .i64 a.f2.f3.f5.f0), .d (.int .i64 a.f2.f3.f5.f1), .d (.ints .u8 a.f2.f3.f5.f2), .d (.ints .u8 a.f2.f3.f5.f3), .d (.bss a.f2.f3.f5.f4), .d (.int .i64 a.f2.f4.f0.f0), .d (.int .i64 a.f2.f4.f0.f1), .d (.int .i64 a.f2.f4.f0.f2), .d (.ints .u8 a.f2.f4.f0.f3), .d (.ints .u8 a.f2.f4.f0.f4), .d (.int .i64 a.f2.f4.f0.f5.f0), .d (.int .i64 a.f2.f4.f0.f5.f1), .d (.ints .u8 a.f2.f4.f0.f5.f2), .d (.ints .u8 a.f2.f4.f0.f5.f3), .d (.bss a.f2.f4.f0.f5.f4), .d (.bss a.f2.f4.f1), .d (.int .i64 a.f2.f5.f0), .d (.sl 3 (a.f2.f5.f1.map SEntry.cells)), .d (.sl 10 (a.f2.f6.f0.map SHead.cells)), .d (.int .i64 a.f2.f6.f1.f0), .d (.int .i64 a.f2.f6.f1.f1), .d (.ints .u8 a.f2.f6.f1.f2), .d (.ints .u8 a.f2.f6.f1.f3), .d (.bss a.f2.f6.f1.f4), .d (.int .i64 a.f2.f7.f0), .d (.int .i64 a.f2.f7.f1), .d (.int .i64 a.f2.f7.f2), .d (.ints .u8 a.f2.f7.f3), .d (.bss a.f2.f7.f4)]) rfl rfl (lt_ok rfl) (by kernel_rfl) rfl rfl rfl rfl) ?_
   refine TL.cons rfl (Step.fieldAddr (q := 0) (off := 2) (n := 45) (one := false) rfl rfl (lt_ok rfl) (by kernel_rfl) (Nat.succ_ne_zero _) rfl) ?_
   refine TL.cons rfl (Step.load_box_agg (n := 45) (qs := [.d (.int .i64 b.f2.f0), .d (.int .i64 b.f2.f1.f0), .d (.int .i64 b.f2.f1.f1), .d (.ints .u8 b.f2.f1.f2), .d (.int .i64 b.f2.f1.f3), .d (.ints .u8 b.f2.f1.f4), .d (.int .i64 b.f2.f2.f0), .d (.int .i64 b.f2.f2.f1), .d (.ints .u8 b.f2.f2.f2), .d (.ints .u8 b.f2.f2.f3), .d (.bss b.f2.f2.f4), .d (.int .i64 b.f2.f3.f0), .d (.int .i64 b.f2.f3.f1), .d (.int .i64 b.f2.f3.f2), .d (.ints .u8 b.f2.f3.f3), .d (.ints .u8 b.f2.f3.f4), .d (.int .i64 b.f2.f3.f5.f0), .d (.int .i64 b.f2.f3.f5.f1), .d (.ints .u8 b.f2.f3.f5.f2), .d (.ints .u8 b.f2.f3.f5.f3), .d (.bss b.f2.f3.f5.f4), .d (.int .i64 b.f2.f4.f0.f0), .d (.int .i64 b.f2.f4.f0.f1), .d (.int .i64 b.f2.f4.f0.f2), .d (.ints .u8 b.f2.f4.f0.f3), .d (.ints .u8 b.f2.f4.f0.f4), .d (.int .i64 b.f2.f4.f0.f5.f0), .d (.int .i64 b.f2.f4.f0.f5.f1), .d (.ints .u8 b.f2.f4.f0.f5.f2), .d (.ints .u8 b.f2.f4.f0.f5.f3), .d (.bss b.f2.f4.f0.f5.f4), .d (.bss b.f2.f4.f1), .d (.int .i64 b.f2.f5.f0), .d (.sl 3 (b.f2.f5.f1.map SEntry.cells)), .d (.sl 10 (b.f2.f6.f0.map SHead.cells)), .d (.int .i64 b.f2.f6.f1.f0), .d (.int .i64 b.f2.f6.f1.f1), .d (.ints .u8 b.f2.f6.f1.f2), .d (.ints .u8 b.f2.f6.f1.f3), .d (.bss b.f2.f6.f1.f4), .d (.int .i64 b.f2.f7.f0), .d (.int .i64 b.f2.f7.f1), .d (.int .i64 b.f2.f7.f2), .d (.ints .u8 b.f2.f7.f3), .d (.bss b.f2.f7.f4)]) rfl rfl (lt_ok rfl) (by kernel_rfl) rfl rfl rfl rfl) ?_
   refine TL.cons rfl (Step.call (f := 144) (xs := [.tmp 16, .tmp 18]) (ps := [(.agg [.d (.int .i64 a.f2.f0), .d (.int .i64 a.f2.f1.f0), .d (.int .i64 a.f2.f1.f1), .d (.ints .u8 a.f2.f1.f2), .d (.int .i64 a.f2.f1.f3), .d (.ints .u8 a.f2.f1.f4), .d (.int .i64 a.f2.f2.f0), .d (.int .i64 a.f2.f2.f1), .d (.ints .u8 a.f2.f2.f2), .d (.ints .u8 a.f2.f2.f3), .d (.bss a.f2.f2.f4), .d (.int .i64 a.f2.f3.f0), .d (.int .i64 a.f2.f3.f1), .d (.int .i64 a.f2.f3.f2), .d (.ints .u8 a.f2.f3.f3), .d (.ints .u8 a.f2.f3.f4), .d (.int .i64 a.f2.f3.f5.f0), .d (.int .i64 a.f2.f3.f5.f1), .d (.ints .u8 a.f2.f3.f5.f2), .d (.ints .u8 a.f2.f3.f5.f3), .d (.bss a.f2.f3.f5.f4), .d (.int .i64 a.f2.f4.f0.f0), .d (.int .i64 a.f2.f4.f0.f1), .d (.int .i64 a.f2.f4.f0.f2), .d (.ints .u8 a.f2.f4.f0.f3), .d (.ints .u8 a.f2.f4.f0.f4), .d (.int .i64 a.f2.f4.f0.f5.f0), .d (.int .i64 a.f2.f4.f0.f5.f1), .d (.ints .u8 a.f2.f4.f0.f5.f2), .d (.ints .u8 a.f2.f4.f0.f5.f3), .d (.bss a.f2.f4.f0.f5.f4), .d (.bss a.f2.f4.f1), .d (.int .i64 a.f2.f5.f0), .d (.sl 3 (a.f2.f5.f1.map SEntry.cells)), .d (.sl 10 (a.f2.f6.f0.map SHead.cells)), .d (.int .i64 a.f2.f6.f1.f0), .d (.int .i64 a.f2.f6.f1.f1), .d (.ints .u8 a.f2.f6.f1.f2), .d (.ints .u8 a.f2.f6.f1.f3), .d (.bss a.f2.f6.f1.f4), .d (.int .i64 a.f2.f7.f0), .d (.int .i64 a.f2.f7.f1), .d (.int .i64 a.f2.f7.f2), .d (.ints .u8 a.f2.f7.f3), .d (.bss a.f2.f7.f4)]), (.agg [.d (.int .i64 b.f2.f0), .d (.int .i64 b.f2.f1.f0), .d (.int .i64 b.f2.f1.f1), .d (.ints .u8 b.f2.f1.f2), .d (.int .i64 b.f2.f1.f3), .d (.ints .u8 b.f2.f1.f4), .d (.int .i64 b.f2.f2.f0), .d (.int .i64 b.f2.f2.f1), .d (.ints .u8 b.f2.f2.f2), .d (.ints .u8 b.f2.f2.f3), .d (.bss b.f2.f2.f4), .d (.int .i64 b.f2.f3.f0), .d (.int .i64 b.f2.f3.f1), .d (.int .i64 b.f2.f3.f2), .d (.ints .u8 b.f2.f3.f3), .d (.ints .u8 b.f2.f3.f4), .d (.int .i64 b.f2.f3.f5.f0), .d (.int .i64 b.f2.f3.f5.f1), .d (.ints .u8 b.f2.f3.f5.f2), .d (.ints .u8 b.f2.f3.f5.f3), .d (.bss b.f2.f3.f5.f4), .d (.int .i64 b.f2.f4.f0.f0), .d (.int .i64 b.f2.f4.f0.f1), .d (.int .i64 b.f2.f4.f0.f2), .d (.ints .u8 b.f2.f4.f0.f3), .d (.ints .u8 b.f2.f4.f0.f4), .d (.int .i64 b.f2.f4.f0.f5.f0), .d (.int .i64 b.f2.f4.f0.f5.f1), .d (.ints .u8 b.f2.f4.f0.f5.f2), .d (.ints .u8 b.f2.f4.f0.f5.f3), .d (.bss b.f2.f4.f0.f5.f4), .d (.bss b.f2.f4.f1), .d (.int .i64 b.f2.f5.f0), .d (.sl 3 (b.f2.f5.f1.map SEntry.cells)), .d (.sl 10 (b.f2.f6.f0.map SHead.cells)), .d (.int .i64 b.f2.f6.f1.f0), .d (.int .i64 b.f2.f6.f1.f1), .d (.ints .u8 b.f2.f6.f1.f2), .d (.ints .u8 b.f2.f6.f1.f3), .d (.bss b.f2.f6.f1.f4), .d (.int .i64 b.f2.f7.f0), .d (.int .i64 b.f2.f7.f1), .d (.int .i64 b.f2.f7.f2), .d (.ints .u8 b.f2.f7.f3), .d (.bss b.f2.f7.f4)])]) false (g := .func 144) rfl rfl (lt_ok rfl) rfl (by kernel_rfl) rfl (.cons (.agg (.cons (.d _) (.cons (.d _) (.cons (.d _) (.cons (.d _) (.cons (.d _) (.cons (.d _) (.cons (.d _) (.cons (.d _) (.cons (.d _) (.cons (.d _) (.cons (.d _) (.cons (.d _) (.cons (.d _) (.cons (.d _) (.cons (.d _) (.cons (.d _) (.cons (.d _) (.cons (.d _) (.cons (.d _) (.cons (.d _) (.cons (.d _) (.cons (.d _) (.cons (.d _) (.cons (.d _) (.cons (.d _) (.cons (.d _) (.cons (.d _) (.cons (.d _) (.cons (.d _) (.cons (.d _) (.cons (.d _) (.cons (.d _) (.cons (.d _) (.cons (.d _) (.cons (.d _) (.cons (.d _) (.cons (.d _) (.cons (.d _) (.cons (.d _) (.cons (.d _) (.cons (.d _) (.cons (.d _) (.cons (.d _) (.cons (.d _) (.cons (.d _) .nil)))))))))))))))))))))))))))))))))))))))))))))) (.cons (.agg (.cons (.d _) (.cons (.d _) (.cons (.d _) (.cons (.d _) (.cons (.d _) (.cons (.d _) (.cons (.d _) (.cons (.d _) (.cons (.d _) (.cons (.d _) (.cons (.d _) (.cons (.d _) (.cons (.d _) (.cons (.d _) (.cons (.d _) (.cons (.d _) (.cons (.d _) (.cons (.d _) (.cons (.d _) (.cons (.d _) (.cons (.d _) (.cons (.d _) (.cons (.d _) (.cons (.d _) (.cons (.d _) (.cons (.d _) (.cons (.d _) (.cons (.d _) (.cons (.d _) (.cons (.d _) (.cons (.d _) (.cons (.d _) (.cons (.d _) (.cons (.d _) (.cons (.d _) (.cons (.d _) (.cons (.d _) (.cons (.d _) (.cons (.d _) (.cons (.d _) (.cons (.d _) (.cons (.d _) (.cons (.d _) (.cons (.d _) (.cons (.d _) .nil)))))))))))))))))))))))))))))))))))))))))))))) .nil)) (ok_laws_eqMsg a.f2 b.f2) (.inr rfl) rfl (by simp) rfl) ?_
   refine TL.cons rfl (Step.not (b := (decide (a.f2 = b.f2))) rfl rfl (lt_ok rfl) rfl) ?_
   refine TL.nil ?_
   refine T.weaken (E' := { tm := [(4, (.one (.d (.bool false)))), (20, (.one (.d (.bool (!(decide (a.f2 = b.f2)))))))], rows := [], boxes := [] }) (Env.le_mk ⟨by kernel_rfl, by kernel_rfl, trivial⟩ trivial trivial) ?_
   refine T.cond (b := !(decide (a.f2 = b.f2))) rfl (fun h3 => ?_) (fun h3 => ?_)
   ·
    replace h3 : (decide (a.f2 = b.f2)) = false := by simpa only [Bool.not_eq_true', Bool.not_eq_false'] using h3
    replace h3 := of_decide_eq_false h3
    refine T.seq ?_
    refine T.region ?_
    refine TL.cons rfl (Step.assign (p := (.one (.d (.bool false)))) rfl rfl (lt_ok rfl) rfl) ?_
    refine TL.nil ?_
    refine T.ret ?_
    exact ⟨[(false, [.d (.bool false)])], (.cons rfl .nil), rfl, [], (RetC.rd' (by (congr 1; symm; first | (apply decide_eq_false; rintro rfl; first | exact absurd rfl ‹¬ _ = _› | contradiction) | (apply decide_eq_true; apply SEvent.ext <;> first | assumption | exact Decidable.not_not.1 (by assumption)))) .nil)⟩
   ·
    replace h3 : (decide (a.f2 = b.f2)) = true := by simpa only [Bool.not_eq_true', Bool.not_eq_false'] using h3
    replace h3 := of_decide_eq_true h3
    refine T.skip ?_
    refine T.seq ?_
    refine T.region ?_
    refine TL.cons rfl (Step.assign (p := (.one (.d (.bool true)))) rfl rfl (lt_ok rfl) rfl) ?_
    refine TL.nil ?_
    refine T.ret ?_
    exact ⟨[(false, [.d (.bool true)])], (.cons rfl .nil), rfl, [], (RetC.rd' (by (congr 1; symm; first | (apply decide_eq_false; rintro rfl; first | exact absurd rfl ‹¬ _ = _› | contradiction) | (apply decide_eq_true; apply SEvent.ext <;> first | assumption | exact Decidable.not_not.1 (by assumption)))) .nil)⟩
theorem ok_laws_eqEventS (a : List SEvent) (b : List SEvent) : RO Try.prog 71 [.one (.sl 47 (a.map SEvent.cells)), .one (.sl 47 (b.map SEvent.cells))] [(false, [.rd (.bool (decide (a = b)))])] := by
 refine RO.intro Try.func71 rfl 27 rfl (le_ok rfl) fun w Z => ?_
 refine T.bnd 0 0 rfl rfl fun hb_0_0 => ?_
 simp only [D.size, List.length_map] at hb_0_0
 refine T.bnd 1 0 rfl rfl fun hb_1_0 => ?_
 simp only [D.size, List.length_map] at hb_1_0
 refine T.seq ?_
 refine T.region ?_
 refine TL.cons rfl (Step.assign (p := (.one (.d (.bool false)))) rfl rfl (lt_ok rfl) rfl) ?_
 refine TL.nil ?_
 refine T.seq ?_
 refine T.seq ?_
 refine T.region ?_
 refine TL.cons rfl (Step.move (p := (.one (.d (.sl 47 (a.map SEvent.cells))))) rfl rfl (lt_ok rfl) rfl) ?_
 refine TL.cons rfl (Step.len' (e := 152) (z := 47) (d := (.sl 47 (a.map SEvent.cells))) (n := a.length) rfl rfl (lt_ok rfl) (by kernel_rfl) rfl rfl (by simp [D.size])) ?_
 refine TL.cons rfl (Step.move (p := (.one (.d (.sl 47 (b.map SEvent.cells))))) rfl rfl (lt_ok rfl) rfl) ?_
 refine TL.cons rfl (Step.len' (e := 152) (z := 47) (d := (.sl 47 (b.map SEvent.cells))) (n := b.length) rfl rfl (lt_ok rfl) (by kernel_rfl) rfl rfl (by simp [D.size])) ?_
 refine TL.cons rfl (Step.bin rfl rfl (lt_ok rfl) rfl rfl (Bin.neq (k := .i64) (a := (a.length : Int)) (b := (b.length : Int)))) ?_
 refine TL.nil ?_
 refine T.cond (b := decide ((a.length : Int) ≠ (b.length : Int))) rfl (fun h1 => ?_) (fun h1 => ?_)
 ·
  replace h1 := of_decide_eq_true h1
  refine T.seq ?_
  refine T.region ?_
  refine TL.cons rfl (Step.assign (p := (.one (.d (.bool false)))) rfl rfl (lt_ok rfl) rfl) ?_
  refine TL.nil ?_
  refine T.ret ?_
  exact ⟨[(false, [.d (.bool false)])], (.cons rfl .nil), rfl, [], (RetC.rd' (by (congr 1; symm; first | (apply decide_eq_false; rintro rfl; first | exact absurd rfl ‹¬ _ = _› | exact absurd rfl (of_decide_eq_false (by assumption)) | contradiction | simp_all) | (apply decide_eq_true; exact take_all hx2 (by omega) hx3))) .nil)⟩
 ·
  replace h1 := of_decide_eq_false h1
  refine T.skip ?_
  refine T.seq ?_
  refine T.seq ?_
  refine T.region ?_
  refine TL.cons rfl (Step.assign (p := (.one (.d (.int .i64 0)))) rfl rfl (lt_ok rfl) rfl) ?_
  refine TL.nil ?_
  refine T.block ?_
  refine T.loop (ι := Nat) (fun x => { tm := [(0, (.one (.d (.sl 47 (a.map SEvent.cells))))), (1, (.one (.d (.sl 47 (b.map SEvent.cells))))), (5, (.one (.d (.int .i64 (x : Int)))))], rows := [], boxes := [] }) (fun x => x ≤ a.length ∧ a.length = b.length ∧ a.take x = b.take x) (fun x => a.length - x) 0 ?_ ?_ ?_
  · exact Env.le_mk ⟨rfl, rfl, by first | rfl | (simp; done) | (congr 3; omega), trivial⟩ trivial trivial
  · (refine ⟨Nat.zero_le _, by omega, by simp⟩)
  ·
   intro i hx
   try dsimp only at hx ⊢
   obtain ⟨hx1, hx2, hx3⟩ := hx
   refine T.seq ?_
   refine T.seq ?_
   refine T.region ?_
   refine TL.cons rfl (Step.move (p := (.one (.d (.int .i64 (i : Int))))) rfl rfl (lt_ok rfl) rfl) ?_
   refine TL.cons rfl (Step.move (p := (.one (.d (.sl 47 (a.map SEvent.cells))))) rfl rfl (lt_ok rfl) rfl) ?_
   refine TL.cons rfl (Step.len' (e := 152) (z := 47) (d := (.sl 47 (a.map SEvent.cells))) (n := a.length) rfl rfl (lt_ok rfl) (by kernel_rfl) rfl rfl (by simp [D.size])) ?_
   refine TL.cons rfl (Step.bin rfl rfl (lt_ok rfl) rfl rfl (Bin.lss (k := .i64) (a := (i : Int)) (b := (a.length : Int)))) ?_
   refine TL.nil ?_
   refine T.cond (b := decide ((i : Int) < (a.length : Int))) rfl (fun h2 => ?_) (fun h2 => ?_)
   ·
    replace h2 := of_decide_eq_true h2
    refine T.skip ?_
    refine T.seq ?_
    refine T.block ?_
    refine T.seq ?_
    refine T.draw [⟨17, (.one (.d (.sl 47 (a.map SEvent.cells)))), []⟩, ⟨18, (.one (.d (.int .i64 (i : Int)))), []⟩, ⟨19, (.one (.eptr (.sl 47 (a.map SEvent.cells)) i 0)), []⟩, ⟨20, (.agg [.d (.int .i64 (a.getD i default).f0), .d (.int .i64 (a.getD i default).f1), .d (.int .i64 (a.getD i default).f2.f0), .d (.int .i64 (a.getD i default).f2.f1.f0), .d (.int .i64 (a.getD i default).f2.f1.f1), .d (.ints .u8 (a.getD i default).f2.f1.f2), .d (.int .i64 (a.getD i default).f2.f1.f3), .d (.ints .u8 (a.getD i default).f2.f1.f4), .d (.int .i64 (a.getD i default).f2.f2.f0), .d (.int .i64 (a.getD i default).f2.f2.f1), .d (.ints .u8 (a.getD i default).f2.f2.f2), .d (.ints .u8 (a.getD i default).f2.f2.f3), .d (.bss (a.getD i default).f2.f2.f4), .d (.int .i64 (a.getD i default).f2.f3.f0), .d (.int .i64 (a.getD i default).f2.f3.f1), .d (.int .i64 (a.getD i default).f2.f3.f2), .d (.ints .u8 (a.getD i default).f2.f3.f3), .d (.ints .u8 (a.getD i default).f2.f3.f4), .d (.int .i64 (a.getD i default).f2.f3.f5.f0), .d (.int .i64 (a.getD i default).f2.f3.f5.f1), .d (.ints .u8 (a.getD i default).f2.f3.f5.f2), .d (.ints .u8 (a.getD i default).f2.f3.f5.f3), .d (.bss (a.getD i default).f2.f3.f5.f4), .d (.int .i64 (a.getD i default).f2.f4.f0.f0), .d (.int .i64 (a.getD i default).f2.f4.f0.f1), .d (.int .i64 (a.getD i default).f2.f4.f0.f2), .d (.ints .u8 (a.getD i default).f2.f4.f0.f3), .d (.ints .u8 (a.getD i default).f2.f4.f0.f4), .d (.int .i64 (a.getD i default).f2.f4.f0.f5.f0), .d (.int .i64 (a.getD i default).f2.f4.f0.f5.f1), .d (.ints .u8 (a.getD i default).f2.f4.f0.f5.f2), .d (.ints .u8 (a.getD i default).f2.f4.f0.f5.f3), .d (.bss (a.getD i default).f2.f4.f0.f5.f4), .d (.bss (a.getD i default).f2.f4.f1), .d (.int .i64 (a.getD i default).f2.f5.f0), .d (.sl 3 ((a.getD i default).f2.f5.f1.map SEntry.cells)), .d (.sl 10 ((a.getD i default).f2.f6.f0.map SHead.cells)), .d (.int .i64 (a.getD i default).f2.f6.f1.f0), .d (.int .i64 (a.getD i default).f2.f6.f1.f1), .d (.ints .u8 (a.getD i default).f2.f6.f1.f2), .d (.ints .u8 (a.getD i default).f2.f6.f1.f3), .d (.bss (a.getD i default).f2.f6.f1.f4), .d (.int .i64 (a.getD i default).f2.f7.f0), .d (.int .i64 (a.getD i default).f2.f7.f1), .d (.int .i64 (a.getD i default).f2.f7.f2), .d (.ints .u8 (a.getD i default).f2.f7.f3), .d (.bss (a.getD i default).f2.f7.f4)]), []⟩, ⟨21, (.one (.d (.sl 47 (b.map SEvent.cells)))), []⟩, ⟨22, (.one (.d (.int .i64 (i : Int)))), []⟩, ⟨23, (.one (.eptr (.sl 47 (b.map SEvent.cells)) i 0)), []⟩, ⟨24, (.agg [.d (.int .i64 (b.getD i default).f0), .d (.int .i64 (b.getD i default).f1), .d (.int .i64 (b.getD i default).f2.f0), .d (.int .i64 (b.getD i default).f2.f1.f0), .d (.int .i64 (b.getD i default).f2.f1.f1), .d (.ints .u8 (b.getD i default).f2.f1.f2), .d (.int .i64 (b.getD i default).f2.f1.f3), .d (.ints .u8 (b.getD i default).f2.f1.f4), .d (.int .i64 (b.getD i default).f2.f2.f0), .d (.int .i64 (b.getD i default).f2.f2.f1), .d (.ints .u8 (b.getD i default).f2.f2.f2), .d (.ints .u8 (b.getD i default).f2.f2.f3), .d (.bss (b.getD i default).f2.f2.f4), .d (.int .i64 (b.getD i default).f2.f3.f0), .d (.int .i64 (b.getD i default).f2.f3.f1), .d (.int .i64 (b.getD i default).f2.f3.f2), .d (.ints .u8 (b.getD i default).f2.f3.f3), .d (.ints .u8 (b.getD i default).f2.f3.f4), .d (.int .i64 (b.getD i default).f2.f3.f5.f0), .d (.int .i64 (b.getD i default).f2.f3.f5.f1), .d (.ints .u8 (b.getD i default).f2.f3.f5.f2), .d (.ints .u8 (b.getD i default).f2.f3.f5.f3), .d (.bss (b.getD i default).f2.f3.f5.f4), .d (.int .i64 (b.getD i default).f2.f4.f0.f0), .d (.int .i64 (b.getD i default).f2.f4.f0.f1), .d (.int .i64 (b.getD i default).f2.f4.f0.f2), .d (.ints .u8 (b.getD i default).f2.f4.f0.f3), .d (.ints .u8 (b.getD i default).f2.f4.f0.f4), .d (.int .i64 (b.getD i default).f2.f4.f0.f5.f0), .d (.int .i64 (b.getD i default).f2.f4.f0.f5.f1), .d (.ints .u8 (b.getD i default).f2.f4.f0.f5.f2), .d (.ints .u8 (b.getD i default).f2.f4.f0.f5.f3), .d (.bss (b.getD i default).f2.f4.f0.f5.f4), .d (.bss (b.getD i default).f2.f4.f1), .d (.int .i64 (b.getD i default).f2.f5.f0), .d (.sl 3 ((b.getD i default).f2.f5.f1.map SEntry.cells)), .d (.sl 10 ((b.getD i default).f2.f6.f0.map SHead.cells)), .d (.int .i64 (b.getD i default).f2.f6.f1.f0), .d (.int .i64 (b.getD i default).f2.f6.f1.f1), .d (.ints .u8 (b.getD i default).f2.f6.f1.f2), .d (.ints .u8 (b.getD i default).f2.f6.f1.f3), .d (.bss (b.getD i default).f2.f6.f1.f4), .d (.int .i64 (b.getD i default).f2.f7.f0), .d (.int .i64 (b.getD i default).f2.f7.f1), .d (.int .i64 (b.getD i default).f2.f7.f2), .d (.ints .u8 (b.getD i default).f2.f7.f3), .d (.bss (b.getD i default).f2.f7.f4)]), []⟩, ⟨25, (.one (.d (.bool (decide ((a.getD i default) = (b.getD i default)))))), []⟩, ⟨26, (.one (.d (.bool (!(decide ((a.getD i default) = (b.getD i default))))))), []⟩] (by kernel_rfl) (by kernel_rfl) ?_ ?_
    ·
     refine .cons (fun E h => by have g0 := h.get 0 (by decide); exact OpStep.plain rfl (Step.move (p := (.one (.d (.sl 47 (a.map SEvent.cells))))) (t := 17) rfl rfl (by exact lt_ok rfl) (show Env.ev E (.tmp 0) = _ from g0.trans rfl))) ?_
     refine .cons (fun E h => by have g5 := h.get 5 (by decide); exact OpStep.plain rfl (Step.move (p := (.one (.d (.int .i64 (i : Int))))) (t := 18) rfl rfl (by exact lt_ok rfl) (show Env.ev E (.tmp 5) = _ from g5.trans rfl))) ?_
     refine .cons (fun E h => by have g17 := h.get 17 (by decide); have g18 := h.get 18 (by decide); exact OpStep.plain rfl (Step.index (e := 152) (z := 47) (i := (i : Int)) (t := 19) rfl rfl (by exact lt_ok rfl) (by kernel_rfl) (show Env.ev E (.tmp 17) = _ from g17.trans rfl) rfl rfl (lt_ok rfl) (show Env.ev E (.tmp 18) = _ from g18.trans rfl) (by first | omega | (simp; omega)) (by simp only [D.size]; first | omega | (simp; omega)))) ?_
     refine .cons (fun E h => by have g19 := h.get 19 (by decide); exact OpStep.plain rfl (Step.load_agg (n := 47) (cs := [.d (.int .i64 (a.getD i default).f0), .d (.int .i64 (a.getD i default).f1), .d (.int .i64 (a.getD i default).f2.f0), .d (.int .i64 (a.getD i default).f2.f1.f0), .d (.int .i64 (a.getD i default).f2.f1.f1), .d (.ints .u8 (a.getD i default).f2.f1.f2), .d (.int .i64 (a.getD i default).f2.f1.f3), .d (.ints .u8 (a.getD i default).f2.f1.f4), .d (.int .i64 (a.getD i default).f2.f2.f0), .d (.int .i64 (a.getD i default).f2.f2.f1), .d (.ints .u8 (a.getD i default).f2.f2.f2), .d (.ints .u8 (a.getD i default).f2.f2.f3), .d (.bss (a.getD i default).f2.f2.f4), .d (.int .i64 (a.getD i default).f2.f3.f0), .d (.int .i64 (a.getD i default).f2.f3.f1), .d (.int .i64 (a.getD i default).f2.f3.f2), .d (.ints .u8 (a.getD i default).f2.f3.f3), .d (.ints .u8 (a.getD i default).f2.f3.f4), .d (.int .i64 (a.getD i default).f2.f3.f5.f0), .d (.int .i64 (a.getD i default).f2.f3.f5.f1), .d (.ints .u8 (a.getD i default).f2.f3.f5.f2), .d (.ints .u8 (a.getD i default).f2.f3.f5.f3), .d (.bss (a.getD i default).f2.f3.f5.f4), .d (.int .i64 (a.getD i default).f2.f4.f0.f0), .d (.int .i64 (a.getD i default).f2.f4.f0.f1), .d (.int .i64 (a.getD i default).f2.f4.f0.f2), .d (.ints .u8 (a.getD i default).f2.f4.f0.f3), .d (.ints .u8 (a.getD i default).f2.f4.f0.f4), .d (.int .i64 (a.getD i default).f2.f4.f0.f5.f0), .d (.int .i64 (a.getD i default).f2.f4.f0.f5.f1), .d (.ints .u8 (a.getD i default).f2.f4.f0.f5.f2), .d (.ints .u8 (a.getD i default).f2.f4.f0.f5.f3), .d (.bss (a.getD i default).f2.f4.f0.f5.f4), .d (.bss (a.getD i default).f2.f4.f1), .d (.int .i64 (a.getD i default).f2.f5.f0), .d (.sl 3 ((a.getD i default).f2.f5.f1.map SEntry.cells)), .d (.sl 10 ((a.getD i default).f2.f6.f0.map SHead.cells)), .d (.int .i64 (a.getD i default).f2.f6.f1.f0), .d (.int .i64 (a.getD i default).f2.f6.f1.f1), .d (.ints .u8 (a.getD i default).f2.f6.f1.f2), .d (.ints .u8 (a.getD i default).f2.f6.f1.f3), .d (.bss (a.getD i default).f2.f6.f1.f4), .d (.int .i64 (a.getD i default).f2.f7.f0), .d (.int .i64 (a.getD i default).f2.f7.f1), .d (.int .i64 (a.getD i default).f2.f7.f2), .d (.ints .u8 (a.getD i default).f2.f7.f3), .d (.bss (a.getD i default).f2.f7.f4)]) (t := 20) rfl rfl (by exact lt_ok rfl) (by kernel_rfl) (show Env.ev E (.tmp 19) = _ from g19.trans rfl) rfl (by simp only [List.range, List.range.loop, List.map_cons, List.map_nil]; rw [cell_map default (by first | omega | (simp; omega)), cell_map default (by first | omega | (simp; omega)), cell_map default (by first | omega | (simp; omega)), cell_map default (by first | omega | (simp; omega)), cell_map default (by first | omega | (simp; omega)), cell_map default (by first | omega | (simp; omega)), cell_map default (by first | omega | (simp; omega)), cell_map default (by first | omega | (simp; omega)), cell_map default (by first | omega | (simp; omega)), cell_map default (by first | omega | (simp; omega)), cell_map default (by first | omega | (simp; omega)), cell_map default (by first | omega | (simp; omega)), cell_map default (by first | omega | (simp; omega)), cell_map default (by first | omega | (simp; omega)), cell_map default (by first | omega | (simp; omega)), cell_map default (by first | omega | (simp; omega)), cell_map default (by first | omega | (simp; omega)), cell_map default (by first | omega | (simp; omega)), cell_map default (by first | omega | (simp; omega)), cell_map default (by first | omega | (simp; omega)), cell_map default (by first | omega | (simp; omega)), cell_map default (by first | omega | (simp; omega)), cell_map default (by first | omega | (simp; omega)), cell_map default (by first | omega | (simp; omega)), cell_map default (by first | omega | (simp; omega)), cell_map default (by first | omega | (simp; omega)), cell_map default (by first | omega | (simp; omega)), cell_map default (by first | omega | (simp; omega)), cell_map default (by first | omega | (simp; omega)), cell_map default (by first | omega | (simp; omega)), cell_map default (by first | omega | (simp; omega)), cell_map default (by first | omega | (simp; omega)), cell_map default (by first | omega | (simp; omega)), cell_map default (by first | omega | (simp; omega)), cell_map default (by first | omega | (simp; omega)), cell_map default (by first | omega | (simp; omega)), cell_map default (by first | omega | (simp; omega)), cell_map default (by first | omega | (simp; omega)), cell_map default (by first | omega | (simp; omega)), cell_map default (by first | omega | (simp; omega)), cell_map default (by first | omega | (simp; omega)), cell_map default (by first | omega | (simp; omega)), cell_map default (by first | omega | (simp; omega)), cell_map default (by first | omega | (simp; omega)), cell_map default (by first | omega | (simp; omega)), cell_map default (by first | omega | (simp; omega)), cell_map default (by first | omega | (simp; omega))]; rfl))) ?_
     refine .cons (fun E h => by have g1 := h.get 1 (by decide); exact OpStep.plain rfl (Step.move (p := (.one (.d (.sl 47 (b.map SEvent.cells))))) (t := 21) rfl rfl (by exact lt_ok rfl) (show Env.ev E (.tmp 1) = _ from g1.trans rfl))) ?_
     refine .cons (fun E h => by have g5 := h.get 5 (by decide); exact OpStep.plain rfl (Step.move (p := (.one (.d (.int .i64 (i : Int))))) (t := 22) rfl rfl (by exact lt_ok rfl) (show Env.ev E (.tmp 5) = _ from g5.trans rfl))) ?_
     refine .cons (fun E h => by have g21 := h.get 21 (by decide); have g22 := h.get 22 (by decide); exact OpStep.plain rfl (Step.index (e := 152) (z := 47) (i := (i : Int)) (t := 23) rfl rfl (by exact lt_ok rfl) (by kernel_rfl) (show Env.ev E (.tmp 21) = _ from g21.trans rfl) rfl rfl (lt_ok rfl) (show Env.ev E (.tmp 22) = _ from g22.trans rfl) (by first | omega | (simp; omega)) (by simp only [D.size]; first | omega | (simp; omega)))) ?_
     refine .cons (fun E h => by have g23 := h.get 23 (by decide); exact OpStep.plain rfl (Step.load_agg (n := 47) (cs := [.d (.int .i64 (b.getD i default).f0), .d (.int .i64 (b.getD i default).f1), .d (.int .i64 (b.getD i default).f2.f0), .d (.int .i64 (b.getD i default).f2.f1.f0), .d (.int .i64 (b.getD i default).f2.f1.f1), .d (.ints .u8 (b.getD i default).f2.f1.f2), .d (.int .i64 (b.getD i default).f2.f1.f3), .d (.ints .u8 (b.getD i default).f2.f1.f4), .d (.int .i64 (b.getD i default).f2.f2.f0), .d (.int .i64 (b.getD i default).f2.f2.f1), .d (.ints .u8 (b.getD i default).f2.f2.f2), .d (.ints .u8 (b.getD i default).f2.f2.f3), .d (.bss (b.getD i default).f2.f2.f4), .d (.int .i64 (b.getD i default).f2.f3.f0), .d (.int .i64 (b.getD i default).f2.f3.f1), .d (.int .i64 (b.getD i default).f2.f3.f2), .d (.ints .u8 (b.getD i default).f2.f3.f3), .d (.ints .u8 (b.getD i default).f2.f3.f4), .d (.int .i64 (b.getD i default).f2.f3.f5.f0), .d (.int .i64 (b.getD i default).f2.f3.f5.f1), .d (.ints .u8 (b.getD i default).f2.f3.f5.f2), .d (.ints .u8 (b.getD i default).f2.f3.f5.f3), .d (.bss (b.getD i default).f2.f3.f5.f4), .d (.int .i64 (b.getD i default).f2.f4.f0.f0), .d (.int .i64 (b.getD i default).f2.f4.f0.f1), .d (.int .i64 (b.getD i default).f2.f4.f0.f2), .d (.ints .u8 (b.getD i default).f2.f4.f0.f3), .d (.ints .u8 (b.getD i default).f2.f4.f0.f4), .d (.int .i64 (b.getD i default).f2.f4.f0.f5.f0), .d (.int .i64 (b.getD i default).f2.f4.f0.f5.f1), .d (.ints .u8 (b.getD i default).f2.f4.f0.f5.f2), .d (.ints .u8 (b.getD i default).f2.f4.f0.f5.f3), .d (.bss (b.getD i default).f2.f4.f0.f5.f4), .d (.bss (b.getD i default).f2.f4.f1), .d (.int .i64 (b.getD i default).f2.f5.f0), .d (.sl 3 ((b.getD i default).f2.f5.f1.map SEntry.cells)), .d (.sl 10 ((b.getD i default).f2.f6.f0.map SHead.cells)), .d (.int .i64 (b.getD i default).f2.f6.f1.f0), .d (.int .i64 (b.getD i default).f2.f6.f1.f1), .d (.ints .u8 (b.getD i default).f2.f6.f1.f2), .d (.ints .u8 (b.getD i default).f2.f6.f1.f3), .d (.bss (b.getD i default).f2.f6.f1.f4), .d (.int .i64 (b.getD i default).f2.f7.f0), .d (.int .i64 (b.getD i default).f2.f7.f1), .d (.int .i64 (b.getD i default).f2.f7.f2), .d (.ints .u8 (b.getD i default).f2.f7.f3), .d (.bss (b.getD i default).f2.f7.f4)]) (t := 24) rfl rfl (by exact lt_ok rfl) (by kernel_rfl) (show Env.ev E (.tmp 23) = _ from g23.trans rfl) rfl (by simp only [List.range, List.range.loop, List.map_cons, List.map_nil]; rw [cell_map default (by first | omega | (simp; omega)), cell_map default (by first | omega | (simp; omega)), cell_map default (by first | omega | (simp; omega)), cell_map default (by first | omega | (simp; omega)), cell_map default (by first | omega | (simp; omega)), cell_map default (by first | omega | (simp; omega)), cell_map default (by first | omega | (simp; omega)), cell_map default (by first | omega | (simp; omega)), cell_map default (by first | omega | (simp; omega)), cell_map default (by first | omega | (simp; omega)), cell_map default (by first | omega | (simp; omega)), cell_map default (by first | omega | (simp; omega)), cell_map default (by first | omega | (simp; omega)), cell_map default (by first | omega | (simp; omega)), cell_map default (by first | omega | (simp; omega)), cell_map default (by first | omega | (simp; omega)), cell_map default (by first | omega | (simp; omega)), cell_map default (by first | omega | (simp; omega)), cell_map default (by first | omega | (simp; omega)), cell_map default (by first | omega | (simp; omega)), cell_map default (by first | omega | (simp; omega)), cell_map default (by first | omega | (simp; omega)), cell_map default (by first | omega | (simp; omega)), cell_map default (by first | omega | (simp; omega)), cell_map default (by first | omega | (simp; omega)), cell_map default (by first | omega | (simp; omega)), cell_map default (by first | omega | (simp; omega)), cell_map default (by first | omega | (simp; omega)), cell_map default (by first | omega | (simp; omega)), cell_map default (by first | omega | (simp; omega)), cell_map default (by first | omega | (simp; omega)), cell_map default (by first | omega | (simp; omega)), cell_map default (by first | omega | (simp; omega)), cell_map default (by first | omega | (simp; omega)), cell_map default (by first | omega | (simp; omega)), cell_map default (by first | omega | (simp; omega)), cell_map default (by first | omega | (simp; omega)), cell_map default (by first | omega | (simp; omega)), cell_map default (by first | omega | (simp; omega)), cell_map default (by first | omega | (simp; omega)), cell_map default (by first | omega | (simp; omega)), cell_map default (by first | omega | (simp; omega)), cell_map default (by first | omega | (simp; omega)), cell_map default (by first | omega | (simp; omega)), cell_map default (by first | omega | (simp; omega)), cell_map default (by first | omega | (simp; omega)), cell_map default (by first | omega | (simp; omega))]; rfl))) ?_
     refine .cons (fun E h => by have g20 := h.get 20 (by decide); have g24 := h.get 24 (by decide); exact OpStep.plain rfl (Step.call (f := 126) (xs := [.tmp 20, .tmp 24]) (ps := [(.agg [.d (.int .i64 (a.getD i default).f0), .d (.int .i64 (a.getD i default).f1), .d (.int .i64 (a.getD i default).f2.f0), .d (.int .i64 (a.getD i default).f2.f1.f0), .d (.int .i64 (a.getD i default).f2.f1.f1), .d (.ints .u8 (a.getD i default).f2.f1.f2), .d (.int .i64 (a.getD i default).f2.f1.f3), .d (.ints .u8 (a.getD i default).f2.f1.f4), .d (.int .i64 (a.getD i default).f2.f2.f0), .d (.int .i64 (a.getD i default).f2.f2.f1), .d (.ints .u8 (a.getD i default).f2.f2.f2), .d (.ints .u8 (a.getD i default).f2.f2.f3), .d (.bss (a.getD i default).f2.f2.f4), .d (.int .i64 (a.getD i default).f2.f3.f0), .d (.int .i64 (a.getD i default).f2.f3.f1), .d (.int .i64 (a.getD i default).f2.f3.f2), .d (.ints .u8 (a.getD i default).f2.f3.f3), .d (.ints .u8 (a.getD i default).f2.f3.f4), .d (.int .i64 (a.getD i default).f2.f3.f5.f0), .d (.int .i64 (a.getD i default).f2.f3.f5.f1), .d (.ints .u8 (a.getD i default).f2.f3.f5.f2), .d (.ints .u8 (a.getD i default).f2.f3.f5.f3), .d (.bss (a.getD i default).f2.f3.f5.f4), .d (.int .i64 (a.getD i default).f2.f4.f0.f0), .d (.int .i64 (a.getD i default).f2.f4.f0.f1), .d (.int .i64 (a.getD i default).f2.f4.f0.f2), .d (.ints .u8 (a.getD i default).f2.f4.f0.f3), .d (.ints .u8 (a.getD i default).f2.f4.f0.f4), .d (.int .i64 (a.getD i default).f2.f4.f0.f5.f0), .d (.int .i64 (a.getD i default).f2.f4.f0.f5.f1), .d (.ints .u8 (a.getD i default).f2.f4.f0.f5.f2), .d (.ints .u8 (a.getD i default).f2.f4.f0.f5.f3), .d (.bss (a.getD i default).f2.f4.f0.f5.f4), .d (.bss (a.getD i default).f2.f4.f1), .d (.int .i64 (a.getD i default).f2.f5.f0), .d (.sl 3 ((a.getD i default).f2.f5.f1.map SEntry.cells)), .d (.sl 10 ((a.getD i default).f2.f6.f0.map SHead.cells)), .d (.int .i64 (a.getD i default).f2.f6.f1.f0), .d (.int .i64 (a.getD i default).f2.f6.f1.f1), .d (.ints .u8 (a.getD i default).f2.f6.f1.f2), .d (.ints .u8 (a.getD i default).f2.f6.f1.f3), .d (.bss (a.getD i default).f2.f6.f1.f4), .d (.int .i64 (a.getD i default).f2.f7.f0), .d (.int .i64 (a.getD i default).f2.f7.f1), .d (.int .i64 (a.getD i default).f2.f7.f2), .d (.ints .u8 (a.getD i default).f2.f7.f3), .d (.bss (a.getD i default).f2.f7.f4)]), (.agg [.d (.int .i64 (b.getD i default).f0), .d (.int .i64 (b.getD i default).f1), .d (.int .i64 (b.getD i default).f2.f0), .d (.int .i64 (b.getD i default).f2.f1.f0), .d (.int .i64 (b.getD i default).f2.f1.f1), .d (.ints .u8 (b.getD i default).f2.f1.f2), .d (.int .i64 (b.getD i default).f2.f1.f3), .d (.ints .u8 (b.getD i default).f2.f1.f4), .d (.int .i64 (b.getD i default).f2.f2.f0), .d (.int .i64 (b.getD i default).f2.f2.f1), .d (.ints .u8 (b.getD i default).f2.f2.f2), .d (.ints .u8 (b.getD i default).f2.f2.f3), .d (.bss (b.getD i default).f2.f2.f4), .d (.int .i64 (b.getD i default).f2.f3.f0), .d (.int .i64 (b.getD i default).f2.f3.f1), .d (.int .i64 (b.getD i default).f2.f3.f2), .d (.ints .u8 (b.getD i default).f2.f3.f3), .d (.ints .u8 (b.getD i default).f2.f3.f4), .d (.int .i64 (b.getD i default).f2.f3.f5.f0), .d (.int .i64 (b.getD i default).f2.f3.f5.f1), .d (.ints .u8 (b.getD i default).f2.f3.f5.f2), .d (.ints .u8 (b.getD i default).f2.f3.f5.f3), .d (.bss (b.getD i default).f2.f3.f5.f4), .d (.int .i64 (b.getD i default).f2.f4.f0.f0), .d (.int .i64 (b.getD i default).f2.f4.f0.f1), .d (.int .i64 (b.getD i default).f2.f4.f0.f2), .d (.ints .u8 (b.getD i default).f2.f4.f0.f3), .d (.ints .u8 (b.getD i default).f2.f4.f0.f4), .d (.int .i64 (b.getD i default).f2.f4.f0.f5.f0), .d (.int .i64 (b.getD i default).f2.f4.f0.f5.f1), .d (.ints .u8 (b.getD i default).f2.f4.f0.f5.f2), .d (.ints .u8 (b.getD i default).f2.f4.f0.f5.f3), .d (.bss (b.getD i default).f2.f4.f0.f5.f4), .d (.bss (b.getD i default).f2.f4.f1), .d (.int .i64 (b.getD i default).f2.f5.f0), .d (.sl 3 ((b.getD i default).f2.f5.f1.map SEntry.cells)), .d (.sl 10 ((b.getD i default).f2.f6.f0.map SHead.cells)), .d (.int .i64 (b.getD i default).f2.f6.f1.f0), .d (.int .i64 (b.getD i default).f2.f6.f1.f1), .d (.ints .u8 (b.getD i default).f2.f6.f1.f2), .d (.ints .u8 (b.getD i default).f2.f6.f1.f3), .d (.bss (b.getD i default).f2.f6.f1.f4), .d (.int .i64 (b.getD i default).f2.f7.f0), .d (.int .i64 (b.getD i default).f2.f7.f1), .d (.int .i64 (b.getD i default).f2.f7.f2), .d (.ints .u8 (b.getD i default).f2.f7.f3), .d (.bss (b.getD i default).f2.f7.f4)])]) false (g := .func 126) (t := 25) rfl rfl (by exact lt_ok rfl) rfl (by kernel_rfl) (evs_cons (show Env.ev E (.tmp 20) = _ from g20.trans rfl) (evs_cons (show Env.ev E (.tmp 24) = _ from g24.trans rfl) (rfl))) (.cons (.agg (.cons (.d _) (.cons (.d _) (.cons (.d _) (.cons (.d _) (.cons (.d _) (.cons (.d _) (.cons (.d _) (.cons (.d _) (.cons (.d _) (.cons (.d _) (.cons (.d _) (.cons (.d _) (.cons (.d _) (.cons (.d _) (.cons (.d _) (.cons (.d _) (.cons (.d _) (.cons (.d _) (.cons (.d _) (.cons (.d _) (.cons (.d _) (.cons (.d _) (.cons (.d _) (.cons (.d _) (.cons (.d _) (.cons (.d _) (.cons (.d _) (.cons (.d _) (.cons (.d _) (.cons (.d _) (.cons (.d _) (.cons (.d _) (.cons (.d _) (.cons (.d _) (.cons (.d _) (.cons (.d _) (.cons (.d _) (.cons (.d _) (.cons (.d _) (.cons (.d _) (.cons (.d _) (.cons (.d _) (.cons (.d _) (.cons (.d _) (.cons (.d _) (.cons (.d _) (.cons (.d _) .nil)))))))))))))))))))))))))))))))))))))))))))))))) (.cons (.agg (.cons (.d _) (.cons (.d _) (.cons (.d _) (.cons (.d _) (.cons (.d _) (.cons (.d _) (.cons (.d _) (.cons (.d _) (.cons (.d _) (.cons (.d _) (.cons (.d _) (.cons (.d _) (.cons (.d _) (.cons (.d _) (.cons (.d _) (.cons (.d _) (.cons (.d _) (.cons (.d _) (.cons (.d _) (.cons (.d _) (.cons (.d _) (.cons (.d _) (.cons (.d _) (.cons (.d _) (.cons (.d _) (.cons (.d _) (.cons (.d _) (.cons (.d _) (.cons (.d _) (.cons (.d _) (.cons (.d _) (.cons (.d _) (.cons (.d _) (.cons (.d _) (.cons (.d _) (.cons (.d _) (.cons (.d _) (.cons (.d _) (.cons (.d _) (.cons (.d _) (.cons (.d _) (.cons (.d _) (.cons (.d _) (.cons (.d _) (.cons (.d _) (.cons (.d _) (.cons (.d _) .nil)))))))))))))))))))))))))))))))))))))))))))))))) .nil)) (ok_laws_eqEvent (a.getD i default) (b.getD i default)) (.inr rfl) (At.freshRows h rfl) (by simp) rfl)) ?_
     refine .cons (fun E h => by have g25 := h.get 25 (by decide); exact OpStep.plain rfl (Step.not (b := (decide ((a.getD i default) = (b.getD i default)))) (t := 26) rfl rfl (by exact lt_ok rfl) (show Env.ev E (.tmp 25) = _ from g25.trans rfl))) ?_
     exact .nil _ _
    refine TL.nil ?_
    refine T.weaken (E' := { tm := [(0, (.one (.d (.sl 47 (a.map SEvent.cells))))), (1, (.one (.d (.sl 47 (b.map SEvent.cells))))), (5, (.one (.d (.int .i64 (i : Int))))), (26, (.one (.d (.bool (!(decide ((a.getD i default) = (b.getD i default))))))))], rows := [], boxes := [] }) (Env.le_mk ⟨by kernel_rfl, by kernel_rfl, by kernel_rfl, by kernel_rfl, trivial⟩ trivial trivial) ?_
    refine T.cond (b := !(decide ((a.getD i default) = (b.getD i default)))) rfl (fun h3 => ?_) (fun h3 => ?_)
    ·
     replace h3 : (decide ((a.getD i default) = (b.getD i default))) = false := by simpa only [Bool.not_eq_true', Bool.not_eq_false'] using h3
     replace h3 := of_decide_eq_false h3
     refine T.seq ?_
     refine T.region ?_
     refine TL.cons rfl (Step.assign (p := (.one (.d (.bool false)))) rfl rfl (lt_ok rfl) rfl) ?_
     refine TL.nil ?_
     refine T.ret ?_
     exact ⟨[(false, [.d (.bool false)])], (.cons rfl .nil), rfl, [], (RetC.rd' (by (congr 1; symm; first | (apply decide_eq_false; rintro rfl; first | exact absurd rfl ‹¬ _ = _› | exact absurd rfl (of_decide_eq_false (by assumption)) | contradiction | simp_all) | (apply decide_eq_true; exact take_all hx2 (by omega) hx3))) .nil)⟩
    ·
     replace h3 : (decide ((a.getD i default) = (b.getD i default))) = true := by simpa only [Bool.not_eq_true', Bool.not_eq_false'] using h3
     replace h3 := of_decide_eq_true h3
     refine T.skip ?_
     refine T.region ?_
     refine TL.cons rfl (Step.move (p := (.one (.d (.int .i64 (i : Int))))) rfl rfl (lt_ok rfl) rfl) ?_
     refine TL.cons rfl (Step.bin (r := .int .i64 ((i : Int) + 1)) rfl rfl (lt_ok rfl) rfl rfl (Bin.add (a := (i : Int)) (b := 1) (by first | exact wrap_ok (by first | omega | (simp; omega)) (by first | omega | (simp; omega)) | rfl))) ?_
     refine TL.cons rfl (Step.assign (p := (.one (.d (.int .i64 ((i : Int) + 1))))) rfl rfl (lt_ok rfl) rfl) ?_
     refine TL.nil ?_
     exact ⟨i + 1, by (refine ⟨by omega, hx2, take_step (d := default) hx2 (by omega) hx3 (by first | assumption | exact Decidable.not_not.1 (by assumption) | omega)⟩), by omega, Env.le_mk ⟨rfl, rfl, by first | rfl | (simp; done) | (congr 3; omega), trivial⟩ trivial trivial⟩
   ·
    replace h2 := of_decide_eq_false h2
    refine T.exit ?_
    refine T.seq ?_
    refine T.region ?_
    refine TL.cons rfl (Step.assign (p := (.one (.d (.bool true)))) rfl rfl (lt_ok rfl) rfl) ?_
    refine TL.nil ?_
    refine T.ret ?_
    exact ⟨[(false, [.d (.bool true)])], (.cons rfl .nil), rfl, [], (RetC.rd' (by (congr 1; symm; first | (apply decide_eq_false; rintro rfl; first | exact absurd rfl ‹¬ _ = _› | exact absurd rfl (of_decide_eq_false (by assumption)) | contradiction | simp_all) | (apply decide_eq_true; exact take_all hx2 (by omega) hx3))) .nil)⟩
theorem ok_laws_FnExactSkipped (aL : List SEvent) (h0_ : ∀ y ∈ aL, SEvent.ok y) : RO Try.prog 14 [.one (.sl 47 (aL.map SEvent.cells))] [(false, [.rd (.bool true)])] := by
 refine RO.intro Try.func14 rfl 27 rfl (le_ok rfl) fun w Z => ?_
 refine T.bnd 0 0 rfl rfl fun hb_0_0 => ?_
 simp only [D.size, List.length_map] at hb_0_0
 refine T.seq ?_
 refine T.region ?_
 refine TL.cons rfl (Step.assign (p := (.one (.d (.bool false)))) rfl rfl (lt_ok rfl) rfl) ?_
 refine TL.nil ?_
 refine T.seq ?_
 refine T.region ?_
 refine TL.cons rfl (Step.assign (p := (.one (.d (.int .i64 1048576)))) rfl rfl (lt_ok rfl) rfl) ?_
 refine TL.nil ?_
 refine T.seq ?_
 refine T.region ?_
 refine TL.cons rfl (Step.move (p := (.one (.d (.sl 47 (aL.map SEvent.cells))))) rfl rfl (lt_ok rfl) rfl) ?_
 refine TL.cons rfl (Step.move (p := (.one (.d (.int .i64 1048576)))) rfl rfl (lt_ok rfl) rfl) ?_
 refine TL.cons rfl (Step.call (f := 67) (xs := [.tmp 7, .tmp 8]) (ps := [(.one (.d (.sl 47 (aL.map SEvent.cells)))), (.one (.d (.int .i64 1048576)))]) false (g := .func 67) rfl rfl (lt_ok rfl) rfl (by kernel_rfl) rfl (.cons (.one (.d _)) (.cons (.one (.d _)) .nil)) (ok_laws_szEventS aL 1048576 (by omega) (by omega)) (.inr rfl) rfl (by simp) rfl) ?_
 refine TL.cons rfl (Step.assign (p := (.one (.d (.int .i64 (szLs SEvent.sz aL 1048576))))) rfl rfl (lt_ok rfl) rfl) ?_
 refine TL.nil ?_
 refine T.seq ?_
 refine T.seq ?_
 refine T.region ?_
 refine TL.cons rfl (Step.move (p := (.one (.d (.int .i64 (szLs SEvent.sz aL 1048576))))) rfl rfl (lt_ok rfl) rfl) ?_
 refine TL.cons rfl (Step.bin rfl rfl (lt_ok rfl) rfl rfl (Bin.lss (k := .i64) (a := (szLs SEvent.sz aL 1048576)) (b := 0))) ?_
 refine TL.nil ?_
 refine T.cond (b := decide ((szLs SEvent.sz aL 1048576) < 0)) rfl (fun h2 => ?_) (fun h2 => ?_)
 ·
  replace h2 := of_decide_eq_true h2
  refine T.seq ?_
  refine T.region ?_
  refine TL.cons rfl (Step.assign (p := (.one (.d (.bool true)))) rfl rfl (lt_ok rfl) rfl) ?_
  refine TL.nil ?_
  refine T.ret ?_
  exact ⟨[(false, [.d (.bool true)])], (.cons rfl .nil), rfl, [], (RetC.rd' (by rfl) .nil)⟩
 ·
  replace h2 := of_decide_eq_false h2
  have z1_le : szLs SEvent.sz aL 1048576 ≤ 1048576 := szLs_le (fun x l h => SEvent.sz_le x h) _ (by omega)
  have z1_sm := szLs_sm (p := SEvent.sm) (fun x l h => SEvent.sz_le x h) (fun x l h h0 hl => SEvent.sz_sm x h0 hl h) (by omega : (0 : Int) ≤ szLs SEvent.sz aL 1048576) (by omega : (1048576 : Int) ≤ 1048576)
  refine T.skip ?_
  refine T.seq ?_
  refine T.region ?_
  refine TL.cons rfl (Step.move (p := (.one (.d (.sl 47 (aL.map SEvent.cells))))) rfl rfl (lt_ok rfl) rfl) ?_
  refine TL.cons rfl (Step.call (f := 69) (xs := [.tmp 12]) (ps := [(.one (.d (.sl 47 (aL.map SEvent.cells))))]) false (g := .func 69) rfl rfl (lt_ok rfl) rfl (by kernel_rfl) rfl (.cons (.one (.d _)) .nil) (ok_laws_toEventS aL (by first | assumption | exact ⟨‹_›, ‹_›⟩ | exact mem_getD h0_.2 (by omega))) (.inr rfl) rfl (by simp) rfl) ?_
  refine TL.cons rfl (Step.call (f := 68) (xs := [.tmp 13]) (ps := [(.one (.row 1013 []))]) false (g := .func 68) rfl rfl (lt_ok rfl) rfl (by kernel_rfl) rfl (.cons (.one (.row rfl rfl rfl rfl)) .nil) (ok_spec_Skipped aL) (.inr rfl) rfl (by simp) rfl) ?_
  refine TL.cons rfl (Step.assign (p := (.one (.d (.int .i64 (skipped aL 0))))) rfl rfl (lt_ok rfl) rfl) ?_
  refine TL.nil ?_
  refine T.seq ?_
  refine T.region ?_
  refine TL.cons rfl (Step.move (p := (.one (.d (.sl 47 (aL.map SEvent.cells))))) rfl rfl (lt_ok rfl) rfl) ?_
  refine TL.cons rfl (Step.call (f := 69) (xs := [.tmp 15]) (ps := [(.one (.d (.sl 47 (aL.map SEvent.cells))))]) false (g := .func 69) rfl rfl (lt_ok rfl) rfl (by kernel_rfl) rfl (.cons (.one (.d _)) .nil) (ok_laws_toEventS aL (by first | assumption | exact ⟨‹_›, ‹_›⟩ | exact mem_getD h0_.2 (by omega))) (.inr rfl) rfl (by simp) rfl) ?_
  refine TL.cons rfl (Step.assign (p := (.one (.row 1016 []))) rfl rfl (lt_ok rfl) rfl) ?_
  refine TL.nil ?_
  refine T.seq ?_
  refine T.region ?_
  refine TL.cons rfl (Step.move (p := (.one (.row 1016 []))) rfl rfl (lt_ok rfl) rfl) ?_
  refine TL.cons rfl (Step.call (f := 70) (xs := [.tmp 17]) (ps := [(.one (.row 1016 []))]) false (g := .func 70) rfl rfl (lt_ok rfl) rfl (by kernel_rfl) rfl (.cons (.one (.row rfl rfl rfl rfl)) .nil) (ok_impl_Skipped aL) (.inr rfl) rfl (by simp) rfl) ?_
  refine TL.cons rfl (Step.assign (p := (.one (.d (.int .i64 (skipped aL 0))))) rfl rfl (lt_ok rfl) rfl) ?_
  refine TL.nil ?_
  refine T.seq ?_
  refine T.seq ?_
  refine T.region ?_
  refine TL.cons rfl (Step.move (p := (.one (.d (.int .i64 (skipped aL 0))))) rfl rfl (lt_ok rfl) rfl) ?_
  refine TL.cons rfl (Step.move (p := (.one (.d (.int .i64 (skipped aL 0))))) rfl rfl (lt_ok rfl) rfl) ?_
  refine TL.cons rfl (Step.bin rfl rfl (lt_ok rfl) rfl rfl (Bin.neq (k := .i64) (a := (skipped aL 0)) (b := (skipped aL 0)))) ?_
  refine TL.known 21 (c := false) (by simp) rfl ?_
  refine TL.nil ?_
  refine T.cond (b := false) rfl (fun h3_ => absurd h3_ (by simp)) (fun h3_ => ?_)
  refine T.skip ?_
  refine T.seq ?_
  refine T.seq ?_
  refine T.region ?_
  refine TL.cons rfl (Step.move (p := (.one (.row 1016 []))) rfl rfl (lt_ok rfl) rfl) ?_
  refine TL.cons rfl (Step.move (p := (.one (.d (.sl 47 (aL.map SEvent.cells))))) rfl rfl (lt_ok rfl) rfl) ?_
  refine TL.cons rfl (Step.call (f := 69) (xs := [.tmp 23]) (ps := [(.one (.d (.sl 47 (aL.map SEvent.cells))))]) false (g := .func 69) rfl rfl (lt_ok rfl) rfl (by kernel_rfl) rfl (.cons (.one (.d _)) .nil) (ok_laws_toEventS aL (by first | assumption | exact ⟨‹_›, ‹_›⟩ | exact mem_getD h0_.2 (by omega))) (.inr rfl) rfl (by simp) rfl) ?_
  refine TL.cons rfl (Step.call (f := 71) (xs := [.tmp 22, .tmp 24]) (ps := [(.one (.row 1016 [])), (.one (.row 1024 []))]) false (g := .func 71) rfl rfl (lt_ok rfl) rfl (by kernel_rfl) rfl (.cons (.one (.row rfl rfl rfl rfl)) (.cons (.one (.row rfl rfl rfl rfl)) .nil)) (ok_laws_eqEventS aL aL) (.inr rfl) rfl (by simp) rfl) ?_
  refine TL.known 25 (c := true) (by simp) rfl ?_
  refine TL.cons rfl (Step.not (b := true) rfl rfl (lt_ok rfl) rfl) ?_
  refine TL.nil ?_
  refine T.cond (b := false) rfl (fun h4_ => absurd h4_ (by simp)) (fun h4_ => ?_)
  refine T.skip ?_
  refine T.seq ?_
  refine T.region ?_
  refine TL.cons rfl (Step.assign (p := (.one (.d (.bool true)))) rfl rfl (lt_ok rfl) rfl) ?_
  refine TL.nil ?_
  refine T.ret ?_
  exact ⟨[(false, [.d (.bool true)])], (.cons rfl .nil), rfl, [], (RetC.rd' (by rfl) .nil)⟩
end Go.Proofs.Ytniapflmmigbjaa.Rf
