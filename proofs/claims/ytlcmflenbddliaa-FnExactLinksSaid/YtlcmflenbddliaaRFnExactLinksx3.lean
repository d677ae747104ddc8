/- The functions that FnExactLinks calls, each held to what it answers. Printed by a program of this session; Lean checks it. -/
import Derived.Test.YtlcmflenbddliaaProg
import Derived.Test.YtlcmflenbddliaaRFnExactLinksx2
namespace Go.Proofs.Ytlcmflenbddliaa.Rf
open Go.RowKit
set_option linter.unusedVariables false
set_option linter.unnecessarySimpa false
set_option linter.unusedSimpArgs false
set_option maxRecDepth 100000
set_option maxHeartbeats 4000000
theorem ok_laws_FnExactLinks (aL : SLimits) (aA : SHead) (aB : SHead) (h0_ : aL.ok) (h1_ : aA.ok) (h2_ : aB.ok) : RO Try.prog 10 [.agg aL.cells, .agg aA.cells, .agg aB.cells] [(false, [.rd (.bool true)])] := by
 refine RO.intro Try.func10 rfl 51 rfl (le_ok rfl) fun w Z => ?_
 refine T.seq ?_
 refine T.region ?_
 refine TL.c (Step.box (p := (.agg [cI aL.f0, cI aL.f1, cI aL.f2, cI aL.f3, cI aL.f4])) (ps := [cI aL.f0, cI aL.f1, cI aL.f2, cI aL.f3, cI aL.f4]) rfl rfl (lt_ok rfl) rfl rfl rfl rfl rfl) ?_
 refine TL.c (Step.box (p := (.agg [cI aA.f0, cI aA.f1, cI aA.f2, cS aA.f3, cS aA.f4, cI aA.f5.f0, cI aA.f5.f1, cS aA.f5.f2, cS aA.f5.f3, .d (.bss aA.f5.f4)])) (ps := [cI aA.f0, cI aA.f1, cI aA.f2, cS aA.f3, cS aA.f4, cI aA.f5.f0, cI aA.f5.f1, cS aA.f5.f2, cS aA.f5.f3, .d (.bss aA.f5.f4)]) rfl rfl (lt_ok rfl) rfl rfl rfl rfl rfl) ?_
 refine TL.c (Step.box (p := (.agg [cI aB.f0, cI aB.f1, cI aB.f2, cS aB.f3, cS aB.f4, cI aB.f5.f0, cI aB.f5.f1, cS aB.f5.f2, cS aB.f5.f3, .d (.bss aB.f5.f4)])) (ps := [cI aB.f0, cI aB.f1, cI aB.f2, cS aB.f3, cS aB.f4, cI aB.f5.f0, cI aB.f5.f1, cS aB.f5.f2, cS aB.f5.f3, .d (.bss aB.f5.f4)]) rfl rfl (lt_ok rfl) rfl rfl rfl rfl rfl) ?_
 refine TL.as (pB false) ?_
 refine TL.nil ?_
 refine T.seq ?_
 refine T.region ?_
 refine TL.as (pI 1048576) ?_
 refine TL.nil ?_
 refine T.seq ?_
 refine T.region ?_
 refine TL.c (Step.load_box_agg (n := 10) (qs := [cI aA.f0, cI aA.f1, cI aA.f2, cS aA.f3, cS aA.f4, cI aA.f5.f0, cI aA.f5.f1, cS aA.f5.f2, cS aA.f5.f3, .d (.bss aA.f5.f4)]) rfl rfl (lt_ok rfl) (by kernel_rfl) rfl rfl rfl rfl) ?_
 refine TL.mv (pI 1048576) ?_
 refine TL.c (Step.cl (xs := [.tmp 12, .tmp 13]) (ps := [(.agg [cI aA.f0, cI aA.f1, cI aA.f2, cS aA.f3, cS aA.f4, cI aA.f5.f0, cI aA.f5.f1, cS aA.f5.f2, cS aA.f5.f3, .d (.bss aA.f5.f4)]), (pI 1048576)]) (g := .func 48) false (.cons (.agg (.cons (.d _) (.cons (.d _) (.cons (.d _) (.cons (.d _) (.cons (.d _) (.cons (.d _) (.cons (.d _) (.cons (.d _) (.cons (.d _) (.cons (.d _) .nil))))))))))) (.cons (.one (.d _)) .nil)) (ok_laws_szHead aA 1048576 (by omega) (by omega))) ?_
 refine TL.as (pI (aA.sz 1048576)) ?_
 refine TL.nil ?_
 refine T.seq ?_
 refine T.seq ?_
 refine T.region ?_
 refine TL.mv (pI (aA.sz 1048576)) ?_
 refine TL.c (Step.bin rfl rfl (lt_ok rfl) rfl rfl (Bin.lss (k := .i64) (a := (aA.sz 1048576)) (b := 0))) ?_
 refine TL.nil ?_
 refine T.cond (b := decide ((aA.sz 1048576) < 0)) rfl (fun h2 => ?_) (fun h2 => ?_)
 ·
  replace h2 := of_decide_eq_true h2
  refine T.seq ?_
  refine T.region ?_
  refine TL.as (pB true) ?_
  refine TL.nil ?_
  refine T.ret ?_
  exact ⟨[(false, [.d (.bool true)])], (.cons rfl .nil), rfl, [], (RetC.rd' rfl .nil)⟩
 ·
  replace h2 := of_decide_eq_false h2
  have z1_le : aA.sz 1048576 ≤ 1048576 := SHead.sz_le _ (by omega)
  have z1_sm := SHead.sz_sm _ (by omega : (0 : Int) ≤ 1048576) (by omega : (1048576 : Int) ≤ 1048576) (by omega : (0 : Int) ≤ aA.sz 1048576)
  refine T.skip ?_
  refine T.seq ?_
  refine T.region ?_
  refine TL.c (Step.load_box_agg (n := 10) (qs := [cI aB.f0, cI aB.f1, cI aB.f2, cS aB.f3, cS aB.f4, cI aB.f5.f0, cI aB.f5.f1, cS aB.f5.f2, cS aB.f5.f3, .d (.bss aB.f5.f4)]) rfl rfl (lt_ok rfl) (by kernel_rfl) rfl rfl rfl rfl) ?_
  refine TL.mv (pI (aA.sz 1048576)) ?_
  refine TL.c (Step.cl (xs := [.tmp 17, .tmp 18]) (ps := [(.agg [cI aB.f0, cI aB.f1, cI aB.f2, cS aB.f3, cS aB.f4, cI aB.f5.f0, cI aB.f5.f1, cS aB.f5.f2, cS aB.f5.f3, .d (.bss aB.f5.f4)]), (pI (aA.sz 1048576))]) (g := .func 48) false (.cons (.agg (.cons (.d _) (.cons (.d _) (.cons (.d _) (.cons (.d _) (.cons (.d _) (.cons (.d _) (.cons (.d _) (.cons (.d _) (.cons (.d _) (.cons (.d _) .nil))))))))))) (.cons (.one (.d _)) .nil)) (ok_laws_szHead aB (aA.sz 1048576) (by omega) (by omega))) ?_
  refine TL.as (pI (aB.sz (aA.sz 1048576))) ?_
  refine TL.nil ?_
  refine T.seq ?_
  refine T.seq ?_
  refine T.region ?_
  refine TL.mv (pI (aB.sz (aA.sz 1048576))) ?_
  refine TL.c (Step.bin rfl rfl (lt_ok rfl) rfl rfl (Bin.lss (k := .i64) (a := (aB.sz (aA.sz 1048576))) (b := 0))) ?_
  refine TL.nil ?_
  refine T.cond (b := decide ((aB.sz (aA.sz 1048576)) < 0)) rfl (fun h4 => ?_) (fun h4 => ?_)
  ·
   replace h4 := of_decide_eq_true h4
   refine T.seq ?_
   refine T.region ?_
   refine TL.as (pB true) ?_
   refine TL.nil ?_
   refine T.ret ?_
   exact ⟨[(false, [.d (.bool true)])], (.cons rfl .nil), rfl, [], (RetC.rd' rfl .nil)⟩
  ·
   replace h4 := of_decide_eq_false h4
   have z3_le : aB.sz (aA.sz 1048576) ≤ (aA.sz 1048576) := SHead.sz_le _ (by omega)
   have z3_sm := SHead.sz_sm _ (by omega : (0 : Int) ≤ (aA.sz 1048576)) (by omega : ((aA.sz 1048576) : Int) ≤ 1048576) (by omega : (0 : Int) ≤ aB.sz (aA.sz 1048576))
   refine T.skip ?_
   refine T.seq ?_
   refine T.draw [⟨22, (.agg [cI aL.f0, cI aL.f1, cI aL.f2, cI aL.f3, cI aL.f4]), []⟩, ⟨23, (.agg [cI aL.f0, cI aL.f1, cI aL.f2, cI aL.f3, cI aL.f4]), []⟩, ⟨24, (.agg [cI aA.f0, cI aA.f1, cI aA.f2, cS aA.f3, cS aA.f4, cI aA.f5.f0, cI aA.f5.f1, cS aA.f5.f2, cS aA.f5.f3, .d (.bss aA.f5.f4)]), []⟩, ⟨25, (.agg [cI aA.f0, cI aA.f1, cI aA.f2, .row 4025 [], .row 5025 [], cI aA.f5.f0, cI aA.f5.f1, .row 8025 [], .row 9025 [], .row 10025 []]), [(10025, (24, (.bss aA.f5.f4))), (9025, (5, (.ints .u8 aA.f5.f3))), (8025, (5, (.ints .u8 aA.f5.f2))), (5025, (5, (.ints .u8 aA.f4))), (4025, (5, (.ints .u8 aA.f3)))]⟩, ⟨26, (.agg [cI aB.f0, cI aB.f1, cI aB.f2, cS aB.f3, cS aB.f4, cI aB.f5.f0, cI aB.f5.f1, cS aB.f5.f2, cS aB.f5.f3, .d (.bss aB.f5.f4)]), []⟩, ⟨27, (.agg [cI aB.f0, cI aB.f1, cI aB.f2, .row 4027 [], .row 5027 [], cI aB.f5.f0, cI aB.f5.f1, .row 8027 [], .row 9027 [], .row 10027 []]), [(10027, (24, (.bss aB.f5.f4))), (9027, (5, (.ints .u8 aB.f5.f3))), (8027, (5, (.ints .u8 aB.f5.f2))), (5027, (5, (.ints .u8 aB.f4))), (4027, (5, (.ints .u8 aB.f3)))]⟩, ⟨28, (pB (links aL aA aB)), []⟩, ⟨8, (pB (links aL aA aB)), []⟩] (by kernel_rfl) (by kernel_rfl) ?_ ?_
   ·
    refine .cons (fun E A => OpStep.plain rfl (Step.load_box_agg (n := 5) (qs := [cI aL.f0, cI aL.f1, cI aL.f2, cI aL.f3, cI aL.f4]) (t := 22) rfl rfl (by exact lt_ok rfl) (by kernel_rfl) (A.g 3 rfl) (by exact A.box rfl) rfl rfl)) ?_
    refine .cons (fun E A => OpStep.plain rfl (Step.cd (xs := [.tmp 22]) (ps := [(.agg [cI aL.f0, cI aL.f1, cI aL.f2, cI aL.f3, cI aL.f4])]) (g := .func 17) false 23 (evs_cons (A.g 22 rfl) (rfl)) (.cons (.agg (.cons (.d _) (.cons (.d _) (.cons (.d _) (.cons (.d _) (.cons (.d _) .nil)))))) .nil) (ok_laws_toLimits aL) (At.freshRows A rfl))) ?_
    refine .cons (fun E A => OpStep.plain rfl (Step.load_box_agg (n := 10) (qs := [cI aA.f0, cI aA.f1, cI aA.f2, cS aA.f3, cS aA.f4, cI aA.f5.f0, cI aA.f5.f1, cS aA.f5.f2, cS aA.f5.f3, .d (.bss aA.f5.f4)]) (t := 24) rfl rfl (by exact lt_ok rfl) (by kernel_rfl) (A.g 4 rfl) (by exact A.box rfl) rfl rfl)) ?_
    refine .cons (fun E A => OpStep.plain rfl (Step.cd (xs := [.tmp 24]) (ps := [(.agg [cI aA.f0, cI aA.f1, cI aA.f2, cS aA.f3, cS aA.f4, cI aA.f5.f0, cI aA.f5.f1, cS aA.f5.f2, cS aA.f5.f3, .d (.bss aA.f5.f4)])]) (g := .func 50) false 25 (evs_cons (A.g 24 rfl) (rfl)) (.cons (.agg (.cons (.d _) (.cons (.d _) (.cons (.d _) (.cons (.d _) (.cons (.d _) (.cons (.d _) (.cons (.d _) (.cons (.d _) (.cons (.d _) (.cons (.d _) .nil))))))))))) .nil) (ok_laws_toHead aA (by first | assumption | exact ⟨‹_›, ‹_›⟩ | (refine mem_getD (p := SHead.sm) h0_.2 (by omega)) | exact mem_getD h0_.2 (by omega))) (At.freshRows A rfl))) ?_
    refine .cons (fun E A => OpStep.plain rfl (Step.load_box_agg (n := 10) (qs := [cI aB.f0, cI aB.f1, cI aB.f2, cS aB.f3, cS aB.f4, cI aB.f5.f0, cI aB.f5.f1, cS aB.f5.f2, cS aB.f5.f3, .d (.bss aB.f5.f4)]) (t := 26) rfl rfl (by exact lt_ok rfl) (by kernel_rfl) (A.g 5 rfl) (by exact A.box rfl) rfl rfl)) ?_
    refine .cons (fun E A => OpStep.plain rfl (Step.cd (xs := [.tmp 26]) (ps := [(.agg [cI aB.f0, cI aB.f1, cI aB.f2, cS aB.f3, cS aB.f4, cI aB.f5.f0, cI aB.f5.f1, cS aB.f5.f2, cS aB.f5.f3, .d (.bss aB.f5.f4)])]) (g := .func 50) false 27 (evs_cons (A.g 26 rfl) (rfl)) (.cons (.agg (.cons (.d _) (.cons (.d _) (.cons (.d _) (.cons (.d _) (.cons (.d _) (.cons (.d _) (.cons (.d _) (.cons (.d _) (.cons (.d _) (.cons (.d _) .nil))))))))))) .nil) (ok_laws_toHead aB (by first | assumption | exact ⟨‹_›, ‹_›⟩ | (refine mem_getD (p := SHead.sm) h0_.2 (by omega)) | exact mem_getD h0_.2 (by omega))) (At.freshRows A rfl))) ?_
    refine .cons (fun E A => OpStep.plain rfl (Step.cd (xs := [.tmp 23, .tmp 25, .tmp 27]) (ps := [(.agg [cI aL.f0, cI aL.f1, cI aL.f2, cI aL.f3, cI aL.f4]), (.agg [cI aA.f0, cI aA.f1, cI aA.f2, .row 4025 [], .row 5025 [], cI aA.f5.f0, cI aA.f5.f1, .row 8025 [], .row 9025 [], .row 10025 []]), (.agg [cI aB.f0, cI aB.f1, cI aB.f2, .row 4027 [], .row 5027 [], cI aB.f5.f0, cI aB.f5.f1, .row 8027 [], .row 9027 [], .row 10027 []])]) (g := .func 52) false 28 (evs_cons (A.g 23 rfl) (evs_cons (A.g 25 rfl) (evs_cons (A.g 27 rfl) (rfl)))) (.cons (.agg (.cons (.d _) (.cons (.d _) (.cons (.d _) (.cons (.d _) (.cons (.d _) .nil)))))) (.cons (.agg (.cons (.d _) (.cons (.d _) (.cons (.d _) (.cons (.row rfl (by exact (A.row 4025 (by kernel_rfl)).trans rfl) rfl rfl) (.cons (.row rfl (by exact (A.row 5025 (by kernel_rfl)).trans rfl) rfl rfl) (.cons (.d _) (.cons (.d _) (.cons (.row rfl (by exact (A.row 8025 (by kernel_rfl)).trans rfl) rfl rfl) (.cons (.row rfl (by exact (A.row 9025 (by kernel_rfl)).trans rfl) rfl rfl) (.cons (.row rfl (by exact (A.row 10025 (by kernel_rfl)).trans rfl) rfl rfl) .nil))))))))))) (.cons (.agg (.cons (.d _) (.cons (.d _) (.cons (.d _) (.cons (.row rfl (by exact (A.row 4027 (by kernel_rfl)).trans rfl) rfl rfl) (.cons (.row rfl (by exact (A.row 5027 (by kernel_rfl)).trans rfl) rfl rfl) (.cons (.d _) (.cons (.d _) (.cons (.row rfl (by exact (A.row 8027 (by kernel_rfl)).trans rfl) rfl rfl) (.cons (.row rfl (by exact (A.row 9027 (by kernel_rfl)).trans rfl) rfl rfl) (.cons (.row rfl (by exact (A.row 10027 (by kernel_rfl)).trans rfl) rfl rfl) .nil))))))))))) .nil))) (ok_spec_Links aL aA aB (by assumption) (by assumption) (by assumption) (by assumption)) (At.freshRows A rfl))) ?_
    refine .cons (fun E A => A.as 28 8) ?_
    exact .nil _ _
   refine TL.nil ?_
   refine T.weaken (E' := { tm := [(3, (.one (.ptr 3 0))), (4, (.one (.ptr 4 0))), (5, (.one (.ptr 5 0))), (6, (pB false)), (8, (pB (links aL aA aB)))], rows := [], boxes := [(3, (23, [cI aL.f0, cI aL.f1, cI aL.f2, cI aL.f3, cI aL.f4])), (4, (48, [cI aA.f0, cI aA.f1, cI aA.f2, cS aA.f3, cS aA.f4, cI aA.f5.f0, cI aA.f5.f1, cS aA.f5.f2, cS aA.f5.f3, .d (.bss aA.f5.f4)])), (5, (48, [cI aB.f0, cI aB.f1, cI aB.f2, cS aB.f3, cS aB.f4, cI aB.f5.f0, cI aB.f5.f1, cS aB.f5.f2, cS aB.f5.f3, .d (.bss aB.f5.f4)]))] }) (Env.le_mk ⟨by kernel_rfl, by kernel_rfl, by kernel_rfl, by kernel_rfl, by kernel_rfl, trivial⟩ trivial ⟨by kernel_rfl, by kernel_rfl, by kernel_rfl, trivial⟩) ?_
   refine T.seq ?_
   refine T.region ?_
   refine TL.c (Step.load_box_agg (n := 10) (qs := [cI aA.f0, cI aA.f1, cI aA.f2, cS aA.f3, cS aA.f4, cI aA.f5.f0, cI aA.f5.f1, cS aA.f5.f2, cS aA.f5.f3, .d (.bss aA.f5.f4)]) rfl rfl (lt_ok rfl) (by kernel_rfl) rfl rfl rfl rfl) ?_
   refine TL.c (Step.cl (xs := [.tmp 29]) (ps := [(.agg [cI aA.f0, cI aA.f1, cI aA.f2, cS aA.f3, cS aA.f4, cI aA.f5.f0, cI aA.f5.f1, cS aA.f5.f2, cS aA.f5.f3, .d (.bss aA.f5.f4)])]) (g := .func 50) false (.cons (.agg (.cons (.d _) (.cons (.d _) (.cons (.d _) (.cons (.d _) (.cons (.d _) (.cons (.d _) (.cons (.d _) (.cons (.d _) (.cons (.d _) (.cons (.d _) .nil))))))))))) .nil) (ok_laws_toHead aA (by first | assumption | exact ⟨‹_›, ‹_›⟩ | (refine mem_getD (p := SHead.sm) h0_.2 (by omega)) | exact mem_getD h0_.2 (by omega)))) ?_
   refine TL.c (Step.alloc (cs := [.int .i64 0, .int .i64 0, .int .i64 0, .slice none 0 0, .slice none 0 0, .int .i64 0, .int .i64 0, .slice none 0 0, .slice none 0 0, .slice none 0 0]) (ps := [cI 0, cI 0, cI 0, .nil, .nil, cI 0, cI 0, .nil, .nil, .nil]) rfl rfl (lt_ok rfl) (by kernel_rfl) rfl rfl rfl rfl) ?_
   refine TL.c (Step.store_box (n := 10) (p := (.agg [cI aA.f0, cI aA.f1, cI aA.f2, .row 4030 [], .row 5030 [], cI aA.f5.f0, cI aA.f5.f1, .row 8030 [], .row 9030 [], .row 10030 []])) (qs := [cI aA.f0, cI aA.f1, cI aA.f2, .row 4030 [], .row 5030 [], cI aA.f5.f0, cI aA.f5.f1, .row 8030 [], .row 9030 [], .row 10030 []]) (ps' := [cI aA.f0, cI aA.f1, cI aA.f2, .row 4030 [], .row 5030 [], cI aA.f5.f0, cI aA.f5.f1, .row 8030 [], .row 9030 [], .row 10030 []]) rfl rfl (by kernel_rfl) rfl rfl rfl rfl rfl rfl (le_ok rfl) rfl) ?_
   refine TL.nil ?_
   refine T.seq ?_
   refine T.region ?_
   refine TL.c (Step.load_box_agg (n := 10) (qs := [cI aB.f0, cI aB.f1, cI aB.f2, cS aB.f3, cS aB.f4, cI aB.f5.f0, cI aB.f5.f1, cS aB.f5.f2, cS aB.f5.f3, .d (.bss aB.f5.f4)]) rfl rfl (lt_ok rfl) (by kernel_rfl) rfl rfl rfl rfl) ?_
   refine TL.c (Step.cl (xs := [.tmp 31]) (ps := [(.agg [cI aB.f0, cI aB.f1, cI aB.f2, cS aB.f3, cS aB.f4, cI aB.f5.f0, cI aB.f5.f1, cS aB.f5.f2, cS aB.f5.f3, .d (.bss aB.f5.f4)])]) (g := .func 50) false (.cons (.agg (.cons (.d _) (.cons (.d _) (.cons (.d _) (.cons (.d _) (.cons (.d _) (.cons (.d _) (.cons (.d _) (.cons (.d _) (.cons (.d _) (.cons (.d _) .nil))))))))))) .nil) (ok_laws_toHead aB (by first | assumption | exact ⟨‹_›, ‹_›⟩ | (refine mem_getD (p := SHead.sm) h0_.2 (by omega)) | exact mem_getD h0_.2 (by omega)))) ?_
   refine TL.c (Step.alloc (cs := [.int .i64 0, .int .i64 0, .int .i64 0, .slice none 0 0, .slice none 0 0, .int .i64 0, .int .i64 0, .slice none 0 0, .slice none 0 0, .slice none 0 0]) (ps := [cI 0, cI 0, cI 0, .nil, .nil, cI 0, cI 0, .nil, .nil, .nil]) rfl rfl (lt_ok rfl) (by kernel_rfl) rfl rfl rfl rfl) ?_
   refine TL.c (Step.store_box (n := 10) (p := (.agg [cI aB.f0, cI aB.f1, cI aB.f2, .row 4032 [], .row 5032 [], cI aB.f5.f0, cI aB.f5.f1, .row 8032 [], .row 9032 [], .row 10032 []])) (qs := [cI aB.f0, cI aB.f1, cI aB.f2, .row 4032 [], .row 5032 [], cI aB.f5.f0, cI aB.f5.f1, .row 8032 [], .row 9032 [], .row 10032 []]) (ps' := [cI aB.f0, cI aB.f1, cI aB.f2, .row 4032 [], .row 5032 [], cI aB.f5.f0, cI aB.f5.f1, .row 8032 [], .row 9032 [], .row 10032 []]) rfl rfl (by kernel_rfl) rfl rfl rfl rfl rfl rfl (le_ok rfl) rfl) ?_
   refine TL.nil ?_
   refine T.seq ?_
   refine T.draw [⟨33, (.agg [cI aL.f0, cI aL.f1, cI aL.f2, cI aL.f3, cI aL.f4]), []⟩, ⟨34, (.agg [cI aL.f0, cI aL.f1, cI aL.f2, cI aL.f3, cI aL.f4]), []⟩, ⟨35, (.agg [cI aA.f0, cI aA.f1, cI aA.f2, .row 4030 [], .row 5030 [], cI aA.f5.f0, cI aA.f5.f1, .row 8030 [], .row 9030 [], .row 10030 []]), []⟩, ⟨36, (.agg [cI aB.f0, cI aB.f1, cI aB.f2, .row 4032 [], .row 5032 [], cI aB.f5.f0, cI aB.f5.f1, .row 8032 [], .row 9032 [], .row 10032 []]), []⟩, ⟨37, (pB (links aL aA aB)), []⟩, ⟨11, (pB (links aL aA aB)), []⟩] (by kernel_rfl) (by kernel_rfl) ?_ ?_
   ·
    refine .cons (fun E A => OpStep.plain rfl (Step.load_box_agg (n := 5) (qs := [cI aL.f0, cI aL.f1, cI aL.f2, cI aL.f3, cI aL.f4]) (t := 33) rfl rfl (by exact lt_ok rfl) (by kernel_rfl) (A.g 3 rfl) (by exact A.box rfl) rfl rfl)) ?_
    refine .cons (fun E A => OpStep.plain rfl (Step.cd (xs := [.tmp 33]) (ps := [(.agg [cI aL.f0, cI aL.f1, cI aL.f2, cI aL.f3, cI aL.f4])]) (g := .func 17) false 34 (evs_cons (A.g 33 rfl) (rfl)) (.cons (.agg (.cons (.d _) (.cons (.d _) (.cons (.d _) (.cons (.d _) (.cons (.d _) .nil)))))) .nil) (ok_laws_toLimits aL) (At.freshRows A rfl))) ?_
    refine .cons (fun E A => OpStep.plain rfl (Step.load_box_agg (n := 10) (qs := [cI aA.f0, cI aA.f1, cI aA.f2, .row 4030 [], .row 5030 [], cI aA.f5.f0, cI aA.f5.f1, .row 8030 [], .row 9030 [], .row 10030 []]) (t := 35) rfl rfl (by exact lt_ok rfl) (by kernel_rfl) (A.g 9 rfl) (by exact A.box rfl) rfl rfl)) ?_
    refine .cons (fun E A => OpStep.plain rfl (Step.load_box_agg (n := 10) (qs := [cI aB.f0, cI aB.f1, cI aB.f2, .row 4032 [], .row 5032 [], cI aB.f5.f0, cI aB.f5.f1, .row 8032 [], .row 9032 [], .row 10032 []]) (t := 36) rfl rfl (by exact lt_ok rfl) (by kernel_rfl) (A.g 10 rfl) (by exact A.box rfl) rfl rfl)) ?_
    refine .cons (fun E A => OpStep.plain rfl (Step.cd (xs := [.tmp 34, .tmp 35, .tmp 36]) (ps := [(.agg [cI aL.f0, cI aL.f1, cI aL.f2, cI aL.f3, cI aL.f4]), (.agg [cI aA.f0, cI aA.f1, cI aA.f2, .row 4030 [], .row 5030 [], cI aA.f5.f0, cI aA.f5.f1, .row 8030 [], .row 9030 [], .row 10030 []]), (.agg [cI aB.f0, cI aB.f1, cI aB.f2, .row 4032 [], .row 5032 [], cI aB.f5.f0, cI aB.f5.f1, .row 8032 [], .row 9032 [], .row 10032 []])]) (g := .func 53) false 37 (evs_cons (A.g 34 rfl) (evs_cons (A.g 35 rfl) (evs_cons (A.g 36 rfl) (rfl)))) (.cons (.agg (.cons (.d _) (.cons (.d _) (.cons (.d _) (.cons (.d _) (.cons (.d _) .nil)))))) (.cons (.agg (.cons (.d _) (.cons (.d _) (.cons (.d _) (.cons (.row rfl (by exact (A.row 4030 (by kernel_rfl)).trans rfl) rfl rfl) (.cons (.row rfl (by exact (A.row 5030 (by kernel_rfl)).trans rfl) rfl rfl) (.cons (.d _) (.cons (.d _) (.cons (.row rfl (by exact (A.row 8030 (by kernel_rfl)).trans rfl) rfl rfl) (.cons (.row rfl (by exact (A.row 9030 (by kernel_rfl)).trans rfl) rfl rfl) (.cons (.row rfl (by exact (A.row 10030 (by kernel_rfl)).trans rfl) rfl rfl) .nil))))))))))) (.cons (.agg (.cons (.d _) (.cons (.d _) (.cons (.d _) (.cons (.row rfl (by exact (A.row 4032 (by kernel_rfl)).trans rfl) rfl rfl) (.cons (.row rfl (by exact (A.row 5032 (by kernel_rfl)).trans rfl) rfl rfl) (.cons (.d _) (.cons (.d _) (.cons (.row rfl (by exact (A.row 8032 (by kernel_rfl)).trans rfl) rfl rfl) (.cons (.row rfl (by exact (A.row 9032 (by kernel_rfl)).trans rfl) rfl rfl) (.cons (.row rfl (by exact (A.row 10032 (by kernel_rfl)).trans rfl) rfl rfl) .nil))))))))))) .nil))) (ok_impl_Links aL aA aB (by assumption) (by assumption) (by assumption) (by assumption)) (At.freshRows A rfl))) ?_
    refine .cons (fun E A => A.as 37 11) ?_
    exact .nil _ _
   refine TL.nil ?_
   refine T.weaken (E' := { tm := [(4, (.one (.ptr 4 0))), (5, (.one (.ptr 5 0))), (6, (pB false)), (8, (pB (links aL aA aB))), (9, (.one (.ptr 9 0))), (10, (.one (.ptr 10 0))), (11, (pB (links aL aA aB)))], rows := [(4030, (5, (.ints .u8 aA.f3))), (5030, (5, (.ints .u8 aA.f4))), (8030, (5, (.ints .u8 aA.f5.f2))), (9030, (5, (.ints .u8 aA.f5.f3))), (10030, (24, (.bss aA.f5.f4))), (4032, (5, (.ints .u8 aB.f3))), (5032, (5, (.ints .u8 aB.f4))), (8032, (5, (.ints .u8 aB.f5.f2))), (9032, (5, (.ints .u8 aB.f5.f3))), (10032, (24, (.bss aB.f5.f4)))], boxes := [(9, (54, [cI aA.f0, cI aA.f1, cI aA.f2, .row 4030 [], .row 5030 [], cI aA.f5.f0, cI aA.f5.f1, .row 8030 [], .row 9030 [], .row 10030 []])), (10, (54, [cI aB.f0, cI aB.f1, cI aB.f2, .row 4032 [], .row 5032 [], cI aB.f5.f0, cI aB.f5.f1, .row 8032 [], .row 9032 [], .row 10032 []])), (4, (48, [cI aA.f0, cI aA.f1, cI aA.f2, cS aA.f3, cS aA.f4, cI aA.f5.f0, cI aA.f5.f1, cS aA.f5.f2, cS aA.f5.f3, .d (.bss aA.f5.f4)])), (5, (48, [cI aB.f0, cI aB.f1, cI aB.f2, cS aB.f3, cS aB.f4, cI aB.f5.f0, cI aB.f5.f1, cS aB.f5.f2, cS aB.f5.f3, .d (.bss aB.f5.f4)]))] }) (Env.le_mk ⟨by kernel_rfl, by kernel_rfl, by kernel_rfl, by kernel_rfl, by kernel_rfl, by kernel_rfl, by kernel_rfl, trivial⟩ ⟨by kernel_rfl, by kernel_rfl, by kernel_rfl, by kernel_rfl, by kernel_rfl, by kernel_rfl, by kernel_rfl, by kernel_rfl, by kernel_rfl, by kernel_rfl, trivial⟩ ⟨by kernel_rfl, by kernel_rfl, by kernel_rfl, by kernel_rfl, trivial⟩) ?_
   refine T.seq ?_
   refine T.seq ?_
   refine T.region ?_
   refine TL.mv (pB (links aL aA aB)) ?_
   refine TL.mv (pB (links aL aA aB)) ?_
   refine TL.c (Step.bneq (b := (links aL aA aB)) (c := (links aL aA aB)) rfl rfl (lt_ok rfl) (by kernel_rfl) rfl rfl) ?_
   refine TL.known 40 (c := false) (by simp) rfl ?_
   refine TL.nil ?_
   refine T.cond (b := false) rfl (fun h5_ => absurd h5_ (by simp)) (fun h5_ => ?_)
   refine T.skip ?_
   refine T.seq ?_
   refine T.seq ?_
   refine T.draw [⟨41, (.agg [cI aA.f0, cI aA.f1, cI aA.f2, .row 4030 [], .row 5030 [], cI aA.f5.f0, cI aA.f5.f1, .row 8030 [], .row 9030 [], .row 10030 []]), []⟩, ⟨42, (.agg [cI aA.f0, cI aA.f1, cI aA.f2, cS aA.f3, cS aA.f4, cI aA.f5.f0, cI aA.f5.f1, cS aA.f5.f2, cS aA.f5.f3, .d (.bss aA.f5.f4)]), []⟩, ⟨43, (.agg [cI aA.f0, cI aA.f1, cI aA.f2, .row 4043 [], .row 5043 [], cI aA.f5.f0, cI aA.f5.f1, .row 8043 [], .row 9043 [], .row 10043 []]), [(10043, (24, (.bss aA.f5.f4))), (9043, (5, (.ints .u8 aA.f5.f3))), (8043, (5, (.ints .u8 aA.f5.f2))), (5043, (5, (.ints .u8 aA.f4))), (4043, (5, (.ints .u8 aA.f3)))]⟩, ⟨44, (pB true), []⟩, ⟨45, (pB false), []⟩] (by kernel_rfl) (by kernel_rfl) ?_ ?_
   ·
    refine .cons (fun E A => OpStep.plain rfl (Step.load_box_agg (n := 10) (qs := [cI aA.f0, cI aA.f1, cI aA.f2, .row 4030 [], .row 5030 [], cI aA.f5.f0, cI aA.f5.f1, .row 8030 [], .row 9030 [], .row 10030 []]) (t := 41) rfl rfl (by exact lt_ok rfl) (by kernel_rfl) (A.g 9 rfl) (by exact A.box rfl) rfl rfl)) ?_
    refine .cons (fun E A => OpStep.plain rfl (Step.load_box_agg (n := 10) (qs := [cI aA.f0, cI aA.f1, cI aA.f2, cS aA.f3, cS aA.f4, cI aA.f5.f0, cI aA.f5.f1, cS aA.f5.f2, cS aA.f5.f3, .d (.bss aA.f5.f4)]) (t := 42) rfl rfl (by exact lt_ok rfl) (by kernel_rfl) (A.g 4 rfl) (by exact A.box rfl) rfl rfl)) ?_
    refine .cons (fun E A => OpStep.plain rfl (Step.cd (xs := [.tmp 42]) (ps := [(.agg [cI aA.f0, cI aA.f1, cI aA.f2, cS aA.f3, cS aA.f4, cI aA.f5.f0, cI aA.f5.f1, cS aA.f5.f2, cS aA.f5.f3, .d (.bss aA.f5.f4)])]) (g := .func 50) false 43 (evs_cons (A.g 42 rfl) (rfl)) (.cons (.agg (.cons (.d _) (.cons (.d _) (.cons (.d _) (.cons (.d _) (.cons (.d _) (.cons (.d _) (.cons (.d _) (.cons (.d _) (.cons (.d _) (.cons (.d _) .nil))))))))))) .nil) (ok_laws_toHead aA (by first | assumption | exact ⟨‹_›, ‹_›⟩ | (refine mem_getD (p := SHead.sm) h0_.2 (by omega)) | exact mem_getD h0_.2 (by omega))) (At.freshRows A rfl))) ?_
    refine .cons (fun E A => OpStep.plain rfl (Step.tb 44 (decide (aA = aA)) (by simp : (decide (aA = aA)) = true) (Step.cd (xs := [.tmp 41, .tmp 43]) (ps := [(.agg [cI aA.f0, cI aA.f1, cI aA.f2, .row 4030 [], .row 5030 [], cI aA.f5.f0, cI aA.f5.f1, .row 8030 [], .row 9030 [], .row 10030 []]), (.agg [cI aA.f0, cI aA.f1, cI aA.f2, .row 4043 [], .row 5043 [], cI aA.f5.f0, cI aA.f5.f1, .row 8043 [], .row 9043 [], .row 10043 []])]) (g := .func 39) false 44 (evs_cons (A.g 41 rfl) (evs_cons (A.g 43 rfl) (rfl))) (.cons (.agg (.cons (.d _) (.cons (.d _) (.cons (.d _) (.cons (.row rfl (by exact (A.row 4030 (by kernel_rfl)).trans rfl) rfl rfl) (.cons (.row rfl (by exact (A.row 5030 (by kernel_rfl)).trans rfl) rfl rfl) (.cons (.d _) (.cons (.d _) (.cons (.row rfl (by exact (A.row 8030 (by kernel_rfl)).trans rfl) rfl rfl) (.cons (.row rfl (by exact (A.row 9030 (by kernel_rfl)).trans rfl) rfl rfl) (.cons (.row rfl (by exact (A.row 10030 (by kernel_rfl)).trans rfl) rfl rfl) .nil))))))))))) (.cons (.agg (.cons (.d _) (.cons (.d _) (.cons (.d _) (.cons (.row rfl (by exact (A.row 4043 (by kernel_rfl)).trans rfl) rfl rfl) (.cons (.row rfl (by exact (A.row 5043 (by kernel_rfl)).trans rfl) rfl rfl) (.cons (.d _) (.cons (.d _) (.cons (.row rfl (by exact (A.row 8043 (by kernel_rfl)).trans rfl) rfl rfl) (.cons (.row rfl (by exact (A.row 9043 (by kernel_rfl)).trans rfl) rfl rfl) (.cons (.row rfl (by exact (A.row 10043 (by kernel_rfl)).trans rfl) rfl rfl) .nil))))))))))) .nil)) (ok_laws_eqHead aA aA) (At.freshRows A rfl)))) ?_
    refine .cons (fun E A => OpStep.plain rfl (Step.not (b := true) (t := 45) rfl rfl (by exact lt_ok rfl) (A.g 44 rfl))) ?_
    exact .nil _ _
   refine TL.nil ?_
   refine T.cond (b := false) rfl (fun h6_ => absurd h6_ (by simp)) (fun h6_ => ?_)
   refine T.skip ?_
   refine T.seq ?_
   refine T.seq ?_
   refine T.draw [⟨46, (.agg [cI aB.f0, cI aB.f1, cI aB.f2, .row 4032 [], .row 5032 [], cI aB.f5.f0, cI aB.f5.f1, .row 8032 [], .row 9032 [], .row 10032 []]), []⟩, ⟨47, (.agg [cI aB.f0, cI aB.f1, cI aB.f2, cS aB.f3, cS aB.f4, cI aB.f5.f0, cI aB.f5.f1, cS aB.f5.f2, cS aB.f5.f3, .d (.bss aB.f5.f4)]), []⟩, ⟨48, (.agg [cI aB.f0, cI aB.f1, cI aB.f2, .row 4048 [], .row 5048 [], cI aB.f5.f0, cI aB.f5.f1, .row 8048 [], .row 9048 [], .row 10048 []]), [(10048, (24, (.bss aB.f5.f4))), (9048, (5, (.ints .u8 aB.f5.f3))), (8048, (5, (.ints .u8 aB.f5.f2))), (5048, (5, (.ints .u8 aB.f4))), (4048, (5, (.ints .u8 aB.f3)))]⟩, ⟨49, (pB true), []⟩, ⟨50, (pB false), []⟩] (by kernel_rfl) (by kernel_rfl) ?_ ?_
   ·
    refine .cons (fun E A => OpStep.plain rfl (Step.load_box_agg (n := 10) (qs := [cI aB.f0, cI aB.f1, cI aB.f2, .row 4032 [], .row 5032 [], cI aB.f5.f0, cI aB.f5.f1, .row 8032 [], .row 9032 [], .row 10032 []]) (t := 46) rfl rfl (by exact lt_ok rfl) (by kernel_rfl) (A.g 10 rfl) (by exact A.box rfl) rfl rfl)) ?_
    refine .cons (fun E A => OpStep.plain rfl (Step.load_box_agg (n := 10) (qs := [cI aB.f0, cI aB.f1, cI aB.f2, cS aB.f3, cS aB.f4, cI aB.f5.f0, cI aB.f5.f1, cS aB.f5.f2, cS aB.f5.f3, .d (.bss aB.f5.f4)]) (t := 47) rfl rfl (by exact lt_ok rfl) (by kernel_rfl) (A.g 5 rfl) (by exact A.box rfl) rfl rfl)) ?_
    refine .cons (fun E A => OpStep.plain rfl (Step.cd (xs := [.tmp 47]) (ps := [(.agg [cI aB.f0, cI aB.f1, cI aB.f2, cS aB.f3, cS aB.f4, cI aB.f5.f0, cI aB.f5.f1, cS aB.f5.f2, cS aB.f5.f3, .d (.bss aB.f5.f4)])]) (g := .func 50) false 48 (evs_cons (A.g 47 rfl) (rfl)) (.cons (.agg (.cons (.d _) (.cons (.d _) (.cons (.d _) (.cons (.d _) (.cons (.d _) (.cons (.d _) (.cons (.d _) (.cons (.d _) (.cons (.d _) (.cons (.d _) .nil))))))))))) .nil) (ok_laws_toHead aB (by first | assumption | exact ⟨‹_›, ‹_›⟩ | (refine mem_getD (p := SHead.sm) h0_.2 (by omega)) | exact mem_getD h0_.2 (by omega))) (At.freshRows A rfl))) ?_
    refine .cons (fun E A => OpStep.plain rfl (Step.tb 49 (decide (aB = aB)) (by simp : (decide (aB = aB)) = true) (Step.cd (xs := [.tmp 46, .tmp 48]) (ps := [(.agg [cI aB.f0, cI aB.f1, cI aB.f2, .row 4032 [], .row 5032 [], cI aB.f5.f0, cI aB.f5.f1, .row 8032 [], .row 9032 [], .row 10032 []]), (.agg [cI aB.f0, cI aB.f1, cI aB.f2, .row 4048 [], .row 5048 [], cI aB.f5.f0, cI aB.f5.f1, .row 8048 [], .row 9048 [], .row 10048 []])]) (g := .func 39) false 49 (evs_cons (A.g 46 rfl) (evs_cons (A.g 48 rfl) (rfl))) (.cons (.agg (.cons (.d _) (.cons (.d _) (.cons (.d _) (.cons (.row rfl (by exact (A.row 4032 (by kernel_rfl)).trans rfl) rfl rfl) (.cons (.row rfl (by exact (A.row 5032 (by kernel_rfl)).trans rfl) rfl rfl) (.cons (.d _) (.cons (.d _) (.cons (.row rfl (by exact (A.row 8032 (by kernel_rfl)).trans rfl) rfl rfl) (.cons (.row rfl (by exact (A.row 9032 (by kernel_rfl)).trans rfl) rfl rfl) (.cons (.row rfl (by exact (A.row 10032 (by kernel_rfl)).trans rfl) rfl rfl) .nil))))))))))) (.cons (.agg (.cons (.d _) (.cons (.d _) (.cons (.d _) (.cons (.row rfl (by exact (A.row 4048 (by kernel_rfl)).trans rfl) rfl rfl) (.cons (.row rfl (by exact (A.row 5048 (by kernel_rfl)).trans rfl) rfl rfl) (.cons (.d _) (.cons (.d _) (.cons (.row rfl (by exact (A.row 8048 (by kernel_rfl)).trans rfl) rfl rfl) (.cons (.row rfl (by exact (A.row 9048 (by kernel_rfl)).trans rfl) rfl rfl) (.cons (.row rfl (by exact (A.row 10048 (by kernel_rfl)).trans rfl) rfl rfl) .nil))))))))))) .nil)) (ok_laws_eqHead aB aB) (At.freshRows A rfl)))) ?_
    refine .cons (fun E A => OpStep.plain rfl (Step.not (b := true) (t := 50) rfl rfl (by exact lt_ok rfl) (A.g 49 rfl))) ?_
    exact .nil _ _
   refine TL.nil ?_
   refine T.weaken (E' := { tm := [(6, (pB false)), (50, (pB false))], rows := [], boxes := [] }) (Env.le_mk ⟨by kernel_rfl, by kernel_rfl, trivial⟩ trivial trivial) ?_
   refine T.cond (b := false) rfl (fun h7_ => absurd h7_ (by simp)) (fun h7_ => ?_)
   refine T.skip ?_
   refine T.seq ?_
   refine T.region ?_
   refine TL.as (pB true) ?_
   refine TL.nil ?_
   refine T.ret ?_
   exact ⟨[(false, [.d (.bool true)])], (.cons rfl .nil), rfl, [], (RetC.rd' rfl .nil)⟩
end Go.Proofs.Ytlcmflenbddliaa.Rf
