/- The functions that FnExactTcBits calls, each held to what it answers. Printed by a program of this session; Lean checks it. -/
import Derived.Test.YthaagegnobegjaaProg
import Derived.Test.YthaagegnobegjaaRFnExactTcBitsx0
namespace Go.Proofs.Ythaagegnobegjaa.Rf
open Go.RowKit
set_option linter.unusedVariables false
set_option linter.unnecessarySimpa false
set_option linter.unusedSimpArgs false
set_option maxRecDepth 100000
set_option maxHeartbeats 800000
theorem ok_impl_TcOk (l : SLimits) (t : STc) : RO Try.prog 90 [.agg l.cells, .agg t.cells] [(false, [.rd (.bool (tcOk l t))])] := by
 refine RO.intro Try.func90 rfl 70 rfl (le_ok rfl) fun w Z => ?_
 refine T.bnd 1 1 rfl rfl fun hb_1_1 => ?_
 simp only [D.size, List.length_map] at hb_1_1
 have hw_ : 0 ≤ t.f0 → t.f0 ≤ 1152921504606846975 → IntKind.i64.wrap (t.f0 - 1) = t.f0 - 1 := fun h1 h2 => wrap_ok (by omega) (by omega)
 refine T.seq ?_
 refine T.region ?_
 refine TL.c (Step.box (p := (.agg [cI l.f0, cI l.f1, cI l.f2, cI l.f3, cI l.f4])) (ps := [cI l.f0, cI l.f1, cI l.f2, cI l.f3, cI l.f4]) rfl rfl (lt_ok rfl) rfl rfl rfl rfl rfl) ?_
 refine TL.c (Step.box (p := (.agg [cI t.f0, .d (.sl 3 (t.f1.map SEntry.cells))])) (ps := [cI t.f0, .d (.sl 3 (t.f1.map SEntry.cells))]) rfl rfl (lt_ok rfl) rfl rfl rfl rfl rfl) ?_
 refine TL.as (pB false) ?_
 refine TL.nil ?_
 refine T.seq ?_
 refine T.seq ?_
 refine T.region ?_
 refine TL.c (Step.fieldAddr (q := 0) (off := 1) (n := 1) (one := true) rfl rfl (lt_ok rfl) (by kernel_rfl) (Nat.succ_ne_zero _) rfl) ?_
 refine TL.c (Step.load_box (c := .d (.sl 3 (t.f1.map SEntry.cells))) rfl rfl (lt_ok rfl) (by kernel_rfl) rfl rfl rfl) ?_
 refine TL.c (Step.len' (e := 121) (z := 3) (d := (.sl 3 (t.f1.map SEntry.cells))) (n := t.f1.length) rfl rfl (lt_ok rfl) (by kernel_rfl) rfl rfl (by simp [D.size])) ?_
 refine TL.mv (pI 0) ?_
 refine TL.nil ?_
 refine T.block ?_
 refine T.loop (ι := Nat) (fun xx_ => { tm := [(2, (.one (.ptr 2 0))), (3, (.one (.ptr 3 0))), (8, (.one (.d (.sl 3 (t.f1.map SEntry.cells))))), (9, (pI (t.f1.length : Int))), (10, (pI (xx_ : Int)))], rows := [], boxes := [(2, (44, [cI l.f0, cI l.f1, cI l.f2, cI l.f3, cI l.f4])), (3, (48, [cI t.f0, .d (.sl 3 (t.f1.map SEntry.cells))]))] }) (fun xx_ => xx_ ≤ t.f1.length ∧ tcAll l t xx_ = true) (fun xx_ => t.f1.length - xx_) 0 ?_ ?_ ?_
 · refine Env.le_mk ⟨rfl, rfl, rfl, rfl, ?_, trivial⟩ trivial ⟨rfl, rfl, trivial⟩ <;> (first | rfl | (simp; done) | (congr 3; omega))
 · exact ⟨Nat.zero_le _, rfl⟩
 ·
  intro i hx
  try dsimp only at hx ⊢
  obtain ⟨hx1, hx2⟩ := hx
  refine T.seq ?_
  refine T.region ?_
  refine TL.c (Step.bin rfl rfl (lt_ok rfl) rfl rfl (Bin.lss (k := .i64) (a := (i : Int)) (b := (t.f1.length : Int)))) ?_
  refine TL.nil ?_
  refine T.seq ?_
  refine T.cond (b := decide ((i : Int) < (t.f1.length : Int))) rfl (fun h1 => ?_) (fun h1 => ?_)
  ·
   replace h1 := of_decide_eq_true h1
   refine T.skip ?_
   refine T.seq ?_
   refine T.block ?_
   refine T.seq ?_
   refine T.region ?_
   refine TL.mv (pI (i : Int)) ?_
   refine TL.c (Step.index (e := 121) (z := 3) (i := (i : Int)) rfl rfl (lt_ok rfl) (by kernel_rfl) rfl rfl rfl (lt_ok rfl) rfl (by first | omega | (simp; omega)) (by simp only [D.size]; first | omega | (simp; omega))) ?_
   refine TL.c (Step.load_agg (n := 3) (cs := [cI (t.f1.getD i default).f0, cI (t.f1.getD i default).f1, cS (t.f1.getD i default).f2]) rfl rfl (lt_ok rfl) (by kernel_rfl) rfl rfl (by simp only [List.range, List.range.loop, List.map_cons, List.map_nil]; rw [cell_map default (by first | omega | (simp; omega)), cell_map default (by first | omega | (simp; omega)), cell_map default (by first | omega | (simp; omega))]; rfl)) ?_
   refine TL.c (Step.alloc (cs := [.int .i64 0, .int .i64 0, .slice none 0 0]) (ps := [cI 0, cI 0, .nil]) rfl rfl (lt_ok rfl) (by kernel_rfl) rfl rfl rfl rfl) ?_
   refine TL.as (pI (i : Int)) ?_
   refine TL.c (Step.store_box (n := 3) (p := (.agg [cI (t.f1.getD i default).f0, cI (t.f1.getD i default).f1, cS (t.f1.getD i default).f2])) (qs := [cI (t.f1.getD i default).f0, cI (t.f1.getD i default).f1, cS (t.f1.getD i default).f2]) (ps' := [cI (t.f1.getD i default).f0, cI (t.f1.getD i default).f1, cS (t.f1.getD i default).f2]) rfl rfl (by kernel_rfl) rfl rfl rfl rfl rfl rfl (le_ok rfl) rfl) ?_
   refine TL.nil ?_
   refine T.seq ?_
   rcases Bool.eq_false_or_eq_true (!(decide (0 ≤ (t.f1.getD i default).f0 ∧ (t.f1.getD i default).f0 ≤ (IntKind.i64.wrap (l.f0 - 1))))) with hb2 | hb2
   ·
    have hb2' := hb2
    replace hb2' : (decide (0 ≤ (t.f1.getD i default).f0 ∧ (t.f1.getD i default).f0 ≤ (IntKind.i64.wrap (l.f0 - 1)))) = false := by simpa only [Bool.not_eq_true', Bool.not_eq_false'] using hb2'
    replace hb2' := of_decide_eq_false hb2'
    refine T.draw [⟨15, (.one (.ptr 6 0)), []⟩, ⟨16, (pI (t.f1.getD i default).f0), []⟩, ⟨17, (.one (.ptr 2 0)), []⟩, ⟨18, (pI l.f0), []⟩, ⟨19, (pI (IntKind.i64.wrap (l.f0 - 1))), []⟩, ⟨20, (pB (decide (0 ≤ (t.f1.getD i default).f0 ∧ (t.f1.getD i default).f0 ≤ (IntKind.i64.wrap (l.f0 - 1))))), []⟩, ⟨21, (pB true), []⟩, ⟨22, (pB true), []⟩, ⟨23, (.tup []), []⟩, ⟨24, (.tup []), []⟩, ⟨25, (.tup []), []⟩, ⟨26, (.tup []), []⟩, ⟨27, (.tup []), []⟩, ⟨28, (.tup []), []⟩, ⟨29, (.tup []), []⟩, ⟨30, (.tup []), []⟩, ⟨31, (.tup []), []⟩, ⟨32, (.tup []), []⟩, ⟨33, (.tup []), []⟩, ⟨34, (.tup []), []⟩, ⟨35, (.tup []), []⟩, ⟨36, (.tup []), []⟩, ⟨37, (pB true), []⟩, ⟨38, (pB true), []⟩, ⟨39, (.tup []), []⟩, ⟨40, (.tup []), []⟩, ⟨41, (.tup []), []⟩, ⟨42, (.tup []), []⟩, ⟨43, (.tup []), []⟩, ⟨44, (.tup []), []⟩, ⟨45, (.tup []), []⟩, ⟨46, (pB true), []⟩, ⟨47, (pB true), []⟩, ⟨48, (.tup []), []⟩, ⟨49, (.tup []), []⟩, ⟨50, (.tup []), []⟩, ⟨51, (.tup []), []⟩, ⟨52, (.tup []), []⟩, ⟨53, (pB true), []⟩] (by kernel_rfl) (by kernel_rfl) ?_ ?_
    ·
     refine .cons (fun E A => OpStep.plain rfl (Step.fa (off := 0) (n := 1) (one := true) 0 15 (A.g 6 rfl))) ?_
     refine .cons (fun E A => OpStep.plain rfl (Step.load_box (c := cI (t.f1.getD i default).f0) (t := 16) rfl rfl (by exact lt_ok rfl) (by kernel_rfl) (A.g 15 rfl) (by exact A.box rfl) rfl)) ?_
     refine .cons (fun E A => OpStep.plain rfl (Step.fa (off := 0) (n := 1) (one := true) 0 17 (A.g 2 rfl))) ?_
     refine .cons (fun E A => OpStep.plain rfl (Step.load_box (c := cI l.f0) (t := 18) rfl rfl (by exact lt_ok rfl) (by kernel_rfl) (A.g 17 rfl) (by exact A.box rfl) rfl)) ?_
     refine .cons (fun E A => OpStep.plain rfl (Step.bd (r := .int .i64 (IntKind.i64.wrap (l.f0 - 1))) 19 (A.g 18 rfl) rfl (Bin.sub (a := l.f0) (b := 1) (rfl)))) ?_
     refine .cons (fun E A => OpStep.plain rfl (Step.cd (xs := [.tmp 16, .const (.int .i64 0), .tmp 19]) (ps := [(pI (t.f1.getD i default).f0), (pI 0), (pI (IntKind.i64.wrap (l.f0 - 1)))]) (g := .func 144) false 20 (evs_cons (A.g 16 rfl) (evs_cons rfl (evs_cons (A.g 19 rfl) (rfl)))) (.cons (.one (.d _)) (.cons (.one (.d _)) (.cons (.one (.d _)) .nil))) (ok_impl_within (t.f1.getD i default).f0 0 (IntKind.i64.wrap (l.f0 - 1))) (At.freshRows A rfl))) ?_
     refine .cons (fun E A => OpStep.plain rfl (Step.tb 21 (!(decide (0 ≤ (t.f1.getD i default).f0 ∧ (t.f1.getD i default).f0 ≤ (IntKind.i64.wrap (l.f0 - 1))))) hb2 (Step.not (b := (decide (0 ≤ (t.f1.getD i default).f0 ∧ (t.f1.getD i default).f0 ≤ (IntKind.i64.wrap (l.f0 - 1))))) (t := 21) rfl rfl (by exact lt_ok rfl) (A.g 20 rfl)))) ?_
     refine .cons (fun E A => A.mv 21 22) ?_
     refine .cons (fun E A => A.of 22) ?_
     refine .cons (fun E A => A.of 22) ?_
     refine .cons (fun E A => A.of 22) ?_
     refine .cons (fun E A => A.ou 25) ?_
     refine .cons (fun E A => A.ou 25) ?_
     refine .cons (fun E A => A.ou 25) ?_
     refine .cons (fun E A => A.ou 25) ?_
     refine .cons (fun E A => A.ou 25) ?_
     refine .cons (fun E A => A.ou 25) ?_
     refine .cons (fun E A => A.ou 25) ?_
     refine .cons (fun E A => A.ou 25) ?_
     refine .cons (fun E A => A.ou 25) ?_
     refine .cons (fun E A => A.ou 25) ?_
     refine .cons (fun E A => A.of 22) ?_
     refine .cons (fun E A => OpStep.plain rfl (Step.pick (b := true) (p := (pB true)) (t := 37) rfl rfl (by exact lt_ok rfl) (A.g 22 rfl) rfl)) ?_
     refine .cons (fun E A => A.mv 37 38) ?_
     refine .cons (fun E A => A.of 38) ?_
     refine .cons (fun E A => A.of 38) ?_
     refine .cons (fun E A => A.of 38) ?_
     refine .cons (fun E A => A.of 38) ?_
     refine .cons (fun E A => A.of 38) ?_
     refine .cons (fun E A => A.of 38) ?_
     refine .cons (fun E A => A.of 38) ?_
     refine .cons (fun E A => OpStep.plain rfl (Step.pick (b := true) (p := (pB true)) (t := 46) rfl rfl (by exact lt_ok rfl) (A.g 38 rfl) rfl)) ?_
     refine .cons (fun E A => A.mv 46 47) ?_
     refine .cons (fun E A => A.of 47) ?_
     refine .cons (fun E A => A.of 47) ?_
     refine .cons (fun E A => A.of 47) ?_
     refine .cons (fun E A => A.of 47) ?_
     refine .cons (fun E A => A.of 47) ?_
     refine .cons (fun E A => OpStep.plain rfl (Step.pick (b := true) (p := (pB true)) (t := 53) rfl rfl (by exact lt_ok rfl) (A.g 47 rfl) rfl)) ?_
     exact .nil _ _
    refine TL.nil ?_
    refine T.cond (b := true) rfl (fun h3_ => ?_) (fun h3_ => absurd h3_ (by simp))
    refine T.seq ?_
    refine T.region ?_
    refine TL.as (pB false) ?_
    refine TL.nil ?_
    refine T.ret ?_
    refine ⟨[(false, [.d (.bool false)])], (.cons rfl .nil), rfl, [], (RetC.rd' ?_ .nil)⟩ <;> ((congr 1; symm; first | (rw [tcOk_no (i := i) (by omega) (tcEnt_no (by (try simp only [hashes, List.all_cons, List.all_nil, Bool.and_true] at *); (try simp only [decide_eq_true_eq, decide_eq_false_iff_not, Bool.not_eq_true', Bool.not_eq_false'] at *); (try (have hw2_ := hw_ (by omega) (by omega))); omega))]; done) | (unfold tcOk; rw [show tcAll l t t.f1.length = true from by rw [show t.f1.length = i from by omega]; exact hx2, decide_eq_true (p := (t.f1.length : Int) ≤ l.f0) (by omega), decide_eq_true (p := (0 ≤ t.f0 ∧ t.f0 ≤ 1152921504606846975)) (by omega)]; simp only [*, Bool.and_true, Bool.true_and, Bool.and_false, Bool.false_and, decide_true, decide_false, and_true, true_and, and_self, and_false, false_and, Bool.and_self, not_true, not_false, Bool.not_true, Bool.not_false, ge_iff_le, gt_iff_lt, if_true, if_false, Bool.false_eq_true, ite_true, ite_false, reduceIte]; done) | (unfold tcOk; rw [show tcAll l t t.f1.length = true from by rw [show t.f1.length = i from by omega]; exact hx2, decide_eq_true (p := (0 ≤ t.f0 ∧ t.f0 ≤ 1152921504606846975)) (by omega)]; simp only [*, Bool.and_true, Bool.true_and, Bool.and_false, Bool.false_and, decide_true, decide_false, and_true, true_and, and_self, and_false, false_and, Bool.and_self, not_true, not_false, Bool.not_true, Bool.not_false, ge_iff_le, gt_iff_lt, if_true, if_false, Bool.false_eq_true, ite_true, ite_false, reduceIte]; done) | (unfold tcOk; simp only [*, Bool.and_true, Bool.true_and, Bool.and_false, Bool.false_and, decide_true, decide_false, and_true, true_and, and_self, and_false, false_and, Bool.and_self, not_true, not_false, Bool.not_true, Bool.not_false, ge_iff_le, gt_iff_lt, if_true, if_false, Bool.false_eq_true, ite_true, ite_false, reduceIte]; done) | (unfold tcOk; rw [decide_eq_false (p := (t.f1.length : Int) ≤ l.f0) (by omega)]; simp; done)))
   ·
    have hb2' := hb2
    replace hb2' : (decide (0 ≤ (t.f1.getD i default).f0 ∧ (t.f1.getD i default).f0 ≤ (IntKind.i64.wrap (l.f0 - 1)))) = true := by simpa only [Bool.not_eq_true', Bool.not_eq_false'] using hb2'
    replace hb2' := of_decide_eq_true hb2'
    rcases Bool.eq_false_or_eq_true (decide (0 < (i : Int))) with hb4 | hb4
    ·
     have hb4' := hb4
     replace hb4' := of_decide_eq_true hb4'
     rcases Bool.eq_false_or_eq_true (decide ((t.f1.getD i default).f0 ≤ (t.f1.getD ((i : Int) - 1).toNat default).f0)) with hb5 | hb5
     ·
      have hb5' := hb5
      replace hb5' := of_decide_eq_true hb5'
      refine T.draw [⟨15, (.one (.ptr 6 0)), []⟩, ⟨16, (pI (t.f1.getD i default).f0), []⟩, ⟨17, (.one (.ptr 2 0)), []⟩, ⟨18, (pI l.f0), []⟩, ⟨19, (pI (IntKind.i64.wrap (l.f0 - 1))), []⟩, ⟨20, (pB (decide (0 ≤ (t.f1.getD i default).f0 ∧ (t.f1.getD i default).f0 ≤ (IntKind.i64.wrap (l.f0 - 1))))), []⟩, ⟨21, (pB false), []⟩, ⟨22, (pB false), []⟩, ⟨23, (pI (i : Int)), []⟩, ⟨24, (pB true), []⟩, ⟨25, (pB true), []⟩, ⟨26, (.one (.ptr 6 0)), []⟩, ⟨27, (pI (t.f1.getD i default).f0), []⟩, ⟨28, (.one (.ptr 3 1)), []⟩, ⟨29, (.one (.d (.sl 3 (t.f1.map SEntry.cells)))), []⟩, ⟨30, (pI (i : Int)), []⟩, ⟨31, (pI ((i : Int) - 1)), []⟩, ⟨32, (.one (.eptr (.sl 3 (t.f1.map SEntry.cells)) ((i : Int) - 1).toNat 0)), []⟩, ⟨33, (.one (.eptr (.sl 3 (t.f1.map SEntry.cells)) ((i : Int) - 1).toNat 0)), []⟩, ⟨34, (pI (t.f1.getD ((i : Int) - 1).toNat default).f0), []⟩, ⟨35, (pB true), []⟩, ⟨36, (pB true), []⟩, ⟨37, (pB true), []⟩, ⟨38, (pB true), []⟩, ⟨39, (.tup []), []⟩, ⟨40, (.tup []), []⟩, ⟨41, (.tup []), []⟩, ⟨42, (.tup []), []⟩, ⟨43, (.tup []), []⟩, ⟨44, (.tup []), []⟩, ⟨45, (.tup []), []⟩, ⟨46, (pB true), []⟩, ⟨47, (pB true), []⟩, ⟨48, (.tup []), []⟩, ⟨49, (.tup []), []⟩, ⟨50, (.tup []), []⟩, ⟨51, (.tup []), []⟩, ⟨52, (.tup []), []⟩, ⟨53, (pB true), []⟩] (by kernel_rfl) (by kernel_rfl) ?_ ?_
      ·
       refine .cons (fun E A => OpStep.plain rfl (Step.fa (off := 0) (n := 1) (one := true) 0 15 (A.g 6 rfl))) ?_
       refine .cons (fun E A => OpStep.plain rfl (Step.load_box (c := cI (t.f1.getD i default).f0) (t := 16) rfl rfl (by exact lt_ok rfl) (by kernel_rfl) (A.g 15 rfl) (by exact A.box rfl) rfl)) ?_
       refine .cons (fun E A => OpStep.plain rfl (Step.fa (off := 0) (n := 1) (one := true) 0 17 (A.g 2 rfl))) ?_
       refine .cons (fun E A => OpStep.plain rfl (Step.load_box (c := cI l.f0) (t := 18) rfl rfl (by exact lt_ok rfl) (by kernel_rfl) (A.g 17 rfl) (by exact A.box rfl) rfl)) ?_
       refine .cons (fun E A => OpStep.plain rfl (Step.bd (r := .int .i64 (IntKind.i64.wrap (l.f0 - 1))) 19 (A.g 18 rfl) rfl (Bin.sub (a := l.f0) (b := 1) (rfl)))) ?_
       refine .cons (fun E A => OpStep.plain rfl (Step.cd (xs := [.tmp 16, .const (.int .i64 0), .tmp 19]) (ps := [(pI (t.f1.getD i default).f0), (pI 0), (pI (IntKind.i64.wrap (l.f0 - 1)))]) (g := .func 144) false 20 (evs_cons (A.g 16 rfl) (evs_cons rfl (evs_cons (A.g 19 rfl) (rfl)))) (.cons (.one (.d _)) (.cons (.one (.d _)) (.cons (.one (.d _)) .nil))) (ok_impl_within (t.f1.getD i default).f0 0 (IntKind.i64.wrap (l.f0 - 1))) (At.freshRows A rfl))) ?_
       refine .cons (fun E A => OpStep.plain rfl (Step.tb 21 (!(decide (0 ≤ (t.f1.getD i default).f0 ∧ (t.f1.getD i default).f0 ≤ (IntKind.i64.wrap (l.f0 - 1))))) hb2 (Step.not (b := (decide (0 ≤ (t.f1.getD i default).f0 ∧ (t.f1.getD i default).f0 ≤ (IntKind.i64.wrap (l.f0 - 1))))) (t := 21) rfl rfl (by exact lt_ok rfl) (A.g 20 rfl)))) ?_
       refine .cons (fun E A => A.mv 21 22) ?_
       refine .cons (fun E A => A.y 22 (Step.move (p := (pI (i : Int))) (t := 23) rfl rfl (by exact lt_ok rfl) (A.g 5 rfl))) ?_
       refine .cons (fun E A => A.y 22 (Step.tb 24 (decide (0 < (i : Int))) hb4 (Step.bd 24 (A.g 23 rfl) rfl (Bin.gtr (k := .i64) (a := (i : Int)) (b := 0))))) ?_
       refine .cons (fun E A => A.y 22 (Step.move (p := (pB true)) (t := 25) rfl rfl (by exact lt_ok rfl) (A.g 24 rfl))) ?_
       refine .cons (fun E A => A.y 25 (Step.fa (off := 0) (n := 1) (one := true) 0 26 (A.g 6 rfl))) ?_
       refine .cons (fun E A => A.y 25 (Step.load_box (c := cI (t.f1.getD i default).f0) (t := 27) rfl rfl (by exact lt_ok rfl) (by kernel_rfl) (A.g 26 rfl) (by exact A.box rfl) rfl)) ?_
       refine .cons (fun E A => A.y 25 (Step.fa (off := 1) (n := 1) (one := true) 0 28 (A.g 3 rfl))) ?_
       refine .cons (fun E A => A.y 25 (Step.load_box (c := .d (.sl 3 (t.f1.map SEntry.cells))) (t := 29) rfl rfl (by exact lt_ok rfl) (by kernel_rfl) (A.g 28 rfl) (by exact A.box rfl) rfl)) ?_
       refine .cons (fun E A => A.y 25 (Step.move (p := (pI (i : Int))) (t := 30) rfl rfl (by exact lt_ok rfl) (A.g 5 rfl))) ?_
       refine .cons (fun E A => A.y 25 (Step.bd (r := .int .i64 ((i : Int) - 1)) 31 (A.g 30 rfl) rfl (Bin.sub (a := (i : Int)) (b := 1) (by first | exact wrap_ok (by first | omega | (simp; omega)) (by first | omega | (simp; omega)) | rfl)))) ?_
       refine .cons (fun E A => A.y 25 (Step.index (e := 121) (z := 3) (i := ((i : Int) - 1)) (t := 32) rfl rfl (by exact lt_ok rfl) (by kernel_rfl) (A.g 29 rfl) rfl rfl (lt_ok rfl) (A.g 31 rfl) (by first | omega | (simp; omega)) (by simp only [D.size]; first | omega | (simp; omega)))) ?_
       refine .cons (fun E A => A.y 25 (Step.fieldAddr_e (j := 0) (off := 0) (n := 1) (one := true) (t := 33) rfl rfl (by exact lt_ok rfl) (by kernel_rfl) (Nat.succ_ne_zero _) (A.g 32 rfl) (lt_ok rfl))) ?_
       refine .cons (fun E A => A.y 25 (Step.load (e := (.int .i64 (t.f1.getD ((i : Int) - 1).toNat default).f0)) (t := 34) rfl rfl (by exact lt_ok rfl) (by kernel_rfl) (A.g 33 rfl) ((cell_map default (by first | omega | (simp; omega))).trans rfl))) ?_
       refine .cons (fun E A => A.y 25 (Step.tb 35 (decide ((t.f1.getD i default).f0 ≤ (t.f1.getD ((i : Int) - 1).toNat default).f0)) hb5 (Step.bd 35 (A.g 27 rfl) (A.g 34 rfl) (Bin.leq (k := .i64) (a := (t.f1.getD i default).f0) (b := (t.f1.getD ((i : Int) - 1).toNat default).f0))))) ?_
       refine .cons (fun E A => A.y 22 (Step.pick (b := true) (p := (pB true)) (t := 36) rfl rfl (by exact lt_ok rfl) (A.g 25 rfl) (A.g 35 rfl))) ?_
       refine .cons (fun E A => OpStep.plain rfl (Step.pick (b := false) (p := (pB true)) (t := 37) rfl rfl (by exact lt_ok rfl) (A.g 22 rfl) (A.g 36 rfl))) ?_
       refine .cons (fun E A => A.mv 37 38) ?_
       refine .cons (fun E A => A.of 38) ?_
       refine .cons (fun E A => A.of 38) ?_
       refine .cons (fun E A => A.of 38) ?_
       refine .cons (fun E A => A.of 38) ?_
       refine .cons (fun E A => A.of 38) ?_
       refine .cons (fun E A => A.of 38) ?_
       refine .cons (fun E A => A.of 38) ?_
       refine .cons (fun E A => OpStep.plain rfl (Step.pick (b := true) (p := (pB true)) (t := 46) rfl rfl (by exact lt_ok rfl) (A.g 38 rfl) rfl)) ?_
       refine .cons (fun E A => A.mv 46 47) ?_
       refine .cons (fun E A => A.of 47) ?_
       refine .cons (fun E A => A.of 47) ?_
       refine .cons (fun E A => A.of 47) ?_
       refine .cons (fun E A => A.of 47) ?_
       refine .cons (fun E A => A.of 47) ?_
       refine .cons (fun E A => OpStep.plain rfl (Step.pick (b := true) (p := (pB true)) (t := 53) rfl rfl (by exact lt_ok rfl) (A.g 47 rfl) rfl)) ?_
       exact .nil _ _
      refine TL.nil ?_
      refine T.cond (b := true) rfl (fun h6_ => ?_) (fun h6_ => absurd h6_ (by simp))
      refine T.seq ?_
      refine T.region ?_
      refine TL.as (pB false) ?_
      refine TL.nil ?_
      refine T.ret ?_
      refine ⟨[(false, [.d (.bool false)])], (.cons rfl .nil), rfl, [], (RetC.rd' ?_ .nil)⟩ <;> ((congr 1; symm; first | (rw [tcOk_no (i := i) (by omega) (tcEnt_no (by (try simp only [hashes, List.all_cons, List.all_nil, Bool.and_true] at *); (try simp only [decide_eq_true_eq, decide_eq_false_iff_not, Bool.not_eq_true', Bool.not_eq_false'] at *); (try (have hw2_ := hw_ (by omega) (by omega))); omega))]; done) | (unfold tcOk; rw [show tcAll l t t.f1.length = true from by rw [show t.f1.length = i from by omega]; exact hx2, decide_eq_true (p := (t.f1.length : Int) ≤ l.f0) (by omega), decide_eq_true (p := (0 ≤ t.f0 ∧ t.f0 ≤ 1152921504606846975)) (by omega)]; simp only [*, Bool.and_true, Bool.true_and, Bool.and_false, Bool.false_and, decide_true, decide_false, and_true, true_and, and_self, and_false, false_and, Bool.and_self, not_true, not_false, Bool.not_true, Bool.not_false, ge_iff_le, gt_iff_lt, if_true, if_false, Bool.false_eq_true, ite_true, ite_false, reduceIte]; done) | (unfold tcOk; rw [show tcAll l t t.f1.length = true from by rw [show t.f1.length = i from by omega]; exact hx2, decide_eq_true (p := (0 ≤ t.f0 ∧ t.f0 ≤ 1152921504606846975)) (by omega)]; simp only [*, Bool.and_true, Bool.true_and, Bool.and_false, Bool.false_and, decide_true, decide_false, and_true, true_and, and_self, and_false, false_and, Bool.and_self, not_true, not_false, Bool.not_true, Bool.not_false, ge_iff_le, gt_iff_lt, if_true, if_false, Bool.false_eq_true, ite_true, ite_false, reduceIte]; done) | (unfold tcOk; simp only [*, Bool.and_true, Bool.true_and, Bool.and_false, Bool.false_and, decide_true, decide_false, and_true, true_and, and_self, and_false, false_and, Bool.and_self, not_true, not_false, Bool.not_true, Bool.not_false, ge_iff_le, gt_iff_lt, if_true, if_false, Bool.false_eq_true, ite_true, ite_false, reduceIte]; done) | (unfold tcOk; rw [decide_eq_false (p := (t.f1.length : Int) ≤ l.f0) (by omega)]; simp; done)))
     ·
      have hb5' := hb5
      replace hb5' := of_decide_eq_false hb5'
      rcases Bool.eq_false_or_eq_true (!(decide (0 ≤ (t.f1.getD i default).f1 ∧ (t.f1.getD i default).f1 ≤ (IntKind.i64.wrap (t.f0 - 1))))) with hb7 | hb7
      ·
       have hb7' := hb7
       replace hb7' : (decide (0 ≤ (t.f1.getD i default).f1 ∧ (t.f1.getD i default).f1 ≤ (IntKind.i64.wrap (t.f0 - 1)))) = false := by simpa only [Bool.not_eq_true', Bool.not_eq_false'] using hb7'
       replace hb7' := of_decide_eq_false hb7'
       refine T.draw [⟨15, (.one (.ptr 6 0)), []⟩, ⟨16, (pI (t.f1.getD i default).f0), []⟩, ⟨17, (.one (.ptr 2 0)), []⟩, ⟨18, (pI l.f0), []⟩, ⟨19, (pI (IntKind.i64.wrap (l.f0 - 1))), []⟩, ⟨20, (pB (decide (0 ≤ (t.f1.getD i default).f0 ∧ (t.f1.getD i default).f0 ≤ (IntKind.i64.wrap (l.f0 - 1))))), []⟩, ⟨21, (pB false), []⟩, ⟨22, (pB false), []⟩, ⟨23, (pI (i : Int)), []⟩, ⟨24, (pB true), []⟩, ⟨25, (pB true), []⟩, ⟨26, (.one (.ptr 6 0)), []⟩, ⟨27, (pI (t.f1.getD i default).f0), []⟩, ⟨28, (.one (.ptr 3 1)), []⟩, ⟨29, (.one (.d (.sl 3 (t.f1.map SEntry.cells)))), []⟩, ⟨30, (pI (i : Int)), []⟩, ⟨31, (pI ((i : Int) - 1)), []⟩, ⟨32, (.one (.eptr (.sl 3 (t.f1.map SEntry.cells)) ((i : Int) - 1).toNat 0)), []⟩, ⟨33, (.one (.eptr (.sl 3 (t.f1.map SEntry.cells)) ((i : Int) - 1).toNat 0)), []⟩, ⟨34, (pI (t.f1.getD ((i : Int) - 1).toNat default).f0), []⟩, ⟨35, (pB false), []⟩, ⟨36, (pB false), []⟩, ⟨37, (pB false), []⟩, ⟨38, (pB false), []⟩, ⟨39, (.one (.ptr 6 1)), []⟩, ⟨40, (pI (t.f1.getD i default).f1), []⟩, ⟨41, (.one (.ptr 3 0)), []⟩, ⟨42, (pI t.f0), []⟩, ⟨43, (pI (IntKind.i64.wrap (t.f0 - 1))), []⟩, ⟨44, (pB (decide (0 ≤ (t.f1.getD i default).f1 ∧ (t.f1.getD i default).f1 ≤ (IntKind.i64.wrap (t.f0 - 1))))), []⟩, ⟨45, (pB true), []⟩, ⟨46, (pB true), []⟩, ⟨47, (pB true), []⟩, ⟨48, (.tup []), []⟩, ⟨49, (.tup []), []⟩, ⟨50, (.tup []), []⟩, ⟨51, (.tup []), []⟩, ⟨52, (.tup []), []⟩, ⟨53, (pB true), []⟩] (by kernel_rfl) (by kernel_rfl) ?_ ?_
       ·
        refine .cons (fun E A => OpStep.plain rfl (Step.fa (off := 0) (n := 1) (one := true) 0 15 (A.g 6 rfl))) ?_
        refine .cons (fun E A => OpStep.plain rfl (Step.load_box (c := cI (t.f1.getD i default).f0) (t := 16) rfl rfl (by exact lt_ok rfl) (by kernel_rfl) (A.g 15 rfl) (by exact A.box rfl) rfl)) ?_
        refine .cons (fun E A => OpStep.plain rfl (Step.fa (off := 0) (n := 1) (one := true) 0 17 (A.g 2 rfl))) ?_
        refine .cons (fun E A => OpStep.plain rfl (Step.load_box (c := cI l.f0) (t := 18) rfl rfl (by exact lt_ok rfl) (by kernel_rfl) (A.g 17 rfl) (by exact A.box rfl) rfl)) ?_
        refine .cons (fun E A => OpStep.plain rfl (Step.bd (r := .int .i64 (IntKind.i64.wrap (l.f0 - 1))) 19 (A.g 18 rfl) rfl (Bin.sub (a := l.f0) (b := 1) (rfl)))) ?_
        refine .cons (fun E A => OpStep.plain rfl (Step.cd (xs := [.tmp 16, .const (.int .i64 0), .tmp 19]) (ps := [(pI (t.f1.getD i default).f0), (pI 0), (pI (IntKind.i64.wrap (l.f0 - 1)))]) (g := .func 144) false 20 (evs_cons (A.g 16 rfl) (evs_cons rfl (evs_cons (A.g 19 rfl) (rfl)))) (.cons (.one (.d _)) (.cons (.one (.d _)) (.cons (.one (.d _)) .nil))) (ok_impl_within (t.f1.getD i default).f0 0 (IntKind.i64.wrap (l.f0 - 1))) (At.freshRows A rfl))) ?_
        refine .cons (fun E A => OpStep.plain rfl (Step.tb 21 (!(decide (0 ≤ (t.f1.getD i default).f0 ∧ (t.f1.getD i default).f0 ≤ (IntKind.i64.wrap (l.f0 - 1))))) hb2 (Step.not (b := (decide (0 ≤ (t.f1.getD i default).f0 ∧ (t.f1.getD i default).f0 ≤ (IntKind.i64.wrap (l.f0 - 1))))) (t := 21) rfl rfl (by exact lt_ok rfl) (A.g 20 rfl)))) ?_
        refine .cons (fun E A => A.mv 21 22) ?_
        refine .cons (fun E A => A.y 22 (Step.move (p := (pI (i : Int))) (t := 23) rfl rfl (by exact lt_ok rfl) (A.g 5 rfl))) ?_
        refine .cons (fun E A => A.y 22 (Step.tb 24 (decide (0 < (i : Int))) hb4 (Step.bd 24 (A.g 23 rfl) rfl (Bin.gtr (k := .i64) (a := (i : Int)) (b := 0))))) ?_
        refine .cons (fun E A => A.y 22 (Step.move (p := (pB true)) (t := 25) rfl rfl (by exact lt_ok rfl) (A.g 24 rfl))) ?_
        refine .cons (fun E A => A.y 25 (Step.fa (off := 0) (n := 1) (one := true) 0 26 (A.g 6 rfl))) ?_
        refine .cons (fun E A => A.y 25 (Step.load_box (c := cI (t.f1.getD i default).f0) (t := 27) rfl rfl (by exact lt_ok rfl) (by kernel_rfl) (A.g 26 rfl) (by exact A.box rfl) rfl)) ?_
        refine .cons (fun E A => A.y 25 (Step.fa (off := 1) (n := 1) (one := true) 0 28 (A.g 3 rfl))) ?_
        refine .cons (fun E A => A.y 25 (Step.load_box (c := .d (.sl 3 (t.f1.map SEntry.cells))) (t := 29) rfl rfl (by exact lt_ok rfl) (by kernel_rfl) (A.g 28 rfl) (by exact A.box rfl) rfl)) ?_
        refine .cons (fun E A => A.y 25 (Step.move (p := (pI (i : Int))) (t := 30) rfl rfl (by exact lt_ok rfl) (A.g 5 rfl))) ?_
        refine .cons (fun E A => A.y 25 (Step.bd (r := .int .i64 ((i : Int) - 1)) 31 (A.g 30 rfl) rfl (Bin.sub (a := (i : Int)) (b := 1) (by first | exact wrap_ok (by first | omega | (simp; omega)) (by first | omega | (simp; omega)) | rfl)))) ?_
        refine .cons (fun E A => A.y 25 (Step.index (e := 121) (z := 3) (i := ((i : Int) - 1)) (t := 32) rfl rfl (by exact lt_ok rfl) (by kernel_rfl) (A.g 29 rfl) rfl rfl (lt_ok rfl) (A.g 31 rfl) (by first | omega | (simp; omega)) (by simp only [D.size]; first | omega | (simp; omega)))) ?_
        refine .cons (fun E A => A.y 25 (Step.fieldAddr_e (j := 0) (off := 0) (n := 1) (one := true) (t := 33) rfl rfl (by exact lt_ok rfl) (by kernel_rfl) (Nat.succ_ne_zero _) (A.g 32 rfl) (lt_ok rfl))) ?_
        refine .cons (fun E A => A.y 25 (Step.load (e := (.int .i64 (t.f1.getD ((i : Int) - 1).toNat default).f0)) (t := 34) rfl rfl (by exact lt_ok rfl) (by kernel_rfl) (A.g 33 rfl) ((cell_map default (by first | omega | (simp; omega))).trans rfl))) ?_
        refine .cons (fun E A => A.y 25 (Step.tb 35 (decide ((t.f1.getD i default).f0 ≤ (t.f1.getD ((i : Int) - 1).toNat default).f0)) hb5 (Step.bd 35 (A.g 27 rfl) (A.g 34 rfl) (Bin.leq (k := .i64) (a := (t.f1.getD i default).f0) (b := (t.f1.getD ((i : Int) - 1).toNat default).f0))))) ?_
        refine .cons (fun E A => A.y 22 (Step.pick (b := true) (p := (pB false)) (t := 36) rfl rfl (by exact lt_ok rfl) (A.g 25 rfl) (A.g 35 rfl))) ?_
        refine .cons (fun E A => OpStep.plain rfl (Step.pick (b := false) (p := (pB false)) (t := 37) rfl rfl (by exact lt_ok rfl) (A.g 22 rfl) (A.g 36 rfl))) ?_
        refine .cons (fun E A => A.mv 37 38) ?_
        refine .cons (fun E A => A.y 38 (Step.fa (off := 1) (n := 1) (one := true) 0 39 (A.g 6 rfl))) ?_
        refine .cons (fun E A => A.y 38 (Step.load_box (c := cI (t.f1.getD i default).f1) (t := 40) rfl rfl (by exact lt_ok rfl) (by kernel_rfl) (A.g 39 rfl) (by exact A.box rfl) rfl)) ?_
        refine .cons (fun E A => A.y 38 (Step.fa (off := 0) (n := 1) (one := true) 0 41 (A.g 3 rfl))) ?_
        refine .cons (fun E A => A.y 38 (Step.load_box (c := cI t.f0) (t := 42) rfl rfl (by exact lt_ok rfl) (by kernel_rfl) (A.g 41 rfl) (by exact A.box rfl) rfl)) ?_
        refine .cons (fun E A => A.y 38 (Step.bd (r := .int .i64 (IntKind.i64.wrap (t.f0 - 1))) 43 (A.g 42 rfl) rfl (Bin.sub (a := t.f0) (b := 1) (rfl)))) ?_
        refine .cons (fun E A => A.y 38 (Step.cd (xs := [.tmp 40, .const (.int .i64 0), .tmp 43]) (ps := [(pI (t.f1.getD i default).f1), (pI 0), (pI (IntKind.i64.wrap (t.f0 - 1)))]) (g := .func 144) false 44 (evs_cons (A.g 40 rfl) (evs_cons rfl (evs_cons (A.g 43 rfl) (rfl)))) (.cons (.one (.d _)) (.cons (.one (.d _)) (.cons (.one (.d _)) .nil))) (ok_impl_within (t.f1.getD i default).f1 0 (IntKind.i64.wrap (t.f0 - 1))) (At.freshRows A rfl))) ?_
        refine .cons (fun E A => A.y 38 (Step.tb 45 (!(decide (0 ≤ (t.f1.getD i default).f1 ∧ (t.f1.getD i default).f1 ≤ (IntKind.i64.wrap (t.f0 - 1))))) hb7 (Step.not (b := (decide (0 ≤ (t.f1.getD i default).f1 ∧ (t.f1.getD i default).f1 ≤ (IntKind.i64.wrap (t.f0 - 1))))) (t := 45) rfl rfl (by exact lt_ok rfl) (A.g 44 rfl)))) ?_
        refine .cons (fun E A => OpStep.plain rfl (Step.pick (b := false) (p := (pB true)) (t := 46) rfl rfl (by exact lt_ok rfl) (A.g 38 rfl) (A.g 45 rfl))) ?_
        refine .cons (fun E A => A.mv 46 47) ?_
        refine .cons (fun E A => A.of 47) ?_
        refine .cons (fun E A => A.of 47) ?_
        refine .cons (fun E A => A.of 47) ?_
        refine .cons (fun E A => A.of 47) ?_
        refine .cons (fun E A => A.of 47) ?_
        refine .cons (fun E A => OpStep.plain rfl (Step.pick (b := true) (p := (pB true)) (t := 53) rfl rfl (by exact lt_ok rfl) (A.g 47 rfl) rfl)) ?_
        exact .nil _ _
       refine TL.nil ?_
       refine T.cond (b := true) rfl (fun h8_ => ?_) (fun h8_ => absurd h8_ (by simp))
       refine T.seq ?_
       refine T.region ?_
       refine TL.as (pB false) ?_
       refine TL.nil ?_
       refine T.ret ?_
       refine ⟨[(false, [.d (.bool false)])], (.cons rfl .nil), rfl, [], (RetC.rd' ?_ .nil)⟩ <;> ((congr 1; symm; first | (rw [tcOk_no (i := i) (by omega) (tcEnt_no (by (try simp only [hashes, List.all_cons, List.all_nil, Bool.and_true] at *); (try simp only [decide_eq_true_eq, decide_eq_false_iff_not, Bool.not_eq_true', Bool.not_eq_false'] at *); (try (have hw2_ := hw_ (by omega) (by omega))); omega))]; done) | (unfold tcOk; rw [show tcAll l t t.f1.length = true from by rw [show t.f1.length = i from by omega]; exact hx2, decide_eq_true (p := (t.f1.length : Int) ≤ l.f0) (by omega), decide_eq_true (p := (0 ≤ t.f0 ∧ t.f0 ≤ 1152921504606846975)) (by omega)]; simp only [*, Bool.and_true, Bool.true_and, Bool.and_false, Bool.false_and, decide_true, decide_false, and_true, true_and, and_self, and_false, false_and, Bool.and_self, not_true, not_false, Bool.not_true, Bool.not_false, ge_iff_le, gt_iff_lt, if_true, if_false, Bool.false_eq_true, ite_true, ite_false, reduceIte]; done) | (unfold tcOk; rw [show tcAll l t t.f1.length = true from by rw [show t.f1.length = i from by omega]; exact hx2, decide_eq_true (p := (0 ≤ t.f0 ∧ t.f0 ≤ 1152921504606846975)) (by omega)]; simp only [*, Bool.and_true, Bool.true_and, Bool.and_false, Bool.false_and, decide_true, decide_false, and_true, true_and, and_self, and_false, false_and, Bool.and_self, not_true, not_false, Bool.not_true, Bool.not_false, ge_iff_le, gt_iff_lt, if_true, if_false, Bool.false_eq_true, ite_true, ite_false, reduceIte]; done) | (unfold tcOk; simp only [*, Bool.and_true, Bool.true_and, Bool.and_false, Bool.false_and, decide_true, decide_false, and_true, true_and, and_self, and_false, false_and, Bool.and_self, not_true, not_false, Bool.not_true, Bool.not_false, ge_iff_le, gt_iff_lt, if_true, if_false, Bool.false_eq_true, ite_true, ite_false, reduceIte]; done) | (unfold tcOk; rw [decide_eq_false (p := (t.f1.length : Int) ≤ l.f0) (by omega)]; simp; done)))
      ·
       have hb7' := hb7
       replace hb7' : (decide (0 ≤ (t.f1.getD i default).f1 ∧ (t.f1.getD i default).f1 ≤ (IntKind.i64.wrap (t.f0 - 1)))) = true := by simpa only [Bool.not_eq_true', Bool.not_eq_false'] using hb7'
       replace hb7' := of_decide_eq_true hb7'
       refine T.draw [⟨15, (.one (.ptr 6 0)), []⟩, ⟨16, (pI (t.f1.getD i default).f0), []⟩, ⟨17, (.one (.ptr 2 0)), []⟩, ⟨18, (pI l.f0), []⟩, ⟨19, (pI (IntKind.i64.wrap (l.f0 - 1))), []⟩, ⟨20, (pB (decide (0 ≤ (t.f1.getD i default).f0 ∧ (t.f1.getD i default).f0 ≤ (IntKind.i64.wrap (l.f0 - 1))))), []⟩, ⟨21, (pB false), []⟩, ⟨22, (pB false), []⟩, ⟨23, (pI (i : Int)), []⟩, ⟨24, (pB true), []⟩, ⟨25, (pB true), []⟩, ⟨26, (.one (.ptr 6 0)), []⟩, ⟨27, (pI (t.f1.getD i default).f0), []⟩, ⟨28, (.one (.ptr 3 1)), []⟩, ⟨29, (.one (.d (.sl 3 (t.f1.map SEntry.cells)))), []⟩, ⟨30, (pI (i : Int)), []⟩, ⟨31, (pI ((i : Int) - 1)), []⟩, ⟨32, (.one (.eptr (.sl 3 (t.f1.map SEntry.cells)) ((i : Int) - 1).toNat 0)), []⟩, ⟨33, (.one (.eptr (.sl 3 (t.f1.map SEntry.cells)) ((i : Int) - 1).toNat 0)), []⟩, ⟨34, (pI (t.f1.getD ((i : Int) - 1).toNat default).f0), []⟩, ⟨35, (pB false), []⟩, ⟨36, (pB false), []⟩, ⟨37, (pB false), []⟩, ⟨38, (pB false), []⟩, ⟨39, (.one (.ptr 6 1)), []⟩, ⟨40, (pI (t.f1.getD i default).f1), []⟩, ⟨41, (.one (.ptr 3 0)), []⟩, ⟨42, (pI t.f0), []⟩, ⟨43, (pI (IntKind.i64.wrap (t.f0 - 1))), []⟩, ⟨44, (pB (decide (0 ≤ (t.f1.getD i default).f1 ∧ (t.f1.getD i default).f1 ≤ (IntKind.i64.wrap (t.f0 - 1))))), []⟩, ⟨45, (pB false), []⟩, ⟨46, (pB false), []⟩, ⟨47, (pB false), []⟩, ⟨48, (.one (.ptr 6 2)), []⟩, ⟨49, (pS (t.f1.getD i default).f2), []⟩, ⟨50, (.one (.d (.bss [(t.f1.getD i default).f2]))), []⟩, ⟨51, (pB (hashes [(t.f1.getD i default).f2])), []⟩, ⟨52, (pB (!(hashes [(t.f1.getD i default).f2]))), []⟩, ⟨53, (pB (!(hashes [(t.f1.getD i default).f2]))), []⟩] (by kernel_rfl) (by kernel_rfl) ?_ ?_
       ·
        refine .cons (fun E A => OpStep.plain rfl (Step.fa (off := 0) (n := 1) (one := true) 0 15 (A.g 6 rfl))) ?_
        refine .cons (fun E A => OpStep.plain rfl (Step.load_box (c := cI (t.f1.getD i default).f0) (t := 16) rfl rfl (by exact lt_ok rfl) (by kernel_rfl) (A.g 15 rfl) (by exact A.box rfl) rfl)) ?_
        refine .cons (fun E A => OpStep.plain rfl (Step.fa (off := 0) (n := 1) (one := true) 0 17 (A.g 2 rfl))) ?_
        refine .cons (fun E A => OpStep.plain rfl (Step.load_box (c := cI l.f0) (t := 18) rfl rfl (by exact lt_ok rfl) (by kernel_rfl) (A.g 17 rfl) (by exact A.box rfl) rfl)) ?_
        refine .cons (fun E A => OpStep.plain rfl (Step.bd (r := .int .i64 (IntKind.i64.wrap (l.f0 - 1))) 19 (A.g 18 rfl) rfl (Bin.sub (a := l.f0) (b := 1) (rfl)))) ?_
        refine .cons (fun E A => OpStep.plain rfl (Step.cd (xs := [.tmp 16, .const (.int .i64 0), .tmp 19]) (ps := [(pI (t.f1.getD i default).f0), (pI 0), (pI (IntKind.i64.wrap (l.f0 - 1)))]) (g := .func 144) false 20 (evs_cons (A.g 16 rfl) (evs_cons rfl (evs_cons (A.g 19 rfl) (rfl)))) (.cons (.one (.d _)) (.cons (.one (.d _)) (.cons (.one (.d _)) .nil))) (ok_impl_within (t.f1.getD i default).f0 0 (IntKind.i64.wrap (l.f0 - 1))) (At.freshRows A rfl))) ?_
        refine .cons (fun E A => OpStep.plain rfl (Step.tb 21 (!(decide (0 ≤ (t.f1.getD i default).f0 ∧ (t.f1.getD i default).f0 ≤ (IntKind.i64.wrap (l.f0 - 1))))) hb2 (Step.not (b := (decide (0 ≤ (t.f1.getD i default).f0 ∧ (t.f1.getD i default).f0 ≤ (IntKind.i64.wrap (l.f0 - 1))))) (t := 21) rfl rfl (by exact lt_ok rfl) (A.g 20 rfl)))) ?_
        refine .cons (fun E A => A.mv 21 22) ?_
        refine .cons (fun E A => A.y 22 (Step.move (p := (pI (i : Int))) (t := 23) rfl rfl (by exact lt_ok rfl) (A.g 5 rfl))) ?_
        refine .cons (fun E A => A.y 22 (Step.tb 24 (decide (0 < (i : Int))) hb4 (Step.bd 24 (A.g 23 rfl) rfl (Bin.gtr (k := .i64) (a := (i : Int)) (b := 0))))) ?_
        refine .cons (fun E A => A.y 22 (Step.move (p := (pB true)) (t := 25) rfl rfl (by exact lt_ok rfl) (A.g 24 rfl))) ?_
        refine .cons (fun E A => A.y 25 (Step.fa (off := 0) (n := 1) (one := true) 0 26 (A.g 6 rfl))) ?_
        refine .cons (fun E A => A.y 25 (Step.load_box (c := cI (t.f1.getD i default).f0) (t := 27) rfl rfl (by exact lt_ok rfl) (by kernel_rfl) (A.g 26 rfl) (by exact A.box rfl) rfl)) ?_
        refine .cons (fun E A => A.y 25 (Step.fa (off := 1) (n := 1) (one := true) 0 28 (A.g 3 rfl))) ?_
        refine .cons (fun E A => A.y 25 (Step.load_box (c := .d (.sl 3 (t.f1.map SEntry.cells))) (t := 29) rfl rfl (by exact lt_ok rfl) (by kernel_rfl) (A.g 28 rfl) (by exact A.box rfl) rfl)) ?_
        refine .cons (fun E A => A.y 25 (Step.move (p := (pI (i : Int))) (t := 30) rfl rfl (by exact lt_ok rfl) (A.g 5 rfl))) ?_
        refine .cons (fun E A => A.y 25 (Step.bd (r := .int .i64 ((i : Int) - 1)) 31 (A.g 30 rfl) rfl (Bin.sub (a := (i : Int)) (b := 1) (by first | exact wrap_ok (by first | omega | (simp; omega)) (by first | omega | (simp; omega)) | rfl)))) ?_
        refine .cons (fun E A => A.y 25 (Step.index (e := 121) (z := 3) (i := ((i : Int) - 1)) (t := 32) rfl rfl (by exact lt_ok rfl) (by kernel_rfl) (A.g 29 rfl) rfl rfl (lt_ok rfl) (A.g 31 rfl) (by first | omega | (simp; omega)) (by simp only [D.size]; first | omega | (simp; omega)))) ?_
        refine .cons (fun E A => A.y 25 (Step.fieldAddr_e (j := 0) (off := 0) (n := 1) (one := true) (t := 33) rfl rfl (by exact lt_ok rfl) (by kernel_rfl) (Nat.succ_ne_zero _) (A.g 32 rfl) (lt_ok rfl))) ?_
        refine .cons (fun E A => A.y 25 (Step.load (e := (.int .i64 (t.f1.getD ((i : Int) - 1).toNat default).f0)) (t := 34) rfl rfl (by exact lt_ok rfl) (by kernel_rfl) (A.g 33 rfl) ((cell_map default (by first | omega | (simp; omega))).trans rfl))) ?_
        refine .cons (fun E A => A.y 25 (Step.tb 35 (decide ((t.f1.getD i default).f0 ≤ (t.f1.getD ((i : Int) - 1).toNat default).f0)) hb5 (Step.bd 35 (A.g 27 rfl) (A.g 34 rfl) (Bin.leq (k := .i64) (a := (t.f1.getD i default).f0) (b := (t.f1.getD ((i : Int) - 1).toNat default).f0))))) ?_
        refine .cons (fun E A => A.y 22 (Step.pick (b := true) (p := (pB false)) (t := 36) rfl rfl (by exact lt_ok rfl) (A.g 25 rfl) (A.g 35 rfl))) ?_
        refine .cons (fun E A => OpStep.plain rfl (Step.pick (b := false) (p := (pB false)) (t := 37) rfl rfl (by exact lt_ok rfl) (A.g 22 rfl) (A.g 36 rfl))) ?_
        refine .cons (fun E A => A.mv 37 38) ?_
        refine .cons (fun E A => A.y 38 (Step.fa (off := 1) (n := 1) (one := true) 0 39 (A.g 6 rfl))) ?_
        refine .cons (fun E A => A.y 38 (Step.load_box (c := cI (t.f1.getD i default).f1) (t := 40) rfl rfl (by exact lt_ok rfl) (by kernel_rfl) (A.g 39 rfl) (by exact A.box rfl) rfl)) ?_
        refine .cons (fun E A => A.y 38 (Step.fa (off := 0) (n := 1) (one := true) 0 41 (A.g 3 rfl))) ?_
        refine .cons (fun E A => A.y 38 (Step.load_box (c := cI t.f0) (t := 42) rfl rfl (by exact lt_ok rfl) (by kernel_rfl) (A.g 41 rfl) (by exact A.box rfl) rfl)) ?_
        refine .cons (fun E A => A.y 38 (Step.bd (r := .int .i64 (IntKind.i64.wrap (t.f0 - 1))) 43 (A.g 42 rfl) rfl (Bin.sub (a := t.f0) (b := 1) (rfl)))) ?_
        refine .cons (fun E A => A.y 38 (Step.cd (xs := [.tmp 40, .const (.int .i64 0), .tmp 43]) (ps := [(pI (t.f1.getD i default).f1), (pI 0), (pI (IntKind.i64.wrap (t.f0 - 1)))]) (g := .func 144) false 44 (evs_cons (A.g 40 rfl) (evs_cons rfl (evs_cons (A.g 43 rfl) (rfl)))) (.cons (.one (.d _)) (.cons (.one (.d _)) (.cons (.one (.d _)) .nil))) (ok_impl_within (t.f1.getD i default).f1 0 (IntKind.i64.wrap (t.f0 - 1))) (At.freshRows A rfl))) ?_
        refine .cons (fun E A => A.y 38 (Step.tb 45 (!(decide (0 ≤ (t.f1.getD i default).f1 ∧ (t.f1.getD i default).f1 ≤ (IntKind.i64.wrap (t.f0 - 1))))) hb7 (Step.not (b := (decide (0 ≤ (t.f1.getD i default).f1 ∧ (t.f1.getD i default).f1 ≤ (IntKind.i64.wrap (t.f0 - 1))))) (t := 45) rfl rfl (by exact lt_ok rfl) (A.g 44 rfl)))) ?_
        refine .cons (fun E A => OpStep.plain rfl (Step.pick (b := false) (p := (pB false)) (t := 46) rfl rfl (by exact lt_ok rfl) (A.g 38 rfl) (A.g 45 rfl))) ?_
        refine .cons (fun E A => A.mv 46 47) ?_
        refine .cons (fun E A => A.y 47 (Step.fa (off := 2) (n := 1) (one := true) 0 48 (A.g 6 rfl))) ?_
        refine .cons (fun E A => A.y 47 (Step.load_box (c := cS (t.f1.getD i default).f2) (t := 49) rfl rfl (by exact lt_ok rfl) (by kernel_rfl) (A.g 48 rfl) (by exact A.box rfl) rfl)) ?_
        refine .cons (fun E A => A.y 47 (Step.lit_d (e := 22) (z := 1) (by_ := 24) (xs := [.tmp 49]) (pss := [[cS (t.f1.getD i default).f2]]) (ds := [(.ints .u8 (t.f1.getD i default).f2)]) (d := (.bss [(t.f1.getD i default).f2])) (t := 50) rfl rfl (by exact lt_ok rfl) (by kernel_rfl) rfl rfl (.cons (by exact (congrArg PV.flat (A.g 49 rfl)).trans rfl) .nil) (by simp) (le_ok rfl) (le_ok rfl) rfl rfl trivial rfl rfl)) ?_
        refine .cons (fun E A => A.y 47 (Step.cd (xs := [.tmp 50]) (ps := [(.one (.d (.bss [(t.f1.getD i default).f2])))]) (g := .func 145) false 51 (evs_cons (A.g 50 rfl) (rfl)) (.cons (.one (.d _)) .nil) (ok_impl_areHashes [(t.f1.getD i default).f2]) (At.freshRows A rfl))) ?_
        refine .cons (fun E A => A.y 47 (Step.not (b := (hashes [(t.f1.getD i default).f2])) (t := 52) rfl rfl (by exact lt_ok rfl) (A.g 51 rfl))) ?_
        refine .cons (fun E A => OpStep.plain rfl (Step.pick (b := false) (p := (pB (!(hashes [(t.f1.getD i default).f2])))) (t := 53) rfl rfl (by exact lt_ok rfl) (A.g 47 rfl) (A.g 52 rfl))) ?_
        exact .nil _ _
       refine TL.nil ?_
       refine T.cond (b := !(hashes [(t.f1.getD i default).f2])) rfl (fun h9 => ?_) (fun h9 => ?_)
       ·
        replace h9 : (hashes [(t.f1.getD i default).f2]) = false := by simpa only [Bool.not_eq_true', Bool.not_eq_false'] using h9
        refine T.seq ?_
        refine T.region ?_
        refine TL.as (pB false) ?_
        refine TL.nil ?_
        refine T.ret ?_
        refine ⟨[(false, [.d (.bool false)])], (.cons rfl .nil), rfl, [], (RetC.rd' ?_ .nil)⟩ <;> ((congr 1; symm; first | (rw [tcOk_no (i := i) (by omega) (tcEnt_no (by (try simp only [hashes, List.all_cons, List.all_nil, Bool.and_true] at *); (try simp only [decide_eq_true_eq, decide_eq_false_iff_not, Bool.not_eq_true', Bool.not_eq_false'] at *); (try (have hw2_ := hw_ (by omega) (by omega))); omega))]; done) | (unfold tcOk; rw [show tcAll l t t.f1.length = true from by rw [show t.f1.length = i from by omega]; exact hx2, decide_eq_true (p := (t.f1.length : Int) ≤ l.f0) (by omega), decide_eq_true (p := (0 ≤ t.f0 ∧ t.f0 ≤ 1152921504606846975)) (by omega)]; simp only [*, Bool.and_true, Bool.true_and, Bool.and_false, Bool.false_and, decide_true, decide_false, and_true, true_and, and_self, and_false, false_and, Bool.and_self, not_true, not_false, Bool.not_true, Bool.not_false, ge_iff_le, gt_iff_lt, if_true, if_false, Bool.false_eq_true, ite_true, ite_false, reduceIte]; done) | (unfold tcOk; rw [show tcAll l t t.f1.length = true from by rw [show t.f1.length = i from by omega]; exact hx2, decide_eq_true (p := (0 ≤ t.f0 ∧ t.f0 ≤ 1152921504606846975)) (by omega)]; simp only [*, Bool.and_true, Bool.true_and, Bool.and_false, Bool.false_and, decide_true, decide_false, and_true, true_and, and_self, and_false, false_and, Bool.and_self, not_true, not_false, Bool.not_true, Bool.not_false, ge_iff_le, gt_iff_lt, if_true, if_false, Bool.false_eq_true, ite_true, ite_false, reduceIte]; done) | (unfold tcOk; simp only [*, Bool.and_true, Bool.true_and, Bool.and_false, Bool.false_and, decide_true, decide_false, and_true, true_and, and_self, and_false, false_and, Bool.and_self, not_true, not_false, Bool.not_true, Bool.not_false, ge_iff_le, gt_iff_lt, if_true, if_false, Bool.false_eq_true, ite_true, ite_false, reduceIte]; done) | (unfold tcOk; rw [decide_eq_false (p := (t.f1.length : Int) ≤ l.f0) (by omega)]; simp; done)))
       ·
        replace h9 : (hashes [(t.f1.getD i default).f2]) = true := by simpa only [Bool.not_eq_true', Bool.not_eq_false'] using h9
        refine T.skip ?_
        refine T.region ?_
        refine TL.c (Step.bin (r := .int .i64 ((i : Int) + 1)) rfl rfl (lt_ok rfl) rfl rfl (Bin.add (a := (i : Int)) (b := 1) (by first | exact wrap_ok (by first | omega | (simp; omega)) (by first | omega | (simp; omega)) | rfl))) ?_
        refine TL.mv (pI ((i : Int) + 1)) ?_
        refine TL.nil ?_
        refine ⟨i + 1, by (refine ⟨by omega, ?_⟩; rw [tcAll_succ, hx2, tcEnt_yes (by (try simp only [hashes, List.all_cons, List.all_nil, Bool.and_true] at *); (try simp only [decide_eq_true_eq, decide_eq_false_iff_not, Bool.not_eq_true', Bool.not_eq_false'] at *); (try (have hw2_ := hw_ (by omega) (by omega))); omega)]; rfl), by first | omega | (dsimp only; omega), Env.le_mk ⟨rfl, rfl, rfl, rfl, ?_, trivial⟩ trivial ⟨rfl, rfl, trivial⟩⟩ <;> (first | rfl | (simp; done) | (congr 3; omega))
    ·
     have hb4' := hb4
     replace hb4' := of_decide_eq_false hb4'
     rcases Bool.eq_false_or_eq_true (!(decide (0 ≤ (t.f1.getD i default).f1 ∧ (t.f1.getD i default).f1 ≤ (IntKind.i64.wrap (t.f0 - 1))))) with hb10 | hb10
     ·
      have hb10' := hb10
      replace hb10' : (decide (0 ≤ (t.f1.getD i default).f1 ∧ (t.f1.getD i default).f1 ≤ (IntKind.i64.wrap (t.f0 - 1)))) = false := by simpa only [Bool.not_eq_true', Bool.not_eq_false'] using hb10'
      replace hb10' := of_decide_eq_false hb10'
      refine T.draw [⟨15, (.one (.ptr 6 0)), []⟩, ⟨16, (pI (t.f1.getD i default).f0), []⟩, ⟨17, (.one (.ptr 2 0)), []⟩, ⟨18, (pI l.f0), []⟩, ⟨19, (pI (IntKind.i64.wrap (l.f0 - 1))), []⟩, ⟨20, (pB (decide (0 ≤ (t.f1.getD i default).f0 ∧ (t.f1.getD i default).f0 ≤ (IntKind.i64.wrap (l.f0 - 1))))), []⟩, ⟨21, (pB false), []⟩, ⟨22, (pB false), []⟩, ⟨23, (pI (i : Int)), []⟩, ⟨24, (pB false), []⟩, ⟨25, (pB false), []⟩, ⟨26, (.tup []), []⟩, ⟨27, (.tup []), []⟩, ⟨28, (.tup []), []⟩, ⟨29, (.tup []), []⟩, ⟨30, (.tup []), []⟩, ⟨31, (.tup []), []⟩, ⟨32, (.tup []), []⟩, ⟨33, (.tup []), []⟩, ⟨34, (.tup []), []⟩, ⟨35, (.tup []), []⟩, ⟨36, (pB false), []⟩, ⟨37, (pB false), []⟩, ⟨38, (pB false), []⟩, ⟨39, (.one (.ptr 6 1)), []⟩, ⟨40, (pI (t.f1.getD i default).f1), []⟩, ⟨41, (.one (.ptr 3 0)), []⟩, ⟨42, (pI t.f0), []⟩, ⟨43, (pI (IntKind.i64.wrap (t.f0 - 1))), []⟩, ⟨44, (pB (decide (0 ≤ (t.f1.getD i default).f1 ∧ (t.f1.getD i default).f1 ≤ (IntKind.i64.wrap (t.f0 - 1))))), []⟩, ⟨45, (pB true), []⟩, ⟨46, (pB true), []⟩, ⟨47, (pB true), []⟩, ⟨48, (.tup []), []⟩, ⟨49, (.tup []), []⟩, ⟨50, (.tup []), []⟩, ⟨51, (.tup []), []⟩, ⟨52, (.tup []), []⟩, ⟨53, (pB true), []⟩] (by kernel_rfl) (by kernel_rfl) ?_ ?_
      ·
       refine .cons (fun E A => OpStep.plain rfl (Step.fa (off := 0) (n := 1) (one := true) 0 15 (A.g 6 rfl))) ?_
       refine .cons (fun E A => OpStep.plain rfl (Step.load_box (c := cI (t.f1.getD i default).f0) (t := 16) rfl rfl (by exact lt_ok rfl) (by kernel_rfl) (A.g 15 rfl) (by exact A.box rfl) rfl)) ?_
       refine .cons (fun E A => OpStep.plain rfl (Step.fa (off := 0) (n := 1) (one := true) 0 17 (A.g 2 rfl))) ?_
       refine .cons (fun E A => OpStep.plain rfl (Step.load_box (c := cI l.f0) (t := 18) rfl rfl (by exact lt_ok rfl) (by kernel_rfl) (A.g 17 rfl) (by exact A.box rfl) rfl)) ?_
       refine .cons (fun E A => OpStep.plain rfl (Step.bd (r := .int .i64 (IntKind.i64.wrap (l.f0 - 1))) 19 (A.g 18 rfl) rfl (Bin.sub (a := l.f0) (b := 1) (rfl)))) ?_
       refine .cons (fun E A => OpStep.plain rfl (Step.cd (xs := [.tmp 16, .const (.int .i64 0), .tmp 19]) (ps := [(pI (t.f1.getD i default).f0), (pI 0), (pI (IntKind.i64.wrap (l.f0 - 1)))]) (g := .func 144) false 20 (evs_cons (A.g 16 rfl) (evs_cons rfl (evs_cons (A.g 19 rfl) (rfl)))) (.cons (.one (.d _)) (.cons (.one (.d _)) (.cons (.one (.d _)) .nil))) (ok_impl_within (t.f1.getD i default).f0 0 (IntKind.i64.wrap (l.f0 - 1))) (At.freshRows A rfl))) ?_
       refine .cons (fun E A => OpStep.plain rfl (Step.tb 21 (!(decide (0 ≤ (t.f1.getD i default).f0 ∧ (t.f1.getD i default).f0 ≤ (IntKind.i64.wrap (l.f0 - 1))))) hb2 (Step.not (b := (decide (0 ≤ (t.f1.getD i default).f0 ∧ (t.f1.getD i default).f0 ≤ (IntKind.i64.wrap (l.f0 - 1))))) (t := 21) rfl rfl (by exact lt_ok rfl) (A.g 20 rfl)))) ?_
       refine .cons (fun E A => A.mv 21 22) ?_
       refine .cons (fun E A => A.y 22 (Step.move (p := (pI (i : Int))) (t := 23) rfl rfl (by exact lt_ok rfl) (A.g 5 rfl))) ?_
       refine .cons (fun E A => A.y 22 (Step.tb 24 (decide (0 < (i : Int))) hb4 (Step.bd 24 (A.g 23 rfl) rfl (Bin.gtr (k := .i64) (a := (i : Int)) (b := 0))))) ?_
       refine .cons (fun E A => A.y 22 (Step.move (p := (pB false)) (t := 25) rfl rfl (by exact lt_ok rfl) (A.g 24 rfl))) ?_
       refine .cons (fun E A => A.of 25) ?_
       refine .cons (fun E A => A.of 25) ?_
       refine .cons (fun E A => A.of 25) ?_
       refine .cons (fun E A => A.of 25) ?_
       refine .cons (fun E A => A.of 25) ?_
       refine .cons (fun E A => A.of 25) ?_
       refine .cons (fun E A => A.of 25) ?_
       refine .cons (fun E A => A.of 25) ?_
       refine .cons (fun E A => A.of 25) ?_
       refine .cons (fun E A => A.of 25) ?_
       refine .cons (fun E A => A.y 22 (Step.pick (b := false) (p := (pB false)) (t := 36) rfl rfl (by exact lt_ok rfl) (A.g 25 rfl) rfl)) ?_
       refine .cons (fun E A => OpStep.plain rfl (Step.pick (b := false) (p := (pB false)) (t := 37) rfl rfl (by exact lt_ok rfl) (A.g 22 rfl) (A.g 36 rfl))) ?_
       refine .cons (fun E A => A.mv 37 38) ?_
       refine .cons (fun E A => A.y 38 (Step.fa (off := 1) (n := 1) (one := true) 0 39 (A.g 6 rfl))) ?_
       refine .cons (fun E A => A.y 38 (Step.load_box (c := cI (t.f1.getD i default).f1) (t := 40) rfl rfl (by exact lt_ok rfl) (by kernel_rfl) (A.g 39 rfl) (by exact A.box rfl) rfl)) ?_
       refine .cons (fun E A => A.y 38 (Step.fa (off := 0) (n := 1) (one := true) 0 41 (A.g 3 rfl))) ?_
       refine .cons (fun E A => A.y 38 (Step.load_box (c := cI t.f0) (t := 42) rfl rfl (by exact lt_ok rfl) (by kernel_rfl) (A.g 41 rfl) (by exact A.box rfl) rfl)) ?_
       refine .cons (fun E A => A.y 38 (Step.bd (r := .int .i64 (IntKind.i64.wrap (t.f0 - 1))) 43 (A.g 42 rfl) rfl (Bin.sub (a := t.f0) (b := 1) (rfl)))) ?_
       refine .cons (fun E A => A.y 38 (Step.cd (xs := [.tmp 40, .const (.int .i64 0), .tmp 43]) (ps := [(pI (t.f1.getD i default).f1), (pI 0), (pI (IntKind.i64.wrap (t.f0 - 1)))]) (g := .func 144) false 44 (evs_cons (A.g 40 rfl) (evs_cons rfl (evs_cons (A.g 43 rfl) (rfl)))) (.cons (.one (.d _)) (.cons (.one (.d _)) (.cons (.one (.d _)) .nil))) (ok_impl_within (t.f1.getD i default).f1 0 (IntKind.i64.wrap (t.f0 - 1))) (At.freshRows A rfl))) ?_
       refine .cons (fun E A => A.y 38 (Step.tb 45 (!(decide (0 ≤ (t.f1.getD i default).f1 ∧ (t.f1.getD i default).f1 ≤ (IntKind.i64.wrap (t.f0 - 1))))) hb10 (Step.not (b := (decide (0 ≤ (t.f1.getD i default).f1 ∧ (t.f1.getD i default).f1 ≤ (IntKind.i64.wrap (t.f0 - 1))))) (t := 45) rfl rfl (by exact lt_ok rfl) (A.g 44 rfl)))) ?_
       refine .cons (fun E A => OpStep.plain rfl (Step.pick (b := false) (p := (pB true)) (t := 46) rfl rfl (by exact lt_ok rfl) (A.g 38 rfl) (A.g 45 rfl))) ?_
       refine .cons (fun E A => A.mv 46 47) ?_
       refine .cons (fun E A => A.of 47) ?_
       refine .cons (fun E A => A.of 47) ?_
       refine .cons (fun E A => A.of 47) ?_
       refine .cons (fun E A => A.of 47) ?_
       refine .cons (fun E A => A.of 47) ?_
       refine .cons (fun E A => OpStep.plain rfl (Step.pick (b := true) (p := (pB true)) (t := 53) rfl rfl (by exact lt_ok rfl) (A.g 47 rfl) rfl)) ?_
       exact .nil _ _
      refine TL.nil ?_
      refine T.cond (b := true) rfl (fun h11_ => ?_) (fun h11_ => absurd h11_ (by simp))
      refine T.seq ?_
      refine T.region ?_
      refine TL.as (pB false) ?_
      refine TL.nil ?_
      refine T.ret ?_
      refine ⟨[(false, [.d (.bool false)])], (.cons rfl .nil), rfl, [], (RetC.rd' ?_ .nil)⟩ <;> ((congr 1; symm; first | (rw [tcOk_no (i := i) (by omega) (tcEnt_no (by (try simp only [hashes, List.all_cons, List.all_nil, Bool.and_true] at *); (try simp only [decide_eq_true_eq, decide_eq_false_iff_not, Bool.not_eq_true', Bool.not_eq_false'] at *); (try (have hw2_ := hw_ (by omega) (by omega))); omega))]; done) | (unfold tcOk; rw [show tcAll l t t.f1.length = true from by rw [show t.f1.length = i from by omega]; exact hx2, decide_eq_true (p := (t.f1.length : Int) ≤ l.f0) (by omega), decide_eq_true (p := (0 ≤ t.f0 ∧ t.f0 ≤ 1152921504606846975)) (by omega)]; simp only [*, Bool.and_true, Bool.true_and, Bool.and_false, Bool.false_and, decide_true, decide_false, and_true, true_and, and_self, and_false, false_and, Bool.and_self, not_true, not_false, Bool.not_true, Bool.not_false, ge_iff_le, gt_iff_lt, if_true, if_false, Bool.false_eq_true, ite_true, ite_false, reduceIte]; done) | (unfold tcOk; rw [show tcAll l t t.f1.length = true from by rw [show t.f1.length = i from by omega]; exact hx2, decide_eq_true (p := (0 ≤ t.f0 ∧ t.f0 ≤ 1152921504606846975)) (by omega)]; simp only [*, Bool.and_true, Bool.true_and, Bool.and_false, Bool.false_and, decide_true, decide_false, and_true, true_and, and_self, and_false, false_and, Bool.and_self, not_true, not_false, Bool.not_true, Bool.not_false, ge_iff_le, gt_iff_lt, if_true, if_false, Bool.false_eq_true, ite_true, ite_false, reduceIte]; done) | (unfold tcOk; simp only [*, Bool.and_true, Bool.true_and, Bool.and_false, Bool.false_and, decide_true, decide_false, and_true, true_and, and_self, and_false, false_and, Bool.and_self, not_true, not_false, Bool.not_true, Bool.not_false, ge_iff_le, gt_iff_lt, if_true, if_false, Bool.false_eq_true, ite_true, ite_false, reduceIte]; done) | (unfold tcOk; rw [decide_eq_false (p := (t.f1.length : Int) ≤ l.f0) (by omega)]; simp; done)))
     ·
      have hb10' := hb10
      replace hb10' : (decide (0 ≤ (t.f1.getD i default).f1 ∧ (t.f1.getD i default).f1 ≤ (IntKind.i64.wrap (t.f0 - 1)))) = true := by simpa only [Bool.not_eq_true', Bool.not_eq_false'] using hb10'
      replace hb10' := of_decide_eq_true hb10'
      refine T.draw [⟨15, (.one (.ptr 6 0)), []⟩, ⟨16, (pI (t.f1.getD i default).f0), []⟩, ⟨17, (.one (.ptr 2 0)), []⟩, ⟨18, (pI l.f0), []⟩, ⟨19, (pI (IntKind.i64.wrap (l.f0 - 1))), []⟩, ⟨20, (pB (decide (0 ≤ (t.f1.getD i default).f0 ∧ (t.f1.getD i default).f0 ≤ (IntKind.i64.wrap (l.f0 - 1))))), []⟩, ⟨21, (pB false), []⟩, ⟨22, (pB false), []⟩, ⟨23, (pI (i : Int)), []⟩, ⟨24, (pB false), []⟩, ⟨25, (pB false), []⟩, ⟨26, (.tup []), []⟩, ⟨27, (.tup []), []⟩, ⟨28, (.tup []), []⟩, ⟨29, (.tup []), []⟩, ⟨30, (.tup []), []⟩, ⟨31, (.tup []), []⟩, ⟨32, (.tup []), []⟩, ⟨33, (.tup []), []⟩, ⟨34, (.tup []), []⟩, ⟨35, (.tup []), []⟩, ⟨36, (pB false), []⟩, ⟨37, (pB false), []⟩, ⟨38, (pB false), []⟩, ⟨39, (.one (.ptr 6 1)), []⟩, ⟨40, (pI (t.f1.getD i default).f1), []⟩, ⟨41, (.one (.ptr 3 0)), []⟩, ⟨42, (pI t.f0), []⟩, ⟨43, (pI (IntKind.i64.wrap (t.f0 - 1))), []⟩, ⟨44, (pB (decide (0 ≤ (t.f1.getD i default).f1 ∧ (t.f1.getD i default).f1 ≤ (IntKind.i64.wrap (t.f0 - 1))))), []⟩, ⟨45, (pB false), []⟩, ⟨46, (pB false), []⟩, ⟨47, (pB false), []⟩, ⟨48, (.one (.ptr 6 2)), []⟩, ⟨49, (pS (t.f1.getD i default).f2), []⟩, ⟨50, (.one (.d (.bss [(t.f1.getD i default).f2]))), []⟩, ⟨51, (pB (hashes [(t.f1.getD i default).f2])), []⟩, ⟨52, (pB (!(hashes [(t.f1.getD i default).f2]))), []⟩, ⟨53, (pB (!(hashes [(t.f1.getD i default).f2]))), []⟩] (by kernel_rfl) (by kernel_rfl) ?_ ?_
      ·
       refine .cons (fun E A => OpStep.plain rfl (Step.fa (off := 0) (n := 1) (one := true) 0 15 (A.g 6 rfl))) ?_
       refine .cons (fun E A => OpStep.plain rfl (Step.load_box (c := cI (t.f1.getD i default).f0) (t := 16) rfl rfl (by exact lt_ok rfl) (by kernel_rfl) (A.g 15 rfl) (by exact A.box rfl) rfl)) ?_
       refine .cons (fun E A => OpStep.plain rfl (Step.fa (off := 0) (n := 1) (one := true) 0 17 (A.g 2 rfl))) ?_
       refine .cons (fun E A => OpStep.plain rfl (Step.load_box (c := cI l.f0) (t := 18) rfl rfl (by exact lt_ok rfl) (by kernel_rfl) (A.g 17 rfl) (by exact A.box rfl) rfl)) ?_
       refine .cons (fun E A => OpStep.plain rfl (Step.bd (r := .int .i64 (IntKind.i64.wrap (l.f0 - 1))) 19 (A.g 18 rfl) rfl (Bin.sub (a := l.f0) (b := 1) (rfl)))) ?_
       refine .cons (fun E A => OpStep.plain rfl (Step.cd (xs := [.tmp 16, .const (.int .i64 0), .tmp 19]) (ps := [(pI (t.f1.getD i default).f0), (pI 0), (pI (IntKind.i64.wrap (l.f0 - 1)))]) (g := .func 144) false 20 (evs_cons (A.g 16 rfl) (evs_cons rfl (evs_cons (A.g 19 rfl) (rfl)))) (.cons (.one (.d _)) (.cons (.one (.d _)) (.cons (.one (.d _)) .nil))) (ok_impl_within (t.f1.getD i default).f0 0 (IntKind.i64.wrap (l.f0 - 1))) (At.freshRows A rfl))) ?_
       refine .cons (fun E A => OpStep.plain rfl (Step.tb 21 (!(decide (0 ≤ (t.f1.getD i default).f0 ∧ (t.f1.getD i default).f0 ≤ (IntKind.i64.wrap (l.f0 - 1))))) hb2 (Step.not (b := (decide (0 ≤ (t.f1.getD i default).f0 ∧ (t.f1.getD i default).f0 ≤ (IntKind.i64.wrap (l.f0 - 1))))) (t := 21) rfl rfl (by exact lt_ok rfl) (A.g 20 rfl)))) ?_
       refine .cons (fun E A => A.mv 21 22) ?_
       refine .cons (fun E A => A.y 22 (Step.move (p := (pI (i : Int))) (t := 23) rfl rfl (by exact lt_ok rfl) (A.g 5 rfl))) ?_
       refine .cons (fun E A => A.y 22 (Step.tb 24 (decide (0 < (i : Int))) hb4 (Step.bd 24 (A.g 23 rfl) rfl (Bin.gtr (k := .i64) (a := (i : Int)) (b := 0))))) ?_
       refine .cons (fun E A => A.y 22 (Step.move (p := (pB false)) (t := 25) rfl rfl (by exact lt_ok rfl) (A.g 24 rfl))) ?_
       refine .cons (fun E A => A.of 25) ?_
       refine .cons (fun E A => A.of 25) ?_
       refine .cons (fun E A => A.of 25) ?_
       refine .cons (fun E A => A.of 25) ?_
       refine .cons (fun E A => A.of 25) ?_
       refine .cons (fun E A => A.of 25) ?_
       refine .cons (fun E A => A.of 25) ?_
       refine .cons (fun E A => A.of 25) ?_
       refine .cons (fun E A => A.of 25) ?_
       refine .cons (fun E A => A.of 25) ?_
       refine .cons (fun E A => A.y 22 (Step.pick (b := false) (p := (pB false)) (t := 36) rfl rfl (by exact lt_ok rfl) (A.g 25 rfl) rfl)) ?_
       refine .cons (fun E A => OpStep.plain rfl (Step.pick (b := false) (p := (pB false)) (t := 37) rfl rfl (by exact lt_ok rfl) (A.g 22 rfl) (A.g 36 rfl))) ?_
       refine .cons (fun E A => A.mv 37 38) ?_
       refine .cons (fun E A => A.y 38 (Step.fa (off := 1) (n := 1) (one := true) 0 39 (A.g 6 rfl))) ?_
       refine .cons (fun E A => A.y 38 (Step.load_box (c := cI (t.f1.getD i default).f1) (t := 40) rfl rfl (by exact lt_ok rfl) (by kernel_rfl) (A.g 39 rfl) (by exact A.box rfl) rfl)) ?_
       refine .cons (fun E A => A.y 38 (Step.fa (off := 0) (n := 1) (one := true) 0 41 (A.g 3 rfl))) ?_
       refine .cons (fun E A => A.y 38 (Step.load_box (c := cI t.f0) (t := 42) rfl rfl (by exact lt_ok rfl) (by kernel_rfl) (A.g 41 rfl) (by exact A.box rfl) rfl)) ?_
       refine .cons (fun E A => A.y 38 (Step.bd (r := .int .i64 (IntKind.i64.wrap (t.f0 - 1))) 43 (A.g 42 rfl) rfl (Bin.sub (a := t.f0) (b := 1) (rfl)))) ?_
       refine .cons (fun E A => A.y 38 (Step.cd (xs := [.tmp 40, .const (.int .i64 0), .tmp 43]) (ps := [(pI (t.f1.getD i default).f1), (pI 0), (pI (IntKind.i64.wrap (t.f0 - 1)))]) (g := .func 144) false 44 (evs_cons (A.g 40 rfl) (evs_cons rfl (evs_cons (A.g 43 rfl) (rfl)))) (.cons (.one (.d _)) (.cons (.one (.d _)) (.cons (.one (.d _)) .nil))) (ok_impl_within (t.f1.getD i default).f1 0 (IntKind.i64.wrap (t.f0 - 1))) (At.freshRows A rfl))) ?_
       refine .cons (fun E A => A.y 38 (Step.tb 45 (!(decide (0 ≤ (t.f1.getD i default).f1 ∧ (t.f1.getD i default).f1 ≤ (IntKind.i64.wrap (t.f0 - 1))))) hb10 (Step.not (b := (decide (0 ≤ (t.f1.getD i default).f1 ∧ (t.f1.getD i default).f1 ≤ (IntKind.i64.wrap (t.f0 - 1))))) (t := 45) rfl rfl (by exact lt_ok rfl) (A.g 44 rfl)))) ?_
       refine .cons (fun E A => OpStep.plain rfl (Step.pick (b := false) (p := (pB false)) (t := 46) rfl rfl (by exact lt_ok rfl) (A.g 38 rfl) (A.g 45 rfl))) ?_
       refine .cons (fun E A => A.mv 46 47) ?_
       refine .cons (fun E A => A.y 47 (Step.fa (off := 2) (n := 1) (one := true) 0 48 (A.g 6 rfl))) ?_
       refine .cons (fun E A => A.y 47 (Step.load_box (c := cS (t.f1.getD i default).f2) (t := 49) rfl rfl (by exact lt_ok rfl) (by kernel_rfl) (A.g 48 rfl) (by exact A.box rfl) rfl)) ?_
       refine .cons (fun E A => A.y 47 (Step.lit_d (e := 22) (z := 1) (by_ := 24) (xs := [.tmp 49]) (pss := [[cS (t.f1.getD i default).f2]]) (ds := [(.ints .u8 (t.f1.getD i default).f2)]) (d := (.bss [(t.f1.getD i default).f2])) (t := 50) rfl rfl (by exact lt_ok rfl) (by kernel_rfl) rfl rfl (.cons (by exact (congrArg PV.flat (A.g 49 rfl)).trans rfl) .nil) (by simp) (le_ok rfl) (le_ok rfl) rfl rfl trivial rfl rfl)) ?_
       refine .cons (fun E A => A.y 47 (Step.cd (xs := [.tmp 50]) (ps := [(.one (.d (.bss [(t.f1.getD i default).f2])))]) (g := .func 145) false 51 (evs_cons (A.g 50 rfl) (rfl)) (.cons (.one (.d _)) .nil) (ok_impl_areHashes [(t.f1.getD i default).f2]) (At.freshRows A rfl))) ?_
       refine .cons (fun E A => A.y 47 (Step.not (b := (hashes [(t.f1.getD i default).f2])) (t := 52) rfl rfl (by exact lt_ok rfl) (A.g 51 rfl))) ?_
       refine .cons (fun E A => OpStep.plain rfl (Step.pick (b := false) (p := (pB (!(hashes [(t.f1.getD i default).f2])))) (t := 53) rfl rfl (by exact lt_ok rfl) (A.g 47 rfl) (A.g 52 rfl))) ?_
       exact .nil _ _
      refine TL.nil ?_
      refine T.cond (b := !(hashes [(t.f1.getD i default).f2])) rfl (fun h12 => ?_) (fun h12 => ?_)
      ·
       replace h12 : (hashes [(t.f1.getD i default).f2]) = false := by simpa only [Bool.not_eq_true', Bool.not_eq_false'] using h12
       refine T.seq ?_
       refine T.region ?_
       refine TL.as (pB false) ?_
       refine TL.nil ?_
       refine T.ret ?_
       refine ⟨[(false, [.d (.bool false)])], (.cons rfl .nil), rfl, [], (RetC.rd' ?_ .nil)⟩ <;> ((congr 1; symm; first | (rw [tcOk_no (i := i) (by omega) (tcEnt_no (by (try simp only [hashes, List.all_cons, List.all_nil, Bool.and_true] at *); (try simp only [decide_eq_true_eq, decide_eq_false_iff_not, Bool.not_eq_true', Bool.not_eq_false'] at *); (try (have hw2_ := hw_ (by omega) (by omega))); omega))]; done) | (unfold tcOk; rw [show tcAll l t t.f1.length = true from by rw [show t.f1.length = i from by omega]; exact hx2, decide_eq_true (p := (t.f1.length : Int) ≤ l.f0) (by omega), decide_eq_true (p := (0 ≤ t.f0 ∧ t.f0 ≤ 1152921504606846975)) (by omega)]; simp only [*, Bool.and_true, Bool.true_and, Bool.and_false, Bool.false_and, decide_true, decide_false, and_true, true_and, and_self, and_false, false_and, Bool.and_self, not_true, not_false, Bool.not_true, Bool.not_false, ge_iff_le, gt_iff_lt, if_true, if_false, Bool.false_eq_true, ite_true, ite_false, reduceIte]; done) | (unfold tcOk; rw [show tcAll l t t.f1.length = true from by rw [show t.f1.length = i from by omega]; exact hx2, decide_eq_true (p := (0 ≤ t.f0 ∧ t.f0 ≤ 1152921504606846975)) (by omega)]; simp only [*, Bool.and_true, Bool.true_and, Bool.and_false, Bool.false_and, decide_true, decide_false, and_true, true_and, and_self, and_false, false_and, Bool.and_self, not_true, not_false, Bool.not_true, Bool.not_false, ge_iff_le, gt_iff_lt, if_true, if_false, Bool.false_eq_true, ite_true, ite_false, reduceIte]; done) | (unfold tcOk; simp only [*, Bool.and_true, Bool.true_and, Bool.and_false, Bool.false_and, decide_true, decide_false, and_true, true_and, and_self, and_false, false_and, Bool.and_self, not_true, not_false, Bool.not_true, Bool.not_false, ge_iff_le, gt_iff_lt, if_true, if_false, Bool.false_eq_true, ite_true, ite_false, reduceIte]; done) | (unfold tcOk; rw [decide_eq_false (p := (t.f1.length : Int) ≤ l.f0) (by omega)]; simp; done)))
      ·
       replace h12 : (hashes [(t.f1.getD i default).f2]) = true := by simpa only [Bool.not_eq_true', Bool.not_eq_false'] using h12
       refine T.skip ?_
       refine T.region ?_
       refine TL.c (Step.bin (r := .int .i64 ((i : Int) + 1)) rfl rfl (lt_ok rfl) rfl rfl (Bin.add (a := (i : Int)) (b := 1) (by first | exact wrap_ok (by first | omega | (simp; omega)) (by first | omega | (simp; omega)) | rfl))) ?_
       refine TL.mv (pI ((i : Int) + 1)) ?_
       refine TL.nil ?_
       refine ⟨i + 1, by (refine ⟨by omega, ?_⟩; rw [tcAll_succ, hx2, tcEnt_yes (by (try simp only [hashes, List.all_cons, List.all_nil, Bool.and_true] at *); (try simp only [decide_eq_true_eq, decide_eq_false_iff_not, Bool.not_eq_true', Bool.not_eq_false'] at *); (try (have hw2_ := hw_ (by omega) (by omega))); omega)]; rfl), by first | omega | (dsimp only; omega), Env.le_mk ⟨rfl, rfl, rfl, rfl, ?_, trivial⟩ trivial ⟨rfl, rfl, trivial⟩⟩ <;> (first | rfl | (simp; done) | (congr 3; omega))
  ·
   replace h1 := of_decide_eq_false h1
   refine T.exit ?_
   refine T.seq ?_
   refine T.region ?_
   refine TL.c (Step.load_box_agg (n := 5) (qs := [cI l.f0, cI l.f1, cI l.f2, cI l.f3, cI l.f4]) rfl rfl (lt_ok rfl) (by kernel_rfl) rfl rfl rfl rfl) ?_
   refine TL.c (Step.cl (xs := [.tmp 55]) (ps := [(.agg [cI l.f0, cI l.f1, cI l.f2, cI l.f3, cI l.f4])]) (g := .func 146) false (.cons (.agg (.cons (.d _) (.cons (.d _) (.cons (.d _) (.cons (.d _) (.cons (.d _) .nil)))))) .nil) (ok_impl_LimitsOk l)) ?_
   refine TL.mv (pB (limOk l)) ?_
   rcases Bool.eq_false_or_eq_true (limOk l) with hb13 | hb13
   ·
    refine TL.known 57 hb13 rfl ?_
    refine TL.gy 57 (Step.fieldAddr (q := 0) (off := 0) (n := 1) (one := true) rfl rfl (lt_ok rfl) (by kernel_rfl) (Nat.succ_ne_zero _) rfl) ?_
    refine TL.gy 57 (Step.load_box (c := cI t.f0) rfl rfl (lt_ok rfl) (by kernel_rfl) rfl rfl rfl) ?_
    refine TL.gy 57 (Step.cl (xs := [.tmp 59]) (ps := [(pI t.f0)]) (g := .func 147) false (.cons (.one (.d _)) .nil) (ok_impl_isNum t.f0)) ?_
    refine TL.pk true (pB (decide (0 ≤ t.f0 ∧ t.f0 ≤ 1152921504606846975))) ?_
    refine TL.mv (pB (decide (0 ≤ t.f0 ∧ t.f0 ≤ 1152921504606846975))) ?_
    rcases Bool.eq_false_or_eq_true (decide (0 ≤ t.f0 ∧ t.f0 ≤ 1152921504606846975)) with hb14 | hb14
    ·
     refine TL.known 62 hb14 rfl ?_
     have hb14' := hb14
     replace hb14' := of_decide_eq_true hb14'
     refine TL.gy 62 (Step.fieldAddr (q := 0) (off := 1) (n := 1) (one := true) rfl rfl (lt_ok rfl) (by kernel_rfl) (Nat.succ_ne_zero _) rfl) ?_
     refine TL.gy 62 (Step.load_box (c := .d (.sl 3 (t.f1.map SEntry.cells))) rfl rfl (lt_ok rfl) (by kernel_rfl) rfl rfl rfl) ?_
     refine TL.gy 62 (Step.len' (e := 121) (z := 3) (d := (.sl 3 (t.f1.map SEntry.cells))) (n := t.f1.length) rfl rfl (lt_ok rfl) (by kernel_rfl) rfl rfl (by simp [D.size])) ?_
     refine TL.gy 62 (Step.fieldAddr (q := 0) (off := 0) (n := 1) (one := true) rfl rfl (lt_ok rfl) (by kernel_rfl) (Nat.succ_ne_zero _) rfl) ?_
     refine TL.gy 62 (Step.load_box (c := cI l.f0) rfl rfl (lt_ok rfl) (by kernel_rfl) rfl rfl rfl) ?_
     refine TL.gy 62 (Step.bin rfl rfl (lt_ok rfl) rfl rfl (Bin.leq (k := .i64) (a := (t.f1.length : Int)) (b := l.f0))) ?_
     refine TL.pk true (pB (decide ((t.f1.length : Int) ≤ l.f0))) ?_
     refine TL.as (pB (decide ((t.f1.length : Int) ≤ l.f0))) ?_
     refine TL.nil ?_
     refine T.ret ?_
     refine ⟨[(false, [.d (.bool (decide ((t.f1.length : Int) ≤ l.f0)))])], (.cons rfl .nil), rfl, [], (RetC.rd' ?_ .nil)⟩ <;> ((congr 1; symm; first | (rw [tcOk_no (i := i) (by omega) (tcEnt_no (by (try simp only [hashes, List.all_cons, List.all_nil, Bool.and_true] at *); (try simp only [decide_eq_true_eq, decide_eq_false_iff_not, Bool.not_eq_true', Bool.not_eq_false'] at *); (try (have hw2_ := hw_ (by omega) (by omega))); omega))]; done) | (unfold tcOk; rw [show tcAll l t t.f1.length = true from by rw [show t.f1.length = i from by omega]; exact hx2, decide_eq_true (p := (t.f1.length : Int) ≤ l.f0) (by omega), decide_eq_true (p := (0 ≤ t.f0 ∧ t.f0 ≤ 1152921504606846975)) (by omega)]; simp only [*, Bool.and_true, Bool.true_and, Bool.and_false, Bool.false_and, decide_true, decide_false, and_true, true_and, and_self, and_false, false_and, Bool.and_self, not_true, not_false, Bool.not_true, Bool.not_false, ge_iff_le, gt_iff_lt, if_true, if_false, Bool.false_eq_true, ite_true, ite_false, reduceIte]; done) | (unfold tcOk; rw [show tcAll l t t.f1.length = true from by rw [show t.f1.length = i from by omega]; exact hx2, decide_eq_true (p := (0 ≤ t.f0 ∧ t.f0 ≤ 1152921504606846975)) (by omega)]; simp only [*, Bool.and_true, Bool.true_and, Bool.and_false, Bool.false_and, decide_true, decide_false, and_true, true_and, and_self, and_false, false_and, Bool.and_self, not_true, not_false, Bool.not_true, Bool.not_false, ge_iff_le, gt_iff_lt, if_true, if_false, Bool.false_eq_true, ite_true, ite_false, reduceIte]; done) | (unfold tcOk; simp only [*, Bool.and_true, Bool.true_and, Bool.and_false, Bool.false_and, decide_true, decide_false, and_true, true_and, and_self, and_false, false_and, Bool.and_self, not_true, not_false, Bool.not_true, Bool.not_false, ge_iff_le, gt_iff_lt, if_true, if_false, Bool.false_eq_true, ite_true, ite_false, reduceIte]; done) | (unfold tcOk; rw [decide_eq_false (p := (t.f1.length : Int) ≤ l.f0) (by omega)]; simp; done)))
    ·
     refine TL.known 62 hb14 rfl ?_
     have hb14' := hb14
     replace hb14' := of_decide_eq_false hb14'
     refine TL.gf 62 ?_
     refine TL.gf 62 ?_
     refine TL.gf 62 ?_
     refine TL.gf 62 ?_
     refine TL.gf 62 ?_
     refine TL.gf 62 ?_
     refine TL.pk false (pB false) ?_
     refine TL.as (pB false) ?_
     refine TL.nil ?_
     refine T.ret ?_
     refine ⟨[(false, [.d (.bool false)])], (.cons rfl .nil), rfl, [], (RetC.rd' ?_ .nil)⟩ <;> ((congr 1; symm; first | (rw [tcOk_no (i := i) (by omega) (tcEnt_no (by (try simp only [hashes, List.all_cons, List.all_nil, Bool.and_true] at *); (try simp only [decide_eq_true_eq, decide_eq_false_iff_not, Bool.not_eq_true', Bool.not_eq_false'] at *); (try (have hw2_ := hw_ (by omega) (by omega))); omega))]; done) | (unfold tcOk; rw [show tcAll l t t.f1.length = true from by rw [show t.f1.length = i from by omega]; exact hx2, decide_eq_true (p := (t.f1.length : Int) ≤ l.f0) (by omega), decide_eq_true (p := (0 ≤ t.f0 ∧ t.f0 ≤ 1152921504606846975)) (by omega)]; simp only [*, Bool.and_true, Bool.true_and, Bool.and_false, Bool.false_and, decide_true, decide_false, and_true, true_and, and_self, and_false, false_and, Bool.and_self, not_true, not_false, Bool.not_true, Bool.not_false, ge_iff_le, gt_iff_lt, if_true, if_false, Bool.false_eq_true, ite_true, ite_false, reduceIte]; done) | (unfold tcOk; rw [show tcAll l t t.f1.length = true from by rw [show t.f1.length = i from by omega]; exact hx2, decide_eq_true (p := (0 ≤ t.f0 ∧ t.f0 ≤ 1152921504606846975)) (by omega)]; simp only [*, Bool.and_true, Bool.true_and, Bool.and_false, Bool.false_and, decide_true, decide_false, and_true, true_and, and_self, and_false, false_and, Bool.and_self, not_true, not_false, Bool.not_true, Bool.not_false, ge_iff_le, gt_iff_lt, if_true, if_false, Bool.false_eq_true, ite_true, ite_false, reduceIte]; done) | (unfold tcOk; simp only [*, Bool.and_true, Bool.true_and, Bool.and_false, Bool.false_and, decide_true, decide_false, and_true, true_and, and_self, and_false, false_and, Bool.and_self, not_true, not_false, Bool.not_true, Bool.not_false, ge_iff_le, gt_iff_lt, if_true, if_false, Bool.false_eq_true, ite_true, ite_false, reduceIte]; done) | (unfold tcOk; rw [decide_eq_false (p := (t.f1.length : Int) ≤ l.f0) (by omega)]; simp; done)))
   ·
    refine TL.known 57 hb13 rfl ?_
    refine TL.gf 57 ?_
    refine TL.gf 57 ?_
    refine TL.gf 57 ?_
    refine TL.pk false (pB false) ?_
    refine TL.mv (pB false) ?_
    refine TL.gf 62 ?_
    refine TL.gf 62 ?_
    refine TL.gf 62 ?_
    refine TL.gf 62 ?_
    refine TL.gf 62 ?_
    refine TL.gf 62 ?_
    refine TL.pk false (pB false) ?_
    refine TL.as (pB false) ?_
    refine TL.nil ?_
    refine T.ret ?_
    refine ⟨[(false, [.d (.bool false)])], (.cons rfl .nil), rfl, [], (RetC.rd' ?_ .nil)⟩ <;> ((congr 1; symm; first | (rw [tcOk_no (i := i) (by omega) (tcEnt_no (by (try simp only [hashes, List.all_cons, List.all_nil, Bool.and_true] at *); (try simp only [decide_eq_true_eq, decide_eq_false_iff_not, Bool.not_eq_true', Bool.not_eq_false'] at *); (try (have hw2_ := hw_ (by omega) (by omega))); omega))]; done) | (unfold tcOk; rw [show tcAll l t t.f1.length = true from by rw [show t.f1.length = i from by omega]; exact hx2, decide_eq_true (p := (t.f1.length : Int) ≤ l.f0) (by omega), decide_eq_true (p := (0 ≤ t.f0 ∧ t.f0 ≤ 1152921504606846975)) (by omega)]; simp only [*, Bool.and_true, Bool.true_and, Bool.and_false, Bool.false_and, decide_true, decide_false, and_true, true_and, and_self, and_false, false_and, Bool.and_self, not_true, not_false, Bool.not_true, Bool.not_false, ge_iff_le, gt_iff_lt, if_true, if_false, Bool.false_eq_true, ite_true, ite_false, reduceIte]; done) | (unfold tcOk; rw [show tcAll l t t.f1.length = true from by rw [show t.f1.length = i from by omega]; exact hx2, decide_eq_true (p := (0 ≤ t.f0 ∧ t.f0 ≤ 1152921504606846975)) (by omega)]; simp only [*, Bool.and_true, Bool.true_and, Bool.and_false, Bool.false_and, decide_true, decide_false, and_true, true_and, and_self, and_false, false_and, Bool.and_self, not_true, not_false, Bool.not_true, Bool.not_false, ge_iff_le, gt_iff_lt, if_true, if_false, Bool.false_eq_true, ite_true, ite_false, reduceIte]; done) | (unfold tcOk; simp only [*, Bool.and_true, Bool.true_and, Bool.and_false, Bool.false_and, decide_true, decide_false, and_true, true_and, and_self, and_false, false_and, Bool.and_self, not_true, not_false, Bool.not_true, Bool.not_false, ge_iff_le, gt_iff_lt, if_true, if_false, Bool.false_eq_true, ite_true, ite_false, reduceIte]; done) | (unfold tcOk; rw [decide_eq_false (p := (t.f1.length : Int) ≤ l.f0) (by omega)]; simp; done)))
theorem ok_impl_BitsSize (n : Int) (h0_ : n ≤ 9223372036854775807) : RO Try.prog 174 [.one (.int .i64 n)] [(false, [.rd (.int .i64 (bitsSize n))])] := by
 refine RO.intro Try.func174 rfl 9 rfl (le_ok rfl) fun w Z => ?_
 refine T.seq ?_
 refine T.region ?_
 refine TL.as (pI 0) ?_
 refine TL.nil ?_
 refine T.seq ?_
 refine T.seq ?_
 refine T.region ?_
 refine TL.mv (pI n) ?_
 refine TL.c (Step.bin rfl rfl (lt_ok rfl) rfl rfl (Bin.lss (k := .i64) (a := n) (b := 1))) ?_
 refine TL.nil ?_
 refine T.cond (b := decide (n < 1)) rfl (fun h1 => ?_) (fun h1 => ?_)
 ·
  replace h1 := of_decide_eq_true h1
  refine T.seq ?_
  refine T.region ?_
  refine TL.as (pI 0) ?_
  refine TL.nil ?_
  refine T.ret ?_
  refine ⟨[(false, [cI 0])], (.cons rfl .nil), rfl, [], (RetC.rd' ?_ .nil)⟩ <;> ((congr 1; unfold bitsSize; first | rw [if_pos (by omega)] | (rw [if_neg (by omega)]; done) | (rw [if_neg (by omega)]; omega)))
 ·
  replace h1 := of_decide_eq_false h1
  refine T.skip ?_
  refine T.seq ?_
  refine T.region ?_
  refine TL.mv (pI n) ?_
  refine TL.c (Step.bin (r := .int .i64 (n - 1)) rfl rfl (lt_ok rfl) rfl rfl (Bin.sub (a := n) (b := 1) (by first | exact wrap_ok (by first | omega | (simp; omega)) (by first | omega | (simp; omega)) | rfl))) ?_
  refine TL.c (Step.bin (r := .int .i64 ((n - 1) / 8)) rfl rfl (lt_ok rfl) rfl rfl (Bin.quo (k := .i64) (a := (n - 1)) (b := 8) (by decide) (by rw [Int.tdiv_eq_ediv_of_nonneg (by first | omega | (simp; omega))]; exact wrap_ok (by first | omega | (simp; omega)) (by first | omega | (simp; omega))))) ?_
  refine TL.c (Step.bin (r := .int .i64 (((n - 1) / 8) + 1)) rfl rfl (lt_ok rfl) rfl rfl (Bin.add (a := ((n - 1) / 8)) (b := 1) (by first | exact wrap_ok (by first | omega | (simp; omega)) (by first | omega | (simp; omega)) | rfl))) ?_
  refine TL.as (pI (((n - 1) / 8) + 1)) ?_
  refine TL.nil ?_
  refine T.ret ?_
  refine ⟨[(false, [cI (((n - 1) / 8) + 1)])], (.cons rfl .nil), rfl, [], (RetC.rd' ?_ .nil)⟩ <;> ((congr 1; unfold bitsSize; first | rw [if_pos (by omega)] | (rw [if_neg (by omega)]; done) | (rw [if_neg (by omega)]; omega)))
theorem ok_impl_BitsNew (n : Int) (h0_ : n ≤ 9223372036854775807) : RO Try.prog 148 [.one (.int .i64 n)] [(false, [.own 5 (.ints .u8 (bitsOf [] n))])] := by
 refine RO.intro Try.func148 rfl 9 rfl (le_ok rfl) fun w Z => ?_
 have hz_ : (1 ≤ n ∧ n ≤ 10) → bitsSize n = (n - 1) / 8 + 1 := fun h => by unfold bitsSize; rw [if_neg (by omega)]
 refine T.seq ?_
 refine T.region ?_
 refine TL.as (.one (.nil)) ?_
 refine TL.nil ?_
 refine T.seq ?_
 refine T.seq ?_
 refine T.region ?_
 refine TL.mv (pI n) ?_
 refine TL.c (Step.cl (xs := [.tmp 3, .const (.int .i64 1), .const (.int .i64 10)]) (ps := [(pI n), (pI 1), (pI 10)]) (g := .func 144) false (.cons (.one (.d _)) (.cons (.one (.d _)) (.cons (.one (.d _)) .nil))) (ok_impl_within n 1 10)) ?_
 refine TL.c (Step.not (b := (decide (1 ≤ n ∧ n ≤ 10))) rfl rfl (lt_ok rfl) rfl) ?_
 refine TL.nil ?_
 refine T.cond (b := !(decide (1 ≤ n ∧ n ≤ 10))) rfl (fun h1 => ?_) (fun h1 => ?_)
 ·
  replace h1 : (decide (1 ≤ n ∧ n ≤ 10)) = false := by simpa only [Bool.not_eq_true', Bool.not_eq_false'] using h1
  replace h1 := of_decide_eq_false h1
  refine T.seq ?_
  refine T.region ?_
  refine TL.as (.one (.nil)) ?_
  refine TL.nil ?_
  refine T.ret ?_
  refine ⟨[(false, [.nil])], (.cons rfl .nil), rfl, [], (RetC.nilown' rfl ?_ (by first | exact trivial | exact D.wf_nil _) .nil)⟩ <;> (first | (congr 1; rw [bitsOf_yes (bitsOfOk_in (l := []) (n := n) (by omega) rfl)]; rfl) | (simp only [D.size]; rw [bitsOf_no (bitsOfOk_out (l := []) (n := n) (by omega))]; rfl))
 ·
  replace h1 : (decide (1 ≤ n ∧ n ≤ 10)) = true := by simpa only [Bool.not_eq_true', Bool.not_eq_false'] using h1
  replace h1 := of_decide_eq_true h1
  refine T.skip ?_
  refine T.seq ?_
  refine T.region ?_
  refine TL.mv (pI n) ?_
  refine TL.c (Step.cl (xs := [.tmp 6]) (ps := [(pI n)]) (g := .func 174) false (.cons (.one (.d _)) .nil) (ok_impl_BitsSize n (by first | omega | assumption | (simp only [List.length_append] at *; omega)))) ?_
  refine TL.c (Step.make (e := 5) (z := 1) (by_ := 1) (n := (bitsSize n)) (zs := [.int .u8 0]) (zd := [.int .u8 0]) (d := (.ints .u8 (List.replicate (bitsSize n).toNat 0))) rfl rfl (lt_ok rfl) (by kernel_rfl) (lt_ok rfl) rfl (by first | omega | (have := hz_ (by omega); omega) | (simp; omega)) (by first | omega | (have := hz_ (by omega); omega) | (simp; omega)) (by first | omega | (have := hz_ (by omega); omega) | (simp; omega)) (by kernel_rfl) (.val rfl .nil) rfl (by simp) (by simp [D.flat, List.flatten_replicate_singleton]) (by simp [D.size]) rfl trivial) ?_
  refine TL.as (.one (.row 8 [])) ?_
  refine TL.nil ?_
  refine T.ret ?_
  refine ⟨[(false, [.row 8 []])], (.cons rfl .nil), rfl, [8], (RetC.own' rfl ?_ rfl .nil)⟩ <;> (first | (congr 1; rw [bitsOf_yes (bitsOfOk_in (l := []) (n := n) (by omega) rfl)]; rfl) | (simp only [D.size]; rw [bitsOf_no (bitsOfOk_out (l := []) (n := n) (by omega))]; rfl))
theorem ok_impl_BitsOf (l : List Int) (n : Int) (h0_ : n ≤ 9223372036854775807) : RO Try.prog 91 [.one (.ints .i64 l), .one (.int .i64 n)] [(false, [.own 5 (.ints .u8 (bitsOf l n))]), (false, [.rd (.bool (bitsOfOk l n))])] := by
 refine RO.intro Try.func91 rfl 37 rfl (le_ok rfl) fun w Z => ?_
 refine T.bnd 0 0 rfl rfl fun hb_0_0 => ?_
 simp only [D.size, List.length_map] at hb_0_0
 have hz_ : (1 ≤ n ∧ n ≤ 10) → bitsSize n = (n - 1) / 8 + 1 := fun h => by unfold bitsSize; rw [if_neg (by omega)]
 refine T.seq ?_
 refine T.region ?_
 refine TL.as (.one (.nil)) ?_
 refine TL.as (pB false) ?_
 refine TL.nil ?_
 refine T.seq ?_
 refine T.seq ?_
 refine T.region ?_
 refine TL.mv (pI n) ?_
 refine TL.c (Step.cl (xs := [.tmp 9, .const (.int .i64 1), .const (.int .i64 10)]) (ps := [(pI n), (pI 1), (pI 10)]) (g := .func 144) false (.cons (.one (.d _)) (.cons (.one (.d _)) (.cons (.one (.d _)) .nil))) (ok_impl_within n 1 10)) ?_
 refine TL.c (Step.not (b := (decide (1 ≤ n ∧ n ≤ 10))) rfl rfl (lt_ok rfl) rfl) ?_
 refine TL.nil ?_
 refine T.cond (b := !(decide (1 ≤ n ∧ n ≤ 10))) rfl (fun h1 => ?_) (fun h1 => ?_)
 ·
  replace h1 : (decide (1 ≤ n ∧ n ≤ 10)) = false := by simpa only [Bool.not_eq_true', Bool.not_eq_false'] using h1
  replace h1 := of_decide_eq_false h1
  refine T.seq ?_
  refine T.region ?_
  refine TL.as (.one (.nil)) ?_
  refine TL.as (pB false) ?_
  refine TL.nil ?_
  refine T.ret ?_
  refine ⟨[(false, [.nil]), (false, [.d (.bool false)])], (.cons rfl (.cons rfl .nil)), rfl, [], (RetC.nilown' rfl ?_ (by first | exact trivial | exact D.wf_nil _) (RetC.rd' ?_ .nil))⟩ <;> (first | (congr 1; rw [bitsOf_yes (bitsOfOk_in (l := l) (n := n) (by omega) ((bitsOf_all (l := l) (n := n) (i := i) (by omega)).2.2.1.symm.trans hx2)), ← (bitsOf_all (l := l) (n := n) (i := i) (by omega)).2.2.2]; done) | (simp only [D.size]; first | (rw [bitsOf_no (bitsOfOk_out (l := l) (n := n) (by omega))]; rfl) | (rw [bitsOf_no (bitsOfOk_no (signers_no (l := l) (n := n) (i := i) (by omega) (by omega)))]; rfl)) | (congr 1; symm; first | exact bitsOfOk_out (l := l) (n := n) (by omega) | exact bitsOfOk_no (signers_no (l := l) (n := n) (i := i) (by omega) (by omega)) | exact bitsOfOk_in (l := l) (n := n) (by omega) ((bitsOf_all (l := l) (n := n) (i := i) (by omega)).2.2.1.symm.trans hx2)))
 ·
  replace h1 : (decide (1 ≤ n ∧ n ≤ 10)) = true := by simpa only [Bool.not_eq_true', Bool.not_eq_false'] using h1
  replace h1 := of_decide_eq_true h1
  refine T.skip ?_
  refine T.seq ?_
  refine T.region ?_
  refine TL.mv (pI n) ?_
  have nn2 := bitsOf_len [] n
  refine TL.c (Step.cl (xs := [.tmp 12]) (ps := [(pI n)]) (g := .func 148) false (.cons (.one (.d _)) .nil) (ok_impl_BitsNew n (by first | omega | assumption | (simp only [List.length_append] at *; omega)))) ?_
  refine TL.as (.one (.row 1013 [])) ?_
  refine TL.nil ?_
  refine T.seq ?_
  refine T.seq ?_
  refine T.region ?_
  refine TL.mv (.one (.d (.ints .i64 l))) ?_
  refine TL.c (Step.len (e := 3) (z := 1) (d := (.ints .i64 l)) rfl rfl (lt_ok rfl) (by kernel_rfl) rfl rfl) ?_
  refine TL.mv (pI 0) ?_
  refine TL.nil ?_
  refine T.block ?_
  refine T.loop (ι := Nat) (fun xx_ => { tm := [(1, (pI n)), (6, (.one (.row 1013 []))), (14, (.one (.d (.ints .i64 l)))), (15, (pI (l.length : Int))), (16, (pI (xx_ : Int)))], rows := [(1013, (5, (.ints .u8 (putBits n (l.take xx_)))))], boxes := [] }) (fun xx_ => xx_ ≤ l.length ∧ signersOk (l.take xx_) n = true) (fun xx_ => l.length - xx_) 0 ?_ ?_ ?_
  · refine Env.le_mk ⟨rfl, rfl, rfl, rfl, ?_, trivial⟩ ⟨?_, trivial⟩ trivial <;> (first | (refine congrArg (fun x => some (_, D.ints .u8 x)) ?_; first | exact or8_step (by omega) (by omega) | exact bitsOf_nil (by omega) l) | rfl | (refine congrArg (fun n => PV.one (.d (.int .i64 n))) ?_; first | rfl | omega | (simp; done)))
  · exact ⟨Nat.zero_le _, by rw [List.take_zero]; rfl⟩
  ·
   intro i hx
   try dsimp only at hx ⊢
   obtain ⟨hx1, hx2⟩ := hx
   have hl_ := putBits_len n (l.take i)
   have hz2_ := hz_ (by omega)
   refine T.seq ?_
   refine T.region ?_
   refine TL.c (Step.bin rfl rfl (lt_ok rfl) rfl rfl (Bin.lss (k := .i64) (a := (i : Int)) (b := (l.length : Int)))) ?_
   refine TL.nil ?_
   refine T.seq ?_
   refine T.cond (b := decide ((i : Int) < (l.length : Int))) rfl (fun h3 => ?_) (fun h3 => ?_)
   ·
    replace h3 := of_decide_eq_true h3
    refine T.skip ?_
    refine T.seq ?_
    refine T.block ?_
    refine T.seq ?_
    refine T.region ?_
    refine TL.c (Step.index (e := 3) (z := 1) (i := (i : Int)) rfl rfl (lt_ok rfl) (by kernel_rfl) rfl rfl rfl (lt_ok rfl) rfl (by first | omega | (simp; omega)) (by simp only [D.size]; first | omega | (simp; omega))) ?_
    refine TL.c (Step.load (e := (.int .i64 (l.getD i 0))) rfl rfl (lt_ok rfl) (by kernel_rfl) rfl rfl) ?_
    refine TL.as (pI (l.getD i 0)) ?_
    refine TL.nil ?_
    refine T.seq ?_
    refine T.seq ?_
    refine T.region ?_
    refine TL.mv (pI (l.getD i 0)) ?_
    refine TL.mv (pI n) ?_
    refine TL.c (Step.bin (r := .int .i64 (n - 1)) rfl rfl (lt_ok rfl) rfl rfl (Bin.sub (a := n) (b := 1) (by first | exact wrap_ok (by first | omega | (simp; omega)) (by first | omega | (simp; omega)) | rfl))) ?_
    refine TL.c (Step.cl (xs := [.tmp 20, .const (.int .i64 0), .tmp 22]) (ps := [(pI (l.getD i 0)), (pI 0), (pI (n - 1))]) (g := .func 144) false (.cons (.one (.d _)) (.cons (.one (.d _)) (.cons (.one (.d _)) .nil))) (ok_impl_within (l.getD i 0) 0 (n - 1))) ?_
    refine TL.c (Step.not (b := (decide (0 ≤ (l.getD i 0) ∧ (l.getD i 0) ≤ (n - 1)))) rfl rfl (lt_ok rfl) rfl) ?_
    refine TL.nil ?_
    refine T.cond (b := !(decide (0 ≤ (l.getD i 0) ∧ (l.getD i 0) ≤ (n - 1)))) rfl (fun h4 => ?_) (fun h4 => ?_)
    ·
     replace h4 : (decide (0 ≤ (l.getD i 0) ∧ (l.getD i 0) ≤ (n - 1))) = false := by simpa only [Bool.not_eq_true', Bool.not_eq_false'] using h4
     replace h4 := of_decide_eq_false h4
     refine T.seq ?_
     refine T.region ?_
     refine TL.as (.one (.nil)) ?_
     refine TL.as (pB false) ?_
     refine TL.nil ?_
     refine T.ret ?_
     refine ⟨[(false, [.nil]), (false, [.d (.bool false)])], (.cons rfl (.cons rfl .nil)), rfl, [], (RetC.nilown' rfl ?_ (by first | exact trivial | exact D.wf_nil _) (RetC.rd' ?_ .nil))⟩ <;> (first | (congr 1; rw [bitsOf_yes (bitsOfOk_in (l := l) (n := n) (by omega) ((bitsOf_all (l := l) (n := n) (i := i) (by omega)).2.2.1.symm.trans hx2)), ← (bitsOf_all (l := l) (n := n) (i := i) (by omega)).2.2.2]; done) | (simp only [D.size]; first | (rw [bitsOf_no (bitsOfOk_out (l := l) (n := n) (by omega))]; rfl) | (rw [bitsOf_no (bitsOfOk_no (signers_no (l := l) (n := n) (i := i) (by omega) (by omega)))]; rfl)) | (congr 1; symm; first | exact bitsOfOk_out (l := l) (n := n) (by omega) | exact bitsOfOk_no (signers_no (l := l) (n := n) (i := i) (by omega) (by omega)) | exact bitsOfOk_in (l := l) (n := n) (by omega) ((bitsOf_all (l := l) (n := n) (i := i) (by omega)).2.2.1.symm.trans hx2)))
    ·
     replace h4 : (decide (0 ≤ (l.getD i 0) ∧ (l.getD i 0) ≤ (n - 1))) = true := by simpa only [Bool.not_eq_true', Bool.not_eq_false'] using h4
     replace h4 := of_decide_eq_true h4
     refine T.skip ?_
     refine T.draw [⟨25, (.one (.row 1013 [])), []⟩, ⟨26, (pI (l.getD i 0)), []⟩, ⟨27, (pI ((l.getD i 0) / 8)), []⟩, ⟨28, (.one (.rptr 1013 [] ((l.getD i 0) / 8).toNat 0)), []⟩, ⟨29, (.one (.d (.int .u8 ((putBits n (l.take i)).getD ((l.getD i 0) / 8).toNat 0)))), []⟩, ⟨30, (pI (l.getD i 0)), []⟩, ⟨31, (pI ((l.getD i 0) % 8)), []⟩, ⟨32, (.one (.d (.int .u8 (shl8 1 ((l.getD i 0) % 8))))), []⟩, ⟨33, (.one (.d (.int .u8 (or8 ((putBits n (l.take i)).getD ((l.getD i 0) / 8).toNat 0) (shl8 1 ((l.getD i 0) % 8)))))), []⟩, ⟨34, (.one (.rptr 1013 [] ((l.getD i 0) / 8).toNat 0)), []⟩] (by kernel_rfl) (by kernel_rfl) ?_ ?_
     ·
      refine .cons (fun E A => A.mv 6 25) ?_
      refine .cons (fun E A => A.mv 8 26) ?_
      refine .cons (fun E A => OpStep.plain rfl (Step.bd (r := .int .i64 ((l.getD i 0) / 8)) 27 (A.g 26 rfl) rfl (Bin.quo (k := .i64) (a := (l.getD i 0)) (b := 8) (by decide) (by rw [Int.tdiv_eq_ediv_of_nonneg (by first | omega | (simp; omega))]; exact wrap_ok (by first | omega | (simp; omega)) (by first | omega | (simp; omega)))))) ?_
      refine .cons (fun E A => OpStep.plain rfl (Step.index_row (e := 5) (z := 1) (i := ((l.getD i 0) / 8)) (t := 28) rfl rfl (by exact lt_ok rfl) (by kernel_rfl) (A.g 25 rfl) (by exact (A.row 1013 (by kernel_rfl)).trans rfl) rfl rfl (lt_ok rfl) (A.g 27 rfl) (by first | omega | (simp; omega)) (by simp only [D.at_, D.cell, D.size]; first | omega | (simp; omega)))) ?_
      refine .cons (fun E A => OpStep.plain rfl (Step.load_row (c := .d (.int .u8 ((putBits n (l.take i)).getD ((l.getD i 0) / 8).toNat 0))) (t := 29) rfl rfl (by exact lt_ok rfl) (by kernel_rfl) (A.g 28 rfl) (by exact (A.row 1013 (by kernel_rfl)).trans rfl) rfl)) ?_
      refine .cons (fun E A => A.mv 8 30) ?_
      refine .cons (fun E A => OpStep.plain rfl (Step.bd (r := .int .i64 ((l.getD i 0) % 8)) 31 (A.g 30 rfl) rfl (Bin.rem (k := .i64) (a := (l.getD i 0)) (b := 8) (by decide) (Int.tmod_eq_emod_of_nonneg (by first | omega | (simp; omega)))))) ?_
      refine .cons (fun E A => OpStep.plain rfl (Step.bd (r := .int .u8 (shl8 1 ((l.getD i 0) % 8))) 32 rfl (A.g 31 rfl) (Bin.shl (k := .u8) (k' := .i64) (a := 1) (b := ((l.getD i 0) % 8)) (by first | omega | (simp; omega)) (rfl)))) ?_
      refine .cons (fun E A => OpStep.plain rfl (Step.bd (r := .int .u8 (or8 ((putBits n (l.take i)).getD ((l.getD i 0) / 8).toNat 0) (shl8 1 ((l.getD i 0) % 8)))) 33 (A.g 29 rfl) (A.g 32 rfl) (Bin.or (k := .u8) (a := ((putBits n (l.take i)).getD ((l.getD i 0) / 8).toNat 0)) (b := (shl8 1 ((l.getD i 0) % 8))) (rfl)))) ?_
      refine .cons (fun E A => OpStep.plain rfl (Step.index_row (e := 5) (z := 1) (i := ((l.getD i 0) / 8)) (t := 34) rfl rfl (by exact lt_ok rfl) (by kernel_rfl) (A.g 25 rfl) (by exact (A.row 1013 (by kernel_rfl)).trans rfl) rfl rfl (lt_ok rfl) (A.g 27 rfl) (by first | omega | (simp; omega)) (by simp only [D.at_, D.cell, D.size]; first | omega | (simp; omega)))) ?_
      exact .nil _ _
     refine TL.c (Step.store_row (n := 1) (p := (.one (.d (.int .u8 (or8 ((putBits n (l.take i)).getD ((l.getD i 0) / 8).toNat 0) (shl8 1 ((l.getD i 0) % 8))))))) (ps := [.d (.int .u8 (or8 ((putBits n (l.take i)).getD ((l.getD i 0) / 8).toNat 0) (shl8 1 ((l.getD i 0) % 8))))]) (es := [(.int .u8 (or8 ((putBits n (l.take i)).getD ((l.getD i 0) / 8).toNat 0) (shl8 1 ((l.getD i 0) % 8))))]) (ss := []) (d1 := (.ints .u8 ((putBits n (l.take i)).set ((l.getD i 0) / 8).toNat (or8 ((putBits n (l.take i)).getD ((l.getD i 0) / 8).toNat 0) (shl8 1 ((l.getD i 0) % 8)))))) (d' := (.ints .u8 ((putBits n (l.take i)).set ((l.getD i 0) / 8).toNat (or8 ((putBits n (l.take i)).getD ((l.getD i 0) / 8).toNat 0) (shl8 1 ((l.getD i 0) % 8)))))) rfl rfl (by kernel_rfl) rfl rfl rfl rfl rfl rfl (.val rfl .nil) (by simp) (Putd.one rfl trivial rfl (by simp only [D.at_, D.size, List.length_set, upTo_length]; first | omega | (simp; omega)) (lt_ok rfl)) rfl) ?_
     refine TL.nil ?_
     refine T.region ?_
     refine TL.c (Step.bin (r := .int .i64 ((i : Int) + 1)) rfl rfl (lt_ok rfl) rfl rfl (Bin.add (a := (i : Int)) (b := 1) (by first | exact wrap_ok (by first | omega | (simp; omega)) (by first | omega | (simp; omega)) | rfl))) ?_
     refine TL.mv (pI ((i : Int) + 1)) ?_
     refine TL.nil ?_
     refine ⟨i + 1, by (refine ⟨by omega, signers_step (by omega) hx2 (by omega)⟩), by first | omega | (dsimp only; omega), Env.le_mk ⟨rfl, rfl, rfl, rfl, ?_, trivial⟩ ⟨?_, trivial⟩ trivial⟩ <;> (first | (refine congrArg (fun x => some (_, D.ints .u8 x)) ?_; first | exact or8_step (by omega) (by omega) | exact bitsOf_nil (by omega) l) | rfl | (refine congrArg (fun n => PV.one (.d (.int .i64 n))) ?_; first | rfl | omega | (simp; done)))
   ·
    replace h3 := of_decide_eq_false h3
    refine T.exit ?_
    refine T.seq ?_
    refine T.region ?_
    refine TL.mv (.one (.row 1013 [])) ?_
    refine TL.as (.one (.row 1013 [])) ?_
    refine TL.as (pB true) ?_
    refine TL.nil ?_
    refine T.ret ?_
    refine ⟨[(false, [.row 1013 []]), (false, [.d (.bool true)])], (.cons rfl (.cons rfl .nil)), rfl, [1013], (RetC.own' rfl ?_ rfl (RetC.rd' ?_ .nil))⟩ <;> (first | (congr 1; rw [bitsOf_yes (bitsOfOk_in (l := l) (n := n) (by omega) ((bitsOf_all (l := l) (n := n) (i := i) (by omega)).2.2.1.symm.trans hx2)), ← (bitsOf_all (l := l) (n := n) (i := i) (by omega)).2.2.2]; done) | (simp only [D.size]; first | (rw [bitsOf_no (bitsOfOk_out (l := l) (n := n) (by omega))]; rfl) | (rw [bitsOf_no (bitsOfOk_no (signers_no (l := l) (n := n) (i := i) (by omega) (by omega)))]; rfl)) | (congr 1; symm; first | exact bitsOfOk_out (l := l) (n := n) (by omega) | exact bitsOfOk_no (signers_no (l := l) (n := n) (i := i) (by omega) (by omega)) | exact bitsOfOk_in (l := l) (n := n) (by omega) ((bitsOf_all (l := l) (n := n) (i := i) (by omega)).2.2.1.symm.trans hx2)))
theorem ok_impl_TcBits (l : SLimits) (t : STc) (h0_ : t.sm) (h1_ : I64 l.f0) : RO Try.prog 28 [.agg l.cells, .agg t.cells] [(false, [.own 5 (.ints .u8 (tcBits l t))]), (false, [.rd (.bool (tcOk l t && bitsOfOk (whos t.f1) l.f0))])] := by
 refine RO.intro Try.func28 rfl 33 rfl (le_ok rfl) fun w Z => ?_
 refine T.bnd 1 1 rfl rfl fun hb_1_1 => ?_
 simp only [D.size, List.length_map] at hb_1_1
 have s0_ : t.f1.length ≤ 1048576 := h0_.1
 have hi_ := h1_
 unfold I64 at hi_
 refine T.seq ?_
 refine T.region ?_
 refine TL.c (Step.box (p := (.agg [cI l.f0, cI l.f1, cI l.f2, cI l.f3, cI l.f4])) (ps := [cI l.f0, cI l.f1, cI l.f2, cI l.f3, cI l.f4]) rfl rfl (lt_ok rfl) rfl rfl rfl rfl rfl) ?_
 refine TL.c (Step.box (p := (.agg [cI t.f0, .d (.sl 3 (t.f1.map SEntry.cells))])) (ps := [cI t.f0, .d (.sl 3 (t.f1.map SEntry.cells))]) rfl rfl (lt_ok rfl) rfl rfl rfl rfl rfl) ?_
 refine TL.as (.one (.nil)) ?_
 refine TL.as (pB false) ?_
 refine TL.nil ?_
 refine T.seq ?_
 refine T.seq ?_
 refine T.region ?_
 refine TL.c (Step.load_box_agg (n := 5) (qs := [cI l.f0, cI l.f1, cI l.f2, cI l.f3, cI l.f4]) rfl rfl (lt_ok rfl) (by kernel_rfl) rfl rfl rfl rfl) ?_
 refine TL.c (Step.load_box_agg (n := 2) (qs := [cI t.f0, .d (.sl 3 (t.f1.map SEntry.cells))]) rfl rfl (lt_ok rfl) (by kernel_rfl) rfl rfl rfl rfl) ?_
 refine TL.c (Step.cl (xs := [.tmp 9, .tmp 10]) (ps := [(.agg [cI l.f0, cI l.f1, cI l.f2, cI l.f3, cI l.f4]), (.agg [cI t.f0, .d (.sl 3 (t.f1.map SEntry.cells))])]) (g := .func 90) false (.cons (.agg (.cons (.d _) (.cons (.d _) (.cons (.d _) (.cons (.d _) (.cons (.d _) .nil)))))) (.cons (.agg (.cons (.d _) (.cons (.d _) .nil))) .nil)) (ok_impl_TcOk l t)) ?_
 refine TL.c (Step.not (b := (tcOk l t)) rfl rfl (lt_ok rfl) rfl) ?_
 refine TL.nil ?_
 refine T.cond (b := !(tcOk l t)) rfl (fun h1 => ?_) (fun h1 => ?_)
 ·
  replace h1 : (tcOk l t) = false := by simpa only [Bool.not_eq_true', Bool.not_eq_false'] using h1
  refine T.seq ?_
  refine T.region ?_
  refine TL.as (.one (.nil)) ?_
  refine TL.as (pB false) ?_
  refine TL.nil ?_
  refine T.ret ?_
  refine ⟨[(false, [.nil]), (false, [.d (.bool false)])], (.cons rfl (.cons rfl .nil)), rfl, [], (RetC.nilown' rfl ?_ (by first | exact trivial | exact D.wf_nil _) (RetC.rd' ?_ .nil))⟩ <;> (first | (congr 1; rw [tcBits_yes (l := l) (t := t) (by first | assumption | simpa using ‹(!tcOk l t) = false›)]; rw [List.take_of_length_le (l := t.f1) (i := i) (by omega)]; done) | (simp only [D.size]; rw [tcBits_no (l := l) (t := t) (by first | assumption | simpa using ‹(!tcOk l t) = true›)]; rfl) | (congr 1; rw [show tcOk l t = true from by first | assumption | simpa using ‹(!tcOk l t) = false›]; rw [List.take_of_length_le (l := t.f1) (i := i) (by omega)]; rfl) | (congr 1; rw [show tcOk l t = false from by first | assumption | simpa using ‹(!tcOk l t) = true›]; rfl))
 ·
  replace h1 : (tcOk l t) = true := by simpa only [Bool.not_eq_true', Bool.not_eq_false'] using h1
  refine T.skip ?_
  refine T.seq ?_
  refine T.region ?_
  refine TL.c (Step.lit (e := 3) (z := 1) (by_ := 8) (xs := []) (pss := []) (es := []) (ss := []) (d := (.ints .i64 [])) rfl rfl (lt_ok rfl) (by kernel_rfl) rfl rfl .nil (by simp) (le_ok rfl) (le_ok rfl) rfl .nil rfl (by simp) (by simp) rfl trivial rfl rfl) ?_
  refine TL.as (.one (.row 13 [])) ?_
  refine TL.nil ?_
  refine T.seq ?_
  refine T.seq ?_
  refine T.region ?_
  refine TL.c (Step.fieldAddr (q := 0) (off := 1) (n := 1) (one := true) rfl rfl (lt_ok rfl) (by kernel_rfl) (Nat.succ_ne_zero _) rfl) ?_
  refine TL.c (Step.load_box (c := .d (.sl 3 (t.f1.map SEntry.cells))) rfl rfl (lt_ok rfl) (by kernel_rfl) rfl rfl rfl) ?_
  refine TL.c (Step.len' (e := 121) (z := 3) (d := (.sl 3 (t.f1.map SEntry.cells))) (n := t.f1.length) rfl rfl (lt_ok rfl) (by kernel_rfl) rfl rfl (by simp [D.size])) ?_
  refine TL.mv (pI 0) ?_
  refine TL.nil ?_
  refine T.block ?_
  refine T.loop (ι := Nat) (fun xx_ => { tm := [(2, (.one (.ptr 2 0))), (4, (.one (.nil))), (5, (pB false)), (15, (.one (.d (.sl 3 (t.f1.map SEntry.cells))))), (16, (pI (t.f1.length : Int))), (17, (pI (xx_ : Int))), (6, (.one (.row 13 [])))], rows := [(13, (3, (.ints .i64 (whos (t.f1.take xx_)))))], boxes := [(2, (44, [cI l.f0, cI l.f1, cI l.f2, cI l.f3, cI l.f4])), (3, (48, [cI t.f0, .d (.sl 3 (t.f1.map SEntry.cells))]))] }) (fun xx_ => xx_ ≤ t.f1.length) (fun xx_ => t.f1.length - xx_) 0 ?_ ?_ ?_
  · refine Env.le_mk ⟨rfl, rfl, rfl, rfl, rfl, ?_, rfl, trivial⟩ ⟨?_, trivial⟩ ⟨rfl, rfl, trivial⟩ <;> (first | (refine congrArg (fun x => some (_, D.ints .i64 x)) ?_; first | exact (whos_step (by omega)).symm | rfl) | rfl | (refine congrArg (fun n => PV.one (.d (.int .i64 n))) ?_; first | rfl | omega | (simp; done)))
  · exact Nat.zero_le _
  ·
   intro i hx
   try dsimp only at hx ⊢
   have hl_ := whos_len t.f1 i
   refine T.seq ?_
   refine T.region ?_
   refine TL.c (Step.bin rfl rfl (lt_ok rfl) rfl rfl (Bin.lss (k := .i64) (a := (i : Int)) (b := (t.f1.length : Int)))) ?_
   refine TL.nil ?_
   refine T.seq ?_
   refine T.cond (b := decide ((i : Int) < (t.f1.length : Int))) rfl (fun h2 => ?_) (fun h2 => ?_)
   ·
    replace h2 := of_decide_eq_true h2
    refine T.skip ?_
    refine T.seq ?_
    refine T.block ?_
    refine T.seq ?_
    refine T.region ?_
    refine TL.c (Step.index (e := 121) (z := 3) (i := (i : Int)) rfl rfl (lt_ok rfl) (by kernel_rfl) rfl rfl rfl (lt_ok rfl) rfl (by first | omega | (simp; omega)) (by simp only [D.size]; first | omega | (simp; omega))) ?_
    refine TL.c (Step.load_agg (n := 3) (cs := [cI (t.f1.getD i default).f0, cI (t.f1.getD i default).f1, cS (t.f1.getD i default).f2]) rfl rfl (lt_ok rfl) (by kernel_rfl) rfl rfl (by simp only [List.range, List.range.loop, List.map_cons, List.map_nil]; rw [cell_map default (by first | omega | (simp; omega)), cell_map default (by first | omega | (simp; omega)), cell_map default (by first | omega | (simp; omega))]; rfl)) ?_
    refine TL.c (Step.alloc (cs := [.int .i64 0, .int .i64 0, .slice none 0 0]) (ps := [cI 0, cI 0, .nil]) rfl rfl (lt_ok rfl) (by kernel_rfl) rfl rfl rfl rfl) ?_
    refine TL.c (Step.store_box (n := 3) (p := (.agg [cI (t.f1.getD i default).f0, cI (t.f1.getD i default).f1, cS (t.f1.getD i default).f2])) (qs := [cI (t.f1.getD i default).f0, cI (t.f1.getD i default).f1, cS (t.f1.getD i default).f2]) (ps' := [cI (t.f1.getD i default).f0, cI (t.f1.getD i default).f1, cS (t.f1.getD i default).f2]) rfl rfl (by kernel_rfl) rfl rfl rfl rfl rfl rfl (le_ok rfl) rfl) ?_
    refine TL.nil ?_
    refine T.region ?_
    refine TL.mv (.one (.row 13 [])) ?_
    refine TL.c (Step.fieldAddr (q := 0) (off := 0) (n := 1) (one := true) rfl rfl (lt_ok rfl) (by kernel_rfl) (Nat.succ_ne_zero _) rfl) ?_
    refine TL.c (Step.load_box (c := cI (t.f1.getD i default).f0) rfl rfl (lt_ok rfl) (by kernel_rfl) rfl rfl rfl) ?_
    refine TL.c (Step.lit (e := 3) (z := 1) (by_ := 8) (xs := [.tmp 23]) (pss := [[cI (t.f1.getD i default).f0]]) (es := [(.int .i64 (t.f1.getD i default).f0)]) (ss := []) (d := (.ints .i64 [(t.f1.getD i default).f0])) rfl rfl (lt_ok rfl) (by kernel_rfl) rfl rfl (.cons rfl .nil) (by simp) (le_ok rfl) (le_ok rfl) rfl (.val rfl .nil) rfl (by simp) (by simp) rfl trivial rfl rfl) ?_
    refine TL.c (Step.append (e := 3) (z := 1) (by_ := 8) (d := (.ints .i64 (whos (t.f1.take i)))) (dy := (.ints .i64 [(t.f1.getD i default).f0])) (d' := (.ints .i64 ((whos (t.f1.take i)) ++ [(t.f1.getD i default).f0]))) (ss := []) rfl rfl (lt_ok rfl) (by kernel_rfl) rfl rfl rfl (lt_ok rfl) rfl (.copy rfl rfl rfl (by simp [D.flat, D.val])) (by simp) rfl (by simp only [D.size, List.length_map]; first | omega | (simp only [List.length_append, List.length_cons, List.length_nil]; omega) | (simp; omega) | (simp only [List.length_append] at *; omega)) (by simp only [D.size, List.length_map]; first | omega | (simp only [List.length_append, List.length_cons, List.length_nil]; omega) | (simp; omega) | (simp only [List.length_append] at *; omega)) (by simp)) ?_
    refine TL.as (.one (.row 13 [])) ?_
    refine TL.nil ?_
    refine T.region ?_
    refine TL.c (Step.bin (r := .int .i64 ((i : Int) + 1)) rfl rfl (lt_ok rfl) rfl rfl (Bin.add (a := (i : Int)) (b := 1) (by first | exact wrap_ok (by first | omega | (simp; omega)) (by first | omega | (simp; omega)) | rfl))) ?_
    refine TL.mv (pI ((i : Int) + 1)) ?_
    refine TL.nil ?_
    refine ⟨i + 1, by omega, by first | omega | (dsimp only; omega), Env.le_mk ⟨rfl, rfl, rfl, rfl, rfl, ?_, rfl, trivial⟩ ⟨?_, trivial⟩ ⟨rfl, rfl, trivial⟩⟩ <;> (first | (refine congrArg (fun x => some (_, D.ints .i64 x)) ?_; first | exact (whos_step (by omega)).symm | rfl) | rfl | (refine congrArg (fun n => PV.one (.d (.int .i64 n))) ?_; first | rfl | omega | (simp; done)))
   ·
    replace h2 := of_decide_eq_false h2
    refine T.exit ?_
    refine T.seq ?_
    refine T.region ?_
    refine TL.mv (.one (.row 13 [])) ?_
    refine TL.c (Step.fieldAddr (q := 0) (off := 0) (n := 1) (one := true) rfl rfl (lt_ok rfl) (by kernel_rfl) (Nat.succ_ne_zero _) rfl) ?_
    refine TL.c (Step.load_box (c := cI l.f0) rfl rfl (lt_ok rfl) (by kernel_rfl) rfl rfl rfl) ?_
    have nn3 := bitsOf_len (whos (t.f1.take i)) l.f0
    have nn4 := bitsOf_u8 (whos (t.f1.take i)) l.f0
    refine TL.c (Step.cl (xs := [.tmp 27, .tmp 29]) (ps := [(.one (.row 13 [])), (pI l.f0)]) (g := .func 91) false (.cons (.one (.row rfl rfl rfl rfl)) (.cons (.one (.d _)) .nil)) (ok_impl_BitsOf (whos (t.f1.take i)) l.f0 (by first | omega | assumption | (simp only [List.length_append] at *; omega)))) ?_
    refine TL.c (Step.extract (p := (.one (.row 1030 []))) rfl rfl (lt_ok rfl) rfl rfl) ?_
    refine TL.c (Step.extract (p := (pB (bitsOfOk (whos (t.f1.take i)) l.f0))) rfl rfl (lt_ok rfl) rfl rfl) ?_
    refine TL.as (.one (.row 1030 [])) ?_
    refine TL.as (pB (bitsOfOk (whos (t.f1.take i)) l.f0)) ?_
    refine TL.nil ?_
    refine T.ret ?_
    refine ⟨[(false, [.row 1030 []]), (false, [.d (.bool (bitsOfOk (whos (t.f1.take i)) l.f0))])], (.cons rfl (.cons rfl .nil)), rfl, [1030], (RetC.own' rfl ?_ rfl (RetC.rd' ?_ .nil))⟩ <;> (first | (congr 1; rw [tcBits_yes (l := l) (t := t) (by first | assumption | simpa using ‹(!tcOk l t) = false›)]; rw [List.take_of_length_le (l := t.f1) (i := i) (by omega)]; done) | (simp only [D.size]; rw [tcBits_no (l := l) (t := t) (by first | assumption | simpa using ‹(!tcOk l t) = true›)]; rfl) | (congr 1; rw [show tcOk l t = true from by first | assumption | simpa using ‹(!tcOk l t) = false›]; rw [List.take_of_length_le (l := t.f1) (i := i) (by omega)]; rfl) | (congr 1; rw [show tcOk l t = false from by first | assumption | simpa using ‹(!tcOk l t) = true›]; rfl))
theorem ok_laws_eqByteS (a : List Int) (b : List Int) : RO Try.prog 29 [.one (.ints .u8 a), .one (.ints .u8 b)] [(false, [.rd (.bool (decide (a = b)))])] := by
 refine RO.intro Try.func29 rfl 26 rfl (le_ok rfl) fun w Z => ?_
 refine T.bnd 0 0 rfl rfl fun hb_0_0 => ?_
 simp only [D.size, List.length_map] at hb_0_0
 refine T.bnd 1 0 rfl rfl fun hb_1_0 => ?_
 simp only [D.size, List.length_map] at hb_1_0
 refine T.seq ?_
 refine T.region ?_
 refine TL.as (pB false) ?_
 refine TL.nil ?_
 refine T.seq ?_
 refine T.seq ?_
 refine T.region ?_
 refine TL.mv (pS a) ?_
 refine TL.c (Step.len (e := 5) (z := 1) (d := (.ints .u8 a)) rfl rfl (lt_ok rfl) (by kernel_rfl) rfl rfl) ?_
 refine TL.mv (pS b) ?_
 refine TL.c (Step.len (e := 5) (z := 1) (d := (.ints .u8 b)) rfl rfl (lt_ok rfl) (by kernel_rfl) rfl rfl) ?_
 refine TL.c (Step.bin rfl rfl (lt_ok rfl) rfl rfl (Bin.neq (k := .i64) (a := (a.length : Int)) (b := (b.length : Int)))) ?_
 refine TL.nil ?_
 refine T.cond (b := decide ((a.length : Int) ≠ (b.length : Int))) rfl (fun h1 => ?_) (fun h1 => ?_)
 ·
  replace h1 := of_decide_eq_true h1
  refine T.seq ?_
  refine T.region ?_
  refine TL.as (pB false) ?_
  refine TL.nil ?_
  refine T.ret ?_
  refine ⟨[(false, [.d (.bool false)])], (.cons rfl .nil), rfl, [], (RetC.rd' ?_ .nil)⟩ <;> ((congr 1; symm; first | (apply decide_eq_false; rintro rfl; first | exact absurd rfl ‹¬ _ = _› | exact absurd rfl (of_decide_eq_false (by assumption)) | contradiction | simp_all) | (apply decide_eq_true; exact take_all hx2 (by omega) hx3)))
 ·
  replace h1 := of_decide_eq_false h1
  refine T.skip ?_
  refine T.seq ?_
  refine T.seq ?_
  refine T.region ?_
  refine TL.as (pI 0) ?_
  refine TL.nil ?_
  refine T.block ?_
  refine T.loop (ι := Nat) (fun xx_ => { tm := [(0, (pS a)), (1, (pS b)), (5, (pI (xx_ : Int)))], rows := [], boxes := [] }) (fun xx_ => xx_ ≤ a.length ∧ a.length = b.length ∧ a.take xx_ = b.take xx_) (fun xx_ => a.length - xx_) 0 ?_ ?_ ?_
  · refine Env.le_mk ⟨rfl, rfl, ?_, trivial⟩ trivial trivial <;> (first | rfl | (simp; done) | (congr 3; omega))
  · (refine ⟨Nat.zero_le _, by omega, by simp⟩)
  ·
   intro i hx
   try dsimp only at hx ⊢
   obtain ⟨hx1, hx2, hx3⟩ := hx
   refine T.seq ?_
   refine T.seq ?_
   refine T.region ?_
   refine TL.mv (pI (i : Int)) ?_
   refine TL.mv (pS a) ?_
   refine TL.c (Step.len (e := 5) (z := 1) (d := (.ints .u8 a)) rfl rfl (lt_ok rfl) (by kernel_rfl) rfl rfl) ?_
   refine TL.c (Step.bin rfl rfl (lt_ok rfl) rfl rfl (Bin.lss (k := .i64) (a := (i : Int)) (b := (a.length : Int)))) ?_
   refine TL.nil ?_
   refine T.cond (b := decide ((i : Int) < (a.length : Int))) rfl (fun h2 => ?_) (fun h2 => ?_)
   ·
    replace h2 := of_decide_eq_true h2
    refine T.skip ?_
    refine T.seq ?_
    refine T.block ?_
    refine T.seq ?_
    refine T.draw [⟨17, (pS a), []⟩, ⟨18, (pI (i : Int)), []⟩, ⟨19, (.one (.eptr (.ints .u8 a) i 0)), []⟩, ⟨20, (.one (.d (.int .u8 (a.getD i 0)))), []⟩, ⟨21, (pS b), []⟩, ⟨22, (pI (i : Int)), []⟩, ⟨23, (.one (.eptr (.ints .u8 b) i 0)), []⟩, ⟨24, (.one (.d (.int .u8 (b.getD i 0)))), []⟩, ⟨25, (pB (decide ((a.getD i 0) ≠ (b.getD i 0)))), []⟩] (by kernel_rfl) (by kernel_rfl) ?_ ?_
    ·
     refine .cons (fun E A => A.mv 0 17) ?_
     refine .cons (fun E A => A.mv 5 18) ?_
     refine .cons (fun E A => OpStep.plain rfl (Step.index (e := 5) (z := 1) (i := (i : Int)) (t := 19) rfl rfl (by exact lt_ok rfl) (by kernel_rfl) (A.g 17 rfl) rfl rfl (lt_ok rfl) (A.g 18 rfl) (by first | omega | (simp; omega)) (by simp only [D.size]; first | omega | (simp; omega)))) ?_
     refine .cons (fun E A => OpStep.plain rfl (Step.load (e := (.int .u8 (a.getD i 0))) (t := 20) rfl rfl (by exact lt_ok rfl) (by kernel_rfl) (A.g 19 rfl) rfl)) ?_
     refine .cons (fun E A => A.mv 1 21) ?_
     refine .cons (fun E A => A.mv 5 22) ?_
     refine .cons (fun E A => OpStep.plain rfl (Step.index (e := 5) (z := 1) (i := (i : Int)) (t := 23) rfl rfl (by exact lt_ok rfl) (by kernel_rfl) (A.g 21 rfl) rfl rfl (lt_ok rfl) (A.g 22 rfl) (by first | omega | (simp; omega)) (by simp only [D.size]; first | omega | (simp; omega)))) ?_
     refine .cons (fun E A => OpStep.plain rfl (Step.load (e := (.int .u8 (b.getD i 0))) (t := 24) rfl rfl (by exact lt_ok rfl) (by kernel_rfl) (A.g 23 rfl) rfl)) ?_
     refine .cons (fun E A => OpStep.plain rfl (Step.bd 25 (A.g 20 rfl) (A.g 24 rfl) (Bin.neq (k := .u8) (a := (a.getD i 0)) (b := (b.getD i 0))))) ?_
     exact .nil _ _
    refine TL.nil ?_
    refine T.cond (b := decide ((a.getD i 0) ≠ (b.getD i 0))) rfl (fun h3 => ?_) (fun h3 => ?_)
    ·
     replace h3 := of_decide_eq_true h3
     refine T.seq ?_
     refine T.region ?_
     refine TL.as (pB false) ?_
     refine TL.nil ?_
     refine T.ret ?_
     refine ⟨[(false, [.d (.bool false)])], (.cons rfl .nil), rfl, [], (RetC.rd' ?_ .nil)⟩ <;> ((congr 1; symm; first | (apply decide_eq_false; rintro rfl; first | exact absurd rfl ‹¬ _ = _› | exact absurd rfl (of_decide_eq_false (by assumption)) | contradiction | simp_all) | (apply decide_eq_true; exact take_all hx2 (by omega) hx3)))
    ·
     replace h3 := of_decide_eq_false h3
     refine T.skip ?_
     refine T.region ?_
     refine TL.mv (pI (i : Int)) ?_
     refine TL.c (Step.bin (r := .int .i64 ((i : Int) + 1)) rfl rfl (lt_ok rfl) rfl rfl (Bin.add (a := (i : Int)) (b := 1) (by first | exact wrap_ok (by first | omega | (simp; omega)) (by first | omega | (simp; omega)) | rfl))) ?_
     refine TL.as (pI ((i : Int) + 1)) ?_
     refine TL.nil ?_
     refine ⟨i + 1, by (refine ⟨by omega, hx2, take_step (d := 0) hx2 (by omega) hx3 (by first | assumption | exact Decidable.not_not.1 (by assumption) | omega)⟩), by omega, Env.le_mk ⟨rfl, rfl, ?_, trivial⟩ trivial trivial⟩ <;> (first | rfl | (simp; done) | (congr 3; omega))
   ·
    replace h2 := of_decide_eq_false h2
    refine T.exit ?_
    refine T.seq ?_
    refine T.region ?_
    refine TL.as (pB true) ?_
    refine TL.nil ?_
    refine T.ret ?_
    refine ⟨[(false, [.d (.bool true)])], (.cons rfl .nil), rfl, [], (RetC.rd' ?_ .nil)⟩ <;> ((congr 1; symm; first | (apply decide_eq_false; rintro rfl; first | exact absurd rfl ‹¬ _ = _› | exact absurd rfl (of_decide_eq_false (by assumption)) | contradiction | simp_all) | (apply decide_eq_true; exact take_all hx2 (by omega) hx3)))
theorem ok_laws_eqEntry (a : SEntry) (b : SEntry) : RO Try.prog 149 [.agg a.cells, .agg b.cells] [(false, [.rd (.bool (decide (a = b)))])] := by
 refine RO.intro Try.func149 rfl 21 rfl (le_ok rfl) fun w Z => ?_
 refine T.seq ?_
 refine T.region ?_
 refine TL.c (Step.box (p := (.agg [cI a.f0, cI a.f1, cS a.f2])) (ps := [cI a.f0, cI a.f1, cS a.f2]) rfl rfl (lt_ok rfl) rfl rfl rfl rfl rfl) ?_
 refine TL.c (Step.box (p := (.agg [cI b.f0, cI b.f1, cS b.f2])) (ps := [cI b.f0, cI b.f1, cS b.f2]) rfl rfl (lt_ok rfl) rfl rfl rfl rfl rfl) ?_
 refine TL.as (pB false) ?_
 refine TL.nil ?_
 refine T.seq ?_
 refine T.seq ?_
 refine T.region ?_
 refine TL.c (Step.fieldAddr (q := 0) (off := 0) (n := 1) (one := true) rfl rfl (lt_ok rfl) (by kernel_rfl) (Nat.succ_ne_zero _) rfl) ?_
 refine TL.c (Step.load_box (c := cI a.f0) rfl rfl (lt_ok rfl) (by kernel_rfl) rfl rfl rfl) ?_
 refine TL.c (Step.fieldAddr (q := 0) (off := 0) (n := 1) (one := true) rfl rfl (lt_ok rfl) (by kernel_rfl) (Nat.succ_ne_zero _) rfl) ?_
 refine TL.c (Step.load_box (c := cI b.f0) rfl rfl (lt_ok rfl) (by kernel_rfl) rfl rfl rfl) ?_
 refine TL.c (Step.bin rfl rfl (lt_ok rfl) rfl rfl (Bin.neq (k := .i64) (a := a.f0) (b := b.f0))) ?_
 refine TL.nil ?_
 refine T.cond (b := decide (a.f0 ≠ b.f0)) rfl (fun h1 => ?_) (fun h1 => ?_)
 ·
  replace h1 := of_decide_eq_true h1
  refine T.seq ?_
  refine T.region ?_
  refine TL.as (pB false) ?_
  refine TL.nil ?_
  refine T.ret ?_
  refine ⟨[(false, [.d (.bool false)])], (.cons rfl .nil), rfl, [], (RetC.rd' ?_ .nil)⟩ <;> ((congr 1; symm; first | (apply decide_eq_false; rintro rfl; first | exact absurd rfl ‹¬ _ = _› | contradiction) | (apply decide_eq_true; apply SEntry.ext <;> first | assumption | exact Decidable.not_not.1 (by assumption))))
 ·
  replace h1 := of_decide_eq_false h1
  refine T.skip ?_
  refine T.seq ?_
  refine T.seq ?_
  refine T.region ?_
  refine TL.c (Step.fieldAddr (q := 0) (off := 1) (n := 1) (one := true) rfl rfl (lt_ok rfl) (by kernel_rfl) (Nat.succ_ne_zero _) rfl) ?_
  refine TL.c (Step.load_box (c := cI a.f1) rfl rfl (lt_ok rfl) (by kernel_rfl) rfl rfl rfl) ?_
  refine TL.c (Step.fieldAddr (q := 0) (off := 1) (n := 1) (one := true) rfl rfl (lt_ok rfl) (by kernel_rfl) (Nat.succ_ne_zero _) rfl) ?_
  refine TL.c (Step.load_box (c := cI b.f1) rfl rfl (lt_ok rfl) (by kernel_rfl) rfl rfl rfl) ?_
  refine TL.c (Step.bin rfl rfl (lt_ok rfl) rfl rfl (Bin.neq (k := .i64) (a := a.f1) (b := b.f1))) ?_
  refine TL.nil ?_
  refine T.cond (b := decide (a.f1 ≠ b.f1)) rfl (fun h2 => ?_) (fun h2 => ?_)
  ·
   replace h2 := of_decide_eq_true h2
   refine T.seq ?_
   refine T.region ?_
   refine TL.as (pB false) ?_
   refine TL.nil ?_
   refine T.ret ?_
   refine ⟨[(false, [.d (.bool false)])], (.cons rfl .nil), rfl, [], (RetC.rd' ?_ .nil)⟩ <;> ((congr 1; symm; first | (apply decide_eq_false; rintro rfl; first | exact absurd rfl ‹¬ _ = _› | contradiction) | (apply decide_eq_true; apply SEntry.ext <;> first | assumption | exact Decidable.not_not.1 (by assumption))))
  ·
   replace h2 := of_decide_eq_false h2
   refine T.skip ?_
   refine T.seq ?_
   refine T.seq ?_
   refine T.region ?_
   refine TL.c (Step.fieldAddr (q := 0) (off := 2) (n := 1) (one := true) rfl rfl (lt_ok rfl) (by kernel_rfl) (Nat.succ_ne_zero _) rfl) ?_
   refine TL.c (Step.load_box (c := cS a.f2) rfl rfl (lt_ok rfl) (by kernel_rfl) rfl rfl rfl) ?_
   refine TL.c (Step.fieldAddr (q := 0) (off := 2) (n := 1) (one := true) rfl rfl (lt_ok rfl) (by kernel_rfl) (Nat.succ_ne_zero _) rfl) ?_
   refine TL.c (Step.load_box (c := cS b.f2) rfl rfl (lt_ok rfl) (by kernel_rfl) rfl rfl rfl) ?_
   refine TL.c (Step.cl (xs := [.tmp 16, .tmp 18]) (ps := [(pS a.f2), (pS b.f2)]) (g := .func 29) false (.cons (.one (.d _)) (.cons (.one (.d _)) .nil)) (ok_laws_eqByteS a.f2 b.f2)) ?_
   refine TL.c (Step.not (b := (decide (a.f2 = b.f2))) rfl rfl (lt_ok rfl) rfl) ?_
   refine TL.nil ?_
   refine T.cond (b := !(decide (a.f2 = b.f2))) rfl (fun h3 => ?_) (fun h3 => ?_)
   ·
    replace h3 : (decide (a.f2 = b.f2)) = false := by simpa only [Bool.not_eq_true', Bool.not_eq_false'] using h3
    replace h3 := of_decide_eq_false h3
    refine T.seq ?_
    refine T.region ?_
    refine TL.as (pB false) ?_
    refine TL.nil ?_
    refine T.ret ?_
    refine ⟨[(false, [.d (.bool false)])], (.cons rfl .nil), rfl, [], (RetC.rd' ?_ .nil)⟩ <;> ((congr 1; symm; first | (apply decide_eq_false; rintro rfl; first | exact absurd rfl ‹¬ _ = _› | contradiction) | (apply decide_eq_true; apply SEntry.ext <;> first | assumption | exact Decidable.not_not.1 (by assumption))))
   ·
    replace h3 : (decide (a.f2 = b.f2)) = true := by simpa only [Bool.not_eq_true', Bool.not_eq_false'] using h3
    replace h3 := of_decide_eq_true h3
    refine T.skip ?_
    refine T.seq ?_
    refine T.region ?_
    refine TL.as (pB true) ?_
    refine TL.nil ?_
    refine T.ret ?_
    refine ⟨[(false, [.d (.bool true)])], (.cons rfl .nil), rfl, [], (RetC.rd' ?_ .nil)⟩ <;> ((congr 1; symm; first | (apply decide_eq_false; rintro rfl; first | exact absurd rfl ‹¬ _ = _› | contradiction) | (apply decide_eq_true; apply SEntry.ext <;> first | assumption | exact Decidable.not_not.1 (by assumption))))
theorem ok_laws_eqEntryS (a : List SEntry) (b : List SEntry) : RO Try.prog 92 [.one (.sl 3 (a.map SEntry.cells)), .one (.sl 3 (b.map SEntry.cells))] [(false, [.rd (.bool (decide (a = b)))])] := by
 refine RO.intro Try.func92 rfl 27 rfl (le_ok rfl) fun w Z => ?_
 refine T.bnd 0 0 rfl rfl fun hb_0_0 => ?_
 simp only [D.size, List.length_map] at hb_0_0
 refine T.bnd 1 0 rfl rfl fun hb_1_0 => ?_
 simp only [D.size, List.length_map] at hb_1_0
 refine T.seq ?_
 refine T.region ?_
 refine TL.as (pB false) ?_
 refine TL.nil ?_
 refine T.seq ?_
 refine T.seq ?_
 refine T.region ?_
 refine TL.mv (.one (.d (.sl 3 (a.map SEntry.cells)))) ?_
 refine TL.c (Step.len' (e := 121) (z := 3) (d := (.sl 3 (a.map SEntry.cells))) (n := a.length) rfl rfl (lt_ok rfl) (by kernel_rfl) rfl rfl (by simp [D.size])) ?_
 refine TL.mv (.one (.d (.sl 3 (b.map SEntry.cells)))) ?_
 refine TL.c (Step.len' (e := 121) (z := 3) (d := (.sl 3 (b.map SEntry.cells))) (n := b.length) rfl rfl (lt_ok rfl) (by kernel_rfl) rfl rfl (by simp [D.size])) ?_
 refine TL.c (Step.bin rfl rfl (lt_ok rfl) rfl rfl (Bin.neq (k := .i64) (a := (a.length : Int)) (b := (b.length : Int)))) ?_
 refine TL.nil ?_
 refine T.cond (b := decide ((a.length : Int) ≠ (b.length : Int))) rfl (fun h1 => ?_) (fun h1 => ?_)
 ·
  replace h1 := of_decide_eq_true h1
  refine T.seq ?_
  refine T.region ?_
  refine TL.as (pB false) ?_
  refine TL.nil ?_
  refine T.ret ?_
  refine ⟨[(false, [.d (.bool false)])], (.cons rfl .nil), rfl, [], (RetC.rd' ?_ .nil)⟩ <;> ((congr 1; symm; first | (apply decide_eq_false; rintro rfl; first | exact absurd rfl ‹¬ _ = _› | exact absurd rfl (of_decide_eq_false (by assumption)) | contradiction | simp_all) | (apply decide_eq_true; exact take_all hx2 (by omega) hx3)))
 ·
  replace h1 := of_decide_eq_false h1
  refine T.skip ?_
  refine T.seq ?_
  refine T.seq ?_
  refine T.region ?_
  refine TL.as (pI 0) ?_
  refine TL.nil ?_
  refine T.block ?_
  refine T.loop (ι := Nat) (fun xx_ => { tm := [(0, (.one (.d (.sl 3 (a.map SEntry.cells))))), (1, (.one (.d (.sl 3 (b.map SEntry.cells))))), (5, (pI (xx_ : Int)))], rows := [], boxes := [] }) (fun xx_ => xx_ ≤ a.length ∧ a.length = b.length ∧ a.take xx_ = b.take xx_) (fun xx_ => a.length - xx_) 0 ?_ ?_ ?_
  · refine Env.le_mk ⟨rfl, rfl, ?_, trivial⟩ trivial trivial <;> (first | rfl | (simp; done) | (congr 3; omega))
  · (refine ⟨Nat.zero_le _, by omega, by simp⟩)
  ·
   intro i hx
   try dsimp only at hx ⊢
   obtain ⟨hx1, hx2, hx3⟩ := hx
   refine T.seq ?_
   refine T.seq ?_
   refine T.region ?_
   refine TL.mv (pI (i : Int)) ?_
   refine TL.mv (.one (.d (.sl 3 (a.map SEntry.cells)))) ?_
   refine TL.c (Step.len' (e := 121) (z := 3) (d := (.sl 3 (a.map SEntry.cells))) (n := a.length) rfl rfl (lt_ok rfl) (by kernel_rfl) rfl rfl (by simp [D.size])) ?_
   refine TL.c (Step.bin rfl rfl (lt_ok rfl) rfl rfl (Bin.lss (k := .i64) (a := (i : Int)) (b := (a.length : Int)))) ?_
   refine TL.nil ?_
   refine T.cond (b := decide ((i : Int) < (a.length : Int))) rfl (fun h2 => ?_) (fun h2 => ?_)
   ·
    replace h2 := of_decide_eq_true h2
    refine T.skip ?_
    refine T.seq ?_
    refine T.block ?_
    refine T.seq ?_
    refine T.draw [⟨17, (.one (.d (.sl 3 (a.map SEntry.cells)))), []⟩, ⟨18, (pI (i : Int)), []⟩, ⟨19, (.one (.eptr (.sl 3 (a.map SEntry.cells)) i 0)), []⟩, ⟨20, (.agg [cI (a.getD i default).f0, cI (a.getD i default).f1, cS (a.getD i default).f2]), []⟩, ⟨21, (.one (.d (.sl 3 (b.map SEntry.cells)))), []⟩, ⟨22, (pI (i : Int)), []⟩, ⟨23, (.one (.eptr (.sl 3 (b.map SEntry.cells)) i 0)), []⟩, ⟨24, (.agg [cI (b.getD i default).f0, cI (b.getD i default).f1, cS (b.getD i default).f2]), []⟩, ⟨25, (pB (decide ((a.getD i default) = (b.getD i default)))), []⟩, ⟨26, (pB (!(decide ((a.getD i default) = (b.getD i default))))), []⟩] (by kernel_rfl) (by kernel_rfl) ?_ ?_
    ·
     refine .cons (fun E A => A.mv 0 17) ?_
     refine .cons (fun E A => A.mv 5 18) ?_
     refine .cons (fun E A => OpStep.plain rfl (Step.index (e := 121) (z := 3) (i := (i : Int)) (t := 19) rfl rfl (by exact lt_ok rfl) (by kernel_rfl) (A.g 17 rfl) rfl rfl (lt_ok rfl) (A.g 18 rfl) (by first | omega | (simp; omega)) (by simp only [D.size]; first | omega | (simp; omega)))) ?_
     refine .cons (fun E A => OpStep.plain rfl (Step.load_agg (n := 3) (cs := [cI (a.getD i default).f0, cI (a.getD i default).f1, cS (a.getD i default).f2]) (t := 20) rfl rfl (by exact lt_ok rfl) (by kernel_rfl) (A.g 19 rfl) rfl (by simp only [List.range, List.range.loop, List.map_cons, List.map_nil]; rw [cell_map default (by first | omega | (simp; omega)), cell_map default (by first | omega | (simp; omega)), cell_map default (by first | omega | (simp; omega))]; rfl))) ?_
     refine .cons (fun E A => A.mv 1 21) ?_
     refine .cons (fun E A => A.mv 5 22) ?_
     refine .cons (fun E A => OpStep.plain rfl (Step.index (e := 121) (z := 3) (i := (i : Int)) (t := 23) rfl rfl (by exact lt_ok rfl) (by kernel_rfl) (A.g 21 rfl) rfl rfl (lt_ok rfl) (A.g 22 rfl) (by first | omega | (simp; omega)) (by simp only [D.size]; first | omega | (simp; omega)))) ?_
     refine .cons (fun E A => OpStep.plain rfl (Step.load_agg (n := 3) (cs := [cI (b.getD i default).f0, cI (b.getD i default).f1, cS (b.getD i default).f2]) (t := 24) rfl rfl (by exact lt_ok rfl) (by kernel_rfl) (A.g 23 rfl) rfl (by simp only [List.range, List.range.loop, List.map_cons, List.map_nil]; rw [cell_map default (by first | omega | (simp; omega)), cell_map default (by first | omega | (simp; omega)), cell_map default (by first | omega | (simp; omega))]; rfl))) ?_
     refine .cons (fun E A => OpStep.plain rfl (Step.cd (xs := [.tmp 20, .tmp 24]) (ps := [(.agg [cI (a.getD i default).f0, cI (a.getD i default).f1, cS (a.getD i default).f2]), (.agg [cI (b.getD i default).f0, cI (b.getD i default).f1, cS (b.getD i default).f2])]) (g := .func 149) false 25 (evs_cons (A.g 20 rfl) (evs_cons (A.g 24 rfl) (rfl))) (.cons (.agg (.cons (.d _) (.cons (.d _) (.cons (.d _) .nil)))) (.cons (.agg (.cons (.d _) (.cons (.d _) (.cons (.d _) .nil)))) .nil)) (ok_laws_eqEntry (a.getD i default) (b.getD i default)) (At.freshRows A rfl))) ?_
     refine .cons (fun E A => OpStep.plain rfl (Step.not (b := (decide ((a.getD i default) = (b.getD i default)))) (t := 26) rfl rfl (by exact lt_ok rfl) (A.g 25 rfl))) ?_
     exact .nil _ _
    refine TL.nil ?_
    refine T.cond (b := !(decide ((a.getD i default) = (b.getD i default)))) rfl (fun h3 => ?_) (fun h3 => ?_)
    ·
     replace h3 : (decide ((a.getD i default) = (b.getD i default))) = false := by simpa only [Bool.not_eq_true', Bool.not_eq_false'] using h3
     replace h3 := of_decide_eq_false h3
     refine T.seq ?_
     refine T.region ?_
     refine TL.as (pB false) ?_
     refine TL.nil ?_
     refine T.ret ?_
     refine ⟨[(false, [.d (.bool false)])], (.cons rfl .nil), rfl, [], (RetC.rd' ?_ .nil)⟩ <;> ((congr 1; symm; first | (apply decide_eq_false; rintro rfl; first | exact absurd rfl ‹¬ _ = _› | exact absurd rfl (of_decide_eq_false (by assumption)) | contradiction | simp_all) | (apply decide_eq_true; exact take_all hx2 (by omega) hx3)))
    ·
     replace h3 : (decide ((a.getD i default) = (b.getD i default))) = true := by simpa only [Bool.not_eq_true', Bool.not_eq_false'] using h3
     replace h3 := of_decide_eq_true h3
     refine T.skip ?_
     refine T.region ?_
     refine TL.mv (pI (i : Int)) ?_
     refine TL.c (Step.bin (r := .int .i64 ((i : Int) + 1)) rfl rfl (lt_ok rfl) rfl rfl (Bin.add (a := (i : Int)) (b := 1) (by first | exact wrap_ok (by first | omega | (simp; omega)) (by first | omega | (simp; omega)) | rfl))) ?_
     refine TL.as (pI ((i : Int) + 1)) ?_
     refine TL.nil ?_
     refine ⟨i + 1, by (refine ⟨by omega, hx2, take_step (d := default) hx2 (by omega) hx3 (by first | assumption | exact Decidable.not_not.1 (by assumption) | omega)⟩), by omega, Env.le_mk ⟨rfl, rfl, ?_, trivial⟩ trivial trivial⟩ <;> (first | rfl | (simp; done) | (congr 3; omega))
   ·
    replace h2 := of_decide_eq_false h2
    refine T.exit ?_
    refine T.seq ?_
    refine T.region ?_
    refine TL.as (pB true) ?_
    refine TL.nil ?_
    refine T.ret ?_
    refine ⟨[(false, [.d (.bool true)])], (.cons rfl .nil), rfl, [], (RetC.rd' ?_ .nil)⟩ <;> ((congr 1; symm; first | (apply decide_eq_false; rintro rfl; first | exact absurd rfl ‹¬ _ = _› | exact absurd rfl (of_decide_eq_false (by assumption)) | contradiction | simp_all) | (apply decide_eq_true; exact take_all hx2 (by omega) hx3)))
theorem ok_laws_eqTc (a : STc) (b : STc) : RO Try.prog 30 [.agg a.cells, .agg b.cells] [(false, [.rd (.bool (decide (a = b)))])] := by
 refine RO.intro Try.func30 rfl 16 rfl (le_ok rfl) fun w Z => ?_
 refine T.seq ?_
 refine T.region ?_
 refine TL.c (Step.box (p := (.agg [cI a.f0, .d (.sl 3 (a.f1.map SEntry.cells))])) (ps := [cI a.f0, .d (.sl 3 (a.f1.map SEntry.cells))]) rfl rfl (lt_ok rfl) rfl rfl rfl rfl rfl) ?_
 refine TL.c (Step.box (p := (.agg [cI b.f0, .d (.sl 3 (b.f1.map SEntry.cells))])) (ps := [cI b.f0, .d (.sl 3 (b.f1.map SEntry.cells))]) rfl rfl (lt_ok rfl) rfl rfl rfl rfl rfl) ?_
 refine TL.as (pB false) ?_
 refine TL.nil ?_
 refine T.seq ?_
 refine T.seq ?_
 refine T.region ?_
 refine TL.c (Step.fieldAddr (q := 0) (off := 0) (n := 1) (one := true) rfl rfl (lt_ok rfl) (by kernel_rfl) (Nat.succ_ne_zero _) rfl) ?_
 refine TL.c (Step.load_box (c := cI a.f0) rfl rfl (lt_ok rfl) (by kernel_rfl) rfl rfl rfl) ?_
 refine TL.c (Step.fieldAddr (q := 0) (off := 0) (n := 1) (one := true) rfl rfl (lt_ok rfl) (by kernel_rfl) (Nat.succ_ne_zero _) rfl) ?_
 refine TL.c (Step.load_box (c := cI b.f0) rfl rfl (lt_ok rfl) (by kernel_rfl) rfl rfl rfl) ?_
 refine TL.c (Step.bin rfl rfl (lt_ok rfl) rfl rfl (Bin.neq (k := .i64) (a := a.f0) (b := b.f0))) ?_
 refine TL.nil ?_
 refine T.cond (b := decide (a.f0 ≠ b.f0)) rfl (fun h1 => ?_) (fun h1 => ?_)
 ·
  replace h1 := of_decide_eq_true h1
  refine T.seq ?_
  refine T.region ?_
  refine TL.as (pB false) ?_
  refine TL.nil ?_
  refine T.ret ?_
  refine ⟨[(false, [.d (.bool false)])], (.cons rfl .nil), rfl, [], (RetC.rd' ?_ .nil)⟩ <;> ((congr 1; symm; first | (apply decide_eq_false; rintro rfl; first | exact absurd rfl ‹¬ _ = _› | contradiction) | (apply decide_eq_true; apply STc.ext <;> first | assumption | exact Decidable.not_not.1 (by assumption))))
 ·
  replace h1 := of_decide_eq_false h1
  refine T.skip ?_
  refine T.seq ?_
  refine T.seq ?_
  refine T.region ?_
  refine TL.c (Step.fieldAddr (q := 0) (off := 1) (n := 1) (one := true) rfl rfl (lt_ok rfl) (by kernel_rfl) (Nat.succ_ne_zero _) rfl) ?_
  refine TL.c (Step.load_box (c := .d (.sl 3 (a.f1.map SEntry.cells))) rfl rfl (lt_ok rfl) (by kernel_rfl) rfl rfl rfl) ?_
  refine TL.c (Step.fieldAddr (q := 0) (off := 1) (n := 1) (one := true) rfl rfl (lt_ok rfl) (by kernel_rfl) (Nat.succ_ne_zero _) rfl) ?_
  refine TL.c (Step.load_box (c := .d (.sl 3 (b.f1.map SEntry.cells))) rfl rfl (lt_ok rfl) (by kernel_rfl) rfl rfl rfl) ?_
  refine TL.c (Step.cl (xs := [.tmp 11, .tmp 13]) (ps := [(.one (.d (.sl 3 (a.f1.map SEntry.cells)))), (.one (.d (.sl 3 (b.f1.map SEntry.cells))))]) (g := .func 92) false (.cons (.one (.d _)) (.cons (.one (.d _)) .nil)) (ok_laws_eqEntryS a.f1 b.f1)) ?_
  refine TL.c (Step.not (b := (decide (a.f1 = b.f1))) rfl rfl (lt_ok rfl) rfl) ?_
  refine TL.nil ?_
  refine T.cond (b := !(decide (a.f1 = b.f1))) rfl (fun h2 => ?_) (fun h2 => ?_)
  ·
   replace h2 : (decide (a.f1 = b.f1)) = false := by simpa only [Bool.not_eq_true', Bool.not_eq_false'] using h2
   replace h2 := of_decide_eq_false h2
   refine T.seq ?_
   refine T.region ?_
   refine TL.as (pB false) ?_
   refine TL.nil ?_
   refine T.ret ?_
   refine ⟨[(false, [.d (.bool false)])], (.cons rfl .nil), rfl, [], (RetC.rd' ?_ .nil)⟩ <;> ((congr 1; symm; first | (apply decide_eq_false; rintro rfl; first | exact absurd rfl ‹¬ _ = _› | contradiction) | (apply decide_eq_true; apply STc.ext <;> first | assumption | exact Decidable.not_not.1 (by assumption))))
  ·
   replace h2 : (decide (a.f1 = b.f1)) = true := by simpa only [Bool.not_eq_true', Bool.not_eq_false'] using h2
   replace h2 := of_decide_eq_true h2
   refine T.skip ?_
   refine T.seq ?_
   refine T.region ?_
   refine TL.as (pB true) ?_
   refine TL.nil ?_
   refine T.ret ?_
   refine ⟨[(false, [.d (.bool true)])], (.cons rfl .nil), rfl, [], (RetC.rd' ?_ .nil)⟩ <;> ((congr 1; symm; first | (apply decide_eq_false; rintro rfl; first | exact absurd rfl ‹¬ _ = _› | contradiction) | (apply decide_eq_true; apply STc.ext <;> first | assumption | exact Decidable.not_not.1 (by assumption))))
theorem ok_laws_markByteS (a : List Int) (k : Int) (h0_ : 0 ≤ k) (h1_ : k + (a.length : Int) ≤ 4611686018427387904) : MK Try.prog 32 [.one (.mk (.ints .u8 a) (.ints .u8 (mkB a k))), .one (.rd (.int .i64 k))] [(false, [.rd (.int .i64 (k + (a.length : Int)))])] := by
 refine MK.intro Try.func32 rfl 20 rfl (le_ok rfl) (le_ok rfl) rfl fun w Z IX pin Ts hp => ?_
 refine T.bndRow 900 rfl fun hb_900 => ?_
 simp only [D.size, List.length_map] at hb_900
 refine T.seq ?_
 refine T.region ?_
 refine TL.as (pI 0) ?_
 refine TL.nil ?_
 refine T.seq ?_
 refine T.seq ?_
 refine T.region ?_
 refine TL.as (pI 0) ?_
 refine TL.nil ?_
 refine T.block ?_
 refine T.loop (ι := Nat) (fun xx_ => { tm := [(0, (.one (.row 900 []))), (4, (pI 0)), (5, (pI (xx_ : Int))), (1, (pI (k + (xx_ : Int))))], rows := [(900, ((Ts 0), (.ints .u8 (upTo (fun _ => 1) (fun _ k => k % 256) a k xx_))))], boxes := [] }) (fun xx_ => xx_ ≤ a.length) (fun xx_ => a.length - xx_) 0 ?_ ?_ ?_
 · refine Env.le_mk ⟨rfl, rfl, ?_, ?_, trivial⟩ ⟨?_, trivial⟩ trivial <;> (first | exact congrArg (fun x => some (Ts 0, D.ints .u8 x)) (upTo_set (df := 0) (by omega) (by simp only [cntL_one_take a i (by omega)])) | exact congrArg (fun x => some (Ts 0, D.ints .u8 x)) (upTo_zero _ _).symm | rfl | (refine congrArg (fun n => PV.one (.d (.int .i64 n))) ?_; first | omega | (simp; done) | (simp [cntL]; done)))
 · exact Nat.zero_le _
 ·
  intro i hx
  try dsimp only at hx ⊢
  refine T.seq ?_
  refine T.seq ?_
  refine T.region ?_
  refine TL.mv (pI (i : Int)) ?_
  refine TL.mv (.one (.row 900 [])) ?_
  refine TL.c (Step.len' (e := 5) (z := 1) (d := (.ints .u8 (upTo (fun _ => 1) (fun _ k => k % 256) a k i))) (n := a.length) rfl rfl (lt_ok rfl) (by kernel_rfl) rfl rfl (by simp [D.size, upTo_length])) ?_
  refine TL.c (Step.bin rfl rfl (lt_ok rfl) rfl rfl (Bin.lss (k := .i64) (a := (i : Int)) (b := (a.length : Int)))) ?_
  refine TL.nil ?_
  refine T.cond (b := decide ((i : Int) < (a.length : Int))) rfl (fun h1 => ?_) (fun h1 => ?_)
  ·
   replace h1 := of_decide_eq_true h1
   refine T.skip ?_
   refine T.seq ?_
   refine T.block ?_
   refine T.seq ?_
   refine T.region ?_
   refine TL.mv (.one (.row 900 [])) ?_
   refine TL.mv (pI (i : Int)) ?_
   refine TL.mv (pI (k + (i : Int))) ?_
   refine TL.c (Step.conv (c := ((k + (i : Int)) % 256)) rfl rfl (lt_ok rfl) (by kernel_rfl) (by kernel_rfl) rfl (wrap_byte _)) ?_
   refine TL.c (Step.index_row (d := (.ints .u8 (upTo (fun _ => 1) (fun _ k => k % 256) a k i))) (e := 5) (z := 1) (i := (i : Int)) rfl rfl (lt_ok rfl) (by kernel_rfl) rfl rfl rfl rfl (lt_ok rfl) rfl (by first | omega | (simp; omega)) (by simp only [D.at_, D.cell, D.size, List.length_set, List.length_map, upTo_length]; first | omega | (simp; omega))) ?_
   refine TL.c (Step.store_row (n := 1) (p := (.one (.d (.int .u8 ((k + (i : Int)) % 256))))) (ps := [.d (.int .u8 ((k + (i : Int)) % 256))]) (es := [(.int .u8 ((k + (i : Int)) % 256))]) (ss := []) (d1 := (.ints .u8 ((upTo (fun _ => 1) (fun _ k => k % 256) a k i).set i ((k + (i : Int)) % 256)))) (d' := (.ints .u8 ((upTo (fun _ => 1) (fun _ k => k % 256) a k i).set i ((k + (i : Int)) % 256)))) rfl rfl (by kernel_rfl) rfl rfl rfl rfl rfl rfl (.val rfl .nil) (by simp) (Putd.one rfl trivial rfl (by simp only [D.at_, D.size, List.length_set, upTo_length]; first | omega | (simp; omega)) (lt_ok rfl)) rfl) ?_
   refine TL.nil ?_
   refine T.region ?_
   refine TL.mv (pI (k + (i : Int))) ?_
   refine TL.c (Step.bin (r := .int .i64 ((k + (i : Int)) + 1)) rfl rfl (lt_ok rfl) rfl rfl (Bin.add (a := (k + (i : Int))) (b := 1) (by first | exact wrap_ok (by first | omega | (simp; omega)) (by first | omega | (simp; omega)) | rfl))) ?_
   refine TL.as (pI ((k + (i : Int)) + 1)) ?_
   refine TL.nil ?_
   refine T.region ?_
   refine TL.mv (pI (i : Int)) ?_
   refine TL.c (Step.bin (r := .int .i64 ((i : Int) + 1)) rfl rfl (lt_ok rfl) rfl rfl (Bin.add (a := (i : Int)) (b := 1) (by first | exact wrap_ok (by first | omega | (simp; omega)) (by first | omega | (simp; omega)) | rfl))) ?_
   refine TL.as (pI ((i : Int) + 1)) ?_
   refine TL.nil ?_
   refine ⟨i + 1, by omega, by first | omega | (dsimp only; omega), Env.le_mk ⟨rfl, rfl, ?_, ?_, trivial⟩ ⟨?_, trivial⟩ trivial⟩ <;> (first | exact congrArg (fun x => some (Ts 0, D.ints .u8 x)) (upTo_set (df := 0) (by omega) (by simp only [cntL_one_take a i (by omega)])) | exact congrArg (fun x => some (Ts 0, D.ints .u8 x)) (upTo_zero _ _).symm | rfl | (refine congrArg (fun n => PV.one (.d (.int .i64 n))) ?_; first | omega | (simp; done) | (simp [cntL]; done)))
  ·
   replace h1 := of_decide_eq_false h1
   refine T.exit ?_
   refine T.seq ?_
   refine T.region ?_
   refine TL.mv (pI (k + (i : Int))) ?_
   refine TL.as (pI (k + (i : Int))) ?_
   refine TL.nil ?_
   refine T.ret ?_
   refine ⟨⟨⟨[(false, [cI (k + (i : Int))])], (.cons rfl .nil), rfl, [], (RetC.rd' ?_ .nil)⟩, rfl⟩, (.mk' (by exact congrArg (fun x => some (Ts 0, D.ints .u8 x)) (upTo_all (by omega))) (.rd .nil'))⟩ <;> ((congr 1; omega))
theorem ok_laws_markEntryS (a : List SEntry) (k : Int) (h0_ : 0 ≤ k) (h1_ : k + cntL SEntry.ce a ≤ 4611686018427387904) : MK Try.prog 93 [.one (.mk (.sl 3 (a.map SEntry.cells)) (.sl 3 ((mkL SEntry.ce SEntry.me a k).map SEntry.cells))), .one (.rd (.int .i64 k))] [(false, [.rd (.int .i64 (k + cntL SEntry.ce a))])] := by
 refine MK.intro Try.func93 rfl 34 rfl (le_ok rfl) (le_ok rfl) rfl fun w Z IX pin Ts hp => ?_
 refine T.bndRow 900 rfl fun hb_900 => ?_
 simp only [D.size, List.length_map] at hb_900
 refine T.seq ?_
 refine T.region ?_
 refine TL.as (pI 0) ?_
 refine TL.nil ?_
 refine T.seq ?_
 refine T.seq ?_
 refine T.region ?_
 refine TL.as (pI 0) ?_
 refine TL.nil ?_
 refine T.block ?_
 refine T.loop (ι := Nat) (fun xx_ => { tm := [(0, (.one (.row 900 []))), (4, (pI 0)), (5, (pI (xx_ : Int))), (1, (pI (k + cntL SEntry.ce (a.take xx_))))], rows := [(900, ((Ts 0), (.sl 3 (((upTo SEntry.ce SEntry.me a k xx_).set xx_ (a.getD xx_ default)).map SEntry.cells))))], boxes := [] }) (fun xx_ => xx_ ≤ a.length) (fun xx_ => a.length - xx_) 0 ?_ ?_ ?_
 · refine Env.le_mk ⟨rfl, rfl, ?_, ?_, trivial⟩ ⟨?_, trivial⟩ trivial <;> (first | exact congrArg (fun x => some (Ts 0, D.sl 3 (List.map SEntry.cells x))) (upTo_next (df := default) (by omega) rfl) | exact congrArg (fun x => some (Ts 0, D.sl 3 (List.map SEntry.cells x))) (upTo_first a k default) | rfl | (refine congrArg (fun n => PV.one (.d (.int .i64 n))) ?_; first | omega | (simp; done) | (simp [cntL]; done)))
 · exact Nat.zero_le _
 ·
  intro i hx
  try dsimp only at hx ⊢
  refine T.seq ?_
  refine T.seq ?_
  refine T.region ?_
  refine TL.mv (pI (i : Int)) ?_
  refine TL.mv (.one (.row 900 [])) ?_
  refine TL.c (Step.len' (e := 121) (z := 3) (d := (.sl 3 (((upTo SEntry.ce SEntry.me a k i).set i (a.getD i default)).map SEntry.cells))) (n := a.length) rfl rfl (lt_ok rfl) (by kernel_rfl) rfl rfl (by simp [D.size, upTo_length])) ?_
  refine TL.c (Step.bin rfl rfl (lt_ok rfl) rfl rfl (Bin.lss (k := .i64) (a := (i : Int)) (b := (a.length : Int)))) ?_
  refine TL.nil ?_
  refine T.cond (b := decide ((i : Int) < (a.length : Int))) rfl (fun h1 => ?_) (fun h1 => ?_)
  ·
   replace h1 := of_decide_eq_true h1
   have hc1 := cntL_take_le (cnt := SEntry.ce) SEntry.ce_nn a (i + 1)
   have hc2 := cntL_take_succ (cnt := SEntry.ce) (i := i) default (show i < a.length by omega)
   have hc3 := cntL_nonneg (cnt := SEntry.ce) SEntry.ce_nn (a.take i)
   have hc4 : SEntry.ce (a.getD i default) = 1 + 1 + ((a.getD i default).f2.length : Int) := rfl
   refine T.skip ?_
   refine T.seq ?_
   refine T.block ?_
   refine T.seq ?_
   refine T.region ?_
   refine TL.mv (.one (.row 900 [])) ?_
   refine TL.mv (pI (i : Int)) ?_
   refine TL.mv (pI (k + cntL SEntry.ce (a.take i))) ?_
   refine TL.c (Step.index_row (d := (.sl 3 (((upTo SEntry.ce SEntry.me a k i).set i (a.getD i default)).map SEntry.cells))) (e := 121) (z := 3) (i := (i : Int)) rfl rfl (lt_ok rfl) (by kernel_rfl) rfl rfl rfl rfl (lt_ok rfl) rfl (by first | omega | (simp; omega)) (by simp only [D.at_, D.cell, D.size, List.length_set, List.length_map, upTo_length]; first | omega | (simp; omega))) ?_
   refine TL.c (Step.fieldAddr_r (d := (.sl 3 (((upTo SEntry.ce SEntry.me a k i).set i (a.getD i default)).map SEntry.cells))) (j := 0) (off := 0) (n := 1) (one := true) rfl rfl (lt_ok rfl) (by kernel_rfl) (Nat.succ_ne_zero _) rfl rfl (lt_ok rfl)) ?_
   refine TL.c (Step.store_row (n := 1) (p := (pI (k + cntL SEntry.ce (a.take i)))) (ps := [cI (k + cntL SEntry.ce (a.take i))]) (es := [(.int .i64 (k + cntL SEntry.ce (a.take i)))]) (ss := []) (d1 := (.sl 3 (((upTo SEntry.ce SEntry.me a k i).set i (⟨k + cntL SEntry.ce (a.take i), (a.getD i default).f1, (a.getD i default).f2⟩ : SEntry)).map SEntry.cells))) (d' := (.sl 3 (((upTo SEntry.ce SEntry.me a k i).set i (⟨k + cntL SEntry.ce (a.take i), (a.getD i default).f1, (a.getD i default).f2⟩ : SEntry)).map SEntry.cells))) rfl rfl (by kernel_rfl) rfl rfl rfl rfl rfl rfl (.val rfl .nil) (by simp) (Putd.fld2 SEntry.len (by simp only [upTo_length]; first | omega | (simp; omega)) (lt_ok rfl) rfl) rfl) ?_
   refine TL.nil ?_
   refine T.seq ?_
   refine T.region ?_
   refine TL.mv (pI (k + cntL SEntry.ce (a.take i))) ?_
   refine TL.c (Step.bin (r := .int .i64 ((k + cntL SEntry.ce (a.take i)) + 1)) rfl rfl (lt_ok rfl) rfl rfl (Bin.add (a := (k + cntL SEntry.ce (a.take i))) (b := 1) (by first | exact wrap_ok (by first | omega | (simp; omega)) (by first | omega | (simp; omega)) | rfl))) ?_
   refine TL.as (pI ((k + cntL SEntry.ce (a.take i)) + 1)) ?_
   refine TL.nil ?_
   refine T.seq ?_
   refine T.region ?_
   refine TL.mv (.one (.row 900 [])) ?_
   refine TL.mv (pI (i : Int)) ?_
   refine TL.mv (pI ((k + cntL SEntry.ce (a.take i)) + 1)) ?_
   refine TL.c (Step.index_row (d := (.sl 3 (((upTo SEntry.ce SEntry.me a k i).set i (⟨k + cntL SEntry.ce (a.take i), (a.getD i default).f1, (a.getD i default).f2⟩ : SEntry)).map SEntry.cells))) (e := 121) (z := 3) (i := (i : Int)) rfl rfl (lt_ok rfl) (by kernel_rfl) rfl rfl rfl rfl (lt_ok rfl) rfl (by first | omega | (simp; omega)) (by simp only [D.at_, D.cell, D.size, List.length_set, List.length_map, upTo_length]; first | omega | (simp; omega))) ?_
   refine TL.c (Step.fieldAddr_r (d := (.sl 3 (((upTo SEntry.ce SEntry.me a k i).set i (⟨k + cntL SEntry.ce (a.take i), (a.getD i default).f1, (a.getD i default).f2⟩ : SEntry)).map SEntry.cells))) (j := 0) (off := 1) (n := 1) (one := true) rfl rfl (lt_ok rfl) (by kernel_rfl) (Nat.succ_ne_zero _) rfl rfl (lt_ok rfl)) ?_
   refine TL.c (Step.store_row (n := 1) (p := (pI ((k + cntL SEntry.ce (a.take i)) + 1))) (ps := [cI ((k + cntL SEntry.ce (a.take i)) + 1)]) (es := [(.int .i64 ((k + cntL SEntry.ce (a.take i)) + 1))]) (ss := []) (d1 := (.sl 3 (((upTo SEntry.ce SEntry.me a k i).set i (⟨k + cntL SEntry.ce (a.take i), (k + cntL SEntry.ce (a.take i)) + 1, (a.getD i default).f2⟩ : SEntry)).map SEntry.cells))) (d' := (.sl 3 (((upTo SEntry.ce SEntry.me a k i).set i (⟨k + cntL SEntry.ce (a.take i), (k + cntL SEntry.ce (a.take i)) + 1, (a.getD i default).f2⟩ : SEntry)).map SEntry.cells))) rfl rfl (by kernel_rfl) rfl rfl rfl rfl rfl rfl (.val rfl .nil) (by simp) (Putd.fld2 SEntry.len (by simp only [upTo_length]; first | omega | (simp; omega)) (lt_ok rfl) rfl) rfl) ?_
   refine TL.nil ?_
   refine T.seq ?_
   refine T.region ?_
   refine TL.mv (pI ((k + cntL SEntry.ce (a.take i)) + 1)) ?_
   refine TL.c (Step.bin (r := .int .i64 (((k + cntL SEntry.ce (a.take i)) + 1) + 1)) rfl rfl (lt_ok rfl) rfl rfl (Bin.add (a := ((k + cntL SEntry.ce (a.take i)) + 1)) (b := 1) (by first | exact wrap_ok (by first | omega | (simp; omega)) (by first | omega | (simp; omega)) | rfl))) ?_
   refine TL.as (pI (((k + cntL SEntry.ce (a.take i)) + 1) + 1)) ?_
   refine TL.nil ?_
   refine T.region ?_
   refine TL.mv (.one (.row 900 [])) ?_
   refine TL.mv (pI (i : Int)) ?_
   refine TL.c (Step.index_row (d := (.sl 3 (((upTo SEntry.ce SEntry.me a k i).set i (⟨k + cntL SEntry.ce (a.take i), (k + cntL SEntry.ce (a.take i)) + 1, (a.getD i default).f2⟩ : SEntry)).map SEntry.cells))) (e := 121) (z := 3) (i := (i : Int)) rfl rfl (lt_ok rfl) (by kernel_rfl) rfl rfl rfl rfl (lt_ok rfl) rfl (by first | omega | (simp; omega)) (by simp only [D.at_, D.cell, D.size, List.length_set, List.length_map, upTo_length]; first | omega | (simp; omega))) ?_
   refine TL.c (Step.fieldAddr_r (d := (.sl 3 (((upTo SEntry.ce SEntry.me a k i).set i (⟨k + cntL SEntry.ce (a.take i), (k + cntL SEntry.ce (a.take i)) + 1, (a.getD i default).f2⟩ : SEntry)).map SEntry.cells))) (j := 0) (off := 2) (n := 1) (one := true) rfl rfl (lt_ok rfl) (by kernel_rfl) (Nat.succ_ne_zero _) rfl rfl (lt_ok rfl)) ?_
   refine TL.c (Step.load_row (d := (.sl 3 (((upTo SEntry.ce SEntry.me a k i).set i (⟨k + cntL SEntry.ce (a.take i), (k + cntL SEntry.ce (a.take i)) + 1, (a.getD i default).f2⟩ : SEntry)).map SEntry.cells))) (c := .row 900 [(i, 2)]) rfl rfl (lt_ok rfl) (by kernel_rfl) rfl rfl (ofRow_sl (cell_set_sl (z := 3) (by simp only [upTo_length]; first | omega | (simp; omega)) rfl) rfl)) ?_
   refine TL.mv (pI (((k + cntL SEntry.ce (a.take i)) + 1) + 1)) ?_
   refine TL.c (Step.callM2 (xs := [.tmp 30, .tmp 31]) (ps := [(.one (.row 900 [(i, 2)])), (pI (((k + cntL SEntry.ce (a.take i)) + 1) + 1))]) (js := [(900, (.sl 3 (((upTo SEntry.ce SEntry.me a k i).set i (⟨k + cntL SEntry.ce (a.take i), (k + cntL SEntry.ce (a.take i)) + 1, mkB (a.getD i default).f2 (((k + cntL SEntry.ce (a.take i)) + 1) + 1)⟩ : SEntry)).map SEntry.cells)))]) (g := .func 32) (ok_laws_markByteS (a.getD i default).f2 (((k + cntL SEntry.ce (a.take i)) + 1) + 1) (by omega) (by first | omega | (have := (by assumption); omega))) rfl rfl (lt_ok rfl) rfl (by kernel_rfl) rfl rfl (.row (T := (Ts 0)) (d := (.sl 3 (((upTo SEntry.ce SEntry.me a k i).set i (⟨k + cntL SEntry.ce (a.take i), (k + cntL SEntry.ce (a.take i)) + 1, (a.getD i default).f2⟩ : SEntry)).map SEntry.cells))) (e' := (.ints .u8 (mkB (a.getD i default).f2 (((k + cntL SEntry.ce (a.take i)) + 1) + 1)))) (d' := (.sl 3 (((upTo SEntry.ce SEntry.me a k i).set i (⟨k + cntL SEntry.ce (a.take i), (k + cntL SEntry.ce (a.take i)) + 1, mkB (a.getD i default).f2 (((k + cntL SEntry.ce (a.take i)) + 1) + 1)⟩ : SEntry)).map SEntry.cells))) rfl (cell_set_sl (z := 3) (by simp only [upTo_length]; first | omega | (simp; omega)) rfl) rfl (putAt_fld2 (by simp only [upTo_length]; first | omega | (simp; omega)) rfl) rfl (by simp [D.size]) rfl rfl (.d .nil)) rfl) ?_
   refine TL.as (pI ((((k + cntL SEntry.ce (a.take i)) + 1) + 1) + ((a.getD i default).f2.length : Int))) ?_
   refine TL.nil ?_
   refine T.region ?_
   refine TL.mv (pI (i : Int)) ?_
   refine TL.c (Step.bin (r := .int .i64 ((i : Int) + 1)) rfl rfl (lt_ok rfl) rfl rfl (Bin.add (a := (i : Int)) (b := 1) (by first | exact wrap_ok (by first | omega | (simp; omega)) (by first | omega | (simp; omega)) | rfl))) ?_
   refine TL.as (pI ((i : Int) + 1)) ?_
   refine TL.nil ?_
   refine ⟨i + 1, by omega, by first | omega | (dsimp only; omega), Env.le_mk ⟨rfl, rfl, ?_, ?_, trivial⟩ ⟨?_, trivial⟩ trivial⟩ <;> (first | exact congrArg (fun x => some (Ts 0, D.sl 3 (List.map SEntry.cells x))) (upTo_next (df := default) (by omega) rfl) | exact congrArg (fun x => some (Ts 0, D.sl 3 (List.map SEntry.cells x))) (upTo_first a k default) | rfl | (refine congrArg (fun n => PV.one (.d (.int .i64 n))) ?_; first | omega | (simp; done) | (simp [cntL]; done)))
  ·
   replace h1 := of_decide_eq_false h1
   refine T.exit ?_
   refine T.seq ?_
   refine T.region ?_
   refine TL.mv (pI (k + cntL SEntry.ce (a.take i))) ?_
   refine TL.as (pI (k + cntL SEntry.ce (a.take i))) ?_
   refine TL.nil ?_
   refine T.ret ?_
   refine ⟨⟨⟨[(false, [cI (k + cntL SEntry.ce (a.take i))])], (.cons rfl .nil), rfl, [], (RetC.rd' ?_ .nil)⟩, rfl⟩, (.mk' (by exact congrArg (fun x => some (Ts 0, D.sl 3 (List.map SEntry.cells x))) (upTo_end (by omega))) (.rd .nil'))⟩ <;> ((congr 1; rw [cntL_all (by omega)]))
theorem ok_laws_markTc (a : STc) (k : Int) (h0_ : 0 ≤ k) (h1_ : k + a.cm ≤ 4611686018427387904) : MK Try.prog 31 [.agg [.rd (.int .i64 a.f0), .mk (.sl 3 (a.f1.map SEntry.cells)) (.sl 3 ((mkL SEntry.ce SEntry.me a.f1 k).map SEntry.cells))], .one (.rd (.int .i64 k))] [(false, [.rd (.int .i64 (k + a.cm))])] := by
 refine MK.intro Try.func31 rfl 10 rfl (le_ok rfl) (le_ok rfl) rfl fun w Z IX pin Ts hp => ?_
 have n1 := cntL_nonneg SEntry.ce_nn a.f1
 simp only [STc.cm] at h1_
 refine T.seq ?_
 refine T.region ?_
 refine TL.c (Step.box (p := (.agg [cI a.f0, .row 901 []])) (ps := [cI a.f0, .row 901 []]) rfl rfl (lt_ok rfl) rfl rfl rfl rfl rfl) ?_
 refine TL.as (pI 0) ?_
 refine TL.nil ?_
 refine T.seq ?_
 refine T.region ?_
 refine TL.c (Step.fieldAddr (q := 0) (off := 1) (n := 1) (one := true) rfl rfl (lt_ok rfl) (by kernel_rfl) (Nat.succ_ne_zero _) rfl) ?_
 refine TL.c (Step.load_box (c := .row 901 []) rfl rfl (lt_ok rfl) (by kernel_rfl) rfl rfl rfl) ?_
 refine TL.mv (pI k) ?_
 have nn1 := cntL_nonneg SEntry.ce_nn a.f1
 refine TL.c (Step.callM2 (xs := [.tmp 6, .tmp 7]) (ps := [(.one (.row 901 [])), (pI k)]) (js := [(901, (.sl 3 ((mkL SEntry.ce SEntry.me a.f1 k).map SEntry.cells)))]) (g := .func 93) (ok_laws_markEntryS a.f1 k (by omega) (by first | omega | (have := SEntry.cL_le (xs := a.f1) (by assumption); omega))) rfl rfl (lt_ok rfl) rfl (by kernel_rfl) rfl rfl (.row (T := (Ts 1)) (d := (.sl 3 (a.f1.map SEntry.cells))) (e' := (.sl 3 ((mkL SEntry.ce SEntry.me a.f1 k).map SEntry.cells))) (d' := (.sl 3 ((mkL SEntry.ce SEntry.me a.f1 k).map SEntry.cells))) rfl rfl rfl rfl rfl (by simp [D.size, mkL_length]) rfl rfl (.d .nil)) rfl) ?_
 refine TL.as (pI (k + cntL SEntry.ce a.f1)) ?_
 refine TL.nil ?_
 refine T.seq ?_
 refine T.region ?_
 refine TL.mv (pI (k + cntL SEntry.ce a.f1)) ?_
 refine TL.as (pI (k + cntL SEntry.ce a.f1)) ?_
 refine TL.nil ?_
 refine T.ret ?_
 refine ⟨⟨⟨[(false, [cI (k + cntL SEntry.ce a.f1)])], (.cons rfl .nil), rfl, [], (RetC.rd' ?_ .nil)⟩, rfl⟩, (.rd (.mk' (by rfl) (.rd .nil')))⟩ <;> (first | rfl | (congr 1; simp only [STc.cm]; omega))
theorem ok_laws_heldByteS (a : List Int) (b : List Int) (k : Int) (h0_ : 0 ≤ k) (h1_ : k + (a.length : Int) ≤ 4611686018427387904) (h2_ : b = mkB a k) : RO Try.prog 33 [.one (.ints .u8 b), .one (.int .i64 k)] [(false, [.rd (.int .i64 (k + (a.length : Int)))])] := by
 refine RO.intro Try.func33 rfl 22 rfl (le_ok rfl) fun w Z => ?_
 refine T.bnd 0 0 rfl rfl fun hb_0_0 => ?_
 simp only [D.size, List.length_map] at hb_0_0
 have hl_ : b.length = a.length := by rw [h2_, mkL_length]
 have hg_ : ∀ i, i < a.length → b.getD i 0 = (k + (i : Int)) % 256 := fun i hi => by rw [h2_, mkL_getD _ _ _ _ hi]; simp only [cntL_one_take a i (by omega)]
 refine T.seq ?_
 refine T.region ?_
 refine TL.as (pI 0) ?_
 refine TL.nil ?_
 refine T.seq ?_
 refine T.seq ?_
 refine T.region ?_
 refine TL.as (pI 0) ?_
 refine TL.nil ?_
 refine T.block ?_
 refine T.loop (ι := Nat) (fun xx_ => { tm := [(0, (pS b)), (5, (pI (xx_ : Int))), (1, (pI (k + (xx_ : Int))))], rows := [], boxes := [] }) (fun xx_ => xx_ ≤ a.length) (fun xx_ => a.length - xx_) 0 ?_ ?_ ?_
 · refine Env.le_mk ⟨rfl, ?_, ?_, trivial⟩ trivial trivial <;> (first | rfl | (refine congrArg (fun n => PV.one (.d (.int .i64 n))) ?_; first | omega | (simp; done) | (simp [cntL]; done)))
 · exact Nat.zero_le _
 ·
  intro i hx
  try dsimp only at hx ⊢
  refine T.seq ?_
  refine T.seq ?_
  refine T.region ?_
  refine TL.mv (pI (i : Int)) ?_
  refine TL.mv (pS b) ?_
  refine TL.c (Step.len (e := 5) (z := 1) (d := (.ints .u8 b)) rfl rfl (lt_ok rfl) (by kernel_rfl) rfl rfl) ?_
  refine TL.c (Step.bin rfl rfl (lt_ok rfl) rfl rfl (Bin.lss (k := .i64) (a := (i : Int)) (b := (b.length : Int)))) ?_
  refine TL.nil ?_
  refine T.cond (b := decide ((i : Int) < (b.length : Int))) rfl (fun h1 => ?_) (fun h1 => ?_)
  ·
   replace h1 := of_decide_eq_true h1
   refine T.skip ?_
   refine T.seq ?_
   refine T.block ?_
   refine T.seq ?_
   refine T.seq ?_
   refine T.region ?_
   refine TL.mv (pS b) ?_
   refine TL.mv (pI (i : Int)) ?_
   refine TL.c (Step.index (e := 5) (z := 1) (i := (i : Int)) rfl rfl (lt_ok rfl) (by kernel_rfl) rfl rfl rfl (lt_ok rfl) rfl (by first | omega | (simp; omega)) (by simp only [D.size]; first | omega | (simp; omega))) ?_
   refine TL.c (Step.load (e := (.int .u8 (b.getD i 0))) rfl rfl (lt_ok rfl) (by kernel_rfl) rfl rfl) ?_
   refine TL.mv (pI (k + (i : Int))) ?_
   refine TL.c (Step.conv (c := ((k + (i : Int)) % 256)) rfl rfl (lt_ok rfl) (by kernel_rfl) (by kernel_rfl) rfl (wrap_byte _)) ?_
   refine TL.c (Step.bin rfl rfl (lt_ok rfl) rfl rfl (Bin.neq (k := .u8) (a := (b.getD i 0)) (b := ((k + (i : Int)) % 256)))) ?_
   refine TL.nil ?_
   refine T.cond (b := decide ((b.getD i 0) ≠ ((k + (i : Int)) % 256))) rfl (fun h2 => ?_) (fun h2 => ?_)
   ·
    replace h2 := of_decide_eq_true h2
    refine T.seq ?_
    refine T.region ?_
    refine TL.as (pI (-1)) ?_
    refine TL.nil ?_
    refine T.ret ?_
    refine ⟨[(false, [cI (-1)])], (.cons rfl .nil), rfl, [], (RetC.rd' ?_ .nil)⟩ <;> (first | (congr 1; omega) | (exfalso; have := hg_ i (by omega); omega))
   ·
    replace h2 := of_decide_eq_false h2
    refine T.skip ?_
    refine T.region ?_
    refine TL.mv (pI (k + (i : Int))) ?_
    refine TL.c (Step.bin (r := .int .i64 ((k + (i : Int)) + 1)) rfl rfl (lt_ok rfl) rfl rfl (Bin.add (a := (k + (i : Int))) (b := 1) (by first | exact wrap_ok (by first | omega | (simp; omega)) (by first | omega | (simp; omega)) | rfl))) ?_
    refine TL.as (pI ((k + (i : Int)) + 1)) ?_
    refine TL.nil ?_
    refine T.region ?_
    refine TL.mv (pI (i : Int)) ?_
    refine TL.c (Step.bin (r := .int .i64 ((i : Int) + 1)) rfl rfl (lt_ok rfl) rfl rfl (Bin.add (a := (i : Int)) (b := 1) (by first | exact wrap_ok (by first | omega | (simp; omega)) (by first | omega | (simp; omega)) | rfl))) ?_
    refine TL.as (pI ((i : Int) + 1)) ?_
    refine TL.nil ?_
    refine ⟨i + 1, by omega, by first | omega | (dsimp only; omega), Env.le_mk ⟨rfl, ?_, ?_, trivial⟩ trivial trivial⟩ <;> (first | rfl | (refine congrArg (fun n => PV.one (.d (.int .i64 n))) ?_; first | omega | (simp; done) | (simp [cntL]; done)))
  ·
   replace h1 := of_decide_eq_false h1
   refine T.exit ?_
   refine T.seq ?_
   refine T.region ?_
   refine TL.mv (pI (k + (i : Int))) ?_
   refine TL.as (pI (k + (i : Int))) ?_
   refine TL.nil ?_
   refine T.ret ?_
   refine ⟨[(false, [cI (k + (i : Int))])], (.cons rfl .nil), rfl, [], (RetC.rd' ?_ .nil)⟩ <;> (first | (congr 1; omega) | (exfalso; have := hg_ i (by omega); omega))
theorem ok_laws_FnExactTcBits (aL : SLimits) (aT : STc) (h0_ : aL.ok) (h1_ : aT.ok) : RO Try.prog 4 [.agg aL.cells, .agg aT.cells] [(false, [.rd (.bool true)])] := by
 refine RO.intro Try.func4 rfl 104 rfl (le_ok rfl) fun w Z => ?_
 refine T.seq ?_
 refine T.region ?_
 refine TL.c (Step.box (p := (.agg [cI aL.f0, cI aL.f1, cI aL.f2, cI aL.f3, cI aL.f4])) (ps := [cI aL.f0, cI aL.f1, cI aL.f2, cI aL.f3, cI aL.f4]) rfl rfl (lt_ok rfl) rfl rfl rfl rfl rfl) ?_
 refine TL.c (Step.box (p := (.agg [cI aT.f0, .d (.sl 3 (aT.f1.map SEntry.cells))])) (ps := [cI aT.f0, .d (.sl 3 (aT.f1.map SEntry.cells))]) rfl rfl (lt_ok rfl) rfl rfl rfl rfl rfl) ?_
 refine TL.as (pB false) ?_
 refine TL.nil ?_
 refine T.seq ?_
 refine T.region ?_
 refine TL.as (pI 1048576) ?_
 refine TL.nil ?_
 refine T.seq ?_
 refine T.region ?_
 refine TL.c (Step.load_box_agg (n := 2) (qs := [cI aT.f0, .d (.sl 3 (aT.f1.map SEntry.cells))]) rfl rfl (lt_ok rfl) (by kernel_rfl) rfl rfl rfl rfl) ?_
 refine TL.mv (pI 1048576) ?_
 refine TL.c (Step.cl (xs := [.tmp 16, .tmp 17]) (ps := [(.agg [cI aT.f0, .d (.sl 3 (aT.f1.map SEntry.cells))]), (pI 1048576)]) (g := .func 24) false (.cons (.agg (.cons (.d _) (.cons (.d _) .nil))) (.cons (.one (.d _)) .nil)) (ok_laws_szTc aT 1048576 (by omega) (by omega))) ?_
 refine TL.as (pI (aT.sz 1048576)) ?_
 refine TL.nil ?_
 refine T.seq ?_
 refine T.seq ?_
 refine T.region ?_
 refine TL.mv (pI (aT.sz 1048576)) ?_
 refine TL.c (Step.bin rfl rfl (lt_ok rfl) rfl rfl (Bin.lss (k := .i64) (a := (aT.sz 1048576)) (b := 0))) ?_
 refine TL.nil ?_
 refine T.cond (b := decide ((aT.sz 1048576) < 0)) rfl (fun h2 => ?_) (fun h2 => ?_)
 ·
  replace h2 := of_decide_eq_true h2
  refine T.seq ?_
  refine T.region ?_
  refine TL.as (pB true) ?_
  refine TL.nil ?_
  refine T.ret ?_
  exact ⟨[(false, [.d (.bool true)])], (.cons rfl .nil), rfl, [], (RetC.rd' rfl .nil)⟩
 ·
  replace h2 := of_decide_eq_false h2
  have z1_le : aT.sz 1048576 ≤ 1048576 := STc.sz_le _ (by omega)
  have z1_sm := STc.sz_sm _ (by omega : (0 : Int) ≤ 1048576) (by omega : (1048576 : Int) ≤ 1048576) (by omega : (0 : Int) ≤ aT.sz 1048576)
  refine T.skip ?_
  refine T.seq ?_
  have nn3 := tcBits_len aL aT
  refine T.draw [⟨22, (.agg [cI aL.f0, cI aL.f1, cI aL.f2, cI aL.f3, cI aL.f4]), []⟩, ⟨23, (.agg [cI aL.f0, cI aL.f1, cI aL.f2, cI aL.f3, cI aL.f4]), []⟩, ⟨24, (.agg [cI aT.f0, .d (.sl 3 (aT.f1.map SEntry.cells))]), []⟩, ⟨25, (.agg [cI aT.f0, .row 2025 []]), [(2025, (121, (.sl 3 (aT.f1.map SEntry.cells))))]⟩, ⟨26, (.tup [(false, [.row 1026 []]), (false, [.d (.bool (tcOk aL aT && bitsOfOk (whos aT.f1) aL.f0))])]), [(1026, (5, (.ints .u8 (tcBits aL aT))))]⟩, ⟨21, (.tup [(false, [.row 1026 []]), (false, [.d (.bool (tcOk aL aT && bitsOfOk (whos aT.f1) aL.f0))])]), []⟩, ⟨27, (.one (.row 1026 [])), []⟩, ⟨28, (pB (tcOk aL aT && bitsOfOk (whos aT.f1) aL.f0)), []⟩, ⟨6, (.one (.row 1026 [])), []⟩, ⟨7, (pB (tcOk aL aT && bitsOfOk (whos aT.f1) aL.f0)), []⟩] (by kernel_rfl) (by kernel_rfl) ?_ ?_
  ·
   refine .cons (fun E A => OpStep.plain rfl (Step.load_box_agg (n := 5) (qs := [cI aL.f0, cI aL.f1, cI aL.f2, cI aL.f3, cI aL.f4]) (t := 22) rfl rfl (by exact lt_ok rfl) (by kernel_rfl) (A.g 2 rfl) (by exact A.box rfl) rfl rfl)) ?_
   refine .cons (fun E A => OpStep.plain rfl (Step.cd (xs := [.tmp 22]) (ps := [(.agg [cI aL.f0, cI aL.f1, cI aL.f2, cI aL.f3, cI aL.f4])]) (g := .func 26) false 23 (evs_cons (A.g 22 rfl) (rfl)) (.cons (.agg (.cons (.d _) (.cons (.d _) (.cons (.d _) (.cons (.d _) (.cons (.d _) .nil)))))) .nil) (ok_laws_toLimits aL) (At.freshRows A rfl))) ?_
   refine .cons (fun E A => OpStep.plain rfl (Step.load_box_agg (n := 2) (qs := [cI aT.f0, .d (.sl 3 (aT.f1.map SEntry.cells))]) (t := 24) rfl rfl (by exact lt_ok rfl) (by kernel_rfl) (A.g 3 rfl) (by exact A.box rfl) rfl rfl)) ?_
   refine .cons (fun E A => OpStep.plain rfl (Step.cd (xs := [.tmp 24]) (ps := [(.agg [cI aT.f0, .d (.sl 3 (aT.f1.map SEntry.cells))])]) (g := .func 27) false 25 (evs_cons (A.g 24 rfl) (rfl)) (.cons (.agg (.cons (.d _) (.cons (.d _) .nil))) .nil) (ok_laws_toTc aT (by first | assumption | exact ⟨‹_›, ‹_›⟩ | (refine mem_getD (p := STc.sm) h0_.2 (by omega)) | exact mem_getD h0_.2 (by omega))) (At.freshRows A rfl))) ?_
   refine .cons (fun E A => OpStep.plain rfl (Step.cd (xs := [.tmp 23, .tmp 25]) (ps := [(.agg [cI aL.f0, cI aL.f1, cI aL.f2, cI aL.f3, cI aL.f4]), (.agg [cI aT.f0, .row 2025 []])]) (g := .func 25) false 26 (evs_cons (A.g 23 rfl) (evs_cons (A.g 25 rfl) (rfl))) (.cons (.agg (.cons (.d _) (.cons (.d _) (.cons (.d _) (.cons (.d _) (.cons (.d _) .nil)))))) (.cons (.agg (.cons (.d _) (.cons (.row rfl (by exact (A.row 2025 (by kernel_rfl)).trans rfl) rfl rfl) .nil))) .nil)) (ok_spec_TcBits aL aT (by assumption) (by first | assumption | exact h0_.1 | exact (‹l.ok›).1)) (At.freshRows A rfl))) ?_
   refine .cons (fun E A => A.mv 26 21) ?_
   refine .cons (fun E A => OpStep.plain rfl (Step.extract (p := (.one (.row 1026 []))) (t := 27) rfl rfl (by exact lt_ok rfl) (A.g 21 rfl) rfl)) ?_
   refine .cons (fun E A => OpStep.plain rfl (Step.extract (p := (pB (tcOk aL aT && bitsOfOk (whos aT.f1) aL.f0))) (t := 28) rfl rfl (by exact lt_ok rfl) (A.g 21 rfl) rfl)) ?_
   refine .cons (fun E A => A.as 27 6) ?_
   refine .cons (fun E A => A.as 28 7) ?_
   exact .nil _ _
  refine TL.nil ?_
  refine T.seq ?_
  refine T.region ?_
  refine TL.c (Step.load_box_agg (n := 2) (qs := [cI aT.f0, .d (.sl 3 (aT.f1.map SEntry.cells))]) rfl rfl (lt_ok rfl) (by kernel_rfl) rfl rfl rfl rfl) ?_
  refine TL.c (Step.cl (xs := [.tmp 29]) (ps := [(.agg [cI aT.f0, .d (.sl 3 (aT.f1.map SEntry.cells))])]) (g := .func 27) false (.cons (.agg (.cons (.d _) (.cons (.d _) .nil))) .nil) (ok_laws_toTc aT (by first | assumption | exact ⟨‹_›, ‹_›⟩ | (refine mem_getD (p := STc.sm) h0_.2 (by omega)) | exact mem_getD h0_.2 (by omega)))) ?_
  refine TL.c (Step.alloc (cs := [.int .i64 0, .slice none 0 0]) (ps := [cI 0, .nil]) rfl rfl (lt_ok rfl) (by kernel_rfl) rfl rfl rfl rfl) ?_
  refine TL.c (Step.store_box (n := 2) (p := (.agg [cI aT.f0, .row 2030 []])) (qs := [cI aT.f0, .row 2030 []]) (ps' := [cI aT.f0, .row 2030 []]) rfl rfl (by kernel_rfl) rfl rfl rfl rfl rfl rfl (le_ok rfl) rfl) ?_
  refine TL.nil ?_
  refine T.seq ?_
  have nn4 := tcBits_len aL aT
  refine T.draw [⟨32, (.agg [cI aL.f0, cI aL.f1, cI aL.f2, cI aL.f3, cI aL.f4]), []⟩, ⟨33, (.agg [cI aL.f0, cI aL.f1, cI aL.f2, cI aL.f3, cI aL.f4]), []⟩, ⟨34, (.agg [cI aT.f0, .row 2030 []]), []⟩, ⟨35, (.tup [(false, [.row 1035 []]), (false, [.d (.bool (tcOk aL aT && bitsOfOk (whos aT.f1) aL.f0))])]), [(1035, (5, (.ints .u8 (tcBits aL aT))))]⟩, ⟨31, (.tup [(false, [.row 1035 []]), (false, [.d (.bool (tcOk aL aT && bitsOfOk (whos aT.f1) aL.f0))])]), []⟩, ⟨36, (.one (.row 1035 [])), []⟩, ⟨37, (pB (tcOk aL aT && bitsOfOk (whos aT.f1) aL.f0)), []⟩, ⟨9, (.one (.row 1035 [])), []⟩, ⟨10, (pB (tcOk aL aT && bitsOfOk (whos aT.f1) aL.f0)), []⟩] (by kernel_rfl) (by kernel_rfl) ?_ ?_
  ·
   refine .cons (fun E A => OpStep.plain rfl (Step.load_box_agg (n := 5) (qs := [cI aL.f0, cI aL.f1, cI aL.f2, cI aL.f3, cI aL.f4]) (t := 32) rfl rfl (by exact lt_ok rfl) (by kernel_rfl) (A.g 2 rfl) (by exact A.box rfl) rfl rfl)) ?_
   refine .cons (fun E A => OpStep.plain rfl (Step.cd (xs := [.tmp 32]) (ps := [(.agg [cI aL.f0, cI aL.f1, cI aL.f2, cI aL.f3, cI aL.f4])]) (g := .func 26) false 33 (evs_cons (A.g 32 rfl) (rfl)) (.cons (.agg (.cons (.d _) (.cons (.d _) (.cons (.d _) (.cons (.d _) (.cons (.d _) .nil)))))) .nil) (ok_laws_toLimits aL) (At.freshRows A rfl))) ?_
   refine .cons (fun E A => OpStep.plain rfl (Step.load_box_agg (n := 2) (qs := [cI aT.f0, .row 2030 []]) (t := 34) rfl rfl (by exact lt_ok rfl) (by kernel_rfl) (A.g 8 rfl) (by exact A.box rfl) rfl rfl)) ?_
   refine .cons (fun E A => OpStep.plain rfl (Step.cd (xs := [.tmp 33, .tmp 34]) (ps := [(.agg [cI aL.f0, cI aL.f1, cI aL.f2, cI aL.f3, cI aL.f4]), (.agg [cI aT.f0, .row 2030 []])]) (g := .func 28) false 35 (evs_cons (A.g 33 rfl) (evs_cons (A.g 34 rfl) (rfl))) (.cons (.agg (.cons (.d _) (.cons (.d _) (.cons (.d _) (.cons (.d _) (.cons (.d _) .nil)))))) (.cons (.agg (.cons (.d _) (.cons (.row rfl (by exact (A.row 2030 (by kernel_rfl)).trans rfl) rfl rfl) .nil))) .nil)) (ok_impl_TcBits aL aT (by assumption) (by first | assumption | exact h0_.1 | exact (‹l.ok›).1)) (At.freshRows A rfl))) ?_
   refine .cons (fun E A => A.mv 35 31) ?_
   refine .cons (fun E A => OpStep.plain rfl (Step.extract (p := (.one (.row 1035 []))) (t := 36) rfl rfl (by exact lt_ok rfl) (A.g 31 rfl) rfl)) ?_
   refine .cons (fun E A => OpStep.plain rfl (Step.extract (p := (pB (tcOk aL aT && bitsOfOk (whos aT.f1) aL.f0))) (t := 37) rfl rfl (by exact lt_ok rfl) (A.g 31 rfl) rfl)) ?_
   refine .cons (fun E A => A.as 36 9) ?_
   refine .cons (fun E A => A.as 37 10) ?_
   exact .nil _ _
  refine TL.nil ?_
  refine T.seq ?_
  refine T.seq ?_
  refine T.region ?_
  refine TL.mv (.one (.row 1035 [])) ?_
  refine TL.mv (.one (.row 1026 [])) ?_
  refine TL.c (Step.cl (xs := [.tmp 38, .tmp 39]) (ps := [(.one (.row 1035 [])), (.one (.row 1026 []))]) (g := .func 29) false (.cons (.one (.row rfl rfl rfl rfl)) (.cons (.one (.row rfl rfl rfl rfl)) .nil)) (ok_laws_eqByteS (tcBits aL aT) (tcBits aL aT))) ?_
  refine TL.known 40 (c := true) (by simp) rfl ?_
  refine TL.c (Step.not (b := true) rfl rfl (lt_ok rfl) rfl) ?_
  refine TL.mv (pB false) ?_
  refine TL.gm 42 (pB (tcOk aL aT && bitsOfOk (whos aT.f1) aL.f0)) ?_
  refine TL.gm 42 (pB (tcOk aL aT && bitsOfOk (whos aT.f1) aL.f0)) ?_
  refine TL.gy 42 (Step.bneq (b := (tcOk aL aT && bitsOfOk (whos aT.f1) aL.f0)) (c := (tcOk aL aT && bitsOfOk (whos aT.f1) aL.f0)) rfl rfl (lt_ok rfl) (by kernel_rfl) rfl rfl) ?_
  refine TL.known 45 (c := false) (by simp) rfl ?_
  refine TL.pk false (pB false) ?_
  refine TL.nil ?_
  refine T.weaken (E' := { tm := [(2, (.one (.ptr 2 0))), (3, (.one (.ptr 3 0))), (4, (pB false)), (6, (.one (.row 1026 []))), (7, (pB (tcOk aL aT && bitsOfOk (whos aT.f1) aL.f0))), (8, (.one (.ptr 8 0))), (9, (.one (.row 1035 []))), (10, (pB (tcOk aL aT && bitsOfOk (whos aT.f1) aL.f0))), (46, (pB false))], rows := [(1026, (5, (.ints .u8 (tcBits aL aT)))), (2030, (121, (.sl 3 (aT.f1.map SEntry.cells)))), (1035, (5, (.ints .u8 (tcBits aL aT))))], boxes := [(8, (48, [cI aT.f0, .row 2030 []])), (2, (37, [cI aL.f0, cI aL.f1, cI aL.f2, cI aL.f3, cI aL.f4])), (3, (40, [cI aT.f0, .d (.sl 3 (aT.f1.map SEntry.cells))]))] }) (Env.le_mk ⟨by kernel_rfl, by kernel_rfl, by kernel_rfl, by kernel_rfl, by kernel_rfl, by kernel_rfl, by kernel_rfl, by kernel_rfl, by kernel_rfl, trivial⟩ ⟨by kernel_rfl, by kernel_rfl, by kernel_rfl, trivial⟩ ⟨by kernel_rfl, by kernel_rfl, by kernel_rfl, trivial⟩) ?_
  refine T.cond (b := false) rfl (fun h5_ => absurd h5_ (by simp)) (fun h5_ => ?_)
  refine T.skip ?_
  refine T.seq ?_
  refine T.seq ?_
  refine T.draw [⟨47, (.agg [cI aT.f0, .row 2030 []]), []⟩, ⟨48, (.agg [cI aT.f0, .d (.sl 3 (aT.f1.map SEntry.cells))]), []⟩, ⟨49, (.agg [cI aT.f0, .row 2049 []]), [(2049, (121, (.sl 3 (aT.f1.map SEntry.cells))))]⟩, ⟨50, (pB true), []⟩, ⟨51, (pB false), []⟩] (by kernel_rfl) (by kernel_rfl) ?_ ?_
  ·
   refine .cons (fun E A => OpStep.plain rfl (Step.load_box_agg (n := 2) (qs := [cI aT.f0, .row 2030 []]) (t := 47) rfl rfl (by exact lt_ok rfl) (by kernel_rfl) (A.g 8 rfl) (by exact A.box rfl) rfl rfl)) ?_
   refine .cons (fun E A => OpStep.plain rfl (Step.load_box_agg (n := 2) (qs := [cI aT.f0, .d (.sl 3 (aT.f1.map SEntry.cells))]) (t := 48) rfl rfl (by exact lt_ok rfl) (by kernel_rfl) (A.g 3 rfl) (by exact A.box rfl) rfl rfl)) ?_
   refine .cons (fun E A => OpStep.plain rfl (Step.cd (xs := [.tmp 48]) (ps := [(.agg [cI aT.f0, .d (.sl 3 (aT.f1.map SEntry.cells))])]) (g := .func 27) false 49 (evs_cons (A.g 48 rfl) (rfl)) (.cons (.agg (.cons (.d _) (.cons (.d _) .nil))) .nil) (ok_laws_toTc aT (by first | assumption | exact ⟨‹_›, ‹_›⟩ | (refine mem_getD (p := STc.sm) h0_.2 (by omega)) | exact mem_getD h0_.2 (by omega))) (At.freshRows A rfl))) ?_
   refine .cons (fun E A => OpStep.plain rfl (Step.tb 50 (decide (aT = aT)) (by simp : (decide (aT = aT)) = true) (Step.cd (xs := [.tmp 47, .tmp 49]) (ps := [(.agg [cI aT.f0, .row 2030 []]), (.agg [cI aT.f0, .row 2049 []])]) (g := .func 30) false 50 (evs_cons (A.g 47 rfl) (evs_cons (A.g 49 rfl) (rfl))) (.cons (.agg (.cons (.d _) (.cons (.row rfl (by exact (A.row 2030 (by kernel_rfl)).trans rfl) rfl rfl) .nil))) (.cons (.agg (.cons (.d _) (.cons (.row rfl (by exact (A.row 2049 (by kernel_rfl)).trans rfl) rfl rfl) .nil))) .nil)) (ok_laws_eqTc aT aT) (At.freshRows A rfl)))) ?_
   refine .cons (fun E A => OpStep.plain rfl (Step.not (b := true) (t := 51) rfl rfl (by exact lt_ok rfl) (A.g 50 rfl))) ?_
   exact .nil _ _
  refine TL.nil ?_
  refine T.cond (b := false) rfl (fun h6_ => absurd h6_ (by simp)) (fun h6_ => ?_)
  refine T.skip ?_
  refine T.seq ?_
  refine T.region ?_
  refine TL.as (pI 1) ?_
  refine TL.nil ?_
  refine T.seq ?_
  refine T.region ?_
  refine TL.c (Step.load_box_agg (n := 2) (qs := [cI aT.f0, .row 2030 []]) rfl rfl (lt_ok rfl) (by kernel_rfl) rfl rfl rfl rfl) ?_
  refine TL.mv (pI 1) ?_
  have nn7 := STc.cm_nn aT
  refine TL.c (Step.callM2 (xs := [.tmp 52, .tmp 53]) (ps := [(.agg [cI aT.f0, .row 2030 []]), (pI 1)]) (js := [(2030, (.sl 3 ((mkL SEntry.ce SEntry.me aT.f1 1).map SEntry.cells)))]) (g := .func 31) (ok_laws_markTc aT 1 (by omega) (by first | omega | (have := STc.cm_le (x := aT) (by assumption); omega))) rfl rfl (lt_ok rfl) rfl (by kernel_rfl) rfl rfl (.d (.row (T := 121) (d := (.sl 3 (aT.f1.map SEntry.cells))) (e' := (.sl 3 ((mkL SEntry.ce SEntry.me aT.f1 1).map SEntry.cells))) (d' := (.sl 3 ((mkL SEntry.ce SEntry.me aT.f1 1).map SEntry.cells))) rfl rfl rfl rfl rfl (by simp [D.size, mkL_length]) rfl rfl (.d .nil))) rfl) ?_
  refine TL.as (pI (1 + aT.cm)) ?_
  refine TL.nil ?_
  refine T.seq ?_
  refine T.seq ?_
  refine T.region ?_
  refine TL.mv (pI (1 + aT.cm)) ?_
  refine TL.c (Step.bin rfl rfl (lt_ok rfl) rfl rfl (Bin.lss (k := .i64) (a := (1 + aT.cm)) (b := 0))) ?_
  refine TL.known 56 (c := false) (decide_eq_false (by omega)) rfl ?_
  refine TL.mv (pB false) ?_
  refine TL.gm 57 (.one (.row 1035 [])) ?_
  refine TL.gm 57 (.one (.row 1026 [])) ?_
  refine TL.gy 57 (Step.cl (xs := [.tmp 58, .tmp 59]) (ps := [(.one (.row 1035 [])), (.one (.row 1026 []))]) (g := .func 29) false (.cons (.one (.row rfl rfl rfl rfl)) (.cons (.one (.row rfl rfl rfl rfl)) .nil)) (ok_laws_eqByteS (tcBits aL aT) (tcBits aL aT))) ?_
  refine TL.known 60 (c := true) (by simp) rfl ?_
  refine TL.gy 57 (Step.not (b := true) rfl rfl (lt_ok rfl) rfl) ?_
  refine TL.pk false (pB false) ?_
  refine TL.mv (pB false) ?_
  refine TL.gm 63 (pB (tcOk aL aT && bitsOfOk (whos aT.f1) aL.f0)) ?_
  refine TL.gm 63 (pB (tcOk aL aT && bitsOfOk (whos aT.f1) aL.f0)) ?_
  refine TL.gy 63 (Step.bneq (b := (tcOk aL aT && bitsOfOk (whos aT.f1) aL.f0)) (c := (tcOk aL aT && bitsOfOk (whos aT.f1) aL.f0)) rfl rfl (lt_ok rfl) (by kernel_rfl) rfl rfl) ?_
  refine TL.known 66 (c := false) (by simp) rfl ?_
  refine TL.pk false (pB false) ?_
  refine TL.nil ?_
  refine T.cond (b := false) rfl (fun h8_ => absurd h8_ (by simp)) (fun h8_ => ?_)
  refine T.skip ?_
  refine T.seq ?_
  refine T.region ?_
  refine TL.as (pI 1) ?_
  refine TL.nil ?_
  refine T.seq ?_
  refine T.region ?_
  refine TL.mv (.one (.row 1035 [])) ?_
  refine TL.mv (pI 1) ?_
  refine TL.c (Step.callM2 (xs := [.tmp 68, .tmp 69]) (ps := [(.one (.row 1035 [])), (pI 1)]) (js := [(1035, (.ints .u8 (mkB (tcBits aL aT) 1)))]) (g := .func 32) (ok_laws_markByteS (tcBits aL aT) 1 (by omega) (by first | omega | (have := (by assumption); omega))) rfl rfl (lt_ok rfl) rfl (by kernel_rfl) rfl rfl (.row (T := 5) (d := (.ints .u8 (tcBits aL aT))) (e' := (.ints .u8 (mkB (tcBits aL aT) 1))) (d' := (.ints .u8 (mkB (tcBits aL aT) 1))) rfl rfl rfl rfl rfl (by simp [D.size, mkL_length]) rfl rfl (.d .nil)) rfl) ?_
  refine TL.as (pI (1 + ((tcBits aL aT).length : Int))) ?_
  refine TL.nil ?_
  refine T.seq ?_
  refine T.region ?_
  refine TL.as (pI 1) ?_
  refine TL.nil ?_
  refine T.seq ?_
  refine T.region ?_
  refine TL.mv (.one (.row 1035 [])) ?_
  refine TL.mv (pI 1) ?_
  refine TL.c (Step.cl (xs := [.tmp 71, .tmp 72]) (ps := [(.one (.row 1035 [])), (pI 1)]) (g := .func 33) false (.cons (.one (.row rfl rfl rfl rfl)) (.cons (.one (.d _)) .nil)) (ok_laws_heldByteS (tcBits aL aT) (mkB (tcBits aL aT) 1) 1 (by omega) (by first | omega | (have := (by assumption); omega)) (by first | rfl | assumption | (repeat' (first | rfl | apply And.intro))))) ?_
  refine TL.as (pI (1 + ((tcBits aL aT).length : Int))) ?_
  refine TL.nil ?_
  refine T.seq ?_
  refine T.seq ?_
  refine T.region ?_
  refine TL.mv (pI (1 + ((tcBits aL aT).length : Int))) ?_
  refine TL.c (Step.bin rfl rfl (lt_ok rfl) rfl rfl (Bin.lss (k := .i64) (a := (1 + ((tcBits aL aT).length : Int))) (b := 0))) ?_
  refine TL.known 75 (c := false) (decide_eq_false (by omega)) rfl ?_
  refine TL.nil ?_
  refine T.cond (b := false) rfl (fun h9_ => absurd h9_ (by simp)) (fun h9_ => ?_)
  refine T.skip ?_
  refine T.seq ?_
  refine T.seq ?_
  refine T.region ?_
  refine TL.mv (pI (1 + ((tcBits aL aT).length : Int))) ?_
  refine TL.mv (pI (1 + ((tcBits aL aT).length : Int))) ?_
  refine TL.c (Step.bin rfl rfl (lt_ok rfl) rfl rfl (Bin.neq (k := .i64) (a := (1 + ((tcBits aL aT).length : Int))) (b := (1 + ((tcBits aL aT).length : Int))))) ?_
  refine TL.known 78 (c := false) (by simp) rfl ?_
  refine TL.nil ?_
  refine T.cond (b := false) rfl (fun h10_ => absurd h10_ (by simp)) (fun h10_ => ?_)
  refine T.skip ?_
  refine T.seq ?_
  have nn11 := tcBits_len aL aT
  refine T.draw [⟨80, (.agg [cI aL.f0, cI aL.f1, cI aL.f2, cI aL.f3, cI aL.f4]), []⟩, ⟨81, (.agg [cI aL.f0, cI aL.f1, cI aL.f2, cI aL.f3, cI aL.f4]), []⟩, ⟨82, (.agg [cI aT.f0, .d (.sl 3 (aT.f1.map SEntry.cells))]), []⟩, ⟨83, (.agg [cI aT.f0, .row 2083 []]), [(2083, (121, (.sl 3 (aT.f1.map SEntry.cells))))]⟩, ⟨84, (.tup [(false, [.row 1084 []]), (false, [.d (.bool (tcOk aL aT && bitsOfOk (whos aT.f1) aL.f0))])]), [(1084, (5, (.ints .u8 (tcBits aL aT))))]⟩, ⟨79, (.tup [(false, [.row 1084 []]), (false, [.d (.bool (tcOk aL aT && bitsOfOk (whos aT.f1) aL.f0))])]), []⟩, ⟨85, (.one (.row 1084 [])), []⟩, ⟨86, (pB (tcOk aL aT && bitsOfOk (whos aT.f1) aL.f0)), []⟩, ⟨14, (.one (.row 1084 [])), []⟩, ⟨15, (pB (tcOk aL aT && bitsOfOk (whos aT.f1) aL.f0)), []⟩] (by kernel_rfl) (by kernel_rfl) ?_ ?_
  ·
   refine .cons (fun E A => OpStep.plain rfl (Step.load_box_agg (n := 5) (qs := [cI aL.f0, cI aL.f1, cI aL.f2, cI aL.f3, cI aL.f4]) (t := 80) rfl rfl (by exact lt_ok rfl) (by kernel_rfl) (A.g 2 rfl) (by exact A.box rfl) rfl rfl)) ?_
   refine .cons (fun E A => OpStep.plain rfl (Step.cd (xs := [.tmp 80]) (ps := [(.agg [cI aL.f0, cI aL.f1, cI aL.f2, cI aL.f3, cI aL.f4])]) (g := .func 26) false 81 (evs_cons (A.g 80 rfl) (rfl)) (.cons (.agg (.cons (.d _) (.cons (.d _) (.cons (.d _) (.cons (.d _) (.cons (.d _) .nil)))))) .nil) (ok_laws_toLimits aL) (At.freshRows A rfl))) ?_
   refine .cons (fun E A => OpStep.plain rfl (Step.load_box_agg (n := 2) (qs := [cI aT.f0, .d (.sl 3 (aT.f1.map SEntry.cells))]) (t := 82) rfl rfl (by exact lt_ok rfl) (by kernel_rfl) (A.g 3 rfl) (by exact A.box rfl) rfl rfl)) ?_
   refine .cons (fun E A => OpStep.plain rfl (Step.cd (xs := [.tmp 82]) (ps := [(.agg [cI aT.f0, .d (.sl 3 (aT.f1.map SEntry.cells))])]) (g := .func 27) false 83 (evs_cons (A.g 82 rfl) (rfl)) (.cons (.agg (.cons (.d _) (.cons (.d _) .nil))) .nil) (ok_laws_toTc aT (by first | assumption | exact ⟨‹_›, ‹_›⟩ | (refine mem_getD (p := STc.sm) h0_.2 (by omega)) | exact mem_getD h0_.2 (by omega))) (At.freshRows A rfl))) ?_
   refine .cons (fun E A => OpStep.plain rfl (Step.cd (xs := [.tmp 81, .tmp 83]) (ps := [(.agg [cI aL.f0, cI aL.f1, cI aL.f2, cI aL.f3, cI aL.f4]), (.agg [cI aT.f0, .row 2083 []])]) (g := .func 28) false 84 (evs_cons (A.g 81 rfl) (evs_cons (A.g 83 rfl) (rfl))) (.cons (.agg (.cons (.d _) (.cons (.d _) (.cons (.d _) (.cons (.d _) (.cons (.d _) .nil)))))) (.cons (.agg (.cons (.d _) (.cons (.row rfl (by exact (A.row 2083 (by kernel_rfl)).trans rfl) rfl rfl) .nil))) .nil)) (ok_impl_TcBits aL aT (by assumption) (by first | assumption | exact h0_.1 | exact (‹l.ok›).1)) (At.freshRows A rfl))) ?_
   refine .cons (fun E A => A.mv 84 79) ?_
   refine .cons (fun E A => OpStep.plain rfl (Step.extract (p := (.one (.row 1084 []))) (t := 85) rfl rfl (by exact lt_ok rfl) (A.g 79 rfl) rfl)) ?_
   refine .cons (fun E A => OpStep.plain rfl (Step.extract (p := (pB (tcOk aL aT && bitsOfOk (whos aT.f1) aL.f0))) (t := 86) rfl rfl (by exact lt_ok rfl) (A.g 79 rfl) rfl)) ?_
   refine .cons (fun E A => A.as 85 14) ?_
   refine .cons (fun E A => A.as 86 15) ?_
   exact .nil _ _
  refine TL.nil ?_
  refine T.weaken (E' := { tm := [(4, (pB false)), (6, (.one (.row 1026 []))), (7, (pB (tcOk aL aT && bitsOfOk (whos aT.f1) aL.f0))), (9, (.one (.row 1035 []))), (12, (pI (1 + ((tcBits aL aT).length : Int)))), (13, (pI (1 + ((tcBits aL aT).length : Int)))), (14, (.one (.row 1084 []))), (15, (pB (tcOk aL aT && bitsOfOk (whos aT.f1) aL.f0)))], rows := [(1026, (5, (.ints .u8 (tcBits aL aT)))), (1035, (5, (.ints .u8 (mkB (tcBits aL aT) 1)))), (1084, (5, (.ints .u8 (tcBits aL aT))))], boxes := [] }) (Env.le_mk ⟨by kernel_rfl, by kernel_rfl, by kernel_rfl, by kernel_rfl, by kernel_rfl, by kernel_rfl, by kernel_rfl, by kernel_rfl, trivial⟩ ⟨by kernel_rfl, by kernel_rfl, by kernel_rfl, trivial⟩ trivial) ?_
  refine T.seq ?_
  refine T.seq ?_
  refine T.region ?_
  refine TL.mv (.one (.row 1084 [])) ?_
  refine TL.mv (.one (.row 1026 [])) ?_
  refine TL.c (Step.cl (xs := [.tmp 87, .tmp 88]) (ps := [(.one (.row 1084 [])), (.one (.row 1026 []))]) (g := .func 29) false (.cons (.one (.row rfl rfl rfl rfl)) (.cons (.one (.row rfl rfl rfl rfl)) .nil)) (ok_laws_eqByteS (tcBits aL aT) (tcBits aL aT))) ?_
  refine TL.known 89 (c := true) (by simp) rfl ?_
  refine TL.c (Step.not (b := true) rfl rfl (lt_ok rfl) rfl) ?_
  refine TL.mv (pB false) ?_
  refine TL.gm 91 (pB (tcOk aL aT && bitsOfOk (whos aT.f1) aL.f0)) ?_
  refine TL.gm 91 (pB (tcOk aL aT && bitsOfOk (whos aT.f1) aL.f0)) ?_
  refine TL.gy 91 (Step.bneq (b := (tcOk aL aT && bitsOfOk (whos aT.f1) aL.f0)) (c := (tcOk aL aT && bitsOfOk (whos aT.f1) aL.f0)) rfl rfl (lt_ok rfl) (by kernel_rfl) rfl rfl) ?_
  refine TL.known 94 (c := false) (by simp) rfl ?_
  refine TL.pk false (pB false) ?_
  refine TL.nil ?_
  refine T.cond (b := false) rfl (fun h12_ => absurd h12_ (by simp)) (fun h12_ => ?_)
  refine T.skip ?_
  refine T.seq ?_
  refine T.region ?_
  refine TL.as (pI 1) ?_
  refine TL.nil ?_
  refine T.seq ?_
  refine T.region ?_
  refine TL.mv (.one (.row 1035 [])) ?_
  refine TL.mv (pI 1) ?_
  refine TL.c (Step.cl (xs := [.tmp 96, .tmp 97]) (ps := [(.one (.row 1035 [])), (pI 1)]) (g := .func 33) false (.cons (.one (.row rfl rfl rfl rfl)) (.cons (.one (.d _)) .nil)) (ok_laws_heldByteS (tcBits aL aT) (mkB (tcBits aL aT) 1) 1 (by omega) (by first | omega | (have := (by assumption); omega)) (by first | rfl | assumption | (repeat' (first | rfl | apply And.intro))))) ?_
  refine TL.as (pI (1 + ((tcBits aL aT).length : Int))) ?_
  refine TL.nil ?_
  refine T.seq ?_
  refine T.seq ?_
  refine T.region ?_
  refine TL.mv (pI (1 + ((tcBits aL aT).length : Int))) ?_
  refine TL.c (Step.bin rfl rfl (lt_ok rfl) rfl rfl (Bin.lss (k := .i64) (a := (1 + ((tcBits aL aT).length : Int))) (b := 0))) ?_
  refine TL.known 100 (c := false) (decide_eq_false (by omega)) rfl ?_
  refine TL.nil ?_
  refine T.cond (b := false) rfl (fun h13_ => absurd h13_ (by simp)) (fun h13_ => ?_)
  refine T.skip ?_
  refine T.seq ?_
  refine T.seq ?_
  refine T.region ?_
  refine TL.mv (pI (1 + ((tcBits aL aT).length : Int))) ?_
  refine TL.mv (pI (1 + ((tcBits aL aT).length : Int))) ?_
  refine TL.c (Step.bin rfl rfl (lt_ok rfl) rfl rfl (Bin.neq (k := .i64) (a := (1 + ((tcBits aL aT).length : Int))) (b := (1 + ((tcBits aL aT).length : Int))))) ?_
  refine TL.known 103 (c := false) (by simp) rfl ?_
  refine TL.nil ?_
  refine T.cond (b := false) rfl (fun h14_ => absurd h14_ (by simp)) (fun h14_ => ?_)
  refine T.skip ?_
  refine T.seq ?_
  refine T.region ?_
  refine TL.as (pB true) ?_
  refine TL.nil ?_
  refine T.ret ?_
  exact ⟨[(false, [.d (.bool true)])], (.cons rfl .nil), rfl, [], (RetC.rd' rfl .nil)⟩
end Go.Proofs.Ythaagegnobegjaa.Rf
