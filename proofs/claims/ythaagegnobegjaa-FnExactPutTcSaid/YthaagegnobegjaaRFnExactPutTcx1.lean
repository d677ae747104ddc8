/- The functions that FnExactPutTc calls, each held to what it answers. Printed by a program of this session; Lean checks it. -/
import Derived.Test.YthaagegnobegjaaProg
import Derived.Test.YthaagegnobegjaaRf27
import Derived.Test.YthaagegnobegjaaRFnExactPutTcx0
namespace Go.Proofs.Ythaagegnobegjaa.Rf
open Go.RowKit
set_option linter.unusedVariables false
set_option linter.unnecessarySimpa false
set_option linter.unusedSimpArgs false
set_option maxRecDepth 100000
set_option maxHeartbeats 4000000
theorem ok_spec_PutTc (l : SLimits) (b : List Int) (t : STc) (h0_ : b.length ≤ 549755813888) (h1_ : t.sm) : RO Try.prog 51 [.agg l.cells, .one (.ints .u8 b), .agg t.cells] [(false, [.own 5 (.ints .u8 (putTc l b t))]), (false, [.rd (.bool (tcOk l t))])] := by
 refine RO.intro Try.func51 rfl 42 rfl (le_ok rfl) fun w Z => ?_
 refine T.bnd 1 0 rfl rfl fun hb_1_0 => ?_
 simp only [D.size, List.length_map] at hb_1_0
 refine T.bnd 2 1 rfl rfl fun hb_2_1 => ?_
 simp only [D.size, List.length_map] at hb_2_1
 have s0 : t.f1.length ≤ 1048576 ∧ ∀ y ∈ t.f1, SEntry.sm y := h1_
 refine T.seq ?_
 refine T.region ?_
 refine TL.cons rfl (Step.box (p := (.agg [.d (.int .i64 l.f0), .d (.int .i64 l.f1), .d (.int .i64 l.f2), .d (.int .i64 l.f3), .d (.int .i64 l.f4)])) (ps := [.d (.int .i64 l.f0), .d (.int .i64 l.f1), .d (.int .i64 l.f2), .d (.int .i64 l.f3), .d (.int .i64 l.f4)]) rfl rfl (lt_ok rfl) rfl rfl rfl rfl rfl) ?_
 refine TL.cons rfl (Step.box (p := (.agg [.d (.int .i64 t.f0), .d (.sl 3 (t.f1.map SEntry.cells))])) (ps := [.d (.int .i64 t.f0), .d (.sl 3 (t.f1.map SEntry.cells))]) rfl rfl (lt_ok rfl) rfl rfl rfl rfl rfl) ?_
 refine TL.cons rfl (Step.assign (p := (.one (.nil))) rfl rfl (lt_ok rfl) rfl) ?_
 refine TL.cons rfl (Step.assign (p := (.one (.d (.bool false)))) rfl rfl (lt_ok rfl) rfl) ?_
 refine TL.nil ?_
 refine T.seq ?_
 refine T.seq ?_
 refine T.region ?_
 refine TL.cons rfl (Step.load_box_agg (n := 5) (qs := [.d (.int .i64 l.f0), .d (.int .i64 l.f1), .d (.int .i64 l.f2), .d (.int .i64 l.f3), .d (.int .i64 l.f4)]) rfl rfl (lt_ok rfl) (by kernel_rfl) rfl rfl rfl rfl) ?_
 refine TL.cons rfl (Step.load_box_agg (n := 2) (qs := [.d (.int .i64 t.f0), .d (.sl 3 (t.f1.map SEntry.cells))]) rfl rfl (lt_ok rfl) (by kernel_rfl) rfl rfl rfl rfl) ?_
 refine TL.cons rfl (Step.call (f := 87) (xs := [.tmp 11, .tmp 12]) (ps := [(.agg [.d (.int .i64 l.f0), .d (.int .i64 l.f1), .d (.int .i64 l.f2), .d (.int .i64 l.f3), .d (.int .i64 l.f4)]), (.agg [.d (.int .i64 t.f0), .d (.sl 3 (t.f1.map SEntry.cells))])]) false (g := .func 87) rfl rfl (lt_ok rfl) rfl (by kernel_rfl) rfl (.cons (.agg (.cons (.d _) (.cons (.d _) (.cons (.d _) (.cons (.d _) (.cons (.d _) .nil)))))) (.cons (.agg (.cons (.d _) (.cons (.d _) .nil))) .nil)) (ok_spec_TcOk l t) (.inr rfl) rfl (by simp) rfl) ?_
 refine TL.cons rfl (Step.not (b := (tcOk l t)) rfl rfl (lt_ok rfl) rfl) ?_
 refine TL.nil ?_
 refine T.cond (b := !(tcOk l t)) rfl (fun h1 => ?_) (fun h1 => ?_)
 ·
  replace h1 : (tcOk l t) = false := by simpa only [Bool.not_eq_true', Bool.not_eq_false'] using h1
  refine T.seq ?_
  refine T.region ?_
  refine TL.cons rfl (Step.assign (p := (.one (.nil))) rfl rfl (lt_ok rfl) rfl) ?_
  refine TL.cons rfl (Step.assign (p := (.one (.d (.bool false)))) rfl rfl (lt_ok rfl) rfl) ?_
  refine TL.nil ?_
  refine T.ret ?_
  exact ⟨[(false, [.nil]), (false, [.d (.bool false)])], (.cons rfl (.cons rfl .nil)), rfl, [], (RetC.nilown' rfl (by first | rfl | (congr 1; unfold putTc putTcB; rw [if_pos (by assumption), ← foldl_all entB _ t.f1 i (by omega)]) | (show (putTc l b t).length = 0; unfold putTc; rw [if_neg (by simp [*])]; rfl) | (congr 1; symm; assumption)) (by first | exact trivial | exact D.wf_nil _) (RetC.rd' (by first | rfl | (congr 1; unfold putTc putTcB; rw [if_pos (by assumption), ← foldl_all entB _ t.f1 i (by omega)]) | (show (putTc l b t).length = 0; unfold putTc; rw [if_neg (by simp [*])]; rfl) | (congr 1; symm; assumption)) .nil))⟩
 ·
  replace h1 : (tcOk l t) = true := by simpa only [Bool.not_eq_true', Bool.not_eq_false'] using h1
  refine T.skip ?_
  refine T.seq ?_
  have nn2 := putVar_len b t.f0
  have nn3 := putVar_len (putVar b t.f0) (t.f1.length : Int)
  refine T.drawX [{ dst := some 15, pv := (.one (.d (.ints .u8 b))) }, { dst := some 16, pv := (.one (.ptr 5 0)) }, { dst := some 17, pv := (.one (.d (.int .i64 t.f0))) }, { dst := some 18, pv := (.one (.row 1018 [])), rows := [(1018, (5, (.ints .u8 (putVar b t.f0))))] }, { dst := some 19, pv := (.one (.ptr 5 1)) }, { dst := some 20, pv := (.one (.d (.sl 3 (t.f1.map SEntry.cells)))) }, { dst := some 21, pv := (.one (.d (.int .i64 (t.f1.length : Int)))) }, { dst := some 22, pv := (.one (.row 1022 [])), rows := [(1022, (5, (.ints .u8 (putVar (putVar b t.f0) (t.f1.length : Int)))))] }, { dst := some 8, pv := (.one (.row 1022 [])) }] (by kernel_rfl) (by kernel_rfl) ?_ ?_
  ·
   refine .cons (fun E hA_ => by have g1 : E.get 1 = (.one (.d (.ints .u8 b))) := (hA_.get 1 (by kernel_rfl)).trans (by kernel_rfl); exact OpStep.plain rfl (Step.move (p := (.one (.d (.ints .u8 b)))) (t := 15) rfl rfl (by exact lt_ok rfl) (show Env.ev E (.tmp 1) = _ from g1.trans rfl))) ?_
   refine .cons (fun E hA_ => by have g5 : E.get 5 = (.one (.ptr 5 0)) := (hA_.get 5 (by kernel_rfl)).trans (by kernel_rfl); exact OpStep.plain rfl (Step.fieldAddr (q := 0) (off := 0) (n := 1) (one := true) (t := 16) rfl rfl (by exact lt_ok rfl) (by kernel_rfl) (Nat.succ_ne_zero _) (show Env.ev E (.tmp 5) = _ from g5.trans rfl))) ?_
   refine .cons (fun E hA_ => by have g16 : E.get 16 = (.one (.ptr 5 0)) := (hA_.get 16 (by kernel_rfl)).trans (by kernel_rfl); have b5 : E.box 5 = some (48, [.d (.int .i64 t.f0), .d (.sl 3 (t.f1.map SEntry.cells))]) := (hA_.box 5 (by kernel_rfl)).trans (by kernel_rfl); exact OpStep.plain rfl (Step.load_box (c := .d (.int .i64 t.f0)) (t := 17) rfl rfl (by exact lt_ok rfl) (by kernel_rfl) (show Env.ev E (.tmp 16) = _ from g16.trans rfl) b5 rfl)) ?_
   refine .cons (fun E hA_ => by have g15 : E.get 15 = (.one (.d (.ints .u8 b))) := (hA_.get 15 (by kernel_rfl)).trans (by kernel_rfl); have g17 : E.get 17 = (.one (.d (.int .i64 t.f0))) := (hA_.get 17 (by kernel_rfl)).trans (by kernel_rfl); exact OpStep.plain rfl (Step.call (f := 108) (xs := [.tmp 15, .tmp 17]) (ps := [(.one (.d (.ints .u8 b))), (.one (.d (.int .i64 t.f0)))]) false (g := .func 108) (t := 18) rfl rfl (by exact lt_ok rfl) rfl (by kernel_rfl) (evs_cons (show Env.ev E (.tmp 15) = _ from g15.trans rfl) (evs_cons (show Env.ev E (.tmp 17) = _ from g17.trans rfl) (rfl))) (.cons (.one (.d _)) (.cons (.one (.d _)) .nil)) (ok_spec_l11Num b t.f0 (by first | omega | assumption | (simp only [List.length_append] at *; omega))) (.inr rfl) (freshRows_of _ _ (fun x_ hx_ => hA_.fresh x_ (by exact hx_))) (by simp) rfl)) ?_
   refine .cons (fun E hA_ => by have g5 : E.get 5 = (.one (.ptr 5 0)) := (hA_.get 5 (by kernel_rfl)).trans (by kernel_rfl); exact OpStep.plain rfl (Step.fieldAddr (q := 0) (off := 1) (n := 1) (one := true) (t := 19) rfl rfl (by exact lt_ok rfl) (by kernel_rfl) (Nat.succ_ne_zero _) (show Env.ev E (.tmp 5) = _ from g5.trans rfl))) ?_
   refine .cons (fun E hA_ => by have g19 : E.get 19 = (.one (.ptr 5 1)) := (hA_.get 19 (by kernel_rfl)).trans (by kernel_rfl); have b5 : E.box 5 = some (48, [.d (.int .i64 t.f0), .d (.sl 3 (t.f1.map SEntry.cells))]) := (hA_.box 5 (by kernel_rfl)).trans (by kernel_rfl); exact OpStep.plain rfl (Step.load_box (c := .d (.sl 3 (t.f1.map SEntry.cells))) (t := 20) rfl rfl (by exact lt_ok rfl) (by kernel_rfl) (show Env.ev E (.tmp 19) = _ from g19.trans rfl) b5 rfl)) ?_
   refine .cons (fun E hA_ => by have g20 : E.get 20 = (.one (.d (.sl 3 (t.f1.map SEntry.cells)))) := (hA_.get 20 (by kernel_rfl)).trans (by kernel_rfl); exact OpStep.plain rfl (Step.len' (e := 121) (z := 3) (d := (.sl 3 (t.f1.map SEntry.cells))) (n := t.f1.length) (t := 21) rfl rfl (by exact lt_ok rfl) (by kernel_rfl) (show Env.ev E (.tmp 20) = _ from g20.trans rfl) rfl (by simp [D.size]))) ?_
   refine .cons (fun E hA_ => by have g18 : E.get 18 = (.one (.row 1018 [])) := (hA_.get 18 (by kernel_rfl)).trans (by kernel_rfl); have g21 : E.get 21 = (.one (.d (.int .i64 (t.f1.length : Int)))) := (hA_.get 21 (by kernel_rfl)).trans (by kernel_rfl); have q1018 : E.row 1018 = some (5, (.ints .u8 (putVar b t.f0))) := (hA_.row 1018 (by kernel_rfl)).trans (by kernel_rfl); exact OpStep.plain rfl (Step.call (f := 108) (xs := [.tmp 18, .tmp 21]) (ps := [(.one (.row 1018 [])), (.one (.d (.int .i64 (t.f1.length : Int))))]) false (g := .func 108) (t := 22) rfl rfl (by exact lt_ok rfl) rfl (by kernel_rfl) (evs_cons (show Env.ev E (.tmp 18) = _ from g18.trans rfl) (evs_cons (show Env.ev E (.tmp 21) = _ from g21.trans rfl) (rfl))) (.cons (.one (.row rfl q1018 rfl rfl)) (.cons (.one (.d _)) .nil)) (ok_spec_l11Num (putVar b t.f0) (t.f1.length : Int) (by first | omega | assumption | (simp only [List.length_append] at *; omega))) (.inr rfl) (freshRows_of _ _ (fun x_ hx_ => hA_.fresh x_ (by exact hx_))) (by simp) rfl)) ?_
   refine .cons (fun E hA_ => by have g22 : E.get 22 = (.one (.row 1022 [])) := (hA_.get 22 (by kernel_rfl)).trans (by kernel_rfl); exact OpStep.plain rfl (Step.assign (p := (.one (.row 1022 []))) (t := 8) rfl rfl (by exact lt_ok rfl) (show Env.ev E (.tmp 22) = _ from g22.trans rfl))) ?_
   exact .nil _ _
  refine TL.weaken (E' := { tm := [(0, (.agg [.d (.int .i64 l.f0), .d (.int .i64 l.f1), .d (.int .i64 l.f2), .d (.int .i64 l.f3), .d (.int .i64 l.f4)])), (1, (.one (.d (.ints .u8 b)))), (2, (.agg [.d (.int .i64 t.f0), .d (.sl 3 (t.f1.map SEntry.cells))])), (3, (.one (.ptr 3 0))), (5, (.one (.ptr 5 0))), (6, (.one (.nil))), (7, (.one (.d (.bool false)))), (11, (.agg [.d (.int .i64 l.f0), .d (.int .i64 l.f1), .d (.int .i64 l.f2), .d (.int .i64 l.f3), .d (.int .i64 l.f4)])), (12, (.agg [.d (.int .i64 t.f0), .d (.sl 3 (t.f1.map SEntry.cells))])), (13, (.one (.d (.bool (tcOk l t))))), (14, (.one (.d (.bool (!(tcOk l t)))))), (15, (.one (.d (.ints .u8 b)))), (16, (.one (.ptr 5 0))), (17, (.one (.d (.int .i64 t.f0)))), (18, (.one (.row 1018 []))), (19, (.one (.ptr 5 1))), (20, (.one (.d (.sl 3 (t.f1.map SEntry.cells))))), (21, (.one (.d (.int .i64 (t.f1.length : Int))))), (22, (.one (.row 1022 []))), (8, (.one (.row 1022 [])))], rows := [(1018, (5, (.ints .u8 (putVar b t.f0)))), (1022, (5, (.ints .u8 (putVar (putVar b t.f0) (t.f1.length : Int)))))], boxes := [(3, (44, [.d (.int .i64 l.f0), .d (.int .i64 l.f1), .d (.int .i64 l.f2), .d (.int .i64 l.f3), .d (.int .i64 l.f4)])), (5, (48, [.d (.int .i64 t.f0), .d (.sl 3 (t.f1.map SEntry.cells))]))] }) (Env.le_mk ⟨by kernel_rfl, by kernel_rfl, by kernel_rfl, by kernel_rfl, by kernel_rfl, by kernel_rfl, by kernel_rfl, by kernel_rfl, by kernel_rfl, by kernel_rfl, by kernel_rfl, by kernel_rfl, by kernel_rfl, by kernel_rfl, by kernel_rfl, by kernel_rfl, by kernel_rfl, by kernel_rfl, by kernel_rfl, by kernel_rfl, trivial⟩ ⟨by kernel_rfl, by kernel_rfl, trivial⟩ ⟨by kernel_rfl, by kernel_rfl, trivial⟩) ?_
  refine TL.ren 1022 600001 rfl (by simp) ?_
  refine TL.nil ?_
  refine T.seq ?_
  refine T.seq ?_
  refine T.region ?_
  refine TL.cons rfl (Step.fieldAddr (q := 0) (off := 1) (n := 1) (one := true) rfl rfl (lt_ok rfl) (by kernel_rfl) (Nat.succ_ne_zero _) rfl) ?_
  refine TL.cons rfl (Step.load_box (c := .d (.sl 3 (t.f1.map SEntry.cells))) rfl rfl (lt_ok rfl) (by kernel_rfl) rfl rfl rfl) ?_
  refine TL.cons rfl (Step.len' (e := 121) (z := 3) (d := (.sl 3 (t.f1.map SEntry.cells))) (n := t.f1.length) rfl rfl (lt_ok rfl) (by kernel_rfl) rfl rfl (by simp [D.size])) ?_
  refine TL.cons rfl (Step.move (p := (.one (.d (.int .i64 0)))) rfl rfl (lt_ok rfl) rfl) ?_
  refine TL.nil ?_
  refine T.block ?_
  refine T.loop (ι := Nat) (fun xx_ => { tm := [(6, (.one (.nil))), (7, (.one (.d (.bool false)))), (24, (.one (.d (.sl 3 (t.f1.map SEntry.cells))))), (25, (.one (.d (.int .i64 (t.f1.length : Int))))), (26, (.one (.d (.int .i64 (xx_ : Int))))), (8, (.one (.row 600001 [])))], rows := [(600001, (5, (.ints .u8 ((t.f1.take xx_).foldl entB (putVar (putVar b t.f0) (t.f1.length : Int))))))], boxes := [(3, (44, [.d (.int .i64 l.f0), .d (.int .i64 l.f1), .d (.int .i64 l.f2), .d (.int .i64 l.f3), .d (.int .i64 l.f4)])), (5, (48, [.d (.int .i64 t.f0), .d (.sl 3 (t.f1.map SEntry.cells))]))] }) (fun xx_ => xx_ ≤ t.f1.length) (fun xx_ => t.f1.length - xx_) 0 ?_ ?_ ?_
  · exact Env.le_mk ⟨rfl, rfl, rfl, rfl, by first | (refine congrArg (fun x => some (_, D.ints .u8 x)) ?_; first | (rw [foldl_take_succ entB _ _ i default (by omega)]; rfl) | rfl) | rfl | (refine congrArg (fun n => PV.one (.d (.int .i64 n))) ?_; first | omega | (simp; done)), rfl, trivial⟩ ⟨by first | (refine congrArg (fun x => some (_, D.ints .u8 x)) ?_; first | (rw [foldl_take_succ entB _ _ i default (by omega)]; rfl) | rfl) | rfl | (refine congrArg (fun n => PV.one (.d (.int .i64 n))) ?_; first | omega | (simp; done)), trivial⟩ ⟨rfl, rfl, trivial⟩
  · exact Nat.zero_le _
  ·
   intro i hx
   try dsimp only at hx ⊢
   have hw_ := ents_len (b := putVar (putVar b t.f0) (t.f1.length : Int)) s0.1 s0.2 i
   have hy_ := ent_sm s0.2 i
   refine T.seq ?_
   refine T.region ?_
   refine TL.cons rfl (Step.bin rfl rfl (lt_ok rfl) rfl rfl (Bin.lss (k := .i64) (a := (i : Int)) (b := (t.f1.length : Int)))) ?_
   refine TL.nil ?_
   refine T.seq ?_
   refine T.cond (b := decide ((i : Int) < (t.f1.length : Int))) rfl (fun h4 => ?_) (fun h4 => ?_)
   ·
    replace h4 := of_decide_eq_true h4
    refine T.skip ?_
    refine T.seq ?_
    refine T.block ?_
    refine T.seq ?_
    refine T.region ?_
    refine TL.cons rfl (Step.index (e := 121) (z := 3) (i := (i : Int)) rfl rfl (lt_ok rfl) (by kernel_rfl) rfl rfl rfl (lt_ok rfl) rfl (by first | omega | (simp only [List.length_append] at *; omega) | (simp; omega)) (by simp only [D.size]; first | omega | (simp only [List.length_append] at *; omega) | (simp; omega))) ?_
    refine TL.cons rfl (Step.load_agg (n := 3) (cs := [.d (.int .i64 (t.f1.getD i default).f0), .d (.int .i64 (t.f1.getD i default).f1), .d (.ints .u8 (t.f1.getD i default).f2)]) rfl rfl (lt_ok rfl) (by kernel_rfl) rfl rfl (by simp only [List.range, List.range.loop, List.map_cons, List.map_nil]; rw [cell_map default (by first | omega | (simp only [List.length_append] at *; omega) | (simp; omega)), cell_map default (by first | omega | (simp only [List.length_append] at *; omega) | (simp; omega)), cell_map default (by first | omega | (simp only [List.length_append] at *; omega) | (simp; omega))]; rfl)) ?_
    refine TL.cons rfl (Step.alloc (cs := [.int .i64 0, .int .i64 0, .slice none 0 0]) (ps := [.d (.int .i64 0), .d (.int .i64 0), .nil]) rfl rfl (lt_ok rfl) (by kernel_rfl) rfl rfl rfl rfl) ?_
    refine TL.cons rfl (Step.store_box (n := 3) (p := (.agg [.d (.int .i64 (t.f1.getD i default).f0), .d (.int .i64 (t.f1.getD i default).f1), .d (.ints .u8 (t.f1.getD i default).f2)])) (qs := [.d (.int .i64 (t.f1.getD i default).f0), .d (.int .i64 (t.f1.getD i default).f1), .d (.ints .u8 (t.f1.getD i default).f2)]) (ps' := [.d (.int .i64 (t.f1.getD i default).f0), .d (.int .i64 (t.f1.getD i default).f1), .d (.ints .u8 (t.f1.getD i default).f2)]) rfl rfl (by kernel_rfl) rfl rfl rfl rfl rfl rfl (le_ok rfl) rfl) ?_
    refine TL.nil ?_
    have nn5 := putVar_len ((t.f1.take i).foldl entB (putVar (putVar b t.f0) (t.f1.length : Int))) (t.f1.getD i default).f0
    have nn6 := putVar_len (putVar ((t.f1.take i).foldl entB (putVar (putVar b t.f0) (t.f1.length : Int))) (t.f1.getD i default).f0) (t.f1.getD i default).f1
    refine T.drawX [{ dst := some 30, pv := (.one (.row 600001 [])) }, { dst := some 31, pv := (.one (.ptr 10 0)) }, { dst := some 32, pv := (.one (.d (.int .i64 (t.f1.getD i default).f0))) }, { dst := some 33, pv := (.one (.row 1033 [])), rows := [(1033, (5, (.ints .u8 (putVar ((t.f1.take i).foldl entB (putVar (putVar b t.f0) (t.f1.length : Int))) (t.f1.getD i default).f0))))] }, { dst := some 34, pv := (.one (.ptr 10 1)) }, { dst := some 35, pv := (.one (.d (.int .i64 (t.f1.getD i default).f1))) }, { dst := some 36, pv := (.one (.row 1036 [])), rows := [(1036, (5, (.ints .u8 (putVar (putVar ((t.f1.take i).foldl entB (putVar (putVar b t.f0) (t.f1.length : Int))) (t.f1.getD i default).f0) (t.f1.getD i default).f1))))] }, { dst := some 37, pv := (.one (.ptr 10 2)) }, { dst := some 38, pv := (.one (.d (.ints .u8 (t.f1.getD i default).f2))) }, { dst := some 39, pv := (.one (.row 500039 [])), rows := [(500039, (5, (.ints .u8 ((putVar (putVar ((t.f1.take i).foldl entB (putVar (putVar b t.f0) (t.f1.length : Int))) (t.f1.getD i default).f0) (t.f1.getD i default).f1) ++ (t.f1.getD i default).f2))))], dead := [1036] }, { dst := some 8, pv := (.one (.row 500039 [])) }] (by kernel_rfl) (by kernel_rfl) ?_ ?_
    ·
     refine .cons (fun E hA_ => by have g8 : E.get 8 = (.one (.row 600001 [])) := (hA_.get 8 (by kernel_rfl)).trans (by kernel_rfl); exact OpStep.plain rfl (Step.move (p := (.one (.row 600001 []))) (t := 30) rfl rfl (by exact lt_ok rfl) (show Env.ev E (.tmp 8) = _ from g8.trans rfl))) ?_
     refine .cons (fun E hA_ => by have g10 : E.get 10 = (.one (.ptr 10 0)) := (hA_.get 10 (by kernel_rfl)).trans (by kernel_rfl); exact OpStep.plain rfl (Step.fieldAddr (q := 0) (off := 0) (n := 1) (one := true) (t := 31) rfl rfl (by exact lt_ok rfl) (by kernel_rfl) (Nat.succ_ne_zero _) (show Env.ev E (.tmp 10) = _ from g10.trans rfl))) ?_
     refine .cons (fun E hA_ => by have g31 : E.get 31 = (.one (.ptr 10 0)) := (hA_.get 31 (by kernel_rfl)).trans (by kernel_rfl); have b10 : E.box 10 = some (121, [.d (.int .i64 (t.f1.getD i default).f0), .d (.int .i64 (t.f1.getD i default).f1), .d (.ints .u8 (t.f1.getD i default).f2)]) := (hA_.box 10 (by kernel_rfl)).trans (by kernel_rfl); exact OpStep.plain rfl (Step.load_box (c := .d (.int .i64 (t.f1.getD i default).f0)) (t := 32) rfl rfl (by exact lt_ok rfl) (by kernel_rfl) (show Env.ev E (.tmp 31) = _ from g31.trans rfl) b10 rfl)) ?_
     refine .cons (fun E hA_ => by have g30 : E.get 30 = (.one (.row 600001 [])) := (hA_.get 30 (by kernel_rfl)).trans (by kernel_rfl); have g32 : E.get 32 = (.one (.d (.int .i64 (t.f1.getD i default).f0))) := (hA_.get 32 (by kernel_rfl)).trans (by kernel_rfl); have q600001 : E.row 600001 = some (5, (.ints .u8 ((t.f1.take i).foldl entB (putVar (putVar b t.f0) (t.f1.length : Int))))) := (hA_.row 600001 (by kernel_rfl)).trans (by kernel_rfl); exact OpStep.plain rfl (Step.call (f := 108) (xs := [.tmp 30, .tmp 32]) (ps := [(.one (.row 600001 [])), (.one (.d (.int .i64 (t.f1.getD i default).f0)))]) false (g := .func 108) (t := 33) rfl rfl (by exact lt_ok rfl) rfl (by kernel_rfl) (evs_cons (show Env.ev E (.tmp 30) = _ from g30.trans rfl) (evs_cons (show Env.ev E (.tmp 32) = _ from g32.trans rfl) (rfl))) (.cons (.one (.row rfl q600001 rfl rfl)) (.cons (.one (.d _)) .nil)) (ok_spec_l11Num ((t.f1.take i).foldl entB (putVar (putVar b t.f0) (t.f1.length : Int))) (t.f1.getD i default).f0 (by first | omega | assumption | (simp only [List.length_append] at *; omega))) (.inr rfl) (freshRows_of _ _ (fun x_ hx_ => hA_.fresh x_ (by exact hx_))) (by simp) rfl)) ?_
     refine .cons (fun E hA_ => by have g10 : E.get 10 = (.one (.ptr 10 0)) := (hA_.get 10 (by kernel_rfl)).trans (by kernel_rfl); exact OpStep.plain rfl (Step.fieldAddr (q := 0) (off := 1) (n := 1) (one := true) (t := 34) rfl rfl (by exact lt_ok rfl) (by kernel_rfl) (Nat.succ_ne_zero _) (show Env.ev E (.tmp 10) = _ from g10.trans rfl))) ?_
     refine .cons (fun E hA_ => by have g34 : E.get 34 = (.one (.ptr 10 1)) := (hA_.get 34 (by kernel_rfl)).trans (by kernel_rfl); have b10 : E.box 10 = some (121, [.d (.int .i64 (t.f1.getD i default).f0), .d (.int .i64 (t.f1.getD i default).f1), .d (.ints .u8 (t.f1.getD i default).f2)]) := (hA_.box 10 (by kernel_rfl)).trans (by kernel_rfl); exact OpStep.plain rfl (Step.load_box (c := .d (.int .i64 (t.f1.getD i default).f1)) (t := 35) rfl rfl (by exact lt_ok rfl) (by kernel_rfl) (show Env.ev E (.tmp 34) = _ from g34.trans rfl) b10 rfl)) ?_
     refine .cons (fun E hA_ => by have g33 : E.get 33 = (.one (.row 1033 [])) := (hA_.get 33 (by kernel_rfl)).trans (by kernel_rfl); have g35 : E.get 35 = (.one (.d (.int .i64 (t.f1.getD i default).f1))) := (hA_.get 35 (by kernel_rfl)).trans (by kernel_rfl); have q1033 : E.row 1033 = some (5, (.ints .u8 (putVar ((t.f1.take i).foldl entB (putVar (putVar b t.f0) (t.f1.length : Int))) (t.f1.getD i default).f0))) := (hA_.row 1033 (by kernel_rfl)).trans (by kernel_rfl); exact OpStep.plain rfl (Step.call (f := 108) (xs := [.tmp 33, .tmp 35]) (ps := [(.one (.row 1033 [])), (.one (.d (.int .i64 (t.f1.getD i default).f1)))]) false (g := .func 108) (t := 36) rfl rfl (by exact lt_ok rfl) rfl (by kernel_rfl) (evs_cons (show Env.ev E (.tmp 33) = _ from g33.trans rfl) (evs_cons (show Env.ev E (.tmp 35) = _ from g35.trans rfl) (rfl))) (.cons (.one (.row rfl q1033 rfl rfl)) (.cons (.one (.d _)) .nil)) (ok_spec_l11Num (putVar ((t.f1.take i).foldl entB (putVar (putVar b t.f0) (t.f1.length : Int))) (t.f1.getD i default).f0) (t.f1.getD i default).f1 (by first | omega | assumption | (simp only [List.length_append] at *; omega))) (.inr rfl) (freshRows_of _ _ (fun x_ hx_ => hA_.fresh x_ (by exact hx_))) (by simp) rfl)) ?_
     refine .cons (fun E hA_ => by have g10 : E.get 10 = (.one (.ptr 10 0)) := (hA_.get 10 (by kernel_rfl)).trans (by kernel_rfl); exact OpStep.plain rfl (Step.fieldAddr (q := 0) (off := 2) (n := 1) (one := true) (t := 37) rfl rfl (by exact lt_ok rfl) (by kernel_rfl) (Nat.succ_ne_zero _) (show Env.ev E (.tmp 10) = _ from g10.trans rfl))) ?_
     refine .cons (fun E hA_ => by have g37 : E.get 37 = (.one (.ptr 10 2)) := (hA_.get 37 (by kernel_rfl)).trans (by kernel_rfl); have b10 : E.box 10 = some (121, [.d (.int .i64 (t.f1.getD i default).f0), .d (.int .i64 (t.f1.getD i default).f1), .d (.ints .u8 (t.f1.getD i default).f2)]) := (hA_.box 10 (by kernel_rfl)).trans (by kernel_rfl); exact OpStep.plain rfl (Step.load_box (c := .d (.ints .u8 (t.f1.getD i default).f2)) (t := 38) rfl rfl (by exact lt_ok rfl) (by kernel_rfl) (show Env.ev E (.tmp 37) = _ from g37.trans rfl) b10 rfl)) ?_
     refine .cons (fun E hA_ => by have g36 : E.get 36 = (.one (.row 1036 [])) := (hA_.get 36 (by kernel_rfl)).trans (by kernel_rfl); have g38 : E.get 38 = (.one (.d (.ints .u8 (t.f1.getD i default).f2))) := (hA_.get 38 (by kernel_rfl)).trans (by kernel_rfl); have q1036 : E.row 1036 = some (5, (.ints .u8 (putVar (putVar ((t.f1.take i).foldl entB (putVar (putVar b t.f0) (t.f1.length : Int))) (t.f1.getD i default).f0) (t.f1.getD i default).f1))) := (hA_.row 1036 (by kernel_rfl)).trans (by kernel_rfl); exact OpStep.plain rfl (Step.appendX (e := 5) (z := 1) (by_ := 1) (d := (.ints .u8 (putVar (putVar ((t.f1.take i).foldl entB (putVar (putVar b t.f0) (t.f1.length : Int))) (t.f1.getD i default).f0) (t.f1.getD i default).f1))) (dy := (.ints .u8 (t.f1.getD i default).f2)) (d' := (.ints .u8 ((putVar (putVar ((t.f1.take i).foldl entB (putVar (putVar b t.f0) (t.f1.length : Int))) (t.f1.getD i default).f0) (t.f1.getD i default).f1) ++ (t.f1.getD i default).f2))) (ss := []) 500039 (t := 39) rfl rfl (by exact lt_ok rfl) (by kernel_rfl) (show Env.ev E (.tmp 36) = _ from g36.trans rfl) q1036 rfl (lt_ok rfl) (show Env.ev E (.tmp 38) = _ from g38.trans rfl) (.froz rfl (by simp [D.flat, D.val])) (by simp) rfl (by simp only [D.size, List.length_map]; first | omega | (simp; omega) | (simp only [List.length_append] at *; omega)) (by simp only [D.size, List.length_map]; first | omega | (simp; omega) | (simp only [List.length_append] at *; omega)) (by simp) (hA_.fresh _ (List.mem_singleton.2 rfl)) (by simp) (by simp))) ?_
     refine .cons (fun E hA_ => by have g39 : E.get 39 = (.one (.row 500039 [])) := (hA_.get 39 (by kernel_rfl)).trans (by kernel_rfl); exact OpStep.plain rfl (Step.assign (p := (.one (.row 500039 []))) (t := 8) rfl rfl (by exact lt_ok rfl) (show Env.ev E (.tmp 39) = _ from g39.trans rfl))) ?_
     exact .nil _ _
    refine TL.weaken (E' := { tm := [(6, (.one (.nil))), (7, (.one (.d (.bool false)))), (24, (.one (.d (.sl 3 (t.f1.map SEntry.cells))))), (25, (.one (.d (.int .i64 (t.f1.length : Int))))), (26, (.one (.d (.int .i64 (i : Int))))), (8, (.one (.row 500039 []))), (27, (.one (.d (.bool (decide ((i : Int) < (t.f1.length : Int))))))), (28, (.one (.eptr (.sl 3 (t.f1.map SEntry.cells)) i 0))), (29, (.agg [.d (.int .i64 (t.f1.getD i default).f0), .d (.int .i64 (t.f1.getD i default).f1), .d (.ints .u8 (t.f1.getD i default).f2)])), (10, (.one (.ptr 10 0))), (30, (.one (.row 600001 []))), (31, (.one (.ptr 10 0))), (32, (.one (.d (.int .i64 (t.f1.getD i default).f0)))), (33, (.one (.row 1033 []))), (34, (.one (.ptr 10 1))), (35, (.one (.d (.int .i64 (t.f1.getD i default).f1)))), (37, (.one (.ptr 10 2))), (38, (.one (.d (.ints .u8 (t.f1.getD i default).f2)))), (39, (.one (.row 500039 [])))], rows := [(600001, (5, (.ints .u8 ((t.f1.take i).foldl entB (putVar (putVar b t.f0) (t.f1.length : Int)))))), (1033, (5, (.ints .u8 (putVar ((t.f1.take i).foldl entB (putVar (putVar b t.f0) (t.f1.length : Int))) (t.f1.getD i default).f0)))), (500039, (5, (.ints .u8 ((putVar (putVar ((t.f1.take i).foldl entB (putVar (putVar b t.f0) (t.f1.length : Int))) (t.f1.getD i default).f0) (t.f1.getD i default).f1) ++ (t.f1.getD i default).f2))))], boxes := [(3, (44, [.d (.int .i64 l.f0), .d (.int .i64 l.f1), .d (.int .i64 l.f2), .d (.int .i64 l.f3), .d (.int .i64 l.f4)])), (5, (48, [.d (.int .i64 t.f0), .d (.sl 3 (t.f1.map SEntry.cells))])), (10, (121, [.d (.int .i64 (t.f1.getD i default).f0), .d (.int .i64 (t.f1.getD i default).f1), .d (.ints .u8 (t.f1.getD i default).f2)]))] }) (Env.le_mk ⟨by kernel_rfl, by kernel_rfl, by kernel_rfl, by kernel_rfl, by kernel_rfl, by kernel_rfl, by kernel_rfl, by kernel_rfl, by kernel_rfl, by kernel_rfl, by kernel_rfl, by kernel_rfl, by kernel_rfl, by kernel_rfl, by kernel_rfl, by kernel_rfl, by kernel_rfl, by kernel_rfl, by kernel_rfl, trivial⟩ ⟨by kernel_rfl, by kernel_rfl, by kernel_rfl, trivial⟩ ⟨by kernel_rfl, by kernel_rfl, by kernel_rfl, trivial⟩) ?_
    refine TL.weaken (Env.drops_le [600001] _) ?_
    refine TL.ren 500039 600001 rfl (by simp) ?_
    refine TL.nil ?_
    refine T.region ?_
    refine TL.cons rfl (Step.bin (r := .int .i64 ((i : Int) + 1)) rfl rfl (lt_ok rfl) rfl rfl (Bin.add (a := (i : Int)) (b := 1) (by first | exact wrap_ok (by first | omega | (simp only [List.length_append] at *; omega) | (simp; omega)) (by first | omega | (simp only [List.length_append] at *; omega) | (simp; omega)) | rfl))) ?_
    refine TL.cons rfl (Step.move (p := (.one (.d (.int .i64 ((i : Int) + 1))))) rfl rfl (lt_ok rfl) rfl) ?_
    refine TL.nil ?_
    exact ⟨i + 1, by omega, by first | omega | (dsimp only; omega), Env.le_mk ⟨rfl, rfl, rfl, rfl, by first | (refine congrArg (fun x => some (_, D.ints .u8 x)) ?_; first | (rw [foldl_take_succ entB _ _ i default (by omega)]; rfl) | rfl) | rfl | (refine congrArg (fun n => PV.one (.d (.int .i64 n))) ?_; first | omega | (simp; done)), rfl, trivial⟩ ⟨by first | (refine congrArg (fun x => some (_, D.ints .u8 x)) ?_; first | (rw [foldl_take_succ entB _ _ i default (by omega)]; rfl) | rfl) | rfl | (refine congrArg (fun n => PV.one (.d (.int .i64 n))) ?_; first | omega | (simp; done)), trivial⟩ ⟨rfl, rfl, trivial⟩⟩
   ·
    replace h4 := of_decide_eq_false h4
    refine T.exit ?_
    refine T.seq ?_
    refine T.region ?_
    refine TL.cons rfl (Step.move (p := (.one (.row 600001 []))) rfl rfl (lt_ok rfl) rfl) ?_
    refine TL.cons rfl (Step.assign (p := (.one (.row 600001 []))) rfl rfl (lt_ok rfl) rfl) ?_
    refine TL.cons rfl (Step.assign (p := (.one (.d (.bool true)))) rfl rfl (lt_ok rfl) rfl) ?_
    refine TL.nil ?_
    refine T.ret ?_
    exact ⟨[(false, [.row 600001 []]), (false, [.d (.bool true)])], (.cons rfl (.cons rfl .nil)), rfl, [600001], (RetC.own' rfl (by first | rfl | (congr 1; unfold putTc putTcB; rw [if_pos (by assumption), ← foldl_all entB _ t.f1 i (by omega)]) | (show (putTc l b t).length = 0; unfold putTc; rw [if_neg (by simp [*])]; rfl) | (congr 1; symm; assumption)) rfl (RetC.rd' (by first | rfl | (congr 1; unfold putTc putTcB; rw [if_pos (by assumption), ← foldl_all entB _ t.f1 i (by omega)]) | (show (putTc l b t).length = 0; unfold putTc; rw [if_neg (by simp [*])]; rfl) | (congr 1; symm; assumption)) .nil))⟩
theorem ok_impl_copyBytes (a : List Int) (h0_ : a.length ≤ 17592186044416) : RO Try.prog 83 [.one (.ints .u8 a)] [(false, [.own 5 (.ints .u8 a)])] := by
 refine RO.intro Try.func83 rfl 6 rfl (le_ok rfl) fun w Z => ?_
 refine T.bnd 0 0 rfl rfl fun hb_0_0 => ?_
 simp only [D.size, List.length_map] at hb_0_0
 refine T.seq ?_
 refine T.region ?_
 refine TL.cons rfl (Step.assign (p := (.one (.nil))) rfl rfl (lt_ok rfl) rfl) ?_
 refine TL.nil ?_
 refine T.seq ?_
 refine T.region ?_
 refine TL.cons rfl (Step.lit (e := 5) (z := 1) (by_ := 1) (xs := []) (pss := []) (es := []) (ss := []) (d := (.ints .u8 [])) rfl rfl (lt_ok rfl) (by kernel_rfl) rfl rfl .nil (by simp) (le_ok rfl) (le_ok rfl) rfl .nil rfl (by simp) (by simp) rfl trivial rfl rfl) ?_
 refine TL.cons rfl (Step.move (p := (.one (.d (.ints .u8 a)))) rfl rfl (lt_ok rfl) rfl) ?_
 refine TL.cons rfl (Step.append (e := 5) (z := 1) (by_ := 1) (d := (.ints .u8 [])) (dy := (.ints .u8 a)) (d' := (.ints .u8 ([] ++ a))) (ss := []) rfl rfl (lt_ok rfl) (by kernel_rfl) rfl rfl rfl (lt_ok rfl) rfl (.froz rfl (by simp [D.flat, D.val])) (by simp) rfl (by simp only [D.size, List.length_map]; first | omega | (simp; omega) | (simp only [List.length_append] at *; omega)) (by simp only [D.size, List.length_map]; first | omega | (simp; omega) | (simp only [List.length_append] at *; omega)) (by simp)) ?_
 refine TL.cons rfl (Step.assign (p := (.one (.row 3 []))) rfl rfl (lt_ok rfl) rfl) ?_
 refine TL.nil ?_
 refine T.ret ?_
 exact ⟨[(false, [.row 3 []])], (.cons rfl .nil), rfl, [3], (RetC.own' rfl (by rfl) rfl .nil)⟩
theorem ok_impl_within (n : Int) (low : Int) (high : Int) : RO Try.prog 144 [.one (.int .i64 n), .one (.int .i64 low), .one (.int .i64 high)] [(false, [.rd (.bool (decide (low ≤ n ∧ n ≤ high)))])] := by
 refine RO.intro Try.func144 rfl 15 rfl (le_ok rfl) fun w Z => ?_
 refine T.seq ?_
 refine T.region ?_
 refine TL.cons rfl (Step.assign (p := (.one (.d (.bool false)))) rfl rfl (lt_ok rfl) rfl) ?_
 refine TL.nil ?_
 refine T.seq ?_
 refine T.region ?_
 refine TL.cons rfl (Step.move (p := (.one (.d (.int .i64 low)))) rfl rfl (lt_ok rfl) rfl) ?_
 refine TL.cons rfl (Step.move (p := (.one (.d (.int .i64 n)))) rfl rfl (lt_ok rfl) rfl) ?_
 refine TL.cons rfl (Step.bin rfl rfl (lt_ok rfl) rfl rfl (Bin.leq (k := .i64) (a := low) (b := n))) ?_
 refine TL.cons rfl (Step.move (p := (.one (.d (.bool (decide (low ≤ n)))))) rfl rfl (lt_ok rfl) rfl) ?_
 rcases Bool.eq_false_or_eq_true (decide (low ≤ n)) with hb1 | hb1
 ·
  refine TL.known 10 hb1 rfl ?_
  refine TL.gyes 10 rfl rfl (lt_ok rfl) rfl (Step.move (p := (.one (.d (.int .i64 n)))) rfl rfl (lt_ok rfl) rfl) ?_
  refine TL.gyes 10 rfl rfl (lt_ok rfl) rfl (Step.move (p := (.one (.d (.int .i64 high)))) rfl rfl (lt_ok rfl) rfl) ?_
  refine TL.gyes 10 rfl rfl (lt_ok rfl) rfl (Step.bin rfl rfl (lt_ok rfl) rfl rfl (Bin.leq (k := .i64) (a := n) (b := high))) ?_
  refine TL.cons rfl (Step.pick (b := true) (p := (.one (.d (.bool (decide (n ≤ high)))))) rfl rfl (lt_ok rfl) rfl rfl) ?_
  refine TL.cons rfl (Step.assign (p := (.one (.d (.bool (decide (n ≤ high)))))) rfl rfl (lt_ok rfl) rfl) ?_
  refine TL.nil ?_
  refine T.ret ?_
  exact ⟨[(false, [.d (.bool (decide (n ≤ high)))])], (.cons rfl .nil), rfl, [], (RetC.rd' (by first | (congr 1; simp_all; done) | (congr 1; simp_all; omega)) .nil)⟩
 ·
  refine TL.known 10 hb1 rfl ?_
  refine TL.goff 10 rfl rfl (lt_ok rfl) rfl rfl rfl (lt_ok rfl) ?_
  refine TL.goff 10 rfl rfl (lt_ok rfl) rfl rfl rfl (lt_ok rfl) ?_
  refine TL.goff 10 rfl rfl (lt_ok rfl) rfl rfl rfl (lt_ok rfl) ?_
  refine TL.cons rfl (Step.pick (b := false) (p := (.one (.d (.bool false)))) rfl rfl (lt_ok rfl) rfl rfl) ?_
  refine TL.cons rfl (Step.assign (p := (.one (.d (.bool false)))) rfl rfl (lt_ok rfl) rfl) ?_
  refine TL.nil ?_
  refine T.ret ?_
  exact ⟨[(false, [.d (.bool false)])], (.cons rfl .nil), rfl, [], (RetC.rd' (by first | (congr 1; simp_all; done) | (congr 1; simp_all; omega)) .nil)⟩
theorem ok_impl_areHashes (l : List (List Int)) : RO Try.prog 145 [.one (.bss l)] [(false, [.rd (.bool (hashes l))])] := by
 refine RO.intro Try.func145 rfl 15 rfl (le_ok rfl) fun w Z => ?_
 refine T.bnd 0 0 rfl rfl fun hb_0_0 => ?_
 simp only [D.size, List.length_map] at hb_0_0
 refine T.seq ?_
 refine T.region ?_
 refine TL.cons rfl (Step.assign (p := (.one (.d (.bool false)))) rfl rfl (lt_ok rfl) rfl) ?_
 refine TL.nil ?_
 refine T.seq ?_
 refine T.seq ?_
 refine T.region ?_
 refine TL.cons rfl (Step.move (p := (.one (.d (.bss l)))) rfl rfl (lt_ok rfl) rfl) ?_
 refine TL.cons rfl (Step.len (e := 22) (z := 1) (d := (.bss l)) rfl rfl (lt_ok rfl) (by kernel_rfl) rfl rfl) ?_
 refine TL.cons rfl (Step.move (p := (.one (.d (.int .i64 0)))) rfl rfl (lt_ok rfl) rfl) ?_
 refine TL.nil ?_
 refine T.block ?_
 refine T.loop (ι := Nat) (fun xx_ => { tm := [(5, (.one (.d (.bss l)))), (6, (.one (.d (.int .i64 (l.length : Int))))), (7, (.one (.d (.int .i64 (xx_ : Int)))))], rows := [], boxes := [] }) (fun xx_ => xx_ ≤ l.length ∧ hashes (l.take xx_) = true) (fun xx_ => l.length - xx_) 0 ?_ ?_ ?_
 · exact Env.le_mk ⟨rfl, rfl, by first | rfl | (simp; done) | (congr 3; omega), trivial⟩ trivial trivial
 · (refine ⟨Nat.zero_le _, by rw [List.take_zero]; rfl⟩)
 ·
  intro i hx
  try dsimp only at hx ⊢
  obtain ⟨hx1, hx2⟩ := hx
  refine T.seq ?_
  refine T.region ?_
  refine TL.cons rfl (Step.bin rfl rfl (lt_ok rfl) rfl rfl (Bin.lss (k := .i64) (a := (i : Int)) (b := (l.length : Int)))) ?_
  refine TL.nil ?_
  refine T.seq ?_
  refine T.cond (b := decide ((i : Int) < (l.length : Int))) rfl (fun h1 => ?_) (fun h1 => ?_)
  ·
   replace h1 := of_decide_eq_true h1
   refine T.skip ?_
   refine T.seq ?_
   refine T.block ?_
   refine T.seq ?_
   refine T.region ?_
   refine TL.cons rfl (Step.index (e := 22) (z := 1) (i := (i : Int)) rfl rfl (lt_ok rfl) (by kernel_rfl) rfl rfl rfl (lt_ok rfl) rfl (by first | omega | (simp; omega)) (by simp only [D.size]; first | omega | (simp; omega))) ?_
   refine TL.cons rfl (Step.load (e := (.ints .u8 (l.getD i []))) rfl rfl (lt_ok rfl) (by kernel_rfl) rfl rfl) ?_
   refine TL.cons rfl (Step.assign (p := (.one (.d (.ints .u8 (l.getD i []))))) rfl rfl (lt_ok rfl) rfl) ?_
   refine TL.nil ?_
   refine T.seq ?_
   refine T.region ?_
   refine TL.cons rfl (Step.move (p := (.one (.d (.ints .u8 (l.getD i []))))) rfl rfl (lt_ok rfl) rfl) ?_
   refine TL.cons rfl (Step.len (e := 5) (z := 1) (d := (.ints .u8 (l.getD i []))) rfl rfl (lt_ok rfl) (by kernel_rfl) rfl rfl) ?_
   refine TL.cons rfl (Step.bin rfl rfl (lt_ok rfl) rfl rfl (Bin.neq (k := .i64) (a := ((l.getD i []).length : Int)) (b := 32))) ?_
   refine TL.nil ?_
   refine T.cond (b := decide (((l.getD i []).length : Int) ≠ 32)) rfl (fun h2 => ?_) (fun h2 => ?_)
   ·
    replace h2 := of_decide_eq_true h2
    refine T.seq ?_
    refine T.region ?_
    refine TL.cons rfl (Step.assign (p := (.one (.d (.bool false)))) rfl rfl (lt_ok rfl) rfl) ?_
    refine TL.nil ?_
    refine T.ret ?_
    exact ⟨[(false, [.d (.bool false)])], (.cons rfl .nil), rfl, [], (RetC.rd' (by (congr 1; symm; first | (exact hashes_no (i := i) (by omega) (by omega)) | (rw [List.take_of_length_le (by omega)] at hx2; exact hx2))) .nil)⟩
   ·
    replace h2 := of_decide_eq_false h2
    refine T.skip ?_
    refine T.region ?_
    refine TL.cons rfl (Step.bin (r := .int .i64 ((i : Int) + 1)) rfl rfl (lt_ok rfl) rfl rfl (Bin.add (a := (i : Int)) (b := 1) (by first | exact wrap_ok (by first | omega | (simp; omega)) (by first | omega | (simp; omega)) | rfl))) ?_
    refine TL.cons rfl (Step.move (p := (.one (.d (.int .i64 ((i : Int) + 1))))) rfl rfl (lt_ok rfl) rfl) ?_
    refine TL.nil ?_
    exact ⟨i + 1, by (refine ⟨by omega, hashes_step (by omega) hx2 (by omega)⟩), by first | omega | (dsimp only; omega), Env.le_mk ⟨rfl, rfl, by first | rfl | (simp; done) | (congr 3; omega), trivial⟩ trivial trivial⟩
  ·
   replace h1 := of_decide_eq_false h1
   refine T.exit ?_
   refine T.seq ?_
   refine T.region ?_
   refine TL.cons rfl (Step.assign (p := (.one (.d (.bool true)))) rfl rfl (lt_ok rfl) rfl) ?_
   refine TL.nil ?_
   refine T.ret ?_
   exact ⟨[(false, [.d (.bool true)])], (.cons rfl .nil), rfl, [], (RetC.rd' (by (congr 1; symm; first | (exact hashes_no (i := i) (by omega) (by omega)) | (rw [List.take_of_length_le (by omega)] at hx2; exact hx2))) .nil)⟩
theorem ok_impl_LimitsOk (l : SLimits) : RO Try.prog 146 [.agg l.cells] [(false, [.rd (.bool (limOk l))])] := by
 refine RO.intro Try.func146 rfl 26 rfl (le_ok rfl) fun w Z => ?_
 refine T.seq ?_
 refine T.region ?_
 refine TL.cons rfl (Step.box (p := (.agg [.d (.int .i64 l.f0), .d (.int .i64 l.f1), .d (.int .i64 l.f2), .d (.int .i64 l.f3), .d (.int .i64 l.f4)])) (ps := [.d (.int .i64 l.f0), .d (.int .i64 l.f1), .d (.int .i64 l.f2), .d (.int .i64 l.f3), .d (.int .i64 l.f4)]) rfl rfl (lt_ok rfl) rfl rfl rfl rfl rfl) ?_
 refine TL.cons rfl (Step.assign (p := (.one (.d (.bool false)))) rfl rfl (lt_ok rfl) rfl) ?_
 refine TL.nil ?_
 refine T.seq ?_
 refine T.region ?_
 refine TL.cons rfl (Step.fieldAddr (q := 0) (off := 0) (n := 1) (one := true) rfl rfl (lt_ok rfl) (by kernel_rfl) (Nat.succ_ne_zero _) rfl) ?_
 refine TL.cons rfl (Step.load_box (c := .d (.int .i64 l.f0)) rfl rfl (lt_ok rfl) (by kernel_rfl) rfl rfl rfl) ?_
 refine TL.cons rfl (Step.call (f := 144) (xs := [.tmp 4, .const (.int .i64 1), .const (.int .i64 10)]) (ps := [(.one (.d (.int .i64 l.f0))), (.one (.d (.int .i64 1))), (.one (.d (.int .i64 10)))]) false (g := .func 144) rfl rfl (lt_ok rfl) rfl (by kernel_rfl) rfl (.cons (.one (.d _)) (.cons (.one (.d _)) (.cons (.one (.d _)) .nil))) (ok_impl_within l.f0 1 10) (.inr rfl) rfl (by simp) rfl) ?_
 refine TL.cons rfl (Step.move (p := (.one (.d (.bool (decide (1 ≤ l.f0 ∧ l.f0 ≤ 10)))))) rfl rfl (lt_ok rfl) rfl) ?_
 rcases Bool.eq_false_or_eq_true (decide (1 ≤ l.f0 ∧ l.f0 ≤ 10)) with hb1 | hb1
 ·
  refine TL.known 6 hb1 rfl ?_
  refine TL.gyes 6 rfl rfl (lt_ok rfl) rfl (Step.fieldAddr (q := 0) (off := 1) (n := 1) (one := true) rfl rfl (lt_ok rfl) (by kernel_rfl) (Nat.succ_ne_zero _) rfl) ?_
  refine TL.gyes 6 rfl rfl (lt_ok rfl) rfl (Step.load_box (c := .d (.int .i64 l.f1)) rfl rfl (lt_ok rfl) (by kernel_rfl) rfl rfl rfl) ?_
  refine TL.gyes 6 rfl rfl (lt_ok rfl) rfl (Step.call (f := 144) (xs := [.tmp 8, .const (.int .i64 0), .const (.int .i64 40)]) (ps := [(.one (.d (.int .i64 l.f1))), (.one (.d (.int .i64 0))), (.one (.d (.int .i64 40)))]) false (g := .func 144) rfl rfl (lt_ok rfl) rfl (by kernel_rfl) rfl (.cons (.one (.d _)) (.cons (.one (.d _)) (.cons (.one (.d _)) .nil))) (ok_impl_within l.f1 0 40) (.inr rfl) rfl (by simp) rfl) ?_
  refine TL.cons rfl (Step.pick (b := true) (p := (.one (.d (.bool (decide (0 ≤ l.f1 ∧ l.f1 ≤ 40)))))) rfl rfl (lt_ok rfl) rfl rfl) ?_
  refine TL.cons rfl (Step.move (p := (.one (.d (.bool (decide (0 ≤ l.f1 ∧ l.f1 ≤ 40)))))) rfl rfl (lt_ok rfl) rfl) ?_
  rcases Bool.eq_false_or_eq_true (decide (0 ≤ l.f1 ∧ l.f1 ≤ 40)) with hb2 | hb2
  ·
   refine TL.known 11 hb2 rfl ?_
   refine TL.gyes 11 rfl rfl (lt_ok rfl) rfl (Step.fieldAddr (q := 0) (off := 2) (n := 1) (one := true) rfl rfl (lt_ok rfl) (by kernel_rfl) (Nat.succ_ne_zero _) rfl) ?_
   refine TL.gyes 11 rfl rfl (lt_ok rfl) rfl (Step.load_box (c := .d (.int .i64 l.f2)) rfl rfl (lt_ok rfl) (by kernel_rfl) rfl rfl rfl) ?_
   refine TL.gyes 11 rfl rfl (lt_ok rfl) rfl (Step.call (f := 144) (xs := [.tmp 13, .const (.int .i64 0), .const (.int .i64 8)]) (ps := [(.one (.d (.int .i64 l.f2))), (.one (.d (.int .i64 0))), (.one (.d (.int .i64 8)))]) false (g := .func 144) rfl rfl (lt_ok rfl) rfl (by kernel_rfl) rfl (.cons (.one (.d _)) (.cons (.one (.d _)) (.cons (.one (.d _)) .nil))) (ok_impl_within l.f2 0 8) (.inr rfl) rfl (by simp) rfl) ?_
   refine TL.cons rfl (Step.pick (b := true) (p := (.one (.d (.bool (decide (0 ≤ l.f2 ∧ l.f2 ≤ 8)))))) rfl rfl (lt_ok rfl) rfl rfl) ?_
   refine TL.cons rfl (Step.move (p := (.one (.d (.bool (decide (0 ≤ l.f2 ∧ l.f2 ≤ 8)))))) rfl rfl (lt_ok rfl) rfl) ?_
   rcases Bool.eq_false_or_eq_true (decide (0 ≤ l.f2 ∧ l.f2 ≤ 8)) with hb3 | hb3
   ·
    refine TL.known 16 hb3 rfl ?_
    refine TL.gyes 16 rfl rfl (lt_ok rfl) rfl (Step.fieldAddr (q := 0) (off := 3) (n := 1) (one := true) rfl rfl (lt_ok rfl) (by kernel_rfl) (Nat.succ_ne_zero _) rfl) ?_
    refine TL.gyes 16 rfl rfl (lt_ok rfl) rfl (Step.load_box (c := .d (.int .i64 l.f3)) rfl rfl (lt_ok rfl) (by kernel_rfl) rfl rfl rfl) ?_
    refine TL.gyes 16 rfl rfl (lt_ok rfl) rfl (Step.call (f := 144) (xs := [.tmp 18, .const (.int .i64 1), .const (.int .i64 4000)]) (ps := [(.one (.d (.int .i64 l.f3))), (.one (.d (.int .i64 1))), (.one (.d (.int .i64 4000)))]) false (g := .func 144) rfl rfl (lt_ok rfl) rfl (by kernel_rfl) rfl (.cons (.one (.d _)) (.cons (.one (.d _)) (.cons (.one (.d _)) .nil))) (ok_impl_within l.f3 1 4000) (.inr rfl) rfl (by simp) rfl) ?_
    refine TL.cons rfl (Step.pick (b := true) (p := (.one (.d (.bool (decide (1 ≤ l.f3 ∧ l.f3 ≤ 4000)))))) rfl rfl (lt_ok rfl) rfl rfl) ?_
    refine TL.cons rfl (Step.move (p := (.one (.d (.bool (decide (1 ≤ l.f3 ∧ l.f3 ≤ 4000)))))) rfl rfl (lt_ok rfl) rfl) ?_
    rcases Bool.eq_false_or_eq_true (decide (1 ≤ l.f3 ∧ l.f3 ≤ 4000)) with hb4 | hb4
    ·
     refine TL.known 21 hb4 rfl ?_
     refine TL.gyes 21 rfl rfl (lt_ok rfl) rfl (Step.fieldAddr (q := 0) (off := 4) (n := 1) (one := true) rfl rfl (lt_ok rfl) (by kernel_rfl) (Nat.succ_ne_zero _) rfl) ?_
     refine TL.gyes 21 rfl rfl (lt_ok rfl) rfl (Step.load_box (c := .d (.int .i64 l.f4)) rfl rfl (lt_ok rfl) (by kernel_rfl) rfl rfl rfl) ?_
     refine TL.gyes 21 rfl rfl (lt_ok rfl) rfl (Step.call (f := 144) (xs := [.tmp 23, .const (.int .i64 3), .const (.int .i64 5)]) (ps := [(.one (.d (.int .i64 l.f4))), (.one (.d (.int .i64 3))), (.one (.d (.int .i64 5)))]) false (g := .func 144) rfl rfl (lt_ok rfl) rfl (by kernel_rfl) rfl (.cons (.one (.d _)) (.cons (.one (.d _)) (.cons (.one (.d _)) .nil))) (ok_impl_within l.f4 3 5) (.inr rfl) rfl (by simp) rfl) ?_
     refine TL.cons rfl (Step.pick (b := true) (p := (.one (.d (.bool (decide (3 ≤ l.f4 ∧ l.f4 ≤ 5)))))) rfl rfl (lt_ok rfl) rfl rfl) ?_
     refine TL.cons rfl (Step.assign (p := (.one (.d (.bool (decide (3 ≤ l.f4 ∧ l.f4 ≤ 5)))))) rfl rfl (lt_ok rfl) rfl) ?_
     refine TL.nil ?_
     refine T.ret ?_
     exact ⟨[(false, [.d (.bool (decide (3 ≤ l.f4 ∧ l.f4 ≤ 5)))])], (.cons rfl .nil), rfl, [], (RetC.rd' (by first | rfl | (congr 1; symm; simp only [limOk, *, Bool.and_true, Bool.true_and, Bool.and_false, Bool.false_and, decide_true, decide_false, and_true, true_and, and_self, and_false, false_and, Bool.and_self, not_true, not_false, Bool.not_true, Bool.not_false, ge_iff_le, gt_iff_lt, if_true, if_false, Bool.false_eq_true, ite_true, ite_false, reduceIte]; done) | (congr 1; symm; simp_all [limOk]; done) | (congr 1; symm; simp_all [limOk]; omega)) .nil)⟩
    ·
     refine TL.known 21 hb4 rfl ?_
     refine TL.goff 21 rfl rfl (lt_ok rfl) rfl rfl rfl (lt_ok rfl) ?_
     refine TL.goff 21 rfl rfl (lt_ok rfl) rfl rfl rfl (lt_ok rfl) ?_
     refine TL.goff 21 rfl rfl (lt_ok rfl) rfl rfl rfl (lt_ok rfl) ?_
     refine TL.cons rfl (Step.pick (b := false) (p := (.one (.d (.bool false)))) rfl rfl (lt_ok rfl) rfl rfl) ?_
     refine TL.cons rfl (Step.assign (p := (.one (.d (.bool false)))) rfl rfl (lt_ok rfl) rfl) ?_
     refine TL.nil ?_
     refine T.ret ?_
     exact ⟨[(false, [.d (.bool false)])], (.cons rfl .nil), rfl, [], (RetC.rd' (by first | rfl | (congr 1; symm; simp only [limOk, *, Bool.and_true, Bool.true_and, Bool.and_false, Bool.false_and, decide_true, decide_false, and_true, true_and, and_self, and_false, false_and, Bool.and_self, not_true, not_false, Bool.not_true, Bool.not_false, ge_iff_le, gt_iff_lt, if_true, if_false, Bool.false_eq_true, ite_true, ite_false, reduceIte]; done) | (congr 1; symm; simp_all [limOk]; done) | (congr 1; symm; simp_all [limOk]; omega)) .nil)⟩
   ·
    refine TL.known 16 hb3 rfl ?_
    refine TL.goff 16 rfl rfl (lt_ok rfl) rfl rfl rfl (lt_ok rfl) ?_
    refine TL.goff 16 rfl rfl (lt_ok rfl) rfl rfl rfl (lt_ok rfl) ?_
    refine TL.goff 16 rfl rfl (lt_ok rfl) rfl rfl rfl (lt_ok rfl) ?_
    refine TL.cons rfl (Step.pick (b := false) (p := (.one (.d (.bool false)))) rfl rfl (lt_ok rfl) rfl rfl) ?_
    refine TL.cons rfl (Step.move (p := (.one (.d (.bool false)))) rfl rfl (lt_ok rfl) rfl) ?_
    refine TL.goff 21 rfl rfl (lt_ok rfl) rfl rfl rfl (lt_ok rfl) ?_
    refine TL.goff 21 rfl rfl (lt_ok rfl) rfl rfl rfl (lt_ok rfl) ?_
    refine TL.goff 21 rfl rfl (lt_ok rfl) rfl rfl rfl (lt_ok rfl) ?_
    refine TL.cons rfl (Step.pick (b := false) (p := (.one (.d (.bool false)))) rfl rfl (lt_ok rfl) rfl rfl) ?_
    refine TL.cons rfl (Step.assign (p := (.one (.d (.bool false)))) rfl rfl (lt_ok rfl) rfl) ?_
    refine TL.nil ?_
    refine T.ret ?_
    exact ⟨[(false, [.d (.bool false)])], (.cons rfl .nil), rfl, [], (RetC.rd' (by first | rfl | (congr 1; symm; simp only [limOk, *, Bool.and_true, Bool.true_and, Bool.and_false, Bool.false_and, decide_true, decide_false, and_true, true_and, and_self, and_false, false_and, Bool.and_self, not_true, not_false, Bool.not_true, Bool.not_false, ge_iff_le, gt_iff_lt, if_true, if_false, Bool.false_eq_true, ite_true, ite_false, reduceIte]; done) | (congr 1; symm; simp_all [limOk]; done) | (congr 1; symm; simp_all [limOk]; omega)) .nil)⟩
  ·
   refine TL.known 11 hb2 rfl ?_
   refine TL.goff 11 rfl rfl (lt_ok rfl) rfl rfl rfl (lt_ok rfl) ?_
   refine TL.goff 11 rfl rfl (lt_ok rfl) rfl rfl rfl (lt_ok rfl) ?_
   refine TL.goff 11 rfl rfl (lt_ok rfl) rfl rfl rfl (lt_ok rfl) ?_
   refine TL.cons rfl (Step.pick (b := false) (p := (.one (.d (.bool false)))) rfl rfl (lt_ok rfl) rfl rfl) ?_
   refine TL.cons rfl (Step.move (p := (.one (.d (.bool false)))) rfl rfl (lt_ok rfl) rfl) ?_
   refine TL.goff 16 rfl rfl (lt_ok rfl) rfl rfl rfl (lt_ok rfl) ?_
   refine TL.goff 16 rfl rfl (lt_ok rfl) rfl rfl rfl (lt_ok rfl) ?_
   refine TL.goff 16 rfl rfl (lt_ok rfl) rfl rfl rfl (lt_ok rfl) ?_
   refine TL.cons rfl (Step.pick (b := false) (p := (.one (.d (.bool false)))) rfl rfl (lt_ok rfl) rfl rfl) ?_
   refine TL.cons rfl (Step.move (p := (.one (.d (.bool false)))) rfl rfl (lt_ok rfl) rfl) ?_
   refine TL.goff 21 rfl rfl (lt_ok rfl) rfl rfl rfl (lt_ok rfl) ?_
   refine TL.goff 21 rfl rfl (lt_ok rfl) rfl rfl rfl (lt_ok rfl) ?_
   refine TL.goff 21 rfl rfl (lt_ok rfl) rfl rfl rfl (lt_ok rfl) ?_
   refine TL.cons rfl (Step.pick (b := false) (p := (.one (.d (.bool false)))) rfl rfl (lt_ok rfl) rfl rfl) ?_
   refine TL.cons rfl (Step.assign (p := (.one (.d (.bool false)))) rfl rfl (lt_ok rfl) rfl) ?_
   refine TL.nil ?_
   refine T.ret ?_
   exact ⟨[(false, [.d (.bool false)])], (.cons rfl .nil), rfl, [], (RetC.rd' (by first | rfl | (congr 1; symm; simp only [limOk, *, Bool.and_true, Bool.true_and, Bool.and_false, Bool.false_and, decide_true, decide_false, and_true, true_and, and_self, and_false, false_and, Bool.and_self, not_true, not_false, Bool.not_true, Bool.not_false, ge_iff_le, gt_iff_lt, if_true, if_false, Bool.false_eq_true, ite_true, ite_false, reduceIte]; done) | (congr 1; symm; simp_all [limOk]; done) | (congr 1; symm; simp_all [limOk]; omega)) .nil)⟩
 ·
  refine TL.known 6 hb1 rfl ?_
  refine TL.goff 6 rfl rfl (lt_ok rfl) rfl rfl rfl (lt_ok rfl) ?_
  refine TL.goff 6 rfl rfl (lt_ok rfl) rfl rfl rfl (lt_ok rfl) ?_
  refine TL.goff 6 rfl rfl (lt_ok rfl) rfl rfl rfl (lt_ok rfl) ?_
  refine TL.cons rfl (Step.pick (b := false) (p := (.one (.d (.bool false)))) rfl rfl (lt_ok rfl) rfl rfl) ?_
  refine TL.cons rfl (Step.move (p := (.one (.d (.bool false)))) rfl rfl (lt_ok rfl) rfl) ?_
  refine TL.goff 11 rfl rfl (lt_ok rfl) rfl rfl rfl (lt_ok rfl) ?_
  refine TL.goff 11 rfl rfl (lt_ok rfl) rfl rfl rfl (lt_ok rfl) ?_
  refine TL.goff 11 rfl rfl (lt_ok rfl) rfl rfl rfl (lt_ok rfl) ?_
  refine TL.cons rfl (Step.pick (b := false) (p := (.one (.d (.bool false)))) rfl rfl (lt_ok rfl) rfl rfl) ?_
  refine TL.cons rfl (Step.move (p := (.one (.d (.bool false)))) rfl rfl (lt_ok rfl) rfl) ?_
  refine TL.goff 16 rfl rfl (lt_ok rfl) rfl rfl rfl (lt_ok rfl) ?_
  refine TL.goff 16 rfl rfl (lt_ok rfl) rfl rfl rfl (lt_ok rfl) ?_
  refine TL.goff 16 rfl rfl (lt_ok rfl) rfl rfl rfl (lt_ok rfl) ?_
  refine TL.cons rfl (Step.pick (b := false) (p := (.one (.d (.bool false)))) rfl rfl (lt_ok rfl) rfl rfl) ?_
  refine TL.cons rfl (Step.move (p := (.one (.d (.bool false)))) rfl rfl (lt_ok rfl) rfl) ?_
  refine TL.goff 21 rfl rfl (lt_ok rfl) rfl rfl rfl (lt_ok rfl) ?_
  refine TL.goff 21 rfl rfl (lt_ok rfl) rfl rfl rfl (lt_ok rfl) ?_
  refine TL.goff 21 rfl rfl (lt_ok rfl) rfl rfl rfl (lt_ok rfl) ?_
  refine TL.cons rfl (Step.pick (b := false) (p := (.one (.d (.bool false)))) rfl rfl (lt_ok rfl) rfl rfl) ?_
  refine TL.cons rfl (Step.assign (p := (.one (.d (.bool false)))) rfl rfl (lt_ok rfl) rfl) ?_
  refine TL.nil ?_
  refine T.ret ?_
  exact ⟨[(false, [.d (.bool false)])], (.cons rfl .nil), rfl, [], (RetC.rd' (by first | rfl | (congr 1; symm; simp only [limOk, *, Bool.and_true, Bool.true_and, Bool.and_false, Bool.false_and, decide_true, decide_false, and_true, true_and, and_self, and_false, false_and, Bool.and_self, not_true, not_false, Bool.not_true, Bool.not_false, ge_iff_le, gt_iff_lt, if_true, if_false, Bool.false_eq_true, ite_true, ite_false, reduceIte]; done) | (congr 1; symm; simp_all [limOk]; done) | (congr 1; symm; simp_all [limOk]; omega)) .nil)⟩
theorem ok_impl_isNum (n : Int) : RO Try.prog 147 [.one (.int .i64 n)] [(false, [.rd (.bool (decide (0 ≤ n ∧ n ≤ 1152921504606846975)))])] := by
 refine RO.intro Try.func147 rfl 5 rfl (le_ok rfl) fun w Z => ?_
 refine T.seq ?_
 refine T.region ?_
 refine TL.cons rfl (Step.assign (p := (.one (.d (.bool false)))) rfl rfl (lt_ok rfl) rfl) ?_
 refine TL.nil ?_
 refine T.seq ?_
 refine T.region ?_
 refine TL.cons rfl (Step.move (p := (.one (.d (.int .i64 n)))) rfl rfl (lt_ok rfl) rfl) ?_
 refine TL.cons rfl (Step.call (f := 144) (xs := [.tmp 3, .const (.int .i64 0), .const (.int .i64 1152921504606846975)]) (ps := [(.one (.d (.int .i64 n))), (.one (.d (.int .i64 0))), (.one (.d (.int .i64 1152921504606846975)))]) false (g := .func 144) rfl rfl (lt_ok rfl) rfl (by kernel_rfl) rfl (.cons (.one (.d _)) (.cons (.one (.d _)) (.cons (.one (.d _)) .nil))) (ok_impl_within n 0 1152921504606846975) (.inr rfl) rfl (by simp) rfl) ?_
 refine TL.cons rfl (Step.assign (p := (.one (.d (.bool (decide (0 ≤ n ∧ n ≤ 1152921504606846975)))))) rfl rfl (lt_ok rfl) rfl) ?_
 refine TL.nil ?_
 refine T.ret ?_
 exact ⟨[(false, [.d (.bool (decide (0 ≤ n ∧ n ≤ 1152921504606846975)))])], (.cons rfl .nil), rfl, [], (RetC.rd' (by rfl) .nil)⟩
theorem ok_impl_TcOk (l : SLimits) (t : STc) : RO Try.prog 90 [.agg l.cells, .agg t.cells] [(false, [.rd (.bool (tcOk l t))])] := by
 refine RO.intro Try.func90 rfl 70 rfl (le_ok rfl) fun w Z => ?_
 refine T.bnd 1 1 rfl rfl fun hb_1_1 => ?_
 simp only [D.size, List.length_map] at hb_1_1
 have hw_ : 0 ≤ t.f0 → t.f0 ≤ 1152921504606846975 → IntKind.i64.wrap (t.f0 - 1) = t.f0 - 1 := fun h1 h2 => wrap_ok (by omega) (by omega)
 refine T.seq ?_
 refine T.region ?_
 refine TL.cons rfl (Step.box (p := (.agg [.d (.int .i64 l.f0), .d (.int .i64 l.f1), .d (.int .i64 l.f2), .d (.int .i64 l.f3), .d (.int .i64 l.f4)])) (ps := [.d (.int .i64 l.f0), .d (.int .i64 l.f1), .d (.int .i64 l.f2), .d (.int .i64 l.f3), .d (.int .i64 l.f4)]) rfl rfl (lt_ok rfl) rfl rfl rfl rfl rfl) ?_
 refine TL.cons rfl (Step.box (p := (.agg [.d (.int .i64 t.f0), .d (.sl 3 (t.f1.map SEntry.cells))])) (ps := [.d (.int .i64 t.f0), .d (.sl 3 (t.f1.map SEntry.cells))]) rfl rfl (lt_ok rfl) rfl rfl rfl rfl rfl) ?_
 refine TL.cons rfl (Step.assign (p := (.one (.d (.bool false)))) rfl rfl (lt_ok rfl) rfl) ?_
 refine TL.nil ?_
 refine T.seq ?_
 refine T.seq ?_
 refine T.region ?_
 refine TL.cons rfl (Step.fieldAddr (q := 0) (off := 1) (n := 1) (one := true) rfl rfl (lt_ok rfl) (by kernel_rfl) (Nat.succ_ne_zero _) rfl) ?_
 refine TL.cons rfl (Step.load_box (c := .d (.sl 3 (t.f1.map SEntry.cells))) rfl rfl (lt_ok rfl) (by kernel_rfl) rfl rfl rfl) ?_
 refine TL.cons rfl (Step.len' (e := 121) (z := 3) (d := (.sl 3 (t.f1.map SEntry.cells))) (n := t.f1.length) rfl rfl (lt_ok rfl) (by kernel_rfl) rfl rfl (by simp [D.size])) ?_
 refine TL.cons rfl (Step.move (p := (.one (.d (.int .i64 0)))) rfl rfl (lt_ok rfl) rfl) ?_
 refine TL.nil ?_
 refine T.block ?_
 refine T.loop (ι := Nat) (fun xx_ => { tm := [(2, (.one (.ptr 2 0))), (3, (.one (.ptr 3 0))), (8, (.one (.d (.sl 3 (t.f1.map SEntry.cells))))), (9, (.one (.d (.int .i64 (t.f1.length : Int))))), (10, (.one (.d (.int .i64 (xx_ : Int)))))], rows := [], boxes := [(2, (44, [.d (.int .i64 l.f0), .d (.int .i64 l.f1), .d (.int .i64 l.f2), .d (.int .i64 l.f3), .d (.int .i64 l.f4)])), (3, (48, [.d (.int .i64 t.f0), .d (.sl 3 (t.f1.map SEntry.cells))]))] }) (fun xx_ => xx_ ≤ t.f1.length ∧ tcAll l t xx_ = true) (fun xx_ => t.f1.length - xx_) 0 ?_ ?_ ?_
 · exact Env.le_mk ⟨rfl, rfl, rfl, rfl, by first | rfl | (simp; done) | (congr 3; omega), trivial⟩ trivial ⟨rfl, rfl, trivial⟩
 · exact ⟨Nat.zero_le _, rfl⟩
 ·
  intro i hx
  try dsimp only at hx ⊢
  obtain ⟨hx1, hx2⟩ := hx
  refine T.seq ?_
  refine T.region ?_
  refine TL.cons rfl (Step.bin rfl rfl (lt_ok rfl) rfl rfl (Bin.lss (k := .i64) (a := (i : Int)) (b := (t.f1.length : Int)))) ?_
  refine TL.nil ?_
  refine T.seq ?_
  refine T.cond (b := decide ((i : Int) < (t.f1.length : Int))) rfl (fun h1 => ?_) (fun h1 => ?_)
  ·
   replace h1 := of_decide_eq_true h1
   refine T.skip ?_
   refine T.seq ?_
   refine T.block ?_
   refine T.seq ?_
   refine T.region ?_
   refine TL.cons rfl (Step.move (p := (.one (.d (.int .i64 (i : Int))))) rfl rfl (lt_ok rfl) rfl) ?_
   refine TL.cons rfl (Step.index (e := 121) (z := 3) (i := (i : Int)) rfl rfl (lt_ok rfl) (by kernel_rfl) rfl rfl rfl (lt_ok rfl) rfl (by first | omega | (simp; omega)) (by simp only [D.size]; first | omega | (simp; omega))) ?_
   refine TL.cons rfl (Step.load_agg (n := 3) (cs := [.d (.int .i64 (t.f1.getD i default).f0), .d (.int .i64 (t.f1.getD i default).f1), .d (.ints .u8 (t.f1.getD i default).f2)]) rfl rfl (lt_ok rfl) (by kernel_rfl) rfl rfl (by simp only [List.range, List.range.loop, List.map_cons, List.map_nil]; rw [cell_map default (by first | omega | (simp; omega)), cell_map default (by first | omega | (simp; omega)), cell_map default (by first | omega | (simp; omega))]; rfl)) ?_
   refine TL.cons rfl (Step.alloc (cs := [.int .i64 0, .int .i64 0, .slice none 0 0]) (ps := [.d (.int .i64 0), .d (.int .i64 0), .nil]) rfl rfl (lt_ok rfl) (by kernel_rfl) rfl rfl rfl rfl) ?_
   refine TL.cons rfl (Step.assign (p := (.one (.d (.int .i64 (i : Int))))) rfl rfl (lt_ok rfl) rfl) ?_
   refine TL.cons rfl (Step.store_box (n := 3) (p := (.agg [.d (.int .i64 (t.f1.getD i default).f0), .d (.int .i64 (t.f1.getD i default).f1), .d (.ints .u8 (t.f1.getD i default).f2)])) (qs := [.d (.int .i64 (t.f1.getD i default).f0), .d (.int .i64 (t.f1.getD i default).f1), .d (.ints .u8 (t.f1.getD i default).f2)]) (ps' := [.d (.int .i64 (t.f1.getD i default).f0), .d (.int .i64 (t.f1.getD i default).f1), .d (.ints .u8 (t.f1.getD i default).f2)]) rfl rfl (by kernel_rfl) rfl rfl rfl rfl rfl rfl (le_ok rfl) rfl) ?_
   refine TL.nil ?_
   refine T.seq ?_
   rcases Bool.eq_false_or_eq_true (!(decide (0 ≤ (t.f1.getD i default).f0 ∧ (t.f1.getD i default).f0 ≤ (IntKind.i64.wrap (l.f0 - 1))))) with hb2 | hb2
   ·
    have hb2' := hb2
    replace hb2' : (decide (0 ≤ (t.f1.getD i default).f0 ∧ (t.f1.getD i default).f0 ≤ (IntKind.i64.wrap (l.f0 - 1)))) = false := by simpa only [Bool.not_eq_true', Bool.not_eq_false'] using hb2'
    replace hb2' := of_decide_eq_false hb2'
    refine T.draw [⟨15, (.one (.ptr 6 0)), []⟩, ⟨16, (.one (.d (.int .i64 (t.f1.getD i default).f0))), []⟩, ⟨17, (.one (.ptr 2 0)), []⟩, ⟨18, (.one (.d (.int .i64 l.f0))), []⟩, ⟨19, (.one (.d (.int .i64 (IntKind.i64.wrap (l.f0 - 1))))), []⟩, ⟨20, (.one (.d (.bool (decide (0 ≤ (t.f1.getD i default).f0 ∧ (t.f1.getD i default).f0 ≤ (IntKind.i64.wrap (l.f0 - 1))))))), []⟩, ⟨21, (.one (.d (.bool true))), []⟩, ⟨22, (.one (.d (.bool true))), []⟩, ⟨23, (.tup []), []⟩, ⟨24, (.tup []), []⟩, ⟨25, (.tup []), []⟩, ⟨26, (.tup []), []⟩, ⟨27, (.tup []), []⟩, ⟨28, (.tup []), []⟩, ⟨29, (.tup []), []⟩, ⟨30, (.tup []), []⟩, ⟨31, (.tup []), []⟩, ⟨32, (.tup []), []⟩, ⟨33, (.tup []), []⟩, ⟨34, (.tup []), []⟩, ⟨35, (.tup []), []⟩, ⟨36, (.tup []), []⟩, ⟨37, (.one (.d (.bool true))), []⟩, ⟨38, (.one (.d (.bool true))), []⟩, ⟨39, (.tup []), []⟩, ⟨40, (.tup []), []⟩, ⟨41, (.tup []), []⟩, ⟨42, (.tup []), []⟩, ⟨43, (.tup []), []⟩, ⟨44, (.tup []), []⟩, ⟨45, (.tup []), []⟩, ⟨46, (.one (.d (.bool true))), []⟩, ⟨47, (.one (.d (.bool true))), []⟩, ⟨48, (.tup []), []⟩, ⟨49, (.tup []), []⟩, ⟨50, (.tup []), []⟩, ⟨51, (.tup []), []⟩, ⟨52, (.tup []), []⟩, ⟨53, (.one (.d (.bool true))), []⟩] (by kernel_rfl) (by kernel_rfl) ?_ ?_
    ·
     refine .cons (fun E hA_ => by have g6 := hA_.get 6 (by decide); exact OpStep.plain rfl (Step.fieldAddr (q := 0) (off := 0) (n := 1) (one := true) (t := 15) rfl rfl (by exact lt_ok rfl) (by kernel_rfl) (Nat.succ_ne_zero _) (show Env.ev E (.tmp 6) = _ from g6.trans rfl))) ?_
     refine .cons (fun E hA_ => by have g15 := hA_.get 15 (by decide); exact OpStep.plain rfl (Step.load_box (c := .d (.int .i64 (t.f1.getD i default).f0)) (t := 16) rfl rfl (by exact lt_ok rfl) (by kernel_rfl) (show Env.ev E (.tmp 15) = _ from g15.trans rfl) (by exact hA_.box rfl) rfl)) ?_
     refine .cons (fun E hA_ => by have g2 := hA_.get 2 (by decide); exact OpStep.plain rfl (Step.fieldAddr (q := 0) (off := 0) (n := 1) (one := true) (t := 17) rfl rfl (by exact lt_ok rfl) (by kernel_rfl) (Nat.succ_ne_zero _) (show Env.ev E (.tmp 2) = _ from g2.trans rfl))) ?_
     refine .cons (fun E hA_ => by have g17 := hA_.get 17 (by decide); exact OpStep.plain rfl (Step.load_box (c := .d (.int .i64 l.f0)) (t := 18) rfl rfl (by exact lt_ok rfl) (by kernel_rfl) (show Env.ev E (.tmp 17) = _ from g17.trans rfl) (by exact hA_.box rfl) rfl)) ?_
     refine .cons (fun E hA_ => by have g18 := hA_.get 18 (by decide); exact OpStep.plain rfl (Step.bin (r := .int .i64 (IntKind.i64.wrap (l.f0 - 1))) (t := 19) rfl rfl (by exact lt_ok rfl) (show Env.ev E (.tmp 18) = _ from g18.trans rfl) rfl (Bin.sub (a := l.f0) (b := 1) (rfl)))) ?_
     refine .cons (fun E hA_ => by have g16 := hA_.get 16 (by decide); have g19 := hA_.get 19 (by decide); exact OpStep.plain rfl (Step.call (f := 144) (xs := [.tmp 16, .const (.int .i64 0), .tmp 19]) (ps := [(.one (.d (.int .i64 (t.f1.getD i default).f0))), (.one (.d (.int .i64 0))), (.one (.d (.int .i64 (IntKind.i64.wrap (l.f0 - 1)))))]) false (g := .func 144) (t := 20) rfl rfl (by exact lt_ok rfl) rfl (by kernel_rfl) (evs_cons (show Env.ev E (.tmp 16) = _ from g16.trans rfl) (evs_cons rfl (evs_cons (show Env.ev E (.tmp 19) = _ from g19.trans rfl) (rfl)))) (.cons (.one (.d _)) (.cons (.one (.d _)) (.cons (.one (.d _)) .nil))) (ok_impl_within (t.f1.getD i default).f0 0 (IntKind.i64.wrap (l.f0 - 1))) (.inr rfl) (At.freshRows hA_ rfl) (by simp) rfl)) ?_
     refine .cons (fun E hA_ => by have g20 := hA_.get 20 (by decide); exact OpStep.plain rfl (Step.to (E1 := E.set 21 (.one (.d (.bool (!(decide (0 ≤ (t.f1.getD i default).f0 ∧ (t.f1.getD i default).f0 ≤ (IntKind.i64.wrap (l.f0 - 1))))))))) (congrArg (fun b_ => E.set 21 (.one (.d (.bool b_)))) hb2) (Step.not (b := (decide (0 ≤ (t.f1.getD i default).f0 ∧ (t.f1.getD i default).f0 ≤ (IntKind.i64.wrap (l.f0 - 1))))) (t := 21) rfl rfl (by exact lt_ok rfl) (show Env.ev E (.tmp 20) = _ from g20.trans rfl)))) ?_
     refine .cons (fun E hA_ => by have g21 := hA_.get 21 (by decide); exact OpStep.plain rfl (Step.move (p := (.one (.d (.bool true)))) (t := 22) rfl rfl (by exact lt_ok rfl) (show Env.ev E (.tmp 21) = _ from g21.trans rfl))) ?_
     refine .cons (fun E hA_ => OpStep.off (t := 22) rfl rfl (lt_ok rfl) ((hA_.get 22 (by decide)).trans rfl) (by decide) rfl (lt_ok rfl)) ?_
     refine .cons (fun E hA_ => OpStep.off (t := 22) rfl rfl (lt_ok rfl) ((hA_.get 22 (by decide)).trans rfl) (by decide) rfl (lt_ok rfl)) ?_
     refine .cons (fun E hA_ => OpStep.off (t := 22) rfl rfl (lt_ok rfl) ((hA_.get 22 (by decide)).trans rfl) (by decide) rfl (lt_ok rfl)) ?_
     refine .cons (fun E hA_ => OpStep.offU (t := 25) rfl rfl (lt_ok rfl) ((hA_.get 25 (by decide)).trans rfl) rfl (lt_ok rfl)) ?_
     refine .cons (fun E hA_ => OpStep.offU (t := 25) rfl rfl (lt_ok rfl) ((hA_.get 25 (by decide)).trans rfl) rfl (lt_ok rfl)) ?_
     refine .cons (fun E hA_ => OpStep.offU (t := 25) rfl rfl (lt_ok rfl) ((hA_.get 25 (by decide)).trans rfl) rfl (lt_ok rfl)) ?_
     refine .cons (fun E hA_ => OpStep.offU (t := 25) rfl rfl (lt_ok rfl) ((hA_.get 25 (by decide)).trans rfl) rfl (lt_ok rfl)) ?_
     refine .cons (fun E hA_ => OpStep.offU (t := 25) rfl rfl (lt_ok rfl) ((hA_.get 25 (by decide)).trans rfl) rfl (lt_ok rfl)) ?_
     refine .cons (fun E hA_ => OpStep.offU (t := 25) rfl rfl (lt_ok rfl) ((hA_.get 25 (by decide)).trans rfl) rfl (lt_ok rfl)) ?_
     refine .cons (fun E hA_ => OpStep.offU (t := 25) rfl rfl (lt_ok rfl) ((hA_.get 25 (by decide)).trans rfl) rfl (lt_ok rfl)) ?_
     refine .cons (fun E hA_ => OpStep.offU (t := 25) rfl rfl (lt_ok rfl) ((hA_.get 25 (by decide)).trans rfl) rfl (lt_ok rfl)) ?_
     refine .cons (fun E hA_ => OpStep.offU (t := 25) rfl rfl (lt_ok rfl) ((hA_.get 25 (by decide)).trans rfl) rfl (lt_ok rfl)) ?_
     refine .cons (fun E hA_ => OpStep.offU (t := 25) rfl rfl (lt_ok rfl) ((hA_.get 25 (by decide)).trans rfl) rfl (lt_ok rfl)) ?_
     refine .cons (fun E hA_ => OpStep.off (t := 22) rfl rfl (lt_ok rfl) ((hA_.get 22 (by decide)).trans rfl) (by decide) rfl (lt_ok rfl)) ?_
     refine .cons (fun E hA_ => by have g22 := hA_.get 22 (by decide); have g36 := hA_.get 36 (by decide); exact OpStep.plain rfl (Step.pick (b := true) (p := (.one (.d (.bool true)))) (t := 37) rfl rfl (by exact lt_ok rfl) (show Env.ev E (.tmp 22) = _ from g22.trans rfl) rfl)) ?_
     refine .cons (fun E hA_ => by have g37 := hA_.get 37 (by decide); exact OpStep.plain rfl (Step.move (p := (.one (.d (.bool true)))) (t := 38) rfl rfl (by exact lt_ok rfl) (show Env.ev E (.tmp 37) = _ from g37.trans rfl))) ?_
     refine .cons (fun E hA_ => OpStep.off (t := 38) rfl rfl (lt_ok rfl) ((hA_.get 38 (by decide)).trans rfl) (by decide) rfl (lt_ok rfl)) ?_
     refine .cons (fun E hA_ => OpStep.off (t := 38) rfl rfl (lt_ok rfl) ((hA_.get 38 (by decide)).trans rfl) (by decide) rfl (lt_ok rfl)) ?_
     refine .cons (fun E hA_ => OpStep.off (t := 38) rfl rfl (lt_ok rfl) ((hA_.get 38 (by decide)).trans rfl) (by decide) rfl (lt_ok rfl)) ?_
     refine .cons (fun E hA_ => OpStep.off (t := 38) rfl rfl (lt_ok rfl) ((hA_.get 38 (by decide)).trans rfl) (by decide) rfl (lt_ok rfl)) ?_
     refine .cons (fun E hA_ => OpStep.off (t := 38) rfl rfl (lt_ok rfl) ((hA_.get 38 (by decide)).trans rfl) (by decide) rfl (lt_ok rfl)) ?_
     refine .cons (fun E hA_ => OpStep.off (t := 38) rfl rfl (lt_ok rfl) ((hA_.get 38 (by decide)).trans rfl) (by decide) rfl (lt_ok rfl)) ?_
     refine .cons (fun E hA_ => OpStep.off (t := 38) rfl rfl (lt_ok rfl) ((hA_.get 38 (by decide)).trans rfl) (by decide) rfl (lt_ok rfl)) ?_
     refine .cons (fun E hA_ => by have g38 := hA_.get 38 (by decide); have g45 := hA_.get 45 (by decide); exact OpStep.plain rfl (Step.pick (b := true) (p := (.one (.d (.bool true)))) (t := 46) rfl rfl (by exact lt_ok rfl) (show Env.ev E (.tmp 38) = _ from g38.trans rfl) rfl)) ?_
     refine .cons (fun E hA_ => by have g46 := hA_.get 46 (by decide); exact OpStep.plain rfl (Step.move (p := (.one (.d (.bool true)))) (t := 47) rfl rfl (by exact lt_ok rfl) (show Env.ev E (.tmp 46) = _ from g46.trans rfl))) ?_
     refine .cons (fun E hA_ => OpStep.off (t := 47) rfl rfl (lt_ok rfl) ((hA_.get 47 (by decide)).trans rfl) (by decide) rfl (lt_ok rfl)) ?_
     refine .cons (fun E hA_ => OpStep.off (t := 47) rfl rfl (lt_ok rfl) ((hA_.get 47 (by decide)).trans rfl) (by decide) rfl (lt_ok rfl)) ?_
     refine .cons (fun E hA_ => OpStep.off (t := 47) rfl rfl (lt_ok rfl) ((hA_.get 47 (by decide)).trans rfl) (by decide) rfl (lt_ok rfl)) ?_
     refine .cons (fun E hA_ => OpStep.off (t := 47) rfl rfl (lt_ok rfl) ((hA_.get 47 (by decide)).trans rfl) (by decide) rfl (lt_ok rfl)) ?_
     refine .cons (fun E hA_ => OpStep.off (t := 47) rfl rfl (lt_ok rfl) ((hA_.get 47 (by decide)).trans rfl) (by decide) rfl (lt_ok rfl)) ?_
     refine .cons (fun E hA_ => by have g47 := hA_.get 47 (by decide); have g52 := hA_.get 52 (by decide); exact OpStep.plain rfl (Step.pick (b := true) (p := (.one (.d (.bool true)))) (t := 53) rfl rfl (by exact lt_ok rfl) (show Env.ev E (.tmp 47) = _ from g47.trans rfl) rfl)) ?_
     exact .nil _ _
    refine TL.nil ?_
    refine T.cond (b := true) rfl (fun h3_ => ?_) (fun h3_ => absurd h3_ (by simp))
    refine T.seq ?_
    refine T.region ?_
    refine TL.cons rfl (Step.assign (p := (.one (.d (.bool false)))) rfl rfl (lt_ok rfl) rfl) ?_
    refine TL.nil ?_
    refine T.ret ?_
    exact ⟨[(false, [.d (.bool false)])], (.cons rfl .nil), rfl, [], (RetC.rd' (by (congr 1; symm; first | (rw [tcOk_no (i := i) (by omega) (tcEnt_no (by (try simp only [hashes, List.all_cons, List.all_nil, Bool.and_true] at *); (try simp only [decide_eq_true_eq, decide_eq_false_iff_not, Bool.not_eq_true', Bool.not_eq_false'] at *); (try (have hw2_ := hw_ (by omega) (by omega))); omega))]; done) | (unfold tcOk; rw [show tcAll l t t.f1.length = true from by rw [show t.f1.length = i from by omega]; exact hx2, decide_eq_true (p := (t.f1.length : Int) ≤ l.f0) (by omega), decide_eq_true (p := (0 ≤ t.f0 ∧ t.f0 ≤ 1152921504606846975)) (by omega)]; simp only [*, Bool.and_true, Bool.true_and, Bool.and_false, Bool.false_and, decide_true, decide_false, and_true, true_and, and_self, and_false, false_and, Bool.and_self, not_true, not_false, Bool.not_true, Bool.not_false, ge_iff_le, gt_iff_lt, if_true, if_false, Bool.false_eq_true, ite_true, ite_false, reduceIte]; done) | (unfold tcOk; rw [show tcAll l t t.f1.length = true from by rw [show t.f1.length = i from by omega]; exact hx2, decide_eq_true (p := (0 ≤ t.f0 ∧ t.f0 ≤ 1152921504606846975)) (by omega)]; simp only [*, Bool.and_true, Bool.true_and, Bool.and_false, Bool.false_and, decide_true, decide_false, and_true, true_and, and_self, and_false, false_and, Bool.and_self, not_true, not_false, Bool.not_true, Bool.not_false, ge_iff_le, gt_iff_lt, if_true, if_false, Bool.false_eq_true, ite_true, ite_false, reduceIte]; done) | (unfold tcOk; simp only [*, Bool.and_true, Bool.true_and, Bool.and_false, Bool.false_and, decide_true, decide_false, and_true, true_and, and_self, and_false, false_and, Bool.and_self, not_true, not_false, Bool.not_true, Bool.not_false, ge_iff_le, gt_iff_lt, if_true, if_false, Bool.false_eq_true, ite_true, ite_false, reduceIte]; done) | (unfold tcOk; rw [decide_eq_false (p := (t.f1.length : Int) ≤ l.f0) (by omega)]; simp; done))) .nil)⟩
   ·
    have hb2' := hb2
    replace hb2' : (decide (0 ≤ (t.f1.getD i default).f0 ∧ (t.f1.getD i default).f0 ≤ (IntKind.i64.wrap (l.f0 - 1)))) = true := by simpa only [Bool.not_eq_true', Bool.not_eq_false'] using hb2'
    replace hb2' := of_decide_eq_true hb2'
    rcases Bool.eq_false_or_eq_true (decide (0 < (i : Int))) with hb4 | hb4
    ·
     have hb4' := hb4
     replace hb4' := of_decide_eq_true hb4'
     rcases Bool.eq_false_or_eq_true (decide ((t.f1.getD i default).f0 ≤ (t.f1.getD ((i : Int) - 1).toNat default).f0)) with hb5 | hb5
     ·
      have hb5' := hb5
      replace hb5' := of_decide_eq_true hb5'
      refine T.draw [⟨15, (.one (.ptr 6 0)), []⟩, ⟨16, (.one (.d (.int .i64 (t.f1.getD i default).f0))), []⟩, ⟨17, (.one (.ptr 2 0)), []⟩, ⟨18, (.one (.d (.int .i64 l.f0))), []⟩, ⟨19, (.one (.d (.int .i64 (IntKind.i64.wrap (l.f0 - 1))))), []⟩, ⟨20, (.one (.d (.bool (decide (0 ≤ (t.f1.getD i default).f0 ∧ (t.f1.getD i default).f0 ≤ (IntKind.i64.wrap (l.f0 - 1))))))), []⟩, ⟨21, (.one (.d (.bool false))), []⟩, ⟨22, (.one (.d (.bool false))), []⟩, ⟨23, (.one (.d (.int .i64 (i : Int)))), []⟩, ⟨24, (.one (.d (.bool true))), []⟩, ⟨25, (.one (.d (.bool true))), []⟩, ⟨26, (.one (.ptr 6 0)), []⟩, ⟨27, (.one (.d (.int .i64 (t.f1.getD i default).f0))), []⟩, ⟨28, (.one (.ptr 3 1)), []⟩, ⟨29, (.one (.d (.sl 3 (t.f1.map SEntry.cells)))), []⟩, ⟨30, (.one (.d (.int .i64 (i : Int)))), []⟩, ⟨31, (.one (.d (.int .i64 ((i : Int) - 1)))), []⟩, ⟨32, (.one (.eptr (.sl 3 (t.f1.map SEntry.cells)) ((i : Int) - 1).toNat 0)), []⟩, ⟨33, (.one (.eptr (.sl 3 (t.f1.map SEntry.cells)) ((i : Int) - 1).toNat 0)), []⟩, ⟨34, (.one (.d (.int .i64 (t.f1.getD ((i : Int) - 1).toNat default).f0))), []⟩, ⟨35, (.one (.d (.bool true))), []⟩, ⟨36, (.one (.d (.bool true))), []⟩, ⟨37, (.one (.d (.bool true))), []⟩, ⟨38, (.one (.d (.bool true))), []⟩, ⟨39, (.tup []), []⟩, ⟨40, (.tup []), []⟩, ⟨41, (.tup []), []⟩, ⟨42, (.tup []), []⟩, ⟨43, (.tup []), []⟩, ⟨44, (.tup []), []⟩, ⟨45, (.tup []), []⟩, ⟨46, (.one (.d (.bool true))), []⟩, ⟨47, (.one (.d (.bool true))), []⟩, ⟨48, (.tup []), []⟩, ⟨49, (.tup []), []⟩, ⟨50, (.tup []), []⟩, ⟨51, (.tup []), []⟩, ⟨52, (.tup []), []⟩, ⟨53, (.one (.d (.bool true))), []⟩] (by kernel_rfl) (by kernel_rfl) ?_ ?_
      ·
       refine .cons (fun E hA_ => by have g6 := hA_.get 6 (by decide); exact OpStep.plain rfl (Step.fieldAddr (q := 0) (off := 0) (n := 1) (one := true) (t := 15) rfl rfl (by exact lt_ok rfl) (by kernel_rfl) (Nat.succ_ne_zero _) (show Env.ev E (.tmp 6) = _ from g6.trans rfl))) ?_
       refine .cons (fun E hA_ => by have g15 := hA_.get 15 (by decide); exact OpStep.plain rfl (Step.load_box (c := .d (.int .i64 (t.f1.getD i default).f0)) (t := 16) rfl rfl (by exact lt_ok rfl) (by kernel_rfl) (show Env.ev E (.tmp 15) = _ from g15.trans rfl) (by exact hA_.box rfl) rfl)) ?_
       refine .cons (fun E hA_ => by have g2 := hA_.get 2 (by decide); exact OpStep.plain rfl (Step.fieldAddr (q := 0) (off := 0) (n := 1) (one := true) (t := 17) rfl rfl (by exact lt_ok rfl) (by kernel_rfl) (Nat.succ_ne_zero _) (show Env.ev E (.tmp 2) = _ from g2.trans rfl))) ?_
       refine .cons (fun E hA_ => by have g17 := hA_.get 17 (by decide); exact OpStep.plain rfl (Step.load_box (c := .d (.int .i64 l.f0)) (t := 18) rfl rfl (by exact lt_ok rfl) (by kernel_rfl) (show Env.ev E (.tmp 17) = _ from g17.trans rfl) (by exact hA_.box rfl) rfl)) ?_
       refine .cons (fun E hA_ => by have g18 := hA_.get 18 (by decide); exact OpStep.plain rfl (Step.bin (r := .int .i64 (IntKind.i64.wrap (l.f0 - 1))) (t := 19) rfl rfl (by exact lt_ok rfl) (show Env.ev E (.tmp 18) = _ from g18.trans rfl) rfl (Bin.sub (a := l.f0) (b := 1) (rfl)))) ?_
       refine .cons (fun E hA_ => by have g16 := hA_.get 16 (by decide); have g19 := hA_.get 19 (by decide); exact OpStep.plain rfl (Step.call (f := 144) (xs := [.tmp 16, .const (.int .i64 0), .tmp 19]) (ps := [(.one (.d (.int .i64 (t.f1.getD i default).f0))), (.one (.d (.int .i64 0))), (.one (.d (.int .i64 (IntKind.i64.wrap (l.f0 - 1)))))]) false (g := .func 144) (t := 20) rfl rfl (by exact lt_ok rfl) rfl (by kernel_rfl) (evs_cons (show Env.ev E (.tmp 16) = _ from g16.trans rfl) (evs_cons rfl (evs_cons (show Env.ev E (.tmp 19) = _ from g19.trans rfl) (rfl)))) (.cons (.one (.d _)) (.cons (.one (.d _)) (.cons (.one (.d _)) .nil))) (ok_impl_within (t.f1.getD i default).f0 0 (IntKind.i64.wrap (l.f0 - 1))) (.inr rfl) (At.freshRows hA_ rfl) (by simp) rfl)) ?_
       refine .cons (fun E hA_ => by have g20 := hA_.get 20 (by decide); exact OpStep.plain rfl (Step.to (E1 := E.set 21 (.one (.d (.bool (!(decide (0 ≤ (t.f1.getD i default).f0 ∧ (t.f1.getD i default).f0 ≤ (IntKind.i64.wrap (l.f0 - 1))))))))) (congrArg (fun b_ => E.set 21 (.one (.d (.bool b_)))) hb2) (Step.not (b := (decide (0 ≤ (t.f1.getD i default).f0 ∧ (t.f1.getD i default).f0 ≤ (IntKind.i64.wrap (l.f0 - 1))))) (t := 21) rfl rfl (by exact lt_ok rfl) (show Env.ev E (.tmp 20) = _ from g20.trans rfl)))) ?_
       refine .cons (fun E hA_ => by have g21 := hA_.get 21 (by decide); exact OpStep.plain rfl (Step.move (p := (.one (.d (.bool false)))) (t := 22) rfl rfl (by exact lt_ok rfl) (show Env.ev E (.tmp 21) = _ from g21.trans rfl))) ?_
       refine .cons (fun E hA_ => by have g5 := hA_.get 5 (by decide); have g22 := hA_.get 22 (by decide); exact OpStep.yes (t := 22) rfl rfl (lt_ok rfl) (g22.trans rfl) (Step.move (p := (.one (.d (.int .i64 (i : Int))))) (t := 23) rfl rfl (by exact lt_ok rfl) (show Env.ev E (.tmp 5) = _ from g5.trans rfl))) ?_
       refine .cons (fun E hA_ => by have g22 := hA_.get 22 (by decide); have g23 := hA_.get 23 (by decide); exact OpStep.yes (t := 22) rfl rfl (lt_ok rfl) (g22.trans rfl) (Step.to (E1 := E.set 24 (.one (.d (.bool (decide (0 < (i : Int))))))) (congrArg (fun b_ => E.set 24 (.one (.d (.bool b_)))) hb4) (Step.bin (t := 24) rfl rfl (by exact lt_ok rfl) (show Env.ev E (.tmp 23) = _ from g23.trans rfl) rfl (Bin.gtr (k := .i64) (a := (i : Int)) (b := 0))))) ?_
       refine .cons (fun E hA_ => by have g22 := hA_.get 22 (by decide); have g24 := hA_.get 24 (by decide); exact OpStep.yes (t := 22) rfl rfl (lt_ok rfl) (g22.trans rfl) (Step.move (p := (.one (.d (.bool true)))) (t := 25) rfl rfl (by exact lt_ok rfl) (show Env.ev E (.tmp 24) = _ from g24.trans rfl))) ?_
       refine .cons (fun E hA_ => by have g6 := hA_.get 6 (by decide); have g25 := hA_.get 25 (by decide); exact OpStep.yes (t := 25) rfl rfl (lt_ok rfl) (g25.trans rfl) (Step.fieldAddr (q := 0) (off := 0) (n := 1) (one := true) (t := 26) rfl rfl (by exact lt_ok rfl) (by kernel_rfl) (Nat.succ_ne_zero _) (show Env.ev E (.tmp 6) = _ from g6.trans rfl))) ?_
       refine .cons (fun E hA_ => by have g25 := hA_.get 25 (by decide); have g26 := hA_.get 26 (by decide); exact OpStep.yes (t := 25) rfl rfl (lt_ok rfl) (g25.trans rfl) (Step.load_box (c := .d (.int .i64 (t.f1.getD i default).f0)) (t := 27) rfl rfl (by exact lt_ok rfl) (by kernel_rfl) (show Env.ev E (.tmp 26) = _ from g26.trans rfl) (by exact hA_.box rfl) rfl)) ?_
       refine .cons (fun E hA_ => by have g3 := hA_.get 3 (by decide); have g25 := hA_.get 25 (by decide); exact OpStep.yes (t := 25) rfl rfl (lt_ok rfl) (g25.trans rfl) (Step.fieldAddr (q := 0) (off := 1) (n := 1) (one := true) (t := 28) rfl rfl (by exact lt_ok rfl) (by kernel_rfl) (Nat.succ_ne_zero _) (show Env.ev E (.tmp 3) = _ from g3.trans rfl))) ?_
       refine .cons (fun E hA_ => by have g25 := hA_.get 25 (by decide); have g28 := hA_.get 28 (by decide); exact OpStep.yes (t := 25) rfl rfl (lt_ok rfl) (g25.trans rfl) (Step.load_box (c := .d (.sl 3 (t.f1.map SEntry.cells))) (t := 29) rfl rfl (by exact lt_ok rfl) (by kernel_rfl) (show Env.ev E (.tmp 28) = _ from g28.trans rfl) (by exact hA_.box rfl) rfl)) ?_
       refine .cons (fun E hA_ => by have g5 := hA_.get 5 (by decide); have g25 := hA_.get 25 (by decide); exact OpStep.yes (t := 25) rfl rfl (lt_ok rfl) (g25.trans rfl) (Step.move (p := (.one (.d (.int .i64 (i : Int))))) (t := 30) rfl rfl (by exact lt_ok rfl) (show Env.ev E (.tmp 5) = _ from g5.trans rfl))) ?_
       refine .cons (fun E hA_ => by have g25 := hA_.get 25 (by decide); have g30 := hA_.get 30 (by decide); exact OpStep.yes (t := 25) rfl rfl (lt_ok rfl) (g25.trans rfl) (Step.bin (r := .int .i64 ((i : Int) - 1)) (t := 31) rfl rfl (by exact lt_ok rfl) (show Env.ev E (.tmp 30) = _ from g30.trans rfl) rfl (Bin.sub (a := (i : Int)) (b := 1) (by first | exact wrap_ok (by first | omega | (simp; omega)) (by first | omega | (simp; omega)) | rfl)))) ?_
       refine .cons (fun E hA_ => by have g25 := hA_.get 25 (by decide); have g29 := hA_.get 29 (by decide); have g31 := hA_.get 31 (by decide); exact OpStep.yes (t := 25) rfl rfl (lt_ok rfl) (g25.trans rfl) (Step.index (e := 121) (z := 3) (i := ((i : Int) - 1)) (t := 32) rfl rfl (by exact lt_ok rfl) (by kernel_rfl) (show Env.ev E (.tmp 29) = _ from g29.trans rfl) rfl rfl (lt_ok rfl) (show Env.ev E (.tmp 31) = _ from g31.trans rfl) (by first | omega | (simp; omega)) (by simp only [D.size]; first | omega | (simp; omega)))) ?_
       refine .cons (fun E hA_ => by have g25 := hA_.get 25 (by decide); have g32 := hA_.get 32 (by decide); exact OpStep.yes (t := 25) rfl rfl (lt_ok rfl) (g25.trans rfl) (Step.fieldAddr_e (j := 0) (off := 0) (n := 1) (one := true) (t := 33) rfl rfl (by exact lt_ok rfl) (by kernel_rfl) (Nat.succ_ne_zero _) (show Env.ev E (.tmp 32) = _ from g32.trans rfl) (lt_ok rfl))) ?_
       refine .cons (fun E hA_ => by have g25 := hA_.get 25 (by decide); have g33 := hA_.get 33 (by decide); exact OpStep.yes (t := 25) rfl rfl (lt_ok rfl) (g25.trans rfl) (Step.load (e := (.int .i64 (t.f1.getD ((i : Int) - 1).toNat default).f0)) (t := 34) rfl rfl (by exact lt_ok rfl) (by kernel_rfl) (show Env.ev E (.tmp 33) = _ from g33.trans rfl) ((cell_map default (by first | omega | (simp; omega))).trans rfl))) ?_
       refine .cons (fun E hA_ => by have g25 := hA_.get 25 (by decide); have g27 := hA_.get 27 (by decide); have g34 := hA_.get 34 (by decide); exact OpStep.yes (t := 25) rfl rfl (lt_ok rfl) (g25.trans rfl) (Step.to (E1 := E.set 35 (.one (.d (.bool (decide ((t.f1.getD i default).f0 ≤ (t.f1.getD ((i : Int) - 1).toNat default).f0)))))) (congrArg (fun b_ => E.set 35 (.one (.d (.bool b_)))) hb5) (Step.bin (t := 35) rfl rfl (by exact lt_ok rfl) (show Env.ev E (.tmp 27) = _ from g27.trans rfl) (show Env.ev E (.tmp 34) = _ from g34.trans rfl) (Bin.leq (k := .i64) (a := (t.f1.getD i default).f0) (b := (t.f1.getD ((i : Int) - 1).toNat default).f0))))) ?_
       refine .cons (fun E hA_ => by have g22 := hA_.get 22 (by decide); have g25 := hA_.get 25 (by decide); have g35 := hA_.get 35 (by decide); exact OpStep.yes (t := 22) rfl rfl (lt_ok rfl) (g22.trans rfl) (Step.pick (b := true) (p := (.one (.d (.bool true)))) (t := 36) rfl rfl (by exact lt_ok rfl) (show Env.ev E (.tmp 25) = _ from g25.trans rfl) (show Env.ev E (.tmp 35) = _ from g35.trans rfl))) ?_
       refine .cons (fun E hA_ => by have g22 := hA_.get 22 (by decide); have g36 := hA_.get 36 (by decide); exact OpStep.plain rfl (Step.pick (b := false) (p := (.one (.d (.bool true)))) (t := 37) rfl rfl (by exact lt_ok rfl) (show Env.ev E (.tmp 22) = _ from g22.trans rfl) (show Env.ev E (.tmp 36) = _ from g36.trans rfl))) ?_
       refine .cons (fun E hA_ => by have g37 := hA_.get 37 (by decide); exact OpStep.plain rfl (Step.move (p := (.one (.d (.bool true)))) (t := 38) rfl rfl (by exact lt_ok rfl) (show Env.ev E (.tmp 37) = _ from g37.trans rfl))) ?_
       refine .cons (fun E hA_ => OpStep.off (t := 38) rfl rfl (lt_ok rfl) ((hA_.get 38 (by decide)).trans rfl) (by decide) rfl (lt_ok rfl)) ?_
       refine .cons (fun E hA_ => OpStep.off (t := 38) rfl rfl (lt_ok rfl) ((hA_.get 38 (by decide)).trans rfl) (by decide) rfl (lt_ok rfl)) ?_
       refine .cons (fun E hA_ => OpStep.off (t := 38) rfl rfl (lt_ok rfl) ((hA_.get 38 (by decide)).trans rfl) (by decide) rfl (lt_ok rfl)) ?_
       refine .cons (fun E hA_ => OpStep.off (t := 38) rfl rfl (lt_ok rfl) ((hA_.get 38 (by decide)).trans rfl) (by decide) rfl (lt_ok rfl)) ?_
       refine .cons (fun E hA_ => OpStep.off (t := 38) rfl rfl (lt_ok rfl) ((hA_.get 38 (by decide)).trans rfl) (by decide) rfl (lt_ok rfl)) ?_
       refine .cons (fun E hA_ => OpStep.off (t := 38) rfl rfl (lt_ok rfl) ((hA_.get 38 (by decide)).trans rfl) (by decide) rfl (lt_ok rfl)) ?_
       refine .cons (fun E hA_ => OpStep.off (t := 38) rfl rfl (lt_ok rfl) ((hA_.get 38 (by decide)).trans rfl) (by decide) rfl (lt_ok rfl)) ?_
       refine .cons (fun E hA_ => by have g38 := hA_.get 38 (by decide); have g45 := hA_.get 45 (by decide); exact OpStep.plain rfl (Step.pick (b := true) (p := (.one (.d (.bool true)))) (t := 46) rfl rfl (by exact lt_ok rfl) (show Env.ev E (.tmp 38) = _ from g38.trans rfl) rfl)) ?_
       refine .cons (fun E hA_ => by have g46 := hA_.get 46 (by decide); exact OpStep.plain rfl (Step.move (p := (.one (.d (.bool true)))) (t := 47) rfl rfl (by exact lt_ok rfl) (show Env.ev E (.tmp 46) = _ from g46.trans rfl))) ?_
       refine .cons (fun E hA_ => OpStep.off (t := 47) rfl rfl (lt_ok rfl) ((hA_.get 47 (by decide)).trans rfl) (by decide) rfl (lt_ok rfl)) ?_
       refine .cons (fun E hA_ => OpStep.off (t := 47) rfl rfl (lt_ok rfl) ((hA_.get 47 (by decide)).trans rfl) (by decide) rfl (lt_ok rfl)) ?_
       refine .cons (fun E hA_ => OpStep.off (t := 47) rfl rfl (lt_ok rfl) ((hA_.get 47 (by decide)).trans rfl) (by decide) rfl (lt_ok rfl)) ?_
       refine .cons (fun E hA_ => OpStep.off (t := 47) rfl rfl (lt_ok rfl) ((hA_.get 47 (by decide)).trans rfl) (by decide) rfl (lt_ok rfl)) ?_
       refine .cons (fun E hA_ => OpStep.off (t := 47) rfl rfl (lt_ok rfl) ((hA_.get 47 (by decide)).trans rfl) (by decide) rfl (lt_ok rfl)) ?_
       refine .cons (fun E hA_ => by have g47 := hA_.get 47 (by decide); have g52 := hA_.get 52 (by decide); exact OpStep.plain rfl (Step.pick (b := true) (p := (.one (.d (.bool true)))) (t := 53) rfl rfl (by exact lt_ok rfl) (show Env.ev E (.tmp 47) = _ from g47.trans rfl) rfl)) ?_
       exact .nil _ _
      refine TL.nil ?_
      refine T.cond (b := true) rfl (fun h6_ => ?_) (fun h6_ => absurd h6_ (by simp))
      refine T.seq ?_
      refine T.region ?_
      refine TL.cons rfl (Step.assign (p := (.one (.d (.bool false)))) rfl rfl (lt_ok rfl) rfl) ?_
      refine TL.nil ?_
      refine T.ret ?_
      exact ⟨[(false, [.d (.bool false)])], (.cons rfl .nil), rfl, [], (RetC.rd' (by (congr 1; symm; first | (rw [tcOk_no (i := i) (by omega) (tcEnt_no (by (try simp only [hashes, List.all_cons, List.all_nil, Bool.and_true] at *); (try simp only [decide_eq_true_eq, decide_eq_false_iff_not, Bool.not_eq_true', Bool.not_eq_false'] at *); (try (have hw2_ := hw_ (by omega) (by omega))); omega))]; done) | (unfold tcOk; rw [show tcAll l t t.f1.length = true from by rw [show t.f1.length = i from by omega]; exact hx2, decide_eq_true (p := (t.f1.length : Int) ≤ l.f0) (by omega), decide_eq_true (p := (0 ≤ t.f0 ∧ t.f0 ≤ 1152921504606846975)) (by omega)]; simp only [*, Bool.and_true, Bool.true_and, Bool.and_false, Bool.false_and, decide_true, decide_false, and_true, true_and, and_self, and_false, false_and, Bool.and_self, not_true, not_false, Bool.not_true, Bool.not_false, ge_iff_le, gt_iff_lt, if_true, if_false, Bool.false_eq_true, ite_true, ite_false, reduceIte]; done) | (unfold tcOk; rw [show tcAll l t t.f1.length = true from by rw [show t.f1.length = i from by omega]; exact hx2, decide_eq_true (p := (0 ≤ t.f0 ∧ t.f0 ≤ 1152921504606846975)) (by omega)]; simp only [*, Bool.and_true, Bool.true_and, Bool.and_false, Bool.false_and, decide_true, decide_false, and_true, true_and, and_self, and_false, false_and, Bool.and_self, not_true, not_false, Bool.not_true, Bool.not_false, ge_iff_le, gt_iff_lt, if_true, if_false, Bool.false_eq_true, ite_true, ite_false, reduceIte]; done) | (unfold tcOk; simp only [*, Bool.and_true, Bool.true_and, Bool.and_false, Bool.false_and, decide_true, decide_false, and_true, true_and, and_self, and_false, false_and, Bool.and_self, not_true, not_false, Bool.not_true, Bool.not_false, ge_iff_le, gt_iff_lt, if_true, if_false, Bool.false_eq_true, ite_true, ite_false, reduceIte]; done) | (unfold tcOk; rw [decide_eq_false (p := (t.f1.length : Int) ≤ l.f0) (by omega)]; simp; done))) .nil)⟩
     ·
      have hb5' := hb5
      replace hb5' := of_decide_eq_false hb5'
      rcases Bool.eq_false_or_eq_true (!(decide (0 ≤ (t.f1.getD i default).f1 ∧ (t.f1.getD i default).f1 ≤ (IntKind.i64.wrap (t.f0 - 1))))) with hb7 | hb7
      ·
       have hb7' := hb7
       replace hb7' : (decide (0 ≤ (t.f1.getD i default).f1 ∧ (t.f1.getD i default).f1 ≤ (IntKind.i64.wrap (t.f0 - 1)))) = false := by simpa only [Bool.not_eq_true', Bool.not_eq_false'] using hb7'
       replace hb7' := of_decide_eq_false hb7'
       refine T.draw [⟨15, (.one (.ptr 6 0)), []⟩, ⟨16, (.one (.d (.int .i64 (t.f1.getD i default).f0))), []⟩, ⟨17, (.one (.ptr 2 0)), []⟩, ⟨18, (.one (.d (.int .i64 l.f0))), []⟩, ⟨19, (.one (.d (.int .i64 (IntKind.i64.wrap (l.f0 - 1))))), []⟩, ⟨20, (.one (.d (.bool (decide (0 ≤ (t.f1.getD i default).f0 ∧ (t.f1.getD i default).f0 ≤ (IntKind.i64.wrap (l.f0 - 1))))))), []⟩, ⟨21, (.one (.d (.bool false))), []⟩, ⟨22, (.one (.d (.bool false))), []⟩, ⟨23, (.one (.d (.int .i64 (i : Int)))), []⟩, ⟨24, (.one (.d (.bool true))), []⟩, ⟨25, (.one (.d (.bool true))), []⟩, ⟨26, (.one (.ptr 6 0)), []⟩, ⟨27, (.one (.d (.int .i64 (t.f1.getD i default).f0))), []⟩, ⟨28, (.one (.ptr 3 1)), []⟩, ⟨29, (.one (.d (.sl 3 (t.f1.map SEntry.cells)))), []⟩, ⟨30, (.one (.d (.int .i64 (i : Int)))), []⟩, ⟨31, (.one (.d (.int .i64 ((i : Int) - 1)))), []⟩, ⟨32, (.one (.eptr (.sl 3 (t.f1.map SEntry.cells)) ((i : Int) - 1).toNat 0)), []⟩, ⟨33, (.one (.eptr (.sl 3 (t.f1.map SEntry.cells)) ((i : Int) - 1).toNat 0)), []⟩, ⟨34, (.one (.d (.int .i64 (t.f1.getD ((i : Int) - 1).toNat default).f0))), []⟩, ⟨35, (.one (.d (.bool false))), []⟩, ⟨36, (.one (.d (.bool false))), []⟩, ⟨37, (.one (.d (.bool false))), []⟩, ⟨38, (.one (.d (.bool false))), []⟩, ⟨39, (.one (.ptr 6 1)), []⟩, ⟨40, (.one (.d (.int .i64 (t.f1.getD i default).f1))), []⟩, ⟨41, (.one (.ptr 3 0)), []⟩, ⟨42, (.one (.d (.int .i64 t.f0))), []⟩, ⟨43, (.one (.d (.int .i64 (IntKind.i64.wrap (t.f0 - 1))))), []⟩, ⟨44, (.one (.d (.bool (decide (0 ≤ (t.f1.getD i default).f1 ∧ (t.f1.getD i default).f1 ≤ (IntKind.i64.wrap (t.f0 - 1))))))), []⟩, ⟨45, (.one (.d (.bool true))), []⟩, ⟨46, (.one (.d (.bool true))), []⟩, ⟨47, (.one (.d (.bool true))), []⟩, ⟨48, (.tup []), []⟩, ⟨49, (.tup []), []⟩, ⟨50, (.tup []), []⟩, ⟨51, (.tup []), []⟩, ⟨52, (.tup []), []⟩, ⟨53, (.one (.d (.bool true))), []⟩] (by kernel_rfl) (by kernel_rfl) ?_ ?_
       ·
        refine .cons (fun E hA_ => by have g6 := hA_.get 6 (by decide); exact OpStep.plain rfl (Step.fieldAddr (q := 0) (off := 0) (n := 1) (one := true) (t := 15) rfl rfl (by exact lt_ok rfl) (by kernel_rfl) (Nat.succ_ne_zero _) (show Env.ev E (.tmp 6) = _ from g6.trans rfl))) ?_
        refine .cons (fun E hA_ => by have g15 := hA_.get 15 (by decide); exact OpStep.plain rfl (Step.load_box (c := .d (.int .i64 (t.f1.getD i default).f0)) (t := 16) rfl rfl (by exact lt_ok rfl) (by kernel_rfl) (show Env.ev E (.tmp 15) = _ from g15.trans rfl) (by exact hA_.box rfl) rfl)) ?_
        refine .cons (fun E hA_ => by have g2 := hA_.get 2 (by decide); exact OpStep.plain rfl (Step.fieldAddr (q := 0) (off := 0) (n := 1) (one := true) (t := 17) rfl rfl (by exact lt_ok rfl) (by kernel_rfl) (Nat.succ_ne_zero _) (show Env.ev E (.tmp 2) = _ from g2.trans rfl))) ?_
        refine .cons (fun E hA_ => by have g17 := hA_.get 17 (by decide); exact OpStep.plain rfl (Step.load_box (c := .d (.int .i64 l.f0)) (t := 18) rfl rfl (by exact lt_ok rfl) (by kernel_rfl) (show Env.ev E (.tmp 17) = _ from g17.trans rfl) (by exact hA_.box rfl) rfl)) ?_
        refine .cons (fun E hA_ => by have g18 := hA_.get 18 (by decide); exact OpStep.plain rfl (Step.bin (r := .int .i64 (IntKind.i64.wrap (l.f0 - 1))) (t := 19) rfl rfl (by exact lt_ok rfl) (show Env.ev E (.tmp 18) = _ from g18.trans rfl) rfl (Bin.sub (a := l.f0) (b := 1) (rfl)))) ?_
        refine .cons (fun E hA_ => by have g16 := hA_.get 16 (by decide); have g19 := hA_.get 19 (by decide); exact OpStep.plain rfl (Step.call (f := 144) (xs := [.tmp 16, .const (.int .i64 0), .tmp 19]) (ps := [(.one (.d (.int .i64 (t.f1.getD i default).f0))), (.one (.d (.int .i64 0))), (.one (.d (.int .i64 (IntKind.i64.wrap (l.f0 - 1)))))]) false (g := .func 144) (t := 20) rfl rfl (by exact lt_ok rfl) rfl (by kernel_rfl) (evs_cons (show Env.ev E (.tmp 16) = _ from g16.trans rfl) (evs_cons rfl (evs_cons (show Env.ev E (.tmp 19) = _ from g19.trans rfl) (rfl)))) (.cons (.one (.d _)) (.cons (.one (.d _)) (.cons (.one (.d _)) .nil))) (ok_impl_within (t.f1.getD i default).f0 0 (IntKind.i64.wrap (l.f0 - 1))) (.inr rfl) (At.freshRows hA_ rfl) (by simp) rfl)) ?_
        refine .cons (fun E hA_ => by have g20 := hA_.get 20 (by decide); exact OpStep.plain rfl (Step.to (E1 := E.set 21 (.one (.d (.bool (!(decide (0 ≤ (t.f1.getD i default).f0 ∧ (t.f1.getD i default).f0 ≤ (IntKind.i64.wrap (l.f0 - 1))))))))) (congrArg (fun b_ => E.set 21 (.one (.d (.bool b_)))) hb2) (Step.not (b := (decide (0 ≤ (t.f1.getD i default).f0 ∧ (t.f1.getD i default).f0 ≤ (IntKind.i64.wrap (l.f0 - 1))))) (t := 21) rfl rfl (by exact lt_ok rfl) (show Env.ev E (.tmp 20) = _ from g20.trans rfl)))) ?_
        refine .cons (fun E hA_ => by have g21 := hA_.get 21 (by decide); exact OpStep.plain rfl (Step.move (p := (.one (.d (.bool false)))) (t := 22) rfl rfl (by exact lt_ok rfl) (show Env.ev E (.tmp 21) = _ from g21.trans rfl))) ?_
        refine .cons (fun E hA_ => by have g5 := hA_.get 5 (by decide); have g22 := hA_.get 22 (by decide); exact OpStep.yes (t := 22) rfl rfl (lt_ok rfl) (g22.trans rfl) (Step.move (p := (.one (.d (.int .i64 (i : Int))))) (t := 23) rfl rfl (by exact lt_ok rfl) (show Env.ev E (.tmp 5) = _ from g5.trans rfl))) ?_
        refine .cons (fun E hA_ => by have g22 := hA_.get 22 (by decide); have g23 := hA_.get 23 (by decide); exact OpStep.yes (t := 22) rfl rfl (lt_ok rfl) (g22.trans rfl) (Step.to (E1 := E.set 24 (.one (.d (.bool (decide (0 < (i : Int))))))) (congrArg (fun b_ => E.set 24 (.one (.d (.bool b_)))) hb4) (Step.bin (t := 24) rfl rfl (by exact lt_ok rfl) (show Env.ev E (.tmp 23) = _ from g23.trans rfl) rfl (Bin.gtr (k := .i64) (a := (i : Int)) (b := 0))))) ?_
        refine .cons (fun E hA_ => by have g22 := hA_.get 22 (by decide); have g24 := hA_.get 24 (by decide); exact OpStep.yes (t := 22) rfl rfl (lt_ok rfl) (g22.trans rfl) (Step.move (p := (.one (.d (.bool true)))) (t := 25) rfl rfl (by exact lt_ok rfl) (show Env.ev E (.tmp 24) = _ from g24.trans rfl))) ?_
        refine .cons (fun E hA_ => by have g6 := hA_.get 6 (by decide); have g25 := hA_.get 25 (by decide); exact OpStep.yes (t := 25) rfl rfl (lt_ok rfl) (g25.trans rfl) (Step.fieldAddr (q := 0) (off := 0) (n := 1) (one := true) (t := 26) rfl rfl (by exact lt_ok rfl) (by kernel_rfl) (Nat.succ_ne_zero _) (show Env.ev E (.tmp 6) = _ from g6.trans rfl))) ?_
        refine .cons (fun E hA_ => by have g25 := hA_.get 25 (by decide); have g26 := hA_.get 26 (by decide); exact OpStep.yes (t := 25) rfl rfl (lt_ok rfl) (g25.trans rfl) (Step.load_box (c := .d (.int .i64 (t.f1.getD i default).f0)) (t := 27) rfl rfl (by exact lt_ok rfl) (by kernel_rfl) (show Env.ev E (.tmp 26) = _ from g26.trans rfl) (by exact hA_.box rfl) rfl)) ?_
        refine .cons (fun E hA_ => by have g3 := hA_.get 3 (by decide); have g25 := hA_.get 25 (by decide); exact OpStep.yes (t := 25) rfl rfl (lt_ok rfl) (g25.trans rfl) (Step.fieldAddr (q := 0) (off := 1) (n := 1) (one := true) (t := 28) rfl rfl (by exact lt_ok rfl) (by kernel_rfl) (Nat.succ_ne_zero _) (show Env.ev E (.tmp 3) = _ from g3.trans rfl))) ?_
        refine .cons (fun E hA_ => by have g25 := hA_.get 25 (by decide); have g28 := hA_.get 28 (by decide); exact OpStep.yes (t := 25) rfl rfl (lt_ok rfl) (g25.trans rfl) (Step.load_box (c := .d (.sl 3 (t.f1.map SEntry.cells))) (t := 29) rfl rfl (by exact lt_ok rfl) (by kernel_rfl) (show Env.ev E (.tmp 28) = _ from g28.trans rfl) (by exact hA_.box rfl) rfl)) ?_
        refine .cons (fun E hA_ => by have g5 := hA_.get 5 (by decide); have g25 := hA_.get 25 (by decide); exact OpStep.yes (t := 25) rfl rfl (lt_ok rfl) (g25.trans rfl) (Step.move (p := (.one (.d (.int .i64 (i : Int))))) (t := 30) rfl rfl (by exact lt_ok rfl) (show Env.ev E (.tmp 5) = _ from g5.trans rfl))) ?_
        refine .cons (fun E hA_ => by have g25 := hA_.get 25 (by decide); have g30 := hA_.get 30 (by decide); exact OpStep.yes (t := 25) rfl rfl (lt_ok rfl) (g25.trans rfl) (Step.bin (r := .int .i64 ((i : Int) - 1)) (t := 31) rfl rfl (by exact lt_ok rfl) (show Env.ev E (.tmp 30) = _ from g30.trans rfl) rfl (Bin.sub (a := (i : Int)) (b := 1) (by first | exact wrap_ok (by first | omega | (simp; omega)) (by first | omega | (simp; omega)) | rfl)))) ?_
        refine .cons (fun E hA_ => by have g25 := hA_.get 25 (by decide); have g29 := hA_.get 29 (by decide); have g31 := hA_.get 31 (by decide); exact OpStep.yes (t := 25) rfl rfl (lt_ok rfl) (g25.trans rfl) (Step.index (e := 121) (z := 3) (i := ((i : Int) - 1)) (t := 32) rfl rfl (by exact lt_ok rfl) (by kernel_rfl) (show Env.ev E (.tmp 29) = _ from g29.trans rfl) rfl rfl (lt_ok rfl) (show Env.ev E (.tmp 31) = _ from g31.trans rfl) (by first | omega | (simp; omega)) (by simp only [D.size]; first | omega | (simp; omega)))) ?_
        refine .cons (fun E hA_ => by have g25 := hA_.get 25 (by decide); have g32 := hA_.get 32 (by decide); exact OpStep.yes (t := 25) rfl rfl (lt_ok rfl) (g25.trans rfl) (Step.fieldAddr_e (j := 0) (off := 0) (n := 1) (one := true) (t := 33) rfl rfl (by exact lt_ok rfl) (by kernel_rfl) (Nat.succ_ne_zero _) (show Env.ev E (.tmp 32) = _ from g32.trans rfl) (lt_ok rfl))) ?_
        refine .cons (fun E hA_ => by have g25 := hA_.get 25 (by decide); have g33 := hA_.get 33 (by decide); exact OpStep.yes (t := 25) rfl rfl (lt_ok rfl) (g25.trans rfl) (Step.load (e := (.int .i64 (t.f1.getD ((i : Int) - 1).toNat default).f0)) (t := 34) rfl rfl (by exact lt_ok rfl) (by kernel_rfl) (show Env.ev E (.tmp 33) = _ from g33.trans rfl) ((cell_map default (by first | omega | (simp; omega))).trans rfl))) ?_
        refine .cons (fun E hA_ => by have g25 := hA_.get 25 (by decide); have g27 := hA_.get 27 (by decide); have g34 := hA_.get 34 (by decide); exact OpStep.yes (t := 25) rfl rfl (lt_ok rfl) (g25.trans rfl) (Step.to (E1 := E.set 35 (.one (.d (.bool (decide ((t.f1.getD i default).f0 ≤ (t.f1.getD ((i : Int) - 1).toNat default).f0)))))) (congrArg (fun b_ => E.set 35 (.one (.d (.bool b_)))) hb5) (Step.bin (t := 35) rfl rfl (by exact lt_ok rfl) (show Env.ev E (.tmp 27) = _ from g27.trans rfl) (show Env.ev E (.tmp 34) = _ from g34.trans rfl) (Bin.leq (k := .i64) (a := (t.f1.getD i default).f0) (b := (t.f1.getD ((i : Int) - 1).toNat default).f0))))) ?_
        refine .cons (fun E hA_ => by have g22 := hA_.get 22 (by decide); have g25 := hA_.get 25 (by decide); have g35 := hA_.get 35 (by decide); exact OpStep.yes (t := 22) rfl rfl (lt_ok rfl) (g22.trans rfl) (Step.pick (b := true) (p := (.one (.d (.bool false)))) (t := 36) rfl rfl (by exact lt_ok rfl) (show Env.ev E (.tmp 25) = _ from g25.trans rfl) (show Env.ev E (.tmp 35) = _ from g35.trans rfl))) ?_
        refine .cons (fun E hA_ => by have g22 := hA_.get 22 (by decide); have g36 := hA_.get 36 (by decide); exact OpStep.plain rfl (Step.pick (b := false) (p := (.one (.d (.bool false)))) (t := 37) rfl rfl (by exact lt_ok rfl) (show Env.ev E (.tmp 22) = _ from g22.trans rfl) (show Env.ev E (.tmp 36) = _ from g36.trans rfl))) ?_
        refine .cons (fun E hA_ => by have g37 := hA_.get 37 (by decide); exact OpStep.plain rfl (Step.move (p := (.one (.d (.bool false)))) (t := 38) rfl rfl (by exact lt_ok rfl) (show Env.ev E (.tmp 37) = _ from g37.trans rfl))) ?_
        refine .cons (fun E hA_ => by have g6 := hA_.get 6 (by decide); have g38 := hA_.get 38 (by decide); exact OpStep.yes (t := 38) rfl rfl (lt_ok rfl) (g38.trans rfl) (Step.fieldAddr (q := 0) (off := 1) (n := 1) (one := true) (t := 39) rfl rfl (by exact lt_ok rfl) (by kernel_rfl) (Nat.succ_ne_zero _) (show Env.ev E (.tmp 6) = _ from g6.trans rfl))) ?_
        refine .cons (fun E hA_ => by have g38 := hA_.get 38 (by decide); have g39 := hA_.get 39 (by decide); exact OpStep.yes (t := 38) rfl rfl (lt_ok rfl) (g38.trans rfl) (Step.load_box (c := .d (.int .i64 (t.f1.getD i default).f1)) (t := 40) rfl rfl (by exact lt_ok rfl) (by kernel_rfl) (show Env.ev E (.tmp 39) = _ from g39.trans rfl) (by exact hA_.box rfl) rfl)) ?_
        refine .cons (fun E hA_ => by have g3 := hA_.get 3 (by decide); have g38 := hA_.get 38 (by decide); exact OpStep.yes (t := 38) rfl rfl (lt_ok rfl) (g38.trans rfl) (Step.fieldAddr (q := 0) (off := 0) (n := 1) (one := true) (t := 41) rfl rfl (by exact lt_ok rfl) (by kernel_rfl) (Nat.succ_ne_zero _) (show Env.ev E (.tmp 3) = _ from g3.trans rfl))) ?_
        refine .cons (fun E hA_ => by have g38 := hA_.get 38 (by decide); have g41 := hA_.get 41 (by decide); exact OpStep.yes (t := 38) rfl rfl (lt_ok rfl) (g38.trans rfl) (Step.load_box (c := .d (.int .i64 t.f0)) (t := 42) rfl rfl (by exact lt_ok rfl) (by kernel_rfl) (show Env.ev E (.tmp 41) = _ from g41.trans rfl) (by exact hA_.box rfl) rfl)) ?_
        refine .cons (fun E hA_ => by have g38 := hA_.get 38 (by decide); have g42 := hA_.get 42 (by decide); exact OpStep.yes (t := 38) rfl rfl (lt_ok rfl) (g38.trans rfl) (Step.bin (r := .int .i64 (IntKind.i64.wrap (t.f0 - 1))) (t := 43) rfl rfl (by exact lt_ok rfl) (show Env.ev E (.tmp 42) = _ from g42.trans rfl) rfl (Bin.sub (a := t.f0) (b := 1) (rfl)))) ?_
        refine .cons (fun E hA_ => by have g38 := hA_.get 38 (by decide); have g40 := hA_.get 40 (by decide); have g43 := hA_.get 43 (by decide); exact OpStep.yes (t := 38) rfl rfl (lt_ok rfl) (g38.trans rfl) (Step.call (f := 144) (xs := [.tmp 40, .const (.int .i64 0), .tmp 43]) (ps := [(.one (.d (.int .i64 (t.f1.getD i default).f1))), (.one (.d (.int .i64 0))), (.one (.d (.int .i64 (IntKind.i64.wrap (t.f0 - 1)))))]) false (g := .func 144) (t := 44) rfl rfl (by exact lt_ok rfl) rfl (by kernel_rfl) (evs_cons (show Env.ev E (.tmp 40) = _ from g40.trans rfl) (evs_cons rfl (evs_cons (show Env.ev E (.tmp 43) = _ from g43.trans rfl) (rfl)))) (.cons (.one (.d _)) (.cons (.one (.d _)) (.cons (.one (.d _)) .nil))) (ok_impl_within (t.f1.getD i default).f1 0 (IntKind.i64.wrap (t.f0 - 1))) (.inr rfl) (At.freshRows hA_ rfl) (by simp) rfl)) ?_
        refine .cons (fun E hA_ => by have g38 := hA_.get 38 (by decide); have g44 := hA_.get 44 (by decide); exact OpStep.yes (t := 38) rfl rfl (lt_ok rfl) (g38.trans rfl) (Step.to (E1 := E.set 45 (.one (.d (.bool (!(decide (0 ≤ (t.f1.getD i default).f1 ∧ (t.f1.getD i default).f1 ≤ (IntKind.i64.wrap (t.f0 - 1))))))))) (congrArg (fun b_ => E.set 45 (.one (.d (.bool b_)))) hb7) (Step.not (b := (decide (0 ≤ (t.f1.getD i default).f1 ∧ (t.f1.getD i default).f1 ≤ (IntKind.i64.wrap (t.f0 - 1))))) (t := 45) rfl rfl (by exact lt_ok rfl) (show Env.ev E (.tmp 44) = _ from g44.trans rfl)))) ?_
        refine .cons (fun E hA_ => by have g38 := hA_.get 38 (by decide); have g45 := hA_.get 45 (by decide); exact OpStep.plain rfl (Step.pick (b := false) (p := (.one (.d (.bool true)))) (t := 46) rfl rfl (by exact lt_ok rfl) (show Env.ev E (.tmp 38) = _ from g38.trans rfl) (show Env.ev E (.tmp 45) = _ from g45.trans rfl))) ?_
        refine .cons (fun E hA_ => by have g46 := hA_.get 46 (by decide); exact OpStep.plain rfl (Step.move (p := (.one (.d (.bool true)))) (t := 47) rfl rfl (by exact lt_ok rfl) (show Env.ev E (.tmp 46) = _ from g46.trans rfl))) ?_
        refine .cons (fun E hA_ => OpStep.off (t := 47) rfl rfl (lt_ok rfl) ((hA_.get 47 (by decide)).trans rfl) (by decide) rfl (lt_ok rfl)) ?_
        refine .cons (fun E hA_ => OpStep.off (t := 47) rfl rfl (lt_ok rfl) ((hA_.get 47 (by decide)).trans rfl) (by decide) rfl (lt_ok rfl)) ?_
        refine .cons (fun E hA_ => OpStep.off (t := 47) rfl rfl (lt_ok rfl) ((hA_.get 47 (by decide)).trans rfl) (by decide) rfl (lt_ok rfl)) ?_
        refine .cons (fun E hA_ => OpStep.off (t := 47) rfl rfl (lt_ok rfl) ((hA_.get 47 (by decide)).trans rfl) (by decide) rfl (lt_ok rfl)) ?_
        refine .cons (fun E hA_ => OpStep.off (t := 47) rfl rfl (lt_ok rfl) ((hA_.get 47 (by decide)).trans rfl) (by decide) rfl (lt_ok rfl)) ?_
        refine .cons (fun E hA_ => by have g47 := hA_.get 47 (by decide); have g52 := hA_.get 52 (by decide); exact OpStep.plain rfl (Step.pick (b := true) (p := (.one (.d (.bool true)))) (t := 53) rfl rfl (by exact lt_ok rfl) (show Env.ev E (.tmp 47) = _ from g47.trans rfl) rfl)) ?_
        exact .nil _ _
       refine TL.nil ?_
       refine T.cond (b := true) rfl (fun h8_ => ?_) (fun h8_ => absurd h8_ (by simp))
       refine T.seq ?_
       refine T.region ?_
       refine TL.cons rfl (Step.assign (p := (.one (.d (.bool false)))) rfl rfl (lt_ok rfl) rfl) ?_
       refine TL.nil ?_
       refine T.ret ?_
       exact ⟨[(false, [.d (.bool false)])], (.cons rfl .nil), rfl, [], (RetC.rd' (by (congr 1; symm; first | (rw [tcOk_no (i := i) (by omega) (tcEnt_no (by (try simp only [hashes, List.all_cons, List.all_nil, Bool.and_true] at *); (try simp only [decide_eq_true_eq, decide_eq_false_iff_not, Bool.not_eq_true', Bool.not_eq_false'] at *); (try (have hw2_ := hw_ (by omega) (by omega))); omega))]; done) | (unfold tcOk; rw [show tcAll l t t.f1.length = true from by rw [show t.f1.length = i from by omega]; exact hx2, decide_eq_true (p := (t.f1.length : Int) ≤ l.f0) (by omega), decide_eq_true (p := (0 ≤ t.f0 ∧ t.f0 ≤ 1152921504606846975)) (by omega)]; simp only [*, Bool.and_true, Bool.true_and, Bool.and_false, Bool.false_and, decide_true, decide_false, and_true, true_and, and_self, and_false, false_and, Bool.and_self, not_true, not_false, Bool.not_true, Bool.not_false, ge_iff_le, gt_iff_lt, if_true, if_false, Bool.false_eq_true, ite_true, ite_false, reduceIte]; done) | (unfold tcOk; rw [show tcAll l t t.f1.length = true from by rw [show t.f1.length = i from by omega]; exact hx2, decide_eq_true (p := (0 ≤ t.f0 ∧ t.f0 ≤ 1152921504606846975)) (by omega)]; simp only [*, Bool.and_true, Bool.true_and, Bool.and_false, Bool.false_and, decide_true, decide_false, and_true, true_and, and_self, and_false, false_and, Bool.and_self, not_true, not_false, Bool.not_true, Bool.not_false, ge_iff_le, gt_iff_lt, if_true, if_false, Bool.false_eq_true, ite_true, ite_false, reduceIte]; done) | (unfold tcOk; simp only [*, Bool.and_true, Bool.true_and, Bool.and_false, Bool.false_and, decide_true, decide_false, and_true, true_and, and_self, and_false, false_and, Bool.and_self, not_true, not_false, Bool.not_true, Bool.not_false, ge_iff_le, gt_iff_lt, if_true, if_false, Bool.false_eq_true, ite_true, ite_false, reduceIte]; done) | (unfold tcOk; rw [decide_eq_false (p := (t.f1.length : Int) ≤ l.f0) (by omega)]; simp; done))) .nil)⟩
      ·
       have hb7' := hb7
       replace hb7' : (decide (0 ≤ (t.f1.getD i default).f1 ∧ (t.f1.getD i default).f1 ≤ (IntKind.i64.wrap (t.f0 - 1)))) = true := by simpa only [Bool.not_eq_true', Bool.not_eq_false'] using hb7'
       replace hb7' := of_decide_eq_true hb7'
       refine T.draw [⟨15, (.one (.ptr 6 0)), []⟩, ⟨16, (.one (.d (.int .i64 (t.f1.getD i default).f0))), []⟩, ⟨17, (.one (.ptr 2 0)), []⟩, ⟨18, (.one (.d (.int .i64 l.f0))), []⟩, ⟨19, (.one (.d (.int .i64 (IntKind.i64.wrap (l.f0 - 1))))), []⟩, ⟨20, (.one (.d (.bool (decide (0 ≤ (t.f1.getD i default).f0 ∧ (t.f1.getD i default).f0 ≤ (IntKind.i64.wrap (l.f0 - 1))))))), []⟩, ⟨21, (.one (.d (.bool false))), []⟩, ⟨22, (.one (.d (.bool false))), []⟩, ⟨23, (.one (.d (.int .i64 (i : Int)))), []⟩, ⟨24, (.one (.d (.bool true))), []⟩, ⟨25, (.one (.d (.bool true))), []⟩, ⟨26, (.one (.ptr 6 0)), []⟩, ⟨27, (.one (.d (.int .i64 (t.f1.getD i default).f0))), []⟩, ⟨28, (.one (.ptr 3 1)), []⟩, ⟨29, (.one (.d (.sl 3 (t.f1.map SEntry.cells)))), []⟩, ⟨30, (.one (.d (.int .i64 (i : Int)))), []⟩, ⟨31, (.one (.d (.int .i64 ((i : Int) - 1)))), []⟩, ⟨32, (.one (.eptr (.sl 3 (t.f1.map SEntry.cells)) ((i : Int) - 1).toNat 0)), []⟩, ⟨33, (.one (.eptr (.sl 3 (t.f1.map SEntry.cells)) ((i : Int) - 1).toNat 0)), []⟩, ⟨34, (.one (.d (.int .i64 (t.f1.getD ((i : Int) - 1).toNat default).f0))), []⟩, ⟨35, (.one (.d (.bool false))), []⟩, ⟨36, (.one (.d (.bool false))), []⟩, ⟨37, (.one (.d (.bool false))), []⟩, ⟨38, (.one (.d (.bool false))), []⟩, ⟨39, (.one (.ptr 6 1)), []⟩, ⟨40, (.one (.d (.int .i64 (t.f1.getD i default).f1))), []⟩, ⟨41, (.one (.ptr 3 0)), []⟩, ⟨42, (.one (.d (.int .i64 t.f0))), []⟩, ⟨43, (.one (.d (.int .i64 (IntKind.i64.wrap (t.f0 - 1))))), []⟩, ⟨44, (.one (.d (.bool (decide (0 ≤ (t.f1.getD i default).f1 ∧ (t.f1.getD i default).f1 ≤ (IntKind.i64.wrap (t.f0 - 1))))))), []⟩, ⟨45, (.one (.d (.bool false))), []⟩, ⟨46, (.one (.d (.bool false))), []⟩, ⟨47, (.one (.d (.bool false))), []⟩, ⟨48, (.one (.ptr 6 2)), []⟩, ⟨49, (.one (.d (.ints .u8 (t.f1.getD i default).f2))), []⟩, ⟨50, (.one (.d (.bss [(t.f1.getD i default).f2]))), []⟩, ⟨51, (.one (.d (.bool (hashes [(t.f1.getD i default).f2])))), []⟩, ⟨52, (.one (.d (.bool (!(hashes [(t.f1.getD i default).f2]))))), []⟩, ⟨53, (.one (.d (.bool (!(hashes [(t.f1.getD i default).f2]))))), []⟩] (by kernel_rfl) (by kernel_rfl) ?_ ?_
       ·
        refine .cons (fun E hA_ => by have g6 := hA_.get 6 (by decide); exact OpStep.plain rfl (Step.fieldAddr (q := 0) (off := 0) (n := 1) (one := true) (t := 15) rfl rfl (by exact lt_ok rfl) (by kernel_rfl) (Nat.succ_ne_zero _) (show Env.ev E (.tmp 6) = _ from g6.trans rfl))) ?_
        refine .cons (fun E hA_ => by have g15 := hA_.get 15 (by decide); exact OpStep.plain rfl (Step.load_box (c := .d (.int .i64 (t.f1.getD i default).f0)) (t := 16) rfl rfl (by exact lt_ok rfl) (by kernel_rfl) (show Env.ev E (.tmp 15) = _ from g15.trans rfl) (by exact hA_.box rfl) rfl)) ?_
        refine .cons (fun E hA_ => by have g2 := hA_.get 2 (by decide); exact OpStep.plain rfl (Step.fieldAddr (q := 0) (off := 0) (n := 1) (one := true) (t := 17) rfl rfl (by exact lt_ok rfl) (by kernel_rfl) (Nat.succ_ne_zero _) (show Env.ev E (.tmp 2) = _ from g2.trans rfl))) ?_
        refine .cons (fun E hA_ => by have g17 := hA_.get 17 (by decide); exact OpStep.plain rfl (Step.load_box (c := .d (.int .i64 l.f0)) (t := 18) rfl rfl (by exact lt_ok rfl) (by kernel_rfl) (show Env.ev E (.tmp 17) = _ from g17.trans rfl) (by exact hA_.box rfl) rfl)) ?_
        refine .cons (fun E hA_ => by have g18 := hA_.get 18 (by decide); exact OpStep.plain rfl (Step.bin (r := .int .i64 (IntKind.i64.wrap (l.f0 - 1))) (t := 19) rfl rfl (by exact lt_ok rfl) (show Env.ev E (.tmp 18) = _ from g18.trans rfl) rfl (Bin.sub (a := l.f0) (b := 1) (rfl)))) ?_
        refine .cons (fun E hA_ => by have g16 := hA_.get 16 (by decide); have g19 := hA_.get 19 (by decide); exact OpStep.plain rfl (Step.call (f := 144) (xs := [.tmp 16, .const (.int .i64 0), .tmp 19]) (ps := [(.one (.d (.int .i64 (t.f1.getD i default).f0))), (.one (.d (.int .i64 0))), (.one (.d (.int .i64 (IntKind.i64.wrap (l.f0 - 1)))))]) false (g := .func 144) (t := 20) rfl rfl (by exact lt_ok rfl) rfl (by kernel_rfl) (evs_cons (show Env.ev E (.tmp 16) = _ from g16.trans rfl) (evs_cons rfl (evs_cons (show Env.ev E (.tmp 19) = _ from g19.trans rfl) (rfl)))) (.cons (.one (.d _)) (.cons (.one (.d _)) (.cons (.one (.d _)) .nil))) (ok_impl_within (t.f1.getD i default).f0 0 (IntKind.i64.wrap (l.f0 - 1))) (.inr rfl) (At.freshRows hA_ rfl) (by simp) rfl)) ?_
        refine .cons (fun E hA_ => by have g20 := hA_.get 20 (by decide); exact OpStep.plain rfl (Step.to (E1 := E.set 21 (.one (.d (.bool (!(decide (0 ≤ (t.f1.getD i default).f0 ∧ (t.f1.getD i default).f0 ≤ (IntKind.i64.wrap (l.f0 - 1))))))))) (congrArg (fun b_ => E.set 21 (.one (.d (.bool b_)))) hb2) (Step.not (b := (decide (0 ≤ (t.f1.getD i default).f0 ∧ (t.f1.getD i default).f0 ≤ (IntKind.i64.wrap (l.f0 - 1))))) (t := 21) rfl rfl (by exact lt_ok rfl) (show Env.ev E (.tmp 20) = _ from g20.trans rfl)))) ?_
        refine .cons (fun E hA_ => by have g21 := hA_.get 21 (by decide); exact OpStep.plain rfl (Step.move (p := (.one (.d (.bool false)))) (t := 22) rfl rfl (by exact lt_ok rfl) (show Env.ev E (.tmp 21) = _ from g21.trans rfl))) ?_
        refine .cons (fun E hA_ => by have g5 := hA_.get 5 (by decide); have g22 := hA_.get 22 (by decide); exact OpStep.yes (t := 22) rfl rfl (lt_ok rfl) (g22.trans rfl) (Step.move (p := (.one (.d (.int .i64 (i : Int))))) (t := 23) rfl rfl (by exact lt_ok rfl) (show Env.ev E (.tmp 5) = _ from g5.trans rfl))) ?_
        refine .cons (fun E hA_ => by have g22 := hA_.get 22 (by decide); have g23 := hA_.get 23 (by decide); exact OpStep.yes (t := 22) rfl rfl (lt_ok rfl) (g22.trans rfl) (Step.to (E1 := E.set 24 (.one (.d (.bool (decide (0 < (i : Int))))))) (congrArg (fun b_ => E.set 24 (.one (.d (.bool b_)))) hb4) (Step.bin (t := 24) rfl rfl (by exact lt_ok rfl) (show Env.ev E (.tmp 23) = _ from g23.trans rfl) rfl (Bin.gtr (k := .i64) (a := (i : Int)) (b := 0))))) ?_
        refine .cons (fun E hA_ => by have g22 := hA_.get 22 (by decide); have g24 := hA_.get 24 (by decide); exact OpStep.yes (t := 22) rfl rfl (lt_ok rfl) (g22.trans rfl) (Step.move (p := (.one (.d (.bool true)))) (t := 25) rfl rfl (by exact lt_ok rfl) (show Env.ev E (.tmp 24) = _ from g24.trans rfl))) ?_
        refine .cons (fun E hA_ => by have g6 := hA_.get 6 (by decide); have g25 := hA_.get 25 (by decide); exact OpStep.yes (t := 25) rfl rfl (lt_ok rfl) (g25.trans rfl) (Step.fieldAddr (q := 0) (off := 0) (n := 1) (one := true) (t := 26) rfl rfl (by exact lt_ok rfl) (by kernel_rfl) (Nat.succ_ne_zero _) (show Env.ev E (.tmp 6) = _ from g6.trans rfl))) ?_
        refine .cons (fun E hA_ => by have g25 := hA_.get 25 (by decide); have g26 := hA_.get 26 (by decide); exact OpStep.yes (t := 25) rfl rfl (lt_ok rfl) (g25.trans rfl) (Step.load_box (c := .d (.int .i64 (t.f1.getD i default).f0)) (t := 27) rfl rfl (by exact lt_ok rfl) (by kernel_rfl) (show Env.ev E (.tmp 26) = _ from g26.trans rfl) (by exact hA_.box rfl) rfl)) ?_
        refine .cons (fun E hA_ => by have g3 := hA_.get 3 (by decide); have g25 := hA_.get 25 (by decide); exact OpStep.yes (t := 25) rfl rfl (lt_ok rfl) (g25.trans rfl) (Step.fieldAddr (q := 0) (off := 1) (n := 1) (one := true) (t := 28) rfl rfl (by exact lt_ok rfl) (by kernel_rfl) (Nat.succ_ne_zero _) (show Env.ev E (.tmp 3) = _ from g3.trans rfl))) ?_
        refine .cons (fun E hA_ => by have g25 := hA_.get 25 (by decide); have g28 := hA_.get 28 (by decide); exact OpStep.yes (t := 25) rfl rfl (lt_ok rfl) (g25.trans rfl) (Step.load_box (c := .d (.sl 3 (t.f1.map SEntry.cells))) (t := 29) rfl rfl (by exact lt_ok rfl) (by kernel_rfl) (show Env.ev E (.tmp 28) = _ from g28.trans rfl) (by exact hA_.box rfl) rfl)) ?_
        refine .cons (fun E hA_ => by have g5 := hA_.get 5 (by decide); have g25 := hA_.get 25 (by decide); exact OpStep.yes (t := 25) rfl rfl (lt_ok rfl) (g25.trans rfl) (Step.move (p := (.one (.d (.int .i64 (i : Int))))) (t := 30) rfl rfl (by exact lt_ok rfl) (show Env.ev E (.tmp 5) = _ from g5.trans rfl))) ?_
        refine .cons (fun E hA_ => by have g25 := hA_.get 25 (by decide); have g30 := hA_.get 30 (by decide); exact OpStep.yes (t := 25) rfl rfl (lt_ok rfl) (g25.trans rfl) (Step.bin (r := .int .i64 ((i : Int) - 1)) (t := 31) rfl rfl (by exact lt_ok rfl) (show Env.ev E (.tmp 30) = _ from g30.trans rfl) rfl (Bin.sub (a := (i : Int)) (b := 1) (by first | exact wrap_ok (by first | omega | (simp; omega)) (by first | omega | (simp; omega)) | rfl)))) ?_
        refine .cons (fun E hA_ => by have g25 := hA_.get 25 (by decide); have g29 := hA_.get 29 (by decide); have g31 := hA_.get 31 (by decide); exact OpStep.yes (t := 25) rfl rfl (lt_ok rfl) (g25.trans rfl) (Step.index (e := 121) (z := 3) (i := ((i : Int) - 1)) (t := 32) rfl rfl (by exact lt_ok rfl) (by kernel_rfl) (show Env.ev E (.tmp 29) = _ from g29.trans rfl) rfl rfl (lt_ok rfl) (show Env.ev E (.tmp 31) = _ from g31.trans rfl) (by first | omega | (simp; omega)) (by simp only [D.size]; first | omega | (simp; omega)))) ?_
        refine .cons (fun E hA_ => by have g25 := hA_.get 25 (by decide); have g32 := hA_.get 32 (by decide); exact OpStep.yes (t := 25) rfl rfl (lt_ok rfl) (g25.trans rfl) (Step.fieldAddr_e (j := 0) (off := 0) (n := 1) (one := true) (t := 33) rfl rfl (by exact lt_ok rfl) (by kernel_rfl) (Nat.succ_ne_zero _) (show Env.ev E (.tmp 32) = _ from g32.trans rfl) (lt_ok rfl))) ?_
        refine .cons (fun E hA_ => by have g25 := hA_.get 25 (by decide); have g33 := hA_.get 33 (by decide); exact OpStep.yes (t := 25) rfl rfl (lt_ok rfl) (g25.trans rfl) (Step.load (e := (.int .i64 (t.f1.getD ((i : Int) - 1).toNat default).f0)) (t := 34) rfl rfl (by exact lt_ok rfl) (by kernel_rfl) (show Env.ev E (.tmp 33) = _ from g33.trans rfl) ((cell_map default (by first | omega | (simp; omega))).trans rfl))) ?_
        refine .cons (fun E hA_ => by have g25 := hA_.get 25 (by decide); have g27 := hA_.get 27 (by decide); have g34 := hA_.get 34 (by decide); exact OpStep.yes (t := 25) rfl rfl (lt_ok rfl) (g25.trans rfl) (Step.to (E1 := E.set 35 (.one (.d (.bool (decide ((t.f1.getD i default).f0 ≤ (t.f1.getD ((i : Int) - 1).toNat default).f0)))))) (congrArg (fun b_ => E.set 35 (.one (.d (.bool b_)))) hb5) (Step.bin (t := 35) rfl rfl (by exact lt_ok rfl) (show Env.ev E (.tmp 27) = _ from g27.trans rfl) (show Env.ev E (.tmp 34) = _ from g34.trans rfl) (Bin.leq (k := .i64) (a := (t.f1.getD i default).f0) (b := (t.f1.getD ((i : Int) - 1).toNat default).f0))))) ?_
        refine .cons (fun E hA_ => by have g22 := hA_.get 22 (by decide); have g25 := hA_.get 25 (by decide); have g35 := hA_.get 35 (by decide); exact OpStep.yes (t := 22) rfl rfl (lt_ok rfl) (g22.trans rfl) (Step.pick (b := true) (p := (.one (.d (.bool false)))) (t := 36) rfl rfl (by exact lt_ok rfl) (show Env.ev E (.tmp 25) = _ from g25.trans rfl) (show Env.ev E (.tmp 35) = _ from g35.trans rfl))) ?_
        refine .cons (fun E hA_ => by have g22 := hA_.get 22 (by decide); have g36 := hA_.get 36 (by decide); exact OpStep.plain rfl (Step.pick (b := false) (p := (.one (.d (.bool false)))) (t := 37) rfl rfl (by exact lt_ok rfl) (show Env.ev E (.tmp 22) = _ from g22.trans rfl) (show Env.ev E (.tmp 36) = _ from g36.trans rfl))) ?_
        refine .cons (fun E hA_ => by have g37 := hA_.get 37 (by decide); exact OpStep.plain rfl (Step.move (p := (.one (.d (.bool false)))) (t := 38) rfl rfl (by exact lt_ok rfl) (show Env.ev E (.tmp 37) = _ from g37.trans rfl))) ?_
        refine .cons (fun E hA_ => by have g6 := hA_.get 6 (by decide); have g38 := hA_.get 38 (by decide); exact OpStep.yes (t := 38) rfl rfl (lt_ok rfl) (g38.trans rfl) (Step.fieldAddr (q := 0) (off := 1) (n := 1) (one := true) (t := 39) rfl rfl (by exact lt_ok rfl) (by kernel_rfl) (Nat.succ_ne_zero _) (show Env.ev E (.tmp 6) = _ from g6.trans rfl))) ?_
        refine .cons (fun E hA_ => by have g38 := hA_.get 38 (by decide); have g39 := hA_.get 39 (by decide); exact OpStep.yes (t := 38) rfl rfl (lt_ok rfl) (g38.trans rfl) (Step.load_box (c := .d (.int .i64 (t.f1.getD i default).f1)) (t := 40) rfl rfl (by exact lt_ok rfl) (by kernel_rfl) (show Env.ev E (.tmp 39) = _ from g39.trans rfl) (by exact hA_.box rfl) rfl)) ?_
        refine .cons (fun E hA_ => by have g3 := hA_.get 3 (by decide); have g38 := hA_.get 38 (by decide); exact OpStep.yes (t := 38) rfl rfl (lt_ok rfl) (g38.trans rfl) (Step.fieldAddr (q := 0) (off := 0) (n := 1) (one := true) (t := 41) rfl rfl (by exact lt_ok rfl) (by kernel_rfl) (Nat.succ_ne_zero _) (show Env.ev E (.tmp 3) = _ from g3.trans rfl))) ?_
        refine .cons (fun E hA_ => by have g38 := hA_.get 38 (by decide); have g41 := hA_.get 41 (by decide); exact OpStep.yes (t := 38) rfl rfl (lt_ok rfl) (g38.trans rfl) (Step.load_box (c := .d (.int .i64 t.f0)) (t := 42) rfl rfl (by exact lt_ok rfl) (by kernel_rfl) (show Env.ev E (.tmp 41) = _ from g41.trans rfl) (by exact hA_.box rfl) rfl)) ?_
        refine .cons (fun E hA_ => by have g38 := hA_.get 38 (by decide); have g42 := hA_.get 42 (by decide); exact OpStep.yes (t := 38) rfl rfl (lt_ok rfl) (g38.trans rfl) (Step.bin (r := .int .i64 (IntKind.i64.wrap (t.f0 - 1))) (t := 43) rfl rfl (by exact lt_ok rfl) (show Env.ev E (.tmp 42) = _ from g42.trans rfl) rfl (Bin.sub (a := t.f0) (b := 1) (rfl)))) ?_
        refine .cons (fun E hA_ => by have g38 := hA_.get 38 (by decide); have g40 := hA_.get 40 (by decide); have g43 := hA_.get 43 (by decide); exact OpStep.yes (t := 38) rfl rfl (lt_ok rfl) (g38.trans rfl) (Step.call (f := 144) (xs := [.tmp 40, .const (.int .i64 0), .tmp 43]) (ps := [(.one (.d (.int .i64 (t.f1.getD i default).f1))), (.one (.d (.int .i64 0))), (.one (.d (.int .i64 (IntKind.i64.wrap (t.f0 - 1)))))]) false (g := .func 144) (t := 44) rfl rfl (by exact lt_ok rfl) rfl (by kernel_rfl) (evs_cons (show Env.ev E (.tmp 40) = _ from g40.trans rfl) (evs_cons rfl (evs_cons (show Env.ev E (.tmp 43) = _ from g43.trans rfl) (rfl)))) (.cons (.one (.d _)) (.cons (.one (.d _)) (.cons (.one (.d _)) .nil))) (ok_impl_within (t.f1.getD i default).f1 0 (IntKind.i64.wrap (t.f0 - 1))) (.inr rfl) (At.freshRows hA_ rfl) (by simp) rfl)) ?_
        refine .cons (fun E hA_ => by have g38 := hA_.get 38 (by decide); have g44 := hA_.get 44 (by decide); exact OpStep.yes (t := 38) rfl rfl (lt_ok rfl) (g38.trans rfl) (Step.to (E1 := E.set 45 (.one (.d (.bool (!(decide (0 ≤ (t.f1.getD i default).f1 ∧ (t.f1.getD i default).f1 ≤ (IntKind.i64.wrap (t.f0 - 1))))))))) (congrArg (fun b_ => E.set 45 (.one (.d (.bool b_)))) hb7) (Step.not (b := (decide (0 ≤ (t.f1.getD i default).f1 ∧ (t.f1.getD i default).f1 ≤ (IntKind.i64.wrap (t.f0 - 1))))) (t := 45) rfl rfl (by exact lt_ok rfl) (show Env.ev E (.tmp 44) = _ from g44.trans rfl)))) ?_
        refine .cons (fun E hA_ => by have g38 := hA_.get 38 (by decide); have g45 := hA_.get 45 (by decide); exact OpStep.plain rfl (Step.pick (b := false) (p := (.one (.d (.bool false)))) (t := 46) rfl rfl (by exact lt_ok rfl) (show Env.ev E (.tmp 38) = _ from g38.trans rfl) (show Env.ev E (.tmp 45) = _ from g45.trans rfl))) ?_
        refine .cons (fun E hA_ => by have g46 := hA_.get 46 (by decide); exact OpStep.plain rfl (Step.move (p := (.one (.d (.bool false)))) (t := 47) rfl rfl (by exact lt_ok rfl) (show Env.ev E (.tmp 46) = _ from g46.trans rfl))) ?_
        refine .cons (fun E hA_ => by have g6 := hA_.get 6 (by decide); have g47 := hA_.get 47 (by decide); exact OpStep.yes (t := 47) rfl rfl (lt_ok rfl) (g47.trans rfl) (Step.fieldAddr (q := 0) (off := 2) (n := 1) (one := true) (t := 48) rfl rfl (by exact lt_ok rfl) (by kernel_rfl) (Nat.succ_ne_zero _) (show Env.ev E (.tmp 6) = _ from g6.trans rfl))) ?_
        refine .cons (fun E hA_ => by have g47 := hA_.get 47 (by decide); have g48 := hA_.get 48 (by decide); exact OpStep.yes (t := 47) rfl rfl (lt_ok rfl) (g47.trans rfl) (Step.load_box (c := .d (.ints .u8 (t.f1.getD i default).f2)) (t := 49) rfl rfl (by exact lt_ok rfl) (by kernel_rfl) (show Env.ev E (.tmp 48) = _ from g48.trans rfl) (by exact hA_.box rfl) rfl)) ?_
        refine .cons (fun E hA_ => by have g47 := hA_.get 47 (by decide); have g49 := hA_.get 49 (by decide); exact OpStep.yes (t := 47) rfl rfl (lt_ok rfl) (g47.trans rfl) (Step.lit_d (e := 22) (z := 1) (by_ := 24) (xs := [.tmp 49]) (pss := [[.d (.ints .u8 (t.f1.getD i default).f2)]]) (ds := [(.ints .u8 (t.f1.getD i default).f2)]) (d := (.bss [(t.f1.getD i default).f2])) (t := 50) rfl rfl (by exact lt_ok rfl) (by kernel_rfl) rfl rfl (.cons (by exact (congrArg PV.flat (show Env.ev E (.tmp 49) = _ from g49.trans rfl)).trans rfl) .nil) (by simp) (le_ok rfl) (le_ok rfl) rfl rfl trivial rfl rfl)) ?_
        refine .cons (fun E hA_ => by have g47 := hA_.get 47 (by decide); have g50 := hA_.get 50 (by decide); exact OpStep.yes (t := 47) rfl rfl (lt_ok rfl) (g47.trans rfl) (Step.call (f := 145) (xs := [.tmp 50]) (ps := [(.one (.d (.bss [(t.f1.getD i default).f2])))]) false (g := .func 145) (t := 51) rfl rfl (by exact lt_ok rfl) rfl (by kernel_rfl) (evs_cons (show Env.ev E (.tmp 50) = _ from g50.trans rfl) (rfl)) (.cons (.one (.d _)) .nil) (ok_impl_areHashes [(t.f1.getD i default).f2]) (.inr rfl) (At.freshRows hA_ rfl) (by simp) rfl)) ?_
        refine .cons (fun E hA_ => by have g47 := hA_.get 47 (by decide); have g51 := hA_.get 51 (by decide); exact OpStep.yes (t := 47) rfl rfl (lt_ok rfl) (g47.trans rfl) (Step.not (b := (hashes [(t.f1.getD i default).f2])) (t := 52) rfl rfl (by exact lt_ok rfl) (show Env.ev E (.tmp 51) = _ from g51.trans rfl))) ?_
        refine .cons (fun E hA_ => by have g47 := hA_.get 47 (by decide); have g52 := hA_.get 52 (by decide); exact OpStep.plain rfl (Step.pick (b := false) (p := (.one (.d (.bool (!(hashes [(t.f1.getD i default).f2])))))) (t := 53) rfl rfl (by exact lt_ok rfl) (show Env.ev E (.tmp 47) = _ from g47.trans rfl) (show Env.ev E (.tmp 52) = _ from g52.trans rfl))) ?_
        exact .nil _ _
       refine TL.nil ?_
       refine T.cond (b := !(hashes [(t.f1.getD i default).f2])) rfl (fun h9 => ?_) (fun h9 => ?_)
       ·
        replace h9 : (hashes [(t.f1.getD i default).f2]) = false := by simpa only [Bool.not_eq_true', Bool.not_eq_false'] using h9
        refine T.seq ?_
        refine T.region ?_
        refine TL.cons rfl (Step.assign (p := (.one (.d (.bool false)))) rfl rfl (lt_ok rfl) rfl) ?_
        refine TL.nil ?_
        refine T.ret ?_
        exact ⟨[(false, [.d (.bool false)])], (.cons rfl .nil), rfl, [], (RetC.rd' (by (congr 1; symm; first | (rw [tcOk_no (i := i) (by omega) (tcEnt_no (by (try simp only [hashes, List.all_cons, List.all_nil, Bool.and_true] at *); (try simp only [decide_eq_true_eq, decide_eq_false_iff_not, Bool.not_eq_true', Bool.not_eq_false'] at *); (try (have hw2_ := hw_ (by omega) (by omega))); omega))]; done) | (unfold tcOk; rw [show tcAll l t t.f1.length = true from by rw [show t.f1.length = i from by omega]; exact hx2, decide_eq_true (p := (t.f1.length : Int) ≤ l.f0) (by omega), decide_eq_true (p := (0 ≤ t.f0 ∧ t.f0 ≤ 1152921504606846975)) (by omega)]; simp only [*, Bool.and_true, Bool.true_and, Bool.and_false, Bool.false_and, decide_true, decide_false, and_true, true_and, and_self, and_false, false_and, Bool.and_self, not_true, not_false, Bool.not_true, Bool.not_false, ge_iff_le, gt_iff_lt, if_true, if_false, Bool.false_eq_true, ite_true, ite_false, reduceIte]; done) | (unfold tcOk; rw [show tcAll l t t.f1.length = true from by rw [show t.f1.length = i from by omega]; exact hx2, decide_eq_true (p := (0 ≤ t.f0 ∧ t.f0 ≤ 1152921504606846975)) (by omega)]; simp only [*, Bool.and_true, Bool.true_and, Bool.and_false, Bool.false_and, decide_true, decide_false, and_true, true_and, and_self, and_false, false_and, Bool.and_self, not_true, not_false, Bool.not_true, Bool.not_false, ge_iff_le, gt_iff_lt, if_true, if_false, Bool.false_eq_true, ite_true, ite_false, reduceIte]; done) | (unfold tcOk; simp only [*, Bool.and_true, Bool.true_and, Bool.and_false, Bool.false_and, decide_true, decide_false, and_true, true_and, and_self, and_false, false_and, Bool.and_self, not_true, not_false, Bool.not_true, Bool.not_false, ge_iff_le, gt_iff_lt, if_true, if_false, Bool.false_eq_true, ite_true, ite_false, reduceIte]; done) | (unfold tcOk; rw [decide_eq_false (p := (t.f1.length : Int) ≤ l.f0) (by omega)]; simp; done))) .nil)⟩
       ·
        replace h9 : (hashes [(t.f1.getD i default).f2]) = true := by simpa only [Bool.not_eq_true', Bool.not_eq_false'] using h9
        refine T.skip ?_
        refine T.region ?_
        refine TL.cons rfl (Step.bin (r := .int .i64 ((i : Int) + 1)) rfl rfl (lt_ok rfl) rfl rfl (Bin.add (a := (i : Int)) (b := 1) (by first | exact wrap_ok (by first | omega | (simp; omega)) (by first | omega | (simp; omega)) | rfl))) ?_
        refine TL.cons rfl (Step.move (p := (.one (.d (.int .i64 ((i : Int) + 1))))) rfl rfl (lt_ok rfl) rfl) ?_
        refine TL.nil ?_
        exact ⟨i + 1, by (refine ⟨by omega, ?_⟩; rw [tcAll_succ, hx2, tcEnt_yes (by (try simp only [hashes, List.all_cons, List.all_nil, Bool.and_true] at *); (try simp only [decide_eq_true_eq, decide_eq_false_iff_not, Bool.not_eq_true', Bool.not_eq_false'] at *); (try (have hw2_ := hw_ (by omega) (by omega))); omega)]; rfl), by first | omega | (dsimp only; omega), Env.le_mk ⟨rfl, rfl, rfl, rfl, by first | rfl | (simp; done) | (congr 3; omega), trivial⟩ trivial ⟨rfl, rfl, trivial⟩⟩
    ·
     have hb4' := hb4
     replace hb4' := of_decide_eq_false hb4'
     rcases Bool.eq_false_or_eq_true (!(decide (0 ≤ (t.f1.getD i default).f1 ∧ (t.f1.getD i default).f1 ≤ (IntKind.i64.wrap (t.f0 - 1))))) with hb10 | hb10
     ·
      have hb10' := hb10
      replace hb10' : (decide (0 ≤ (t.f1.getD i default).f1 ∧ (t.f1.getD i default).f1 ≤ (IntKind.i64.wrap (t.f0 - 1)))) = false := by simpa only [Bool.not_eq_true', Bool.not_eq_false'] using hb10'
      replace hb10' := of_decide_eq_false hb10'
      refine T.draw [⟨15, (.one (.ptr 6 0)), []⟩, ⟨16, (.one (.d (.int .i64 (t.f1.getD i default).f0))), []⟩, ⟨17, (.one (.ptr 2 0)), []⟩, ⟨18, (.one (.d (.int .i64 l.f0))), []⟩, ⟨19, (.one (.d (.int .i64 (IntKind.i64.wrap (l.f0 - 1))))), []⟩, ⟨20, (.one (.d (.bool (decide (0 ≤ (t.f1.getD i default).f0 ∧ (t.f1.getD i default).f0 ≤ (IntKind.i64.wrap (l.f0 - 1))))))), []⟩, ⟨21, (.one (.d (.bool false))), []⟩, ⟨22, (.one (.d (.bool false))), []⟩, ⟨23, (.one (.d (.int .i64 (i : Int)))), []⟩, ⟨24, (.one (.d (.bool false))), []⟩, ⟨25, (.one (.d (.bool false))), []⟩, ⟨26, (.tup []), []⟩, ⟨27, (.tup []), []⟩, ⟨28, (.tup []), []⟩, ⟨29, (.tup []), []⟩, ⟨30, (.tup []), []⟩, ⟨31, (.tup []), []⟩, ⟨32, (.tup []), []⟩, ⟨33, (.tup []), []⟩, ⟨34, (.tup []), []⟩, ⟨35, (.tup []), []⟩, ⟨36, (.one (.d (.bool false))), []⟩, ⟨37, (.one (.d (.bool false))), []⟩, ⟨38, (.one (.d (.bool false))), []⟩, ⟨39, (.one (.ptr 6 1)), []⟩, ⟨40, (.one (.d (.int .i64 (t.f1.getD i default).f1))), []⟩, ⟨41, (.one (.ptr 3 0)), []⟩, ⟨42, (.one (.d (.int .i64 t.f0))), []⟩, ⟨43, (.one (.d (.int .i64 (IntKind.i64.wrap (t.f0 - 1))))), []⟩, ⟨44, (.one (.d (.bool (decide (0 ≤ (t.f1.getD i default).f1 ∧ (t.f1.getD i default).f1 ≤ (IntKind.i64.wrap (t.f0 - 1))))))), []⟩, ⟨45, (.one (.d (.bool true))), []⟩, ⟨46, (.one (.d (.bool true))), []⟩, ⟨47, (.one (.d (.bool true))), []⟩, ⟨48, (.tup []), []⟩, ⟨49, (.tup []), []⟩, ⟨50, (.tup []), []⟩, ⟨51, (.tup []), []⟩, ⟨52, (.tup []), []⟩, ⟨53, (.one (.d (.bool true))), []⟩] (by kernel_rfl) (by kernel_rfl) ?_ ?_
      ·
       refine .cons (fun E hA_ => by have g6 := hA_.get 6 (by decide); exact OpStep.plain rfl (Step.fieldAddr (q := 0) (off := 0) (n := 1) (one := true) (t := 15) rfl rfl (by exact lt_ok rfl) (by kernel_rfl) (Nat.succ_ne_zero _) (show Env.ev E (.tmp 6) = _ from g6.trans rfl))) ?_
       refine .cons (fun E hA_ => by have g15 := hA_.get 15 (by decide); exact OpStep.plain rfl (Step.load_box (c := .d (.int .i64 (t.f1.getD i default).f0)) (t := 16) rfl rfl (by exact lt_ok rfl) (by kernel_rfl) (show Env.ev E (.tmp 15) = _ from g15.trans rfl) (by exact hA_.box rfl) rfl)) ?_
       refine .cons (fun E hA_ => by have g2 := hA_.get 2 (by decide); exact OpStep.plain rfl (Step.fieldAddr (q := 0) (off := 0) (n := 1) (one := true) (t := 17) rfl rfl (by exact lt_ok rfl) (by kernel_rfl) (Nat.succ_ne_zero _) (show Env.ev E (.tmp 2) = _ from g2.trans rfl))) ?_
       refine .cons (fun E hA_ => by have g17 := hA_.get 17 (by decide); exact OpStep.plain rfl (Step.load_box (c := .d (.int .i64 l.f0)) (t := 18) rfl rfl (by exact lt_ok rfl) (by kernel_rfl) (show Env.ev E (.tmp 17) = _ from g17.trans rfl) (by exact hA_.box rfl) rfl)) ?_
       refine .cons (fun E hA_ => by have g18 := hA_.get 18 (by decide); exact OpStep.plain rfl (Step.bin (r := .int .i64 (IntKind.i64.wrap (l.f0 - 1))) (t := 19) rfl rfl (by exact lt_ok rfl) (show Env.ev E (.tmp 18) = _ from g18.trans rfl) rfl (Bin.sub (a := l.f0) (b := 1) (rfl)))) ?_
       refine .cons (fun E hA_ => by have g16 := hA_.get 16 (by decide); have g19 := hA_.get 19 (by decide); exact OpStep.plain rfl (Step.call (f := 144) (xs := [.tmp 16, .const (.int .i64 0), .tmp 19]) (ps := [(.one (.d (.int .i64 (t.f1.getD i default).f0))), (.one (.d (.int .i64 0))), (.one (.d (.int .i64 (IntKind.i64.wrap (l.f0 - 1)))))]) false (g := .func 144) (t := 20) rfl rfl (by exact lt_ok rfl) rfl (by kernel_rfl) (evs_cons (show Env.ev E (.tmp 16) = _ from g16.trans rfl) (evs_cons rfl (evs_cons (show Env.ev E (.tmp 19) = _ from g19.trans rfl) (rfl)))) (.cons (.one (.d _)) (.cons (.one (.d _)) (.cons (.one (.d _)) .nil))) (ok_impl_within (t.f1.getD i default).f0 0 (IntKind.i64.wrap (l.f0 - 1))) (.inr rfl) (At.freshRows hA_ rfl) (by simp) rfl)) ?_
       refine .cons (fun E hA_ => by have g20 := hA_.get 20 (by decide); exact OpStep.plain rfl (Step.to (E1 := E.set 21 (.one (.d (.bool (!(decide (0 ≤ (t.f1.getD i default).f0 ∧ (t.f1.getD i default).f0 ≤ (IntKind.i64.wrap (l.f0 - 1))))))))) (congrArg (fun b_ => E.set 21 (.one (.d (.bool b_)))) hb2) (Step.not (b := (decide (0 ≤ (t.f1.getD i default).f0 ∧ (t.f1.getD i default).f0 ≤ (IntKind.i64.wrap (l.f0 - 1))))) (t := 21) rfl rfl (by exact lt_ok rfl) (show Env.ev E (.tmp 20) = _ from g20.trans rfl)))) ?_
       refine .cons (fun E hA_ => by have g21 := hA_.get 21 (by decide); exact OpStep.plain rfl (Step.move (p := (.one (.d (.bool false)))) (t := 22) rfl rfl (by exact lt_ok rfl) (show Env.ev E (.tmp 21) = _ from g21.trans rfl))) ?_
       refine .cons (fun E hA_ => by have g5 := hA_.get 5 (by decide); have g22 := hA_.get 22 (by decide); exact OpStep.yes (t := 22) rfl rfl (lt_ok rfl) (g22.trans rfl) (Step.move (p := (.one (.d (.int .i64 (i : Int))))) (t := 23) rfl rfl (by exact lt_ok rfl) (show Env.ev E (.tmp 5) = _ from g5.trans rfl))) ?_
       refine .cons (fun E hA_ => by have g22 := hA_.get 22 (by decide); have g23 := hA_.get 23 (by decide); exact OpStep.yes (t := 22) rfl rfl (lt_ok rfl) (g22.trans rfl) (Step.to (E1 := E.set 24 (.one (.d (.bool (decide (0 < (i : Int))))))) (congrArg (fun b_ => E.set 24 (.one (.d (.bool b_)))) hb4) (Step.bin (t := 24) rfl rfl (by exact lt_ok rfl) (show Env.ev E (.tmp 23) = _ from g23.trans rfl) rfl (Bin.gtr (k := .i64) (a := (i : Int)) (b := 0))))) ?_
       refine .cons (fun E hA_ => by have g22 := hA_.get 22 (by decide); have g24 := hA_.get 24 (by decide); exact OpStep.yes (t := 22) rfl rfl (lt_ok rfl) (g22.trans rfl) (Step.move (p := (.one (.d (.bool false)))) (t := 25) rfl rfl (by exact lt_ok rfl) (show Env.ev E (.tmp 24) = _ from g24.trans rfl))) ?_
       refine .cons (fun E hA_ => OpStep.off (t := 25) rfl rfl (lt_ok rfl) ((hA_.get 25 (by decide)).trans rfl) (by decide) rfl (lt_ok rfl)) ?_
       refine .cons (fun E hA_ => OpStep.off (t := 25) rfl rfl (lt_ok rfl) ((hA_.get 25 (by decide)).trans rfl) (by decide) rfl (lt_ok rfl)) ?_
       refine .cons (fun E hA_ => OpStep.off (t := 25) rfl rfl (lt_ok rfl) ((hA_.get 25 (by decide)).trans rfl) (by decide) rfl (lt_ok rfl)) ?_
       refine .cons (fun E hA_ => OpStep.off (t := 25) rfl rfl (lt_ok rfl) ((hA_.get 25 (by decide)).trans rfl) (by decide) rfl (lt_ok rfl)) ?_
       refine .cons (fun E hA_ => OpStep.off (t := 25) rfl rfl (lt_ok rfl) ((hA_.get 25 (by decide)).trans rfl) (by decide) rfl (lt_ok rfl)) ?_
       refine .cons (fun E hA_ => OpStep.off (t := 25) rfl rfl (lt_ok rfl) ((hA_.get 25 (by decide)).trans rfl) (by decide) rfl (lt_ok rfl)) ?_
       refine .cons (fun E hA_ => OpStep.off (t := 25) rfl rfl (lt_ok rfl) ((hA_.get 25 (by decide)).trans rfl) (by decide) rfl (lt_ok rfl)) ?_
       refine .cons (fun E hA_ => OpStep.off (t := 25) rfl rfl (lt_ok rfl) ((hA_.get 25 (by decide)).trans rfl) (by decide) rfl (lt_ok rfl)) ?_
       refine .cons (fun E hA_ => OpStep.off (t := 25) rfl rfl (lt_ok rfl) ((hA_.get 25 (by decide)).trans rfl) (by decide) rfl (lt_ok rfl)) ?_
       refine .cons (fun E hA_ => OpStep.off (t := 25) rfl rfl (lt_ok rfl) ((hA_.get 25 (by decide)).trans rfl) (by decide) rfl (lt_ok rfl)) ?_
       refine .cons (fun E hA_ => by have g22 := hA_.get 22 (by decide); have g25 := hA_.get 25 (by decide); have g35 := hA_.get 35 (by decide); exact OpStep.yes (t := 22) rfl rfl (lt_ok rfl) (g22.trans rfl) (Step.pick (b := false) (p := (.one (.d (.bool false)))) (t := 36) rfl rfl (by exact lt_ok rfl) (show Env.ev E (.tmp 25) = _ from g25.trans rfl) rfl)) ?_
       refine .cons (fun E hA_ => by have g22 := hA_.get 22 (by decide); have g36 := hA_.get 36 (by decide); exact OpStep.plain rfl (Step.pick (b := false) (p := (.one (.d (.bool false)))) (t := 37) rfl rfl (by exact lt_ok rfl) (show Env.ev E (.tmp 22) = _ from g22.trans rfl) (show Env.ev E (.tmp 36) = _ from g36.trans rfl))) ?_
       refine .cons (fun E hA_ => by have g37 := hA_.get 37 (by decide); exact OpStep.plain rfl (Step.move (p := (.one (.d (.bool false)))) (t := 38) rfl rfl (by exact lt_ok rfl) (show Env.ev E (.tmp 37) = _ from g37.trans rfl))) ?_
       refine .cons (fun E hA_ => by have g6 := hA_.get 6 (by decide); have g38 := hA_.get 38 (by decide); exact OpStep.yes (t := 38) rfl rfl (lt_ok rfl) (g38.trans rfl) (Step.fieldAddr (q := 0) (off := 1) (n := 1) (one := true) (t := 39) rfl rfl (by exact lt_ok rfl) (by kernel_rfl) (Nat.succ_ne_zero _) (show Env.ev E (.tmp 6) = _ from g6.trans rfl))) ?_
       refine .cons (fun E hA_ => by have g38 := hA_.get 38 (by decide); have g39 := hA_.get 39 (by decide); exact OpStep.yes (t := 38) rfl rfl (lt_ok rfl) (g38.trans rfl) (Step.load_box (c := .d (.int .i64 (t.f1.getD i default).f1)) (t := 40) rfl rfl (by exact lt_ok rfl) (by kernel_rfl) (show Env.ev E (.tmp 39) = _ from g39.trans rfl) (by exact hA_.box rfl) rfl)) ?_
       refine .cons (fun E hA_ => by have g3 := hA_.get 3 (by decide); have g38 := hA_.get 38 (by decide); exact OpStep.yes (t := 38) rfl rfl (lt_ok rfl) (g38.trans rfl) (Step.fieldAddr (q := 0) (off := 0) (n := 1) (one := true) (t := 41) rfl rfl (by exact lt_ok rfl) (by kernel_rfl) (Nat.succ_ne_zero _) (show Env.ev E (.tmp 3) = _ from g3.trans rfl))) ?_
       refine .cons (fun E hA_ => by have g38 := hA_.get 38 (by decide); have g41 := hA_.get 41 (by decide); exact OpStep.yes (t := 38) rfl rfl (lt_ok rfl) (g38.trans rfl) (Step.load_box (c := .d (.int .i64 t.f0)) (t := 42) rfl rfl (by exact lt_ok rfl) (by kernel_rfl) (show Env.ev E (.tmp 41) = _ from g41.trans rfl) (by exact hA_.box rfl) rfl)) ?_
       refine .cons (fun E hA_ => by have g38 := hA_.get 38 (by decide); have g42 := hA_.get 42 (by decide); exact OpStep.yes (t := 38) rfl rfl (lt_ok rfl) (g38.trans rfl) (Step.bin (r := .int .i64 (IntKind.i64.wrap (t.f0 - 1))) (t := 43) rfl rfl (by exact lt_ok rfl) (show Env.ev E (.tmp 42) = _ from g42.trans rfl) rfl (Bin.sub (a := t.f0) (b := 1) (rfl)))) ?_
       refine .cons (fun E hA_ => by have g38 := hA_.get 38 (by decide); have g40 := hA_.get 40 (by decide); have g43 := hA_.get 43 (by decide); exact OpStep.yes (t := 38) rfl rfl (lt_ok rfl) (g38.trans rfl) (Step.call (f := 144) (xs := [.tmp 40, .const (.int .i64 0), .tmp 43]) (ps := [(.one (.d (.int .i64 (t.f1.getD i default).f1))), (.one (.d (.int .i64 0))), (.one (.d (.int .i64 (IntKind.i64.wrap (t.f0 - 1)))))]) false (g := .func 144) (t := 44) rfl rfl (by exact lt_ok rfl) rfl (by kernel_rfl) (evs_cons (show Env.ev E (.tmp 40) = _ from g40.trans rfl) (evs_cons rfl (evs_cons (show Env.ev E (.tmp 43) = _ from g43.trans rfl) (rfl)))) (.cons (.one (.d _)) (.cons (.one (.d _)) (.cons (.one (.d _)) .nil))) (ok_impl_within (t.f1.getD i default).f1 0 (IntKind.i64.wrap (t.f0 - 1))) (.inr rfl) (At.freshRows hA_ rfl) (by simp) rfl)) ?_
       refine .cons (fun E hA_ => by have g38 := hA_.get 38 (by decide); have g44 := hA_.get 44 (by decide); exact OpStep.yes (t := 38) rfl rfl (lt_ok rfl) (g38.trans rfl) (Step.to (E1 := E.set 45 (.one (.d (.bool (!(decide (0 ≤ (t.f1.getD i default).f1 ∧ (t.f1.getD i default).f1 ≤ (IntKind.i64.wrap (t.f0 - 1))))))))) (congrArg (fun b_ => E.set 45 (.one (.d (.bool b_)))) hb10) (Step.not (b := (decide (0 ≤ (t.f1.getD i default).f1 ∧ (t.f1.getD i default).f1 ≤ (IntKind.i64.wrap (t.f0 - 1))))) (t := 45) rfl rfl (by exact lt_ok rfl) (show Env.ev E (.tmp 44) = _ from g44.trans rfl)))) ?_
       refine .cons (fun E hA_ => by have g38 := hA_.get 38 (by decide); have g45 := hA_.get 45 (by decide); exact OpStep.plain rfl (Step.pick (b := false) (p := (.one (.d (.bool true)))) (t := 46) rfl rfl (by exact lt_ok rfl) (show Env.ev E (.tmp 38) = _ from g38.trans rfl) (show Env.ev E (.tmp 45) = _ from g45.trans rfl))) ?_
       refine .cons (fun E hA_ => by have g46 := hA_.get 46 (by decide); exact OpStep.plain rfl (Step.move (p := (.one (.d (.bool true)))) (t := 47) rfl rfl (by exact lt_ok rfl) (show Env.ev E (.tmp 46) = _ from g46.trans rfl))) ?_
       refine .cons (fun E hA_ => OpStep.off (t := 47) rfl rfl (lt_ok rfl) ((hA_.get 47 (by decide)).trans rfl) (by decide) rfl (lt_ok rfl)) ?_
       refine .cons (fun E hA_ => OpStep.off (t := 47) rfl rfl (lt_ok rfl) ((hA_.get 47 (by decide)).trans rfl) (by decide) rfl (lt_ok rfl)) ?_
       refine .cons (fun E hA_ => OpStep.off (t := 47) rfl rfl (lt_ok rfl) ((hA_.get 47 (by decide)).trans rfl) (by decide) rfl (lt_ok rfl)) ?_
       refine .cons (fun E hA_ => OpStep.off (t := 47) rfl rfl (lt_ok rfl) ((hA_.get 47 (by decide)).trans rfl) (by decide) rfl (lt_ok rfl)) ?_
       refine .cons (fun E hA_ => OpStep.off (t := 47) rfl rfl (lt_ok rfl) ((hA_.get 47 (by decide)).trans rfl) (by decide) rfl (lt_ok rfl)) ?_
       refine .cons (fun E hA_ => by have g47 := hA_.get 47 (by decide); have g52 := hA_.get 52 (by decide); exact OpStep.plain rfl (Step.pick (b := true) (p := (.one (.d (.bool true)))) (t := 53) rfl rfl (by exact lt_ok rfl) (show Env.ev E (.tmp 47) = _ from g47.trans rfl) rfl)) ?_
       exact .nil _ _
      refine TL.nil ?_
      refine T.cond (b := true) rfl (fun h11_ => ?_) (fun h11_ => absurd h11_ (by simp))
      refine T.seq ?_
      refine T.region ?_
      refine TL.cons rfl (Step.assign (p := (.one (.d (.bool false)))) rfl rfl (lt_ok rfl) rfl) ?_
      refine TL.nil ?_
      refine T.ret ?_
      exact ⟨[(false, [.d (.bool false)])], (.cons rfl .nil), rfl, [], (RetC.rd' (by (congr 1; symm; first | (rw [tcOk_no (i := i) (by omega) (tcEnt_no (by (try simp only [hashes, List.all_cons, List.all_nil, Bool.and_true] at *); (try simp only [decide_eq_true_eq, decide_eq_false_iff_not, Bool.not_eq_true', Bool.not_eq_false'] at *); (try (have hw2_ := hw_ (by omega) (by omega))); omega))]; done) | (unfold tcOk; rw [show tcAll l t t.f1.length = true from by rw [show t.f1.length = i from by omega]; exact hx2, decide_eq_true (p := (t.f1.length : Int) ≤ l.f0) (by omega), decide_eq_true (p := (0 ≤ t.f0 ∧ t.f0 ≤ 1152921504606846975)) (by omega)]; simp only [*, Bool.and_true, Bool.true_and, Bool.and_false, Bool.false_and, decide_true, decide_false, and_true, true_and, and_self, and_false, false_and, Bool.and_self, not_true, not_false, Bool.not_true, Bool.not_false, ge_iff_le, gt_iff_lt, if_true, if_false, Bool.false_eq_true, ite_true, ite_false, reduceIte]; done) | (unfold tcOk; rw [show tcAll l t t.f1.length = true from by rw [show t.f1.length = i from by omega]; exact hx2, decide_eq_true (p := (0 ≤ t.f0 ∧ t.f0 ≤ 1152921504606846975)) (by omega)]; simp only [*, Bool.and_true, Bool.true_and, Bool.and_false, Bool.false_and, decide_true, decide_false, and_true, true_and, and_self, and_false, false_and, Bool.and_self, not_true, not_false, Bool.not_true, Bool.not_false, ge_iff_le, gt_iff_lt, if_true, if_false, Bool.false_eq_true, ite_true, ite_false, reduceIte]; done) | (unfold tcOk; simp only [*, Bool.and_true, Bool.true_and, Bool.and_false, Bool.false_and, decide_true, decide_false, and_true, true_and, and_self, and_false, false_and, Bool.and_self, not_true, not_false, Bool.not_true, Bool.not_false, ge_iff_le, gt_iff_lt, if_true, if_false, Bool.false_eq_true, ite_true, ite_false, reduceIte]; done) | (unfold tcOk; rw [decide_eq_false (p := (t.f1.length : Int) ≤ l.f0) (by omega)]; simp; done))) .nil)⟩
     ·
      have hb10' := hb10
      replace hb10' : (decide (0 ≤ (t.f1.getD i default).f1 ∧ (t.f1.getD i default).f1 ≤ (IntKind.i64.wrap (t.f0 - 1)))) = true := by simpa only [Bool.not_eq_true', Bool.not_eq_false'] using hb10'
      replace hb10' := of_decide_eq_true hb10'
      refine T.draw [⟨15, (.one (.ptr 6 0)), []⟩, ⟨16, (.one (.d (.int .i64 (t.f1.getD i default).f0))), []⟩, ⟨17, (.one (.ptr 2 0)), []⟩, ⟨18, (.one (.d (.int .i64 l.f0))), []⟩, ⟨19, (.one (.d (.int .i64 (IntKind.i64.wrap (l.f0 - 1))))), []⟩, ⟨20, (.one (.d (.bool (decide (0 ≤ (t.f1.getD i default).f0 ∧ (t.f1.getD i default).f0 ≤ (IntKind.i64.wrap (l.f0 - 1))))))), []⟩, ⟨21, (.one (.d (.bool false))), []⟩, ⟨22, (.one (.d (.bool false))), []⟩, ⟨23, (.one (.d (.int .i64 (i : Int)))), []⟩, ⟨24, (.one (.d (.bool false))), []⟩, ⟨25, (.one (.d (.bool false))), []⟩, ⟨26, (.tup []), []⟩, ⟨27, (.tup []), []⟩, ⟨28, (.tup []), []⟩, ⟨29, (.tup []), []⟩, ⟨30, (.tup []), []⟩, ⟨31, (.tup []), []⟩, ⟨32, (.tup []), []⟩, ⟨33, (.tup []), []⟩, ⟨34, (.tup []), []⟩, ⟨35, (.tup []), []⟩, ⟨36, (.one (.d (.bool false))), []⟩, ⟨37, (.one (.d (.bool false))), []⟩, ⟨38, (.one (.d (.bool false))), []⟩, ⟨39, (.one (.ptr 6 1)), []⟩, ⟨40, (.one (.d (.int .i64 (t.f1.getD i default).f1))), []⟩, ⟨41, (.one (.ptr 3 0)), []⟩, ⟨42, (.one (.d (.int .i64 t.f0))), []⟩, ⟨43, (.one (.d (.int .i64 (IntKind.i64.wrap (t.f0 - 1))))), []⟩, ⟨44, (.one (.d (.bool (decide (0 ≤ (t.f1.getD i default).f1 ∧ (t.f1.getD i default).f1 ≤ (IntKind.i64.wrap (t.f0 - 1))))))), []⟩, ⟨45, (.one (.d (.bool false))), []⟩, ⟨46, (.one (.d (.bool false))), []⟩, ⟨47, (.one (.d (.bool false))), []⟩, ⟨48, (.one (.ptr 6 2)), []⟩, ⟨49, (.one (.d (.ints .u8 (t.f1.getD i default).f2))), []⟩, ⟨50, (.one (.d (.bss [(t.f1.getD i default).f2]))), []⟩, ⟨51, (.one (.d (.bool (hashes [(t.f1.getD i default).f2])))), []⟩, ⟨52, (.one (.d (.bool (!(hashes [(t.f1.getD i default).f2]))))), []⟩, ⟨53, (.one (.d (.bool (!(hashes [(t.f1.getD i default).f2]))))), []⟩] (by kernel_rfl) (by kernel_rfl) ?_ ?_
      ·
       refine .cons (fun E hA_ => by have g6 := hA_.get 6 (by decide); exact OpStep.plain rfl (Step.fieldAddr (q := 0) (off := 0) (n := 1) (one := true) (t := 15) rfl rfl (by exact lt_ok rfl) (by kernel_rfl) (Nat.succ_ne_zero _) (show Env.ev E (.tmp 6) = _ from g6.trans rfl))) ?_
       refine .cons (fun E hA_ => by have g15 := hA_.get 15 (by decide); exact OpStep.plain rfl (Step.load_box (c := .d (.int .i64 (t.f1.getD i default).f0)) (t := 16) rfl rfl (by exact lt_ok rfl) (by kernel_rfl) (show Env.ev E (.tmp 15) = _ from g15.trans rfl) (by exact hA_.box rfl) rfl)) ?_
       refine .cons (fun E hA_ => by have g2 := hA_.get 2 (by decide); exact OpStep.plain rfl (Step.fieldAddr (q := 0) (off := 0) (n := 1) (one := true) (t := 17) rfl rfl (by exact lt_ok rfl) (by kernel_rfl) (Nat.succ_ne_zero _) (show Env.ev E (.tmp 2) = _ from g2.trans rfl))) ?_
       refine .cons (fun E hA_ => by have g17 := hA_.get 17 (by decide); exact OpStep.plain rfl (Step.load_box (c := .d (.int .i64 l.f0)) (t := 18) rfl rfl (by exact lt_ok rfl) (by kernel_rfl) (show Env.ev E (.tmp 17) = _ from g17.trans rfl) (by exact hA_.box rfl) rfl)) ?_
       refine .cons (fun E hA_ => by have g18 := hA_.get 18 (by decide); exact OpStep.plain rfl (Step.bin (r := .int .i64 (IntKind.i64.wrap (l.f0 - 1))) (t := 19) rfl rfl (by exact lt_ok rfl) (show Env.ev E (.tmp 18) = _ from g18.trans rfl) rfl (Bin.sub (a := l.f0) (b := 1) (rfl)))) ?_
       refine .cons (fun E hA_ => by have g16 := hA_.get 16 (by decide); have g19 := hA_.get 19 (by decide); exact OpStep.plain rfl (Step.call (f := 144) (xs := [.tmp 16, .const (.int .i64 0), .tmp 19]) (ps := [(.one (.d (.int .i64 (t.f1.getD i default).f0))), (.one (.d (.int .i64 0))), (.one (.d (.int .i64 (IntKind.i64.wrap (l.f0 - 1)))))]) false (g := .func 144) (t := 20) rfl rfl (by exact lt_ok rfl) rfl (by kernel_rfl) (evs_cons (show Env.ev E (.tmp 16) = _ from g16.trans rfl) (evs_cons rfl (evs_cons (show Env.ev E (.tmp 19) = _ from g19.trans rfl) (rfl)))) (.cons (.one (.d _)) (.cons (.one (.d _)) (.cons (.one (.d _)) .nil))) (ok_impl_within (t.f1.getD i default).f0 0 (IntKind.i64.wrap (l.f0 - 1))) (.inr rfl) (At.freshRows hA_ rfl) (by simp) rfl)) ?_
       refine .cons (fun E hA_ => by have g20 := hA_.get 20 (by decide); exact OpStep.plain rfl (Step.to (E1 := E.set 21 (.one (.d (.bool (!(decide (0 ≤ (t.f1.getD i default).f0 ∧ (t.f1.getD i default).f0 ≤ (IntKind.i64.wrap (l.f0 - 1))))))))) (congrArg (fun b_ => E.set 21 (.one (.d (.bool b_)))) hb2) (Step.not (b := (decide (0 ≤ (t.f1.getD i default).f0 ∧ (t.f1.getD i default).f0 ≤ (IntKind.i64.wrap (l.f0 - 1))))) (t := 21) rfl rfl (by exact lt_ok rfl) (show Env.ev E (.tmp 20) = _ from g20.trans rfl)))) ?_
       refine .cons (fun E hA_ => by have g21 := hA_.get 21 (by decide); exact OpStep.plain rfl (Step.move (p := (.one (.d (.bool false)))) (t := 22) rfl rfl (by exact lt_ok rfl) (show Env.ev E (.tmp 21) = _ from g21.trans rfl))) ?_
       refine .cons (fun E hA_ => by have g5 := hA_.get 5 (by decide); have g22 := hA_.get 22 (by decide); exact OpStep.yes (t := 22) rfl rfl (lt_ok rfl) (g22.trans rfl) (Step.move (p := (.one (.d (.int .i64 (i : Int))))) (t := 23) rfl rfl (by exact lt_ok rfl) (show Env.ev E (.tmp 5) = _ from g5.trans rfl))) ?_
       refine .cons (fun E hA_ => by have g22 := hA_.get 22 (by decide); have g23 := hA_.get 23 (by decide); exact OpStep.yes (t := 22) rfl rfl (lt_ok rfl) (g22.trans rfl) (Step.to (E1 := E.set 24 (.one (.d (.bool (decide (0 < (i : Int))))))) (congrArg (fun b_ => E.set 24 (.one (.d (.bool b_)))) hb4) (Step.bin (t := 24) rfl rfl (by exact lt_ok rfl) (show Env.ev E (.tmp 23) = _ from g23.trans rfl) rfl (Bin.gtr (k := .i64) (a := (i : Int)) (b := 0))))) ?_
       refine .cons (fun E hA_ => by have g22 := hA_.get 22 (by decide); have g24 := hA_.get 24 (by decide); exact OpStep.yes (t := 22) rfl rfl (lt_ok rfl) (g22.trans rfl) (Step.move (p := (.one (.d (.bool false)))) (t := 25) rfl rfl (by exact lt_ok rfl) (show Env.ev E (.tmp 24) = _ from g24.trans rfl))) ?_
       refine .cons (fun E hA_ => OpStep.off (t := 25) rfl rfl (lt_ok rfl) ((hA_.get 25 (by decide)).trans rfl) (by decide) rfl (lt_ok rfl)) ?_
       refine .cons (fun E hA_ => OpStep.off (t := 25) rfl rfl (lt_ok rfl) ((hA_.get 25 (by decide)).trans rfl) (by decide) rfl (lt_ok rfl)) ?_
       refine .cons (fun E hA_ => OpStep.off (t := 25) rfl rfl (lt_ok rfl) ((hA_.get 25 (by decide)).trans rfl) (by decide) rfl (lt_ok rfl)) ?_
       refine .cons (fun E hA_ => OpStep.off (t := 25) rfl rfl (lt_ok rfl) ((hA_.get 25 (by decide)).trans rfl) (by decide) rfl (lt_ok rfl)) ?_
       refine .cons (fun E hA_ => OpStep.off (t := 25) rfl rfl (lt_ok rfl) ((hA_.get 25 (by decide)).trans rfl) (by decide) rfl (lt_ok rfl)) ?_
       refine .cons (fun E hA_ => OpStep.off (t := 25) rfl rfl (lt_ok rfl) ((hA_.get 25 (by decide)).trans rfl) (by decide) rfl (lt_ok rfl)) ?_
       refine .cons (fun E hA_ => OpStep.off (t := 25) rfl rfl (lt_ok rfl) ((hA_.get 25 (by decide)).trans rfl) (by decide) rfl (lt_ok rfl)) ?_
       refine .cons (fun E hA_ => OpStep.off (t := 25) rfl rfl (lt_ok rfl) ((hA_.get 25 (by decide)).trans rfl) (by decide) rfl (lt_ok rfl)) ?_
       refine .cons (fun E hA_ => OpStep.off (t := 25) rfl rfl (lt_ok rfl) ((hA_.get 25 (by decide)).trans rfl) (by decide) rfl (lt_ok rfl)) ?_
       refine .cons (fun E hA_ => OpStep.off (t := 25) rfl rfl (lt_ok rfl) ((hA_.get 25 (by decide)).trans rfl) (by decide) rfl (lt_ok rfl)) ?_
       refine .cons (fun E hA_ => by have g22 := hA_.get 22 (by decide); have g25 := hA_.get 25 (by decide); have g35 := hA_.get 35 (by decide); exact OpStep.yes (t := 22) rfl rfl (lt_ok rfl) (g22.trans rfl) (Step.pick (b := false) (p := (.one (.d (.bool false)))) (t := 36) rfl rfl (by exact lt_ok rfl) (show Env.ev E (.tmp 25) = _ from g25.trans rfl) rfl)) ?_
       refine .cons (fun E hA_ => by have g22 := hA_.get 22 (by decide); have g36 := hA_.get 36 (by decide); exact OpStep.plain rfl (Step.pick (b := false) (p := (.one (.d (.bool false)))) (t := 37) rfl rfl (by exact lt_ok rfl) (show Env.ev E (.tmp 22) = _ from g22.trans rfl) (show Env.ev E (.tmp 36) = _ from g36.trans rfl))) ?_
       refine .cons (fun E hA_ => by have g37 := hA_.get 37 (by decide); exact OpStep.plain rfl (Step.move (p := (.one (.d (.bool false)))) (t := 38) rfl rfl (by exact lt_ok rfl) (show Env.ev E (.tmp 37) = _ from g37.trans rfl))) ?_
       refine .cons (fun E hA_ => by have g6 := hA_.get 6 (by decide); have g38 := hA_.get 38 (by decide); exact OpStep.yes (t := 38) rfl rfl (lt_ok rfl) (g38.trans rfl) (Step.fieldAddr (q := 0) (off := 1) (n := 1) (one := true) (t := 39) rfl rfl (by exact lt_ok rfl) (by kernel_rfl) (Nat.succ_ne_zero _) (show Env.ev E (.tmp 6) = _ from g6.trans rfl))) ?_
       refine .cons (fun E hA_ => by have g38 := hA_.get 38 (by decide); have g39 := hA_.get 39 (by decide); exact OpStep.yes (t := 38) rfl rfl (lt_ok rfl) (g38.trans rfl) (Step.load_box (c := .d (.int .i64 (t.f1.getD i default).f1)) (t := 40) rfl rfl (by exact lt_ok rfl) (by kernel_rfl) (show Env.ev E (.tmp 39) = _ from g39.trans rfl) (by exact hA_.box rfl) rfl)) ?_
       refine .cons (fun E hA_ => by have g3 := hA_.get 3 (by decide); have g38 := hA_.get 38 (by decide); exact OpStep.yes (t := 38) rfl rfl (lt_ok rfl) (g38.trans rfl) (Step.fieldAddr (q := 0) (off := 0) (n := 1) (one := true) (t := 41) rfl rfl (by exact lt_ok rfl) (by kernel_rfl) (Nat.succ_ne_zero _) (show Env.ev E (.tmp 3) = _ from g3.trans rfl))) ?_
       refine .cons (fun E hA_ => by have g38 := hA_.get 38 (by decide); have g41 := hA_.get 41 (by decide); exact OpStep.yes (t := 38) rfl rfl (lt_ok rfl) (g38.trans rfl) (Step.load_box (c := .d (.int .i64 t.f0)) (t := 42) rfl rfl (by exact lt_ok rfl) (by kernel_rfl) (show Env.ev E (.tmp 41) = _ from g41.trans rfl) (by exact hA_.box rfl) rfl)) ?_
       refine .cons (fun E hA_ => by have g38 := hA_.get 38 (by decide); have g42 := hA_.get 42 (by decide); exact OpStep.yes (t := 38) rfl rfl (lt_ok rfl) (g38.trans rfl) (Step.bin (r := .int .i64 (IntKind.i64.wrap (t.f0 - 1))) (t := 43) rfl rfl (by exact lt_ok rfl) (show Env.ev E (.tmp 42) = _ from g42.trans rfl) rfl (Bin.sub (a := t.f0) (b := 1) (rfl)))) ?_
       refine .cons (fun E hA_ => by have g38 := hA_.get 38 (by decide); have g40 := hA_.get 40 (by decide); have g43 := hA_.get 43 (by decide); exact OpStep.yes (t := 38) rfl rfl (lt_ok rfl) (g38.trans rfl) (Step.call (f := 144) (xs := [.tmp 40, .const (.int .i64 0), .tmp 43]) (ps := [(.one (.d (.int .i64 (t.f1.getD i default).f1))), (.one (.d (.int .i64 0))), (.one (.d (.int .i64 (IntKind.i64.wrap (t.f0 - 1)))))]) false (g := .func 144) (t := 44) rfl rfl (by exact lt_ok rfl) rfl (by kernel_rfl) (evs_cons (show Env.ev E (.tmp 40) = _ from g40.trans rfl) (evs_cons rfl (evs_cons (show Env.ev E (.tmp 43) = _ from g43.trans rfl) (rfl)))) (.cons (.one (.d _)) (.cons (.one (.d _)) (.cons (.one (.d _)) .nil))) (ok_impl_within (t.f1.getD i default).f1 0 (IntKind.i64.wrap (t.f0 - 1))) (.inr rfl) (At.freshRows hA_ rfl) (by simp) rfl)) ?_
       refine .cons (fun E hA_ => by have g38 := hA_.get 38 (by decide); have g44 := hA_.get 44 (by decide); exact OpStep.yes (t := 38) rfl rfl (lt_ok rfl) (g38.trans rfl) (Step.to (E1 := E.set 45 (.one (.d (.bool (!(decide (0 ≤ (t.f1.getD i default).f1 ∧ (t.f1.getD i default).f1 ≤ (IntKind.i64.wrap (t.f0 - 1))))))))) (congrArg (fun b_ => E.set 45 (.one (.d (.bool b_)))) hb10) (Step.not (b := (decide (0 ≤ (t.f1.getD i default).f1 ∧ (t.f1.getD i default).f1 ≤ (IntKind.i64.wrap (t.f0 - 1))))) (t := 45) rfl rfl (by exact lt_ok rfl) (show Env.ev E (.tmp 44) = _ from g44.trans rfl)))) ?_
       refine .cons (fun E hA_ => by have g38 := hA_.get 38 (by decide); have g45 := hA_.get 45 (by decide); exact OpStep.plain rfl (Step.pick (b := false) (p := (.one (.d (.bool false)))) (t := 46) rfl rfl (by exact lt_ok rfl) (show Env.ev E (.tmp 38) = _ from g38.trans rfl) (show Env.ev E (.tmp 45) = _ from g45.trans rfl))) ?_
       refine .cons (fun E hA_ => by have g46 := hA_.get 46 (by decide); exact OpStep.plain rfl (Step.move (p := (.one (.d (.bool false)))) (t := 47) rfl rfl (by exact lt_ok rfl) (show Env.ev E (.tmp 46) = _ from g46.trans rfl))) ?_
       refine .cons (fun E hA_ => by have g6 := hA_.get 6 (by decide); have g47 := hA_.get 47 (by decide); exact OpStep.yes (t := 47) rfl rfl (lt_ok rfl) (g47.trans rfl) (Step.fieldAddr (q := 0) (off := 2) (n := 1) (one := true) (t := 48) rfl rfl (by exact lt_ok rfl) (by kernel_rfl) (Nat.succ_ne_zero _) (show Env.ev E (.tmp 6) = _ from g6.trans rfl))) ?_
       refine .cons (fun E hA_ => by have g47 := hA_.get 47 (by decide); have g48 := hA_.get 48 (by decide); exact OpStep.yes (t := 47) rfl rfl (lt_ok rfl) (g47.trans rfl) (Step.load_box (c := .d (.ints .u8 (t.f1.getD i default).f2)) (t := 49) rfl rfl (by exact lt_ok rfl) (by kernel_rfl) (show Env.ev E (.tmp 48) = _ from g48.trans rfl) (by exact hA_.box rfl) rfl)) ?_
       refine .cons (fun E hA_ => by have g47 := hA_.get 47 (by decide); have g49 := hA_.get 49 (by decide); exact OpStep.yes (t := 47) rfl rfl (lt_ok rfl) (g47.trans rfl) (Step.lit_d (e := 22) (z := 1) (by_ := 24) (xs := [.tmp 49]) (pss := [[.d (.ints .u8 (t.f1.getD i default).f2)]]) (ds := [(.ints .u8 (t.f1.getD i default).f2)]) (d := (.bss [(t.f1.getD i default).f2])) (t := 50) rfl rfl (by exact lt_ok rfl) (by kernel_rfl) rfl rfl (.cons (by exact (congrArg PV.flat (show Env.ev E (.tmp 49) = _ from g49.trans rfl)).trans rfl) .nil) (by simp) (le_ok rfl) (le_ok rfl) rfl rfl trivial rfl rfl)) ?_
       refine .cons (fun E hA_ => by have g47 := hA_.get 47 (by decide); have g50 := hA_.get 50 (by decide); exact OpStep.yes (t := 47) rfl rfl (lt_ok rfl) (g47.trans rfl) (Step.call (f := 145) (xs := [.tmp 50]) (ps := [(.one (.d (.bss [(t.f1.getD i default).f2])))]) false (g := .func 145) (t := 51) rfl rfl (by exact lt_ok rfl) rfl (by kernel_rfl) (evs_cons (show Env.ev E (.tmp 50) = _ from g50.trans rfl) (rfl)) (.cons (.one (.d _)) .nil) (ok_impl_areHashes [(t.f1.getD i default).f2]) (.inr rfl) (At.freshRows hA_ rfl) (by simp) rfl)) ?_
       refine .cons (fun E hA_ => by have g47 := hA_.get 47 (by decide); have g51 := hA_.get 51 (by decide); exact OpStep.yes (t := 47) rfl rfl (lt_ok rfl) (g47.trans rfl) (Step.not (b := (hashes [(t.f1.getD i default).f2])) (t := 52) rfl rfl (by exact lt_ok rfl) (show Env.ev E (.tmp 51) = _ from g51.trans rfl))) ?_
       refine .cons (fun E hA_ => by have g47 := hA_.get 47 (by decide); have g52 := hA_.get 52 (by decide); exact OpStep.plain rfl (Step.pick (b := false) (p := (.one (.d (.bool (!(hashes [(t.f1.getD i default).f2])))))) (t := 53) rfl rfl (by exact lt_ok rfl) (show Env.ev E (.tmp 47) = _ from g47.trans rfl) (show Env.ev E (.tmp 52) = _ from g52.trans rfl))) ?_
       exact .nil _ _
      refine TL.nil ?_
      refine T.cond (b := !(hashes [(t.f1.getD i default).f2])) rfl (fun h12 => ?_) (fun h12 => ?_)
      ·
       replace h12 : (hashes [(t.f1.getD i default).f2]) = false := by simpa only [Bool.not_eq_true', Bool.not_eq_false'] using h12
       refine T.seq ?_
       refine T.region ?_
       refine TL.cons rfl (Step.assign (p := (.one (.d (.bool false)))) rfl rfl (lt_ok rfl) rfl) ?_
       refine TL.nil ?_
       refine T.ret ?_
       exact ⟨[(false, [.d (.bool false)])], (.cons rfl .nil), rfl, [], (RetC.rd' (by (congr 1; symm; first | (rw [tcOk_no (i := i) (by omega) (tcEnt_no (by (try simp only [hashes, List.all_cons, List.all_nil, Bool.and_true] at *); (try simp only [decide_eq_true_eq, decide_eq_false_iff_not, Bool.not_eq_true', Bool.not_eq_false'] at *); (try (have hw2_ := hw_ (by omega) (by omega))); omega))]; done) | (unfold tcOk; rw [show tcAll l t t.f1.length = true from by rw [show t.f1.length = i from by omega]; exact hx2, decide_eq_true (p := (t.f1.length : Int) ≤ l.f0) (by omega), decide_eq_true (p := (0 ≤ t.f0 ∧ t.f0 ≤ 1152921504606846975)) (by omega)]; simp only [*, Bool.and_true, Bool.true_and, Bool.and_false, Bool.false_and, decide_true, decide_false, and_true, true_and, and_self, and_false, false_and, Bool.and_self, not_true, not_false, Bool.not_true, Bool.not_false, ge_iff_le, gt_iff_lt, if_true, if_false, Bool.false_eq_true, ite_true, ite_false, reduceIte]; done) | (unfold tcOk; rw [show tcAll l t t.f1.length = true from by rw [show t.f1.length = i from by omega]; exact hx2, decide_eq_true (p := (0 ≤ t.f0 ∧ t.f0 ≤ 1152921504606846975)) (by omega)]; simp only [*, Bool.and_true, Bool.true_and, Bool.and_false, Bool.false_and, decide_true, decide_false, and_true, true_and, and_self, and_false, false_and, Bool.and_self, not_true, not_false, Bool.not_true, Bool.not_false, ge_iff_le, gt_iff_lt, if_true, if_false, Bool.false_eq_true, ite_true, ite_false, reduceIte]; done) | (unfold tcOk; simp only [*, Bool.and_true, Bool.true_and, Bool.and_false, Bool.false_and, decide_true, decide_false, and_true, true_and, and_self, and_false, false_and, Bool.and_self, not_true, not_false, Bool.not_true, Bool.not_false, ge_iff_le, gt_iff_lt, if_true, if_false, Bool.false_eq_true, ite_true, ite_false, reduceIte]; done) | (unfold tcOk; rw [decide_eq_false (p := (t.f1.length : Int) ≤ l.f0) (by omega)]; simp; done))) .nil)⟩
      ·
       replace h12 : (hashes [(t.f1.getD i default).f2]) = true := by simpa only [Bool.not_eq_true', Bool.not_eq_false'] using h12
       refine T.skip ?_
       refine T.region ?_
       refine TL.cons rfl (Step.bin (r := .int .i64 ((i : Int) + 1)) rfl rfl (lt_ok rfl) rfl rfl (Bin.add (a := (i : Int)) (b := 1) (by first | exact wrap_ok (by first | omega | (simp; omega)) (by first | omega | (simp; omega)) | rfl))) ?_
       refine TL.cons rfl (Step.move (p := (.one (.d (.int .i64 ((i : Int) + 1))))) rfl rfl (lt_ok rfl) rfl) ?_
       refine TL.nil ?_
       exact ⟨i + 1, by (refine ⟨by omega, ?_⟩; rw [tcAll_succ, hx2, tcEnt_yes (by (try simp only [hashes, List.all_cons, List.all_nil, Bool.and_true] at *); (try simp only [decide_eq_true_eq, decide_eq_false_iff_not, Bool.not_eq_true', Bool.not_eq_false'] at *); (try (have hw2_ := hw_ (by omega) (by omega))); omega)]; rfl), by first | omega | (dsimp only; omega), Env.le_mk ⟨rfl, rfl, rfl, rfl, by first | rfl | (simp; done) | (congr 3; omega), trivial⟩ trivial ⟨rfl, rfl, trivial⟩⟩
  ·
   replace h1 := of_decide_eq_false h1
   refine T.exit ?_
   refine T.seq ?_
   refine T.region ?_
   refine TL.cons rfl (Step.load_box_agg (n := 5) (qs := [.d (.int .i64 l.f0), .d (.int .i64 l.f1), .d (.int .i64 l.f2), .d (.int .i64 l.f3), .d (.int .i64 l.f4)]) rfl rfl (lt_ok rfl) (by kernel_rfl) rfl rfl rfl rfl) ?_
   refine TL.cons rfl (Step.call (f := 146) (xs := [.tmp 55]) (ps := [(.agg [.d (.int .i64 l.f0), .d (.int .i64 l.f1), .d (.int .i64 l.f2), .d (.int .i64 l.f3), .d (.int .i64 l.f4)])]) false (g := .func 146) rfl rfl (lt_ok rfl) rfl (by kernel_rfl) rfl (.cons (.agg (.cons (.d _) (.cons (.d _) (.cons (.d _) (.cons (.d _) (.cons (.d _) .nil)))))) .nil) (ok_impl_LimitsOk l) (.inr rfl) rfl (by simp) rfl) ?_
   refine TL.cons rfl (Step.move (p := (.one (.d (.bool (limOk l))))) rfl rfl (lt_ok rfl) rfl) ?_
   rcases Bool.eq_false_or_eq_true (limOk l) with hb13 | hb13
   ·
    refine TL.known 57 hb13 rfl ?_
    refine TL.gyes 57 rfl rfl (lt_ok rfl) rfl (Step.fieldAddr (q := 0) (off := 0) (n := 1) (one := true) rfl rfl (lt_ok rfl) (by kernel_rfl) (Nat.succ_ne_zero _) rfl) ?_
    refine TL.gyes 57 rfl rfl (lt_ok rfl) rfl (Step.load_box (c := .d (.int .i64 t.f0)) rfl rfl (lt_ok rfl) (by kernel_rfl) rfl rfl rfl) ?_
    refine TL.gyes 57 rfl rfl (lt_ok rfl) rfl (Step.call (f := 147) (xs := [.tmp 59]) (ps := [(.one (.d (.int .i64 t.f0)))]) false (g := .func 147) rfl rfl (lt_ok rfl) rfl (by kernel_rfl) rfl (.cons (.one (.d _)) .nil) (ok_impl_isNum t.f0) (.inr rfl) rfl (by simp) rfl) ?_
    refine TL.cons rfl (Step.pick (b := true) (p := (.one (.d (.bool (decide (0 ≤ t.f0 ∧ t.f0 ≤ 1152921504606846975)))))) rfl rfl (lt_ok rfl) rfl rfl) ?_
    refine TL.cons rfl (Step.move (p := (.one (.d (.bool (decide (0 ≤ t.f0 ∧ t.f0 ≤ 1152921504606846975)))))) rfl rfl (lt_ok rfl) rfl) ?_
    rcases Bool.eq_false_or_eq_true (decide (0 ≤ t.f0 ∧ t.f0 ≤ 1152921504606846975)) with hb14 | hb14
    ·
     refine TL.known 62 hb14 rfl ?_
     have hb14' := hb14
     replace hb14' := of_decide_eq_true hb14'
     refine TL.gyes 62 rfl rfl (lt_ok rfl) rfl (Step.fieldAddr (q := 0) (off := 1) (n := 1) (one := true) rfl rfl (lt_ok rfl) (by kernel_rfl) (Nat.succ_ne_zero _) rfl) ?_
     refine TL.gyes 62 rfl rfl (lt_ok rfl) rfl (Step.load_box (c := .d (.sl 3 (t.f1.map SEntry.cells))) rfl rfl (lt_ok rfl) (by kernel_rfl) rfl rfl rfl) ?_
     refine TL.gyes 62 rfl rfl (lt_ok rfl) rfl (Step.len' (e := 121) (z := 3) (d := (.sl 3 (t.f1.map SEntry.cells))) (n := t.f1.length) rfl rfl (lt_ok rfl) (by kernel_rfl) rfl rfl (by simp [D.size])) ?_
     refine TL.gyes 62 rfl rfl (lt_ok rfl) rfl (Step.fieldAddr (q := 0) (off := 0) (n := 1) (one := true) rfl rfl (lt_ok rfl) (by kernel_rfl) (Nat.succ_ne_zero _) rfl) ?_
     refine TL.gyes 62 rfl rfl (lt_ok rfl) rfl (Step.load_box (c := .d (.int .i64 l.f0)) rfl rfl (lt_ok rfl) (by kernel_rfl) rfl rfl rfl) ?_
     refine TL.gyes 62 rfl rfl (lt_ok rfl) rfl (Step.bin rfl rfl (lt_ok rfl) rfl rfl (Bin.leq (k := .i64) (a := (t.f1.length : Int)) (b := l.f0))) ?_
     refine TL.cons rfl (Step.pick (b := true) (p := (.one (.d (.bool (decide ((t.f1.length : Int) ≤ l.f0)))))) rfl rfl (lt_ok rfl) rfl rfl) ?_
     refine TL.cons rfl (Step.assign (p := (.one (.d (.bool (decide ((t.f1.length : Int) ≤ l.f0)))))) rfl rfl (lt_ok rfl) rfl) ?_
     refine TL.nil ?_
     refine T.ret ?_
     exact ⟨[(false, [.d (.bool (decide ((t.f1.length : Int) ≤ l.f0)))])], (.cons rfl .nil), rfl, [], (RetC.rd' (by (congr 1; symm; first | (rw [tcOk_no (i := i) (by omega) (tcEnt_no (by (try simp only [hashes, List.all_cons, List.all_nil, Bool.and_true] at *); (try simp only [decide_eq_true_eq, decide_eq_false_iff_not, Bool.not_eq_true', Bool.not_eq_false'] at *); (try (have hw2_ := hw_ (by omega) (by omega))); omega))]; done) | (unfold tcOk; rw [show tcAll l t t.f1.length = true from by rw [show t.f1.length = i from by omega]; exact hx2, decide_eq_true (p := (t.f1.length : Int) ≤ l.f0) (by omega), decide_eq_true (p := (0 ≤ t.f0 ∧ t.f0 ≤ 1152921504606846975)) (by omega)]; simp only [*, Bool.and_true, Bool.true_and, Bool.and_false, Bool.false_and, decide_true, decide_false, and_true, true_and, and_self, and_false, false_and, Bool.and_self, not_true, not_false, Bool.not_true, Bool.not_false, ge_iff_le, gt_iff_lt, if_true, if_false, Bool.false_eq_true, ite_true, ite_false, reduceIte]; done) | (unfold tcOk; rw [show tcAll l t t.f1.length = true from by rw [show t.f1.length = i from by omega]; exact hx2, decide_eq_true (p := (0 ≤ t.f0 ∧ t.f0 ≤ 1152921504606846975)) (by omega)]; simp only [*, Bool.and_true, Bool.true_and, Bool.and_false, Bool.false_and, decide_true, decide_false, and_true, true_and, and_self, and_false, false_and, Bool.and_self, not_true, not_false, Bool.not_true, Bool.not_false, ge_iff_le, gt_iff_lt, if_true, if_false, Bool.false_eq_true, ite_true, ite_false, reduceIte]; done) | (unfold tcOk; simp only [*, Bool.and_true, Bool.true_and, Bool.and_false, Bool.false_and, decide_true, decide_false, and_true, true_and, and_self, and_false, false_and, Bool.and_self, not_true, not_false, Bool.not_true, Bool.not_false, ge_iff_le, gt_iff_lt, if_true, if_false, Bool.false_eq_true, ite_true, ite_false, reduceIte]; done) | (unfold tcOk; rw [decide_eq_false (p := (t.f1.length : Int) ≤ l.f0) (by omega)]; simp; done))) .nil)⟩
    ·
     refine TL.known 62 hb14 rfl ?_
     have hb14' := hb14
     replace hb14' := of_decide_eq_false hb14'
     refine TL.goff 62 rfl rfl (lt_ok rfl) rfl rfl rfl (lt_ok rfl) ?_
     refine TL.goff 62 rfl rfl (lt_ok rfl) rfl rfl rfl (lt_ok rfl) ?_
     refine TL.goff 62 rfl rfl (lt_ok rfl) rfl rfl rfl (lt_ok rfl) ?_
     refine TL.goff 62 rfl rfl (lt_ok rfl) rfl rfl rfl (lt_ok rfl) ?_
     refine TL.goff 62 rfl rfl (lt_ok rfl) rfl rfl rfl (lt_ok rfl) ?_
     refine TL.goff 62 rfl rfl (lt_ok rfl) rfl rfl rfl (lt_ok rfl) ?_
     refine TL.cons rfl (Step.pick (b := false) (p := (.one (.d (.bool false)))) rfl rfl (lt_ok rfl) rfl rfl) ?_
     refine TL.cons rfl (Step.assign (p := (.one (.d (.bool false)))) rfl rfl (lt_ok rfl) rfl) ?_
     refine TL.nil ?_
     refine T.ret ?_
     exact ⟨[(false, [.d (.bool false)])], (.cons rfl .nil), rfl, [], (RetC.rd' (by (congr 1; symm; first | (rw [tcOk_no (i := i) (by omega) (tcEnt_no (by (try simp only [hashes, List.all_cons, List.all_nil, Bool.and_true] at *); (try simp only [decide_eq_true_eq, decide_eq_false_iff_not, Bool.not_eq_true', Bool.not_eq_false'] at *); (try (have hw2_ := hw_ (by omega) (by omega))); omega))]; done) | (unfold tcOk; rw [show tcAll l t t.f1.length = true from by rw [show t.f1.length = i from by omega]; exact hx2, decide_eq_true (p := (t.f1.length : Int) ≤ l.f0) (by omega), decide_eq_true (p := (0 ≤ t.f0 ∧ t.f0 ≤ 1152921504606846975)) (by omega)]; simp only [*, Bool.and_true, Bool.true_and, Bool.and_false, Bool.false_and, decide_true, decide_false, and_true, true_and, and_self, and_false, false_and, Bool.and_self, not_true, not_false, Bool.not_true, Bool.not_false, ge_iff_le, gt_iff_lt, if_true, if_false, Bool.false_eq_true, ite_true, ite_false, reduceIte]; done) | (unfold tcOk; rw [show tcAll l t t.f1.length = true from by rw [show t.f1.length = i from by omega]; exact hx2, decide_eq_true (p := (0 ≤ t.f0 ∧ t.f0 ≤ 1152921504606846975)) (by omega)]; simp only [*, Bool.and_true, Bool.true_and, Bool.and_false, Bool.false_and, decide_true, decide_false, and_true, true_and, and_self, and_false, false_and, Bool.and_self, not_true, not_false, Bool.not_true, Bool.not_false, ge_iff_le, gt_iff_lt, if_true, if_false, Bool.false_eq_true, ite_true, ite_false, reduceIte]; done) | (unfold tcOk; simp only [*, Bool.and_true, Bool.true_and, Bool.and_false, Bool.false_and, decide_true, decide_false, and_true, true_and, and_self, and_false, false_and, Bool.and_self, not_true, not_false, Bool.not_true, Bool.not_false, ge_iff_le, gt_iff_lt, if_true, if_false, Bool.false_eq_true, ite_true, ite_false, reduceIte]; done) | (unfold tcOk; rw [decide_eq_false (p := (t.f1.length : Int) ≤ l.f0) (by omega)]; simp; done))) .nil)⟩
   ·
    refine TL.known 57 hb13 rfl ?_
    refine TL.goff 57 rfl rfl (lt_ok rfl) rfl rfl rfl (lt_ok rfl) ?_
    refine TL.goff 57 rfl rfl (lt_ok rfl) rfl rfl rfl (lt_ok rfl) ?_
    refine TL.goff 57 rfl rfl (lt_ok rfl) rfl rfl rfl (lt_ok rfl) ?_
    refine TL.cons rfl (Step.pick (b := false) (p := (.one (.d (.bool false)))) rfl rfl (lt_ok rfl) rfl rfl) ?_
    refine TL.cons rfl (Step.move (p := (.one (.d (.bool false)))) rfl rfl (lt_ok rfl) rfl) ?_
    refine TL.goff 62 rfl rfl (lt_ok rfl) rfl rfl rfl (lt_ok rfl) ?_
    refine TL.goff 62 rfl rfl (lt_ok rfl) rfl rfl rfl (lt_ok rfl) ?_
    refine TL.goff 62 rfl rfl (lt_ok rfl) rfl rfl rfl (lt_ok rfl) ?_
    refine TL.goff 62 rfl rfl (lt_ok rfl) rfl rfl rfl (lt_ok rfl) ?_
    refine TL.goff 62 rfl rfl (lt_ok rfl) rfl rfl rfl (lt_ok rfl) ?_
    refine TL.goff 62 rfl rfl (lt_ok rfl) rfl rfl rfl (lt_ok rfl) ?_
    refine TL.cons rfl (Step.pick (b := false) (p := (.one (.d (.bool false)))) rfl rfl (lt_ok rfl) rfl rfl) ?_
    refine TL.cons rfl (Step.assign (p := (.one (.d (.bool false)))) rfl rfl (lt_ok rfl) rfl) ?_
    refine TL.nil ?_
    refine T.ret ?_
    exact ⟨[(false, [.d (.bool false)])], (.cons rfl .nil), rfl, [], (RetC.rd' (by (congr 1; symm; first | (rw [tcOk_no (i := i) (by omega) (tcEnt_no (by (try simp only [hashes, List.all_cons, List.all_nil, Bool.and_true] at *); (try simp only [decide_eq_true_eq, decide_eq_false_iff_not, Bool.not_eq_true', Bool.not_eq_false'] at *); (try (have hw2_ := hw_ (by omega) (by omega))); omega))]; done) | (unfold tcOk; rw [show tcAll l t t.f1.length = true from by rw [show t.f1.length = i from by omega]; exact hx2, decide_eq_true (p := (t.f1.length : Int) ≤ l.f0) (by omega), decide_eq_true (p := (0 ≤ t.f0 ∧ t.f0 ≤ 1152921504606846975)) (by omega)]; simp only [*, Bool.and_true, Bool.true_and, Bool.and_false, Bool.false_and, decide_true, decide_false, and_true, true_and, and_self, and_false, false_and, Bool.and_self, not_true, not_false, Bool.not_true, Bool.not_false, ge_iff_le, gt_iff_lt, if_true, if_false, Bool.false_eq_true, ite_true, ite_false, reduceIte]; done) | (unfold tcOk; rw [show tcAll l t t.f1.length = true from by rw [show t.f1.length = i from by omega]; exact hx2, decide_eq_true (p := (0 ≤ t.f0 ∧ t.f0 ≤ 1152921504606846975)) (by omega)]; simp only [*, Bool.and_true, Bool.true_and, Bool.and_false, Bool.false_and, decide_true, decide_false, and_true, true_and, and_self, and_false, false_and, Bool.and_self, not_true, not_false, Bool.not_true, Bool.not_false, ge_iff_le, gt_iff_lt, if_true, if_false, Bool.false_eq_true, ite_true, ite_false, reduceIte]; done) | (unfold tcOk; simp only [*, Bool.and_true, Bool.true_and, Bool.and_false, Bool.false_and, decide_true, decide_false, and_true, true_and, and_self, and_false, false_and, Bool.and_self, not_true, not_false, Bool.not_true, Bool.not_false, ge_iff_le, gt_iff_lt, if_true, if_false, Bool.false_eq_true, ite_true, ite_false, reduceIte]; done) | (unfold tcOk; rw [decide_eq_false (p := (t.f1.length : Int) ≤ l.f0) (by omega)]; simp; done))) .nil)⟩
theorem ok_impl_PutVar (b : List Int) (n : Int) (h0_ : b.length ≤ 17592186044416) : RO Try.prog 160 [.one (.ints .u8 b), .one (.int .i64 n)] [(false, [.own 5 (.ints .u8 (putVar b n))]), (false, [.rd (.bool (decide (0 ≤ n ∧ n ≤ 1152921504606846975)))])] := by
 refine RO.intro Try.func160 rfl 28 rfl (le_ok rfl) fun w Z => ?_
 refine T.bnd 0 0 rfl rfl fun hb_0_0 => ?_
 simp only [D.size, List.length_map] at hb_0_0
 refine T.seq ?_
 refine T.region ?_
 refine TL.cons rfl (Step.assign (p := (.one (.nil))) rfl rfl (lt_ok rfl) rfl) ?_
 refine TL.cons rfl (Step.assign (p := (.one (.d (.bool false)))) rfl rfl (lt_ok rfl) rfl) ?_
 refine TL.nil ?_
 refine T.seq ?_
 refine T.seq ?_
 refine T.region ?_
 refine TL.cons rfl (Step.move (p := (.one (.d (.int .i64 n)))) rfl rfl (lt_ok rfl) rfl) ?_
 refine TL.cons rfl (Step.call (f := 147) (xs := [.tmp 7]) (ps := [(.one (.d (.int .i64 n)))]) false (g := .func 147) rfl rfl (lt_ok rfl) rfl (by kernel_rfl) rfl (.cons (.one (.d _)) .nil) (ok_impl_isNum n) (.inr rfl) rfl (by simp) rfl) ?_
 refine TL.cons rfl (Step.not (b := (decide (0 ≤ n ∧ n ≤ 1152921504606846975))) rfl rfl (lt_ok rfl) rfl) ?_
 refine TL.nil ?_
 refine T.cond (b := !(decide (0 ≤ n ∧ n ≤ 1152921504606846975))) rfl (fun h1 => ?_) (fun h1 => ?_)
 ·
  replace h1 : (decide (0 ≤ n ∧ n ≤ 1152921504606846975)) = false := by simpa only [Bool.not_eq_true', Bool.not_eq_false'] using h1
  replace h1 := of_decide_eq_false h1
  refine T.seq ?_
  refine T.region ?_
  refine TL.cons rfl (Step.assign (p := (.one (.nil))) rfl rfl (lt_ok rfl) rfl) ?_
  refine TL.cons rfl (Step.assign (p := (.one (.d (.bool false)))) rfl rfl (lt_ok rfl) rfl) ?_
  refine TL.nil ?_
  refine T.ret ?_
  exact ⟨[(false, [.nil]), (false, [.d (.bool false)])], (.cons rfl (.cons rfl .nil)), rfl, [], (RetC.nilown' rfl (by first | rfl | (congr 1; unfold putVar; rw [if_pos (decide_eq_true (by assumption))]; rw [← hx3, varW_last (n := m) (by omega)]; done) | (show (putVar b n).length = 0; rw [putVar, if_neg (by rw [decide_eq_true_eq]; assumption)]; rfl) | (congr 1; symm; first | exact decide_eq_true ‹_› | exact decide_eq_false ‹_›)) (by first | exact trivial | exact D.wf_nil _) (RetC.rd' (by first | rfl | (congr 1; unfold putVar; rw [if_pos (decide_eq_true (by assumption))]; rw [← hx3, varW_last (n := m) (by omega)]; done) | (show (putVar b n).length = 0; rw [putVar, if_neg (by rw [decide_eq_true_eq]; assumption)]; rfl) | (congr 1; symm; first | exact decide_eq_true ‹_› | exact decide_eq_false ‹_›)) .nil))⟩
 ·
  replace h1 : (decide (0 ≤ n ∧ n ≤ 1152921504606846975)) = true := by simpa only [Bool.not_eq_true', Bool.not_eq_false'] using h1
  replace h1 := of_decide_eq_true h1
  refine T.skip ?_
  refine T.seq ?_
  refine T.region ?_
  refine TL.cons rfl (Step.move (p := (.one (.d (.ints .u8 b)))) rfl rfl (lt_ok rfl) rfl) ?_
  refine TL.cons rfl (Step.call (f := 83) (xs := [.tmp 10]) (ps := [(.one (.d (.ints .u8 b)))]) false (g := .func 83) rfl rfl (lt_ok rfl) rfl (by kernel_rfl) rfl (.cons (.one (.d _)) .nil) (ok_impl_copyBytes b (by first | omega | assumption)) (.inr rfl) rfl (by simp) rfl) ?_
  refine TL.cons rfl (Step.assign (p := (.one (.row 1011 []))) rfl rfl (lt_ok rfl) rfl) ?_
  refine TL.nil ?_
  refine T.seq ?_
  refine T.block ?_
  refine T.loop (ι := (List Int) × Int) (fun xx_ => { tm := [(4, (.one (.nil))), (5, (.one (.d (.bool false)))), (1, (.one (.d (.int .i64 (xx_.2))))), (6, (.one (.row 1011 [])))], rows := [(1011, (5, (.ints .u8 (xx_.1))))], boxes := [] }) (fun xx_ => 0 ≤ (xx_.2) ∧ (xx_.2) ≤ 1152921504606846975 ∧ (xx_.1) ++ varW (xx_.2) = b ++ varW n ∧ (xx_.1).length ≤ b.length + 9) (fun xx_ => (xx_.2).toNat) (b, n) ?_ ?_ ?_
  · exact Env.le_mk ⟨rfl, rfl, by first | rfl | (refine congrArg (fun x => some (_, D.ints .u8 x)) ?_; rfl), rfl, trivial⟩ ⟨by first | rfl | (refine congrArg (fun x => some (_, D.ints .u8 x)) ?_; rfl), trivial⟩ trivial
  · (dsimp only; refine ⟨by omega, by omega, rfl, by omega⟩)
  ·
   intro xx_ hx
   obtain ⟨o, m⟩ := xx_
   try dsimp only at hx ⊢
   obtain ⟨hx1, hx2, hx3, hx4⟩ := hx
   refine T.seq ?_
   refine T.seq ?_
   refine T.region ?_
   refine TL.cons rfl (Step.move (p := (.one (.d (.int .i64 m)))) rfl rfl (lt_ok rfl) rfl) ?_
   refine TL.cons rfl (Step.bin rfl rfl (lt_ok rfl) rfl rfl (Bin.geq (k := .i64) (a := m) (b := 128))) ?_
   refine TL.nil ?_
   refine T.cond (b := decide (128 ≤ m)) rfl (fun h2 => ?_) (fun h2 => ?_)
   ·
    replace h2 := of_decide_eq_true h2
    refine T.skip ?_
    refine T.block ?_
    refine T.seq ?_
    refine T.region ?_
    refine TL.cons rfl (Step.move (p := (.one (.row 1011 []))) rfl rfl (lt_ok rfl) rfl) ?_
    refine TL.cons rfl (Step.move (p := (.one (.d (.int .i64 m)))) rfl rfl (lt_ok rfl) rfl) ?_
    refine TL.cons rfl (Step.bin (r := .int .i64 (m % 128)) rfl rfl (lt_ok rfl) rfl rfl (Bin.rem (k := .i64) (a := m) (b := 128) (by decide) (Int.tmod_eq_emod_of_nonneg (by first | omega | (simp; omega))))) ?_
    refine TL.cons rfl (Step.bin (r := .int .i64 ((m % 128) + 128)) rfl rfl (lt_ok rfl) rfl rfl (Bin.add (a := (m % 128)) (b := 128) (by first | exact wrap_ok (by first | omega | (simp; omega)) (by first | omega | (simp; omega)) | rfl))) ?_
    refine TL.cons rfl (Step.conv (c := ((m % 128) + 128)) rfl rfl (lt_ok rfl) (by kernel_rfl) (by kernel_rfl) rfl (wrap_u8 (by first | omega | (simp; omega)) (by first | omega | (simp; omega)))) ?_
    refine TL.cons rfl (Step.lit (e := 5) (z := 1) (by_ := 1) (xs := [.tmp 18]) (pss := [[.d (.int .u8 ((m % 128) + 128))]]) (es := [(.int .u8 ((m % 128) + 128))]) (ss := []) (d := (.ints .u8 [(m % 128) + 128])) rfl rfl (lt_ok rfl) (by kernel_rfl) rfl rfl (.cons rfl .nil) (by simp) (le_ok rfl) (le_ok rfl) rfl (.val rfl .nil) rfl (by simp) (by simp) rfl trivial rfl rfl) ?_
    refine TL.cons rfl (Step.append (e := 5) (z := 1) (by_ := 1) (d := (.ints .u8 o)) (dy := (.ints .u8 [(m % 128) + 128])) (d' := (.ints .u8 (o ++ [(m % 128) + 128]))) (ss := []) rfl rfl (lt_ok rfl) (by kernel_rfl) rfl rfl rfl (lt_ok rfl) rfl (.copy rfl rfl rfl (by simp [D.flat, D.val])) (by simp) rfl (by simp only [D.size, List.length_map]; first | omega | (simp; omega) | (simp only [List.length_append] at *; omega)) (by simp only [D.size, List.length_map]; first | omega | (simp; omega) | (simp only [List.length_append] at *; omega)) (by simp)) ?_
    refine TL.cons rfl (Step.assign (p := (.one (.row 1011 []))) rfl rfl (lt_ok rfl) rfl) ?_
    refine TL.nil ?_
    refine T.region ?_
    refine TL.cons rfl (Step.move (p := (.one (.d (.int .i64 m)))) rfl rfl (lt_ok rfl) rfl) ?_
    refine TL.cons rfl (Step.bin (r := .int .i64 (m / 128)) rfl rfl (lt_ok rfl) rfl rfl (Bin.quo (k := .i64) (a := m) (b := 128) (by decide) (by rw [Int.tdiv_eq_ediv_of_nonneg (by first | omega | (simp; omega))]; exact wrap_ok (by first | omega | (simp; omega)) (by first | omega | (simp; omega))))) ?_
    refine TL.cons rfl (Step.assign (p := (.one (.d (.int .i64 (m / 128))))) rfl rfl (lt_ok rfl) rfl) ?_
    refine TL.nil ?_
    exact ⟨(o ++ [(m % 128) + 128], m / 128), by (refine ⟨by omega, by omega, by rw [← hx3, varW_next (n := m) (by omega)]; simp [Int.add_comm], ?_⟩; have e_ := congrArg List.length hx3; rw [varW_next (n := m) (by omega)] at e_; have := varW_len9 (n := n) (by omega); simp only [List.length_append, List.length_cons, List.length_nil] at e_ ⊢; omega), by (dsimp only; omega), Env.le_mk ⟨rfl, rfl, by first | rfl | (refine congrArg (fun x => some (_, D.ints .u8 x)) ?_; rfl), rfl, trivial⟩ ⟨by first | rfl | (refine congrArg (fun x => some (_, D.ints .u8 x)) ?_; rfl), trivial⟩ trivial⟩
   ·
    replace h2 := of_decide_eq_false h2
    refine T.exit ?_
    refine T.seq ?_
    refine T.region ?_
    refine TL.cons rfl (Step.move (p := (.one (.row 1011 []))) rfl rfl (lt_ok rfl) rfl) ?_
    refine TL.cons rfl (Step.move (p := (.one (.d (.int .i64 m)))) rfl rfl (lt_ok rfl) rfl) ?_
    refine TL.cons rfl (Step.conv (c := m) rfl rfl (lt_ok rfl) (by kernel_rfl) (by kernel_rfl) rfl (wrap_u8 (by first | omega | (simp; omega)) (by first | omega | (simp; omega)))) ?_
    refine TL.cons rfl (Step.lit (e := 5) (z := 1) (by_ := 1) (xs := [.tmp 25]) (pss := [[.d (.int .u8 m)]]) (es := [(.int .u8 m)]) (ss := []) (d := (.ints .u8 [m])) rfl rfl (lt_ok rfl) (by kernel_rfl) rfl rfl (.cons rfl .nil) (by simp) (le_ok rfl) (le_ok rfl) rfl (.val rfl .nil) rfl (by simp) (by simp) rfl trivial rfl rfl) ?_
    refine TL.cons rfl (Step.append (e := 5) (z := 1) (by_ := 1) (d := (.ints .u8 o)) (dy := (.ints .u8 [m])) (d' := (.ints .u8 (o ++ [m]))) (ss := []) rfl rfl (lt_ok rfl) (by kernel_rfl) rfl rfl rfl (lt_ok rfl) rfl (.copy rfl rfl rfl (by simp [D.flat, D.val])) (by simp) rfl (by simp only [D.size, List.length_map]; first | omega | (simp; omega) | (simp only [List.length_append] at *; omega)) (by simp only [D.size, List.length_map]; first | omega | (simp; omega) | (simp only [List.length_append] at *; omega)) (by simp)) ?_
    refine TL.cons rfl (Step.assign (p := (.one (.row 1011 []))) rfl rfl (lt_ok rfl) rfl) ?_
    refine TL.cons rfl (Step.assign (p := (.one (.d (.bool true)))) rfl rfl (lt_ok rfl) rfl) ?_
    refine TL.nil ?_
    refine T.ret ?_
    exact ⟨[(false, [.row 1011 []]), (false, [.d (.bool true)])], (.cons rfl (.cons rfl .nil)), rfl, [1011], (RetC.own' rfl (by first | rfl | (congr 1; unfold putVar; rw [if_pos (decide_eq_true (by assumption))]; rw [← hx3, varW_last (n := m) (by omega)]; done) | (show (putVar b n).length = 0; rw [putVar, if_neg (by rw [decide_eq_true_eq]; assumption)]; rfl) | (congr 1; symm; first | exact decide_eq_true ‹_› | exact decide_eq_false ‹_›)) rfl (RetC.rd' (by first | rfl | (congr 1; unfold putVar; rw [if_pos (decide_eq_true (by assumption))]; rw [← hx3, varW_last (n := m) (by omega)]; done) | (show (putVar b n).length = 0; rw [putVar, if_neg (by rw [decide_eq_true_eq]; assumption)]; rfl) | (congr 1; symm; first | exact decide_eq_true ‹_› | exact decide_eq_false ‹_›)) .nil))⟩
theorem ok_impl_writer__num (b : List Int) (n : Int) (h0_ : b.length ≤ 17592186044416) : BX Try.prog 110 [.bx, .rd (.one (.int .i64 n))] 136 [.own 5 (.ints .u8 b)] [.own 5 (.ints .u8 (putVar b n))] [] := by
 refine BX.intro Try.func110 rfl 16 rfl (le_ok rfl) (le_ok rfl) fun w Z IX pin hp => ?_
 refine T.bndRow 900 rfl fun hb_900 => ?_
 simp only [D.size, List.length_map] at hb_900
 refine T.region ?_
 refine TL.cons rfl (Step.move (p := (.one (.ptr 800 0))) rfl rfl (lt_ok rfl) rfl) ?_
 refine TL.cons rfl (Step.move (p := (.one (.ptr 800 0))) rfl rfl (lt_ok rfl) rfl) ?_
 refine TL.cons rfl (Step.nilCheck rfl rfl (lt_ok rfl) rfl) ?_
 refine TL.cons rfl (Step.fieldAddr (q := 0) (off := 0) (n := 1) (one := true) rfl rfl (lt_ok rfl) (by kernel_rfl) (Nat.succ_ne_zero _) rfl) ?_
 refine TL.cons rfl (Step.load_box (c := .row 900 []) rfl rfl (lt_ok rfl) (by kernel_rfl) rfl rfl rfl) ?_
 refine TL.cons rfl (Step.move (p := (.one (.d (.int .i64 n)))) rfl rfl (lt_ok rfl) rfl) ?_
 have nn1 := putVar_len b n
 refine TL.cons rfl (Step.call (f := 160) (xs := [.tmp 9, .tmp 10]) (ps := [(.one (.row 900 [])), (.one (.d (.int .i64 n)))]) false (g := .func 160) rfl rfl (lt_ok rfl) rfl (by kernel_rfl) rfl (.cons (.one (.row rfl rfl rfl rfl)) (.cons (.one (.d _)) .nil)) (ok_impl_PutVar b n (by first | omega | assumption | (simp only [List.length_append] at *; omega))) (.inr rfl) rfl (fun x hx => by have := hp x hx; omega) rfl) ?_
 refine TL.cons rfl (Step.move (p := (.tup [(false, [.row 1011 []]), (false, [.d (.bool (decide (0 ≤ n ∧ n ≤ 1152921504606846975)))])])) rfl rfl (lt_ok rfl) rfl) ?_
 refine TL.cons rfl (Step.extract (p := (.one (.row 1011 []))) rfl rfl (lt_ok rfl) rfl rfl) ?_
 refine TL.cons rfl (Step.extract (p := (.one (.d (.bool (decide (0 ≤ n ∧ n ≤ 1152921504606846975)))))) rfl rfl (lt_ok rfl) rfl rfl) ?_
 refine TL.cons rfl (Step.nilCheck rfl rfl (lt_ok rfl) rfl) ?_
 refine TL.cons rfl (Step.fieldAddr (q := 0) (off := 0) (n := 1) (one := true) rfl rfl (lt_ok rfl) (by kernel_rfl) (Nat.succ_ne_zero _) rfl) ?_
 refine TL.cons rfl (Step.store_box (n := 1) (p := (.one (.row 1011 []))) (qs := [.row 1011 []]) (ps' := [.row 1011 []]) rfl rfl (by kernel_rfl) rfl rfl rfl rfl rfl rfl (le_ok rfl) rfl) ?_
 refine TL.nil ?_
 exact ⟨[.row 1011 []], [], rfl, rfl, .nil, rfl, [1011], (RetC.own' rfl (by rfl) rfl .nil)⟩
theorem ok_impl_writer__raw (b : List Int) (x : List Int) (h0_ : b.length ≤ 17592186044416) (h1_ : x.length ≤ 17592186044416) : BX Try.prog 111 [.bx, .rd (.one (.ints .u8 x))] 136 [.own 5 (.ints .u8 b)] [.own 5 (.ints .u8 (b ++ x))] [] := by
 refine BX.intro Try.func111 rfl 13 rfl (le_ok rfl) (le_ok rfl) fun w Z IX pin hp => ?_
 refine T.bndRow 900 rfl fun hb_900 => ?_
 simp only [D.size, List.length_map] at hb_900
 refine T.bnd 1 0 rfl rfl fun hb_1_0 => ?_
 simp only [D.size, List.length_map] at hb_1_0
 refine T.region ?_
 refine TL.cons rfl (Step.move (p := (.one (.ptr 800 0))) rfl rfl (lt_ok rfl) rfl) ?_
 refine TL.cons rfl (Step.move (p := (.one (.ptr 800 0))) rfl rfl (lt_ok rfl) rfl) ?_
 refine TL.cons rfl (Step.nilCheck rfl rfl (lt_ok rfl) rfl) ?_
 refine TL.cons rfl (Step.fieldAddr (q := 0) (off := 0) (n := 1) (one := true) rfl rfl (lt_ok rfl) (by kernel_rfl) (Nat.succ_ne_zero _) rfl) ?_
 refine TL.cons rfl (Step.load_box (c := .row 900 []) rfl rfl (lt_ok rfl) (by kernel_rfl) rfl rfl rfl) ?_
 refine TL.cons rfl (Step.move (p := (.one (.d (.ints .u8 x)))) rfl rfl (lt_ok rfl) rfl) ?_
 refine TL.cons rfl (Step.append (e := 5) (z := 1) (by_ := 1) (d := (.ints .u8 b)) (dy := (.ints .u8 x)) (d' := (.ints .u8 (b ++ x))) (ss := []) rfl rfl (lt_ok rfl) (by kernel_rfl) rfl rfl rfl (lt_ok rfl) rfl (.froz rfl (by simp [D.flat, D.val])) (by simp) rfl (by simp only [D.size, List.length_map]; first | omega | (simp; omega) | (simp only [List.length_append] at *; omega)) (by simp only [D.size, List.length_map]; first | omega | (simp; omega) | (simp only [List.length_append] at *; omega)) (fun x hx => by have := hp x hx; omega)) ?_
 refine TL.cons rfl (Step.nilCheck rfl rfl (lt_ok rfl) rfl) ?_
 refine TL.cons rfl (Step.fieldAddr (q := 0) (off := 0) (n := 1) (one := true) rfl rfl (lt_ok rfl) (by kernel_rfl) (Nat.succ_ne_zero _) rfl) ?_
 refine TL.cons rfl (Step.store_box (n := 1) (p := (.one (.row 900 []))) (qs := [.row 900 []]) (ps' := [.row 900 []]) rfl rfl (by kernel_rfl) rfl rfl rfl rfl rfl rfl (le_ok rfl) rfl) ?_
 refine TL.nil ?_
 exact ⟨[.row 900 []], [], rfl, rfl, .nil, rfl, [900], (RetC.own' rfl (by rfl) rfl .nil)⟩
theorem ok_impl_PutTc (l : SLimits) (b : List Int) (t : STc) (h0_ : b.length ≤ 549755813888) (h1_ : t.sm) : RO Try.prog 52 [.agg l.cells, .one (.ints .u8 b), .agg t.cells] [(false, [.own 5 (.ints .u8 (putTc l b t))]), (false, [.rd (.bool (tcOk l t))])] := by
 refine RO.intro Try.func52 rfl 52 rfl (le_ok rfl) fun w Z => ?_
 refine T.bnd 1 0 rfl rfl fun hb_1_0 => ?_
 simp only [D.size, List.length_map] at hb_1_0
 refine T.bnd 2 1 rfl rfl fun hb_2_1 => ?_
 simp only [D.size, List.length_map] at hb_2_1
 have s0 : t.f1.length ≤ 1048576 ∧ ∀ y ∈ t.f1, SEntry.sm y := h1_
 refine T.seq ?_
 refine T.region ?_
 refine TL.cons rfl (Step.box (p := (.agg [.d (.int .i64 l.f0), .d (.int .i64 l.f1), .d (.int .i64 l.f2), .d (.int .i64 l.f3), .d (.int .i64 l.f4)])) (ps := [.d (.int .i64 l.f0), .d (.int .i64 l.f1), .d (.int .i64 l.f2), .d (.int .i64 l.f3), .d (.int .i64 l.f4)]) rfl rfl (lt_ok rfl) rfl rfl rfl rfl rfl) ?_
 refine TL.cons rfl (Step.box (p := (.agg [.d (.int .i64 t.f0), .d (.sl 3 (t.f1.map SEntry.cells))])) (ps := [.d (.int .i64 t.f0), .d (.sl 3 (t.f1.map SEntry.cells))]) rfl rfl (lt_ok rfl) rfl rfl rfl rfl rfl) ?_
 refine TL.cons rfl (Step.assign (p := (.one (.nil))) rfl rfl (lt_ok rfl) rfl) ?_
 refine TL.cons rfl (Step.assign (p := (.one (.d (.bool false)))) rfl rfl (lt_ok rfl) rfl) ?_
 refine TL.nil ?_
 refine T.seq ?_
 refine T.seq ?_
 refine T.region ?_
 refine TL.cons rfl (Step.load_box_agg (n := 5) (qs := [.d (.int .i64 l.f0), .d (.int .i64 l.f1), .d (.int .i64 l.f2), .d (.int .i64 l.f3), .d (.int .i64 l.f4)]) rfl rfl (lt_ok rfl) (by kernel_rfl) rfl rfl rfl rfl) ?_
 refine TL.cons rfl (Step.load_box_agg (n := 2) (qs := [.d (.int .i64 t.f0), .d (.sl 3 (t.f1.map SEntry.cells))]) rfl rfl (lt_ok rfl) (by kernel_rfl) rfl rfl rfl rfl) ?_
 refine TL.cons rfl (Step.call (f := 90) (xs := [.tmp 11, .tmp 12]) (ps := [(.agg [.d (.int .i64 l.f0), .d (.int .i64 l.f1), .d (.int .i64 l.f2), .d (.int .i64 l.f3), .d (.int .i64 l.f4)]), (.agg [.d (.int .i64 t.f0), .d (.sl 3 (t.f1.map SEntry.cells))])]) false (g := .func 90) rfl rfl (lt_ok rfl) rfl (by kernel_rfl) rfl (.cons (.agg (.cons (.d _) (.cons (.d _) (.cons (.d _) (.cons (.d _) (.cons (.d _) .nil)))))) (.cons (.agg (.cons (.d _) (.cons (.d _) .nil))) .nil)) (ok_impl_TcOk l t) (.inr rfl) rfl (by simp) rfl) ?_
 refine TL.cons rfl (Step.not (b := (tcOk l t)) rfl rfl (lt_ok rfl) rfl) ?_
 refine TL.nil ?_
 refine T.cond (b := !(tcOk l t)) rfl (fun h1 => ?_) (fun h1 => ?_)
 ·
  replace h1 : (tcOk l t) = false := by simpa only [Bool.not_eq_true', Bool.not_eq_false'] using h1
  refine T.seq ?_
  refine T.region ?_
  refine TL.cons rfl (Step.assign (p := (.one (.nil))) rfl rfl (lt_ok rfl) rfl) ?_
  refine TL.cons rfl (Step.assign (p := (.one (.d (.bool false)))) rfl rfl (lt_ok rfl) rfl) ?_
  refine TL.nil ?_
  refine T.ret ?_
  exact ⟨[(false, [.nil]), (false, [.d (.bool false)])], (.cons rfl (.cons rfl .nil)), rfl, [], (RetC.nilown' rfl (by first | rfl | (congr 1; unfold putTc putTcB; rw [if_pos (by assumption), ← foldl_all entB _ t.f1 i (by omega)]) | (show (putTc l b t).length = 0; unfold putTc; rw [if_neg (by simp [*])]; rfl) | (congr 1; symm; assumption)) (by first | exact trivial | exact D.wf_nil _) (RetC.rd' (by first | rfl | (congr 1; unfold putTc putTcB; rw [if_pos (by assumption), ← foldl_all entB _ t.f1 i (by omega)]) | (show (putTc l b t).length = 0; unfold putTc; rw [if_neg (by simp [*])]; rfl) | (congr 1; symm; assumption)) .nil))⟩
 ·
  replace h1 : (tcOk l t) = true := by simpa only [Bool.not_eq_true', Bool.not_eq_false'] using h1
  refine T.skip ?_
  refine T.seq ?_
  refine T.region ?_
  refine TL.cons rfl (Step.move (p := (.one (.d (.ints .u8 b)))) rfl rfl (lt_ok rfl) rfl) ?_
  refine TL.cons rfl (Step.call (f := 83) (xs := [.tmp 15]) (ps := [(.one (.d (.ints .u8 b)))]) false (g := .func 83) rfl rfl (lt_ok rfl) rfl (by kernel_rfl) rfl (.cons (.one (.d _)) .nil) (ok_impl_copyBytes b (by first | omega | assumption)) (.inr rfl) rfl (by simp) rfl) ?_
  refine TL.cons rfl (Step.build (zs := [.slice none 0 0]) (places := [(0, 1)]) (pss := [(0, [.row 1016 []])]) (ps' := [.row 1016 []]) rfl rfl (lt_ok rfl) (by kernel_rfl) (.cons ⟨rfl, rfl⟩ .nil) rfl rfl rfl) ?_
  refine TL.cons rfl (Step.box (p := (.agg [.row 1016 []])) (ps := [.row 1016 []]) rfl rfl (lt_ok rfl) rfl rfl rfl rfl rfl) ?_
  refine TL.cons rfl (Step.assign (p := (.one (.ptr 18 0))) rfl rfl (lt_ok rfl) rfl) ?_
  refine TL.nil ?_
  refine T.seq ?_
  refine T.region ?_
  refine TL.cons rfl (Step.move (p := (.one (.ptr 18 0))) rfl rfl (lt_ok rfl) rfl) ?_
  refine TL.cons rfl (Step.fieldAddr (q := 0) (off := 0) (n := 1) (one := true) rfl rfl (lt_ok rfl) (by kernel_rfl) (Nat.succ_ne_zero _) rfl) ?_
  refine TL.cons rfl (Step.load_box (c := .d (.int .i64 t.f0)) rfl rfl (lt_ok rfl) (by kernel_rfl) rfl rfl rfl) ?_
  have nn2 := putVar_len b t.f0
  refine TL.cons rfl (Step.callX (f := 110) (b := 18) (T := 136) (xs := [.tmp 19, .tmp 21]) (ps := [(.one (.ptr 18 0)), (.one (.d (.int .i64 t.f0)))]) (args := [.bx, .rd (.one (.int .i64 t.f0))]) (bps := [.row 1016 []]) (cs := [.own 5 (.ints .u8 b)]) (cs' := [.own 5 (.ints .u8 (putVar b t.f0))]) (res := []) (ss := [1016]) (g := .func 110) rfl rfl (lt_ok rfl) rfl (by kernel_rfl) rfl (.cons (.bx) (.cons (.rd (.one (.d _))) .nil)) rfl (.own rfl (by simp) .nil) (ok_impl_writer__num b t.f0 (by first | omega | assumption | (simp only [List.length_append] at *; omega))) rfl rfl (by simp) rfl) ?_
  refine TL.ren 1022 101800 rfl (by simp) ?_
  refine TL.nil ?_
  refine T.seq ?_
  refine T.region ?_
  refine TL.cons rfl (Step.move (p := (.one (.ptr 18 0))) rfl rfl (lt_ok rfl) rfl) ?_
  refine TL.cons rfl (Step.fieldAddr (q := 0) (off := 1) (n := 1) (one := true) rfl rfl (lt_ok rfl) (by kernel_rfl) (Nat.succ_ne_zero _) rfl) ?_
  refine TL.cons rfl (Step.load_box (c := .d (.sl 3 (t.f1.map SEntry.cells))) rfl rfl (lt_ok rfl) (by kernel_rfl) rfl rfl rfl) ?_
  refine TL.cons rfl (Step.len' (e := 121) (z := 3) (d := (.sl 3 (t.f1.map SEntry.cells))) (n := t.f1.length) rfl rfl (lt_ok rfl) (by kernel_rfl) rfl rfl (by simp [D.size])) ?_
  have nn3 := putVar_len (putVar b t.f0) (t.f1.length : Int)
  refine TL.cons rfl (Step.callX (f := 110) (b := 18) (T := 136) (xs := [.tmp 23, .tmp 26]) (ps := [(.one (.ptr 18 0)), (.one (.d (.int .i64 (t.f1.length : Int))))]) (args := [.bx, .rd (.one (.int .i64 (t.f1.length : Int)))]) (bps := [.row 101800 []]) (cs := [.own 5 (.ints .u8 (putVar b t.f0))]) (cs' := [.own 5 (.ints .u8 (putVar (putVar b t.f0) (t.f1.length : Int)))]) (res := []) (ss := [101800]) (g := .func 110) rfl rfl (lt_ok rfl) rfl (by kernel_rfl) rfl (.cons (.bx) (.cons (.rd (.one (.d _))) .nil)) rfl (.own rfl (by simp) .nil) (ok_impl_writer__num (putVar b t.f0) (t.f1.length : Int) (by first | omega | assumption | (simp only [List.length_append] at *; omega))) rfl rfl (by simp) rfl) ?_
  refine TL.ren 1027 101800 rfl (by simp) ?_
  refine TL.nil ?_
  refine T.seq ?_
  refine T.seq ?_
  refine T.region ?_
  refine TL.cons rfl (Step.fieldAddr (q := 0) (off := 1) (n := 1) (one := true) rfl rfl (lt_ok rfl) (by kernel_rfl) (Nat.succ_ne_zero _) rfl) ?_
  refine TL.cons rfl (Step.load_box (c := .d (.sl 3 (t.f1.map SEntry.cells))) rfl rfl (lt_ok rfl) (by kernel_rfl) rfl rfl rfl) ?_
  refine TL.cons rfl (Step.len' (e := 121) (z := 3) (d := (.sl 3 (t.f1.map SEntry.cells))) (n := t.f1.length) rfl rfl (lt_ok rfl) (by kernel_rfl) rfl rfl (by simp [D.size])) ?_
  refine TL.cons rfl (Step.move (p := (.one (.d (.int .i64 0)))) rfl rfl (lt_ok rfl) rfl) ?_
  refine TL.nil ?_
  refine T.block ?_
  refine T.loop (ι := Nat) (fun xx_ => { tm := [(6, (.one (.nil))), (7, (.one (.d (.bool false)))), (8, (.one (.ptr 18 0))), (29, (.one (.d (.sl 3 (t.f1.map SEntry.cells))))), (30, (.one (.d (.int .i64 (t.f1.length : Int))))), (31, (.one (.d (.int .i64 (xx_ : Int)))))], rows := [(101800, (5, (.ints .u8 ((t.f1.take xx_).foldl entB (putVar (putVar b t.f0) (t.f1.length : Int))))))], boxes := [(3, (44, [.d (.int .i64 l.f0), .d (.int .i64 l.f1), .d (.int .i64 l.f2), .d (.int .i64 l.f3), .d (.int .i64 l.f4)])), (5, (48, [.d (.int .i64 t.f0), .d (.sl 3 (t.f1.map SEntry.cells))])), (18, (136, [.row 101800 []]))] }) (fun xx_ => xx_ ≤ t.f1.length) (fun xx_ => t.f1.length - xx_) 0 ?_ ?_ ?_
  · exact Env.le_mk ⟨rfl, rfl, rfl, rfl, rfl, by first | (refine congrArg (fun x => some (_, D.ints .u8 x)) ?_; first | (rw [foldl_take_succ entB _ _ i default (by omega)]; rfl) | rfl) | rfl | (refine congrArg (fun n => PV.one (.d (.int .i64 n))) ?_; first | omega | (simp; done)), trivial⟩ ⟨by first | (refine congrArg (fun x => some (_, D.ints .u8 x)) ?_; first | (rw [foldl_take_succ entB _ _ i default (by omega)]; rfl) | rfl) | rfl | (refine congrArg (fun n => PV.one (.d (.int .i64 n))) ?_; first | omega | (simp; done)), trivial⟩ ⟨rfl, rfl, rfl, trivial⟩
  · exact Nat.zero_le _
  ·
   intro i hx
   try dsimp only at hx ⊢
   have hw_ := ents_len (b := putVar (putVar b t.f0) (t.f1.length : Int)) s0.1 s0.2 i
   have hy_ := ent_sm s0.2 i
   refine T.seq ?_
   refine T.region ?_
   refine TL.cons rfl (Step.bin rfl rfl (lt_ok rfl) rfl rfl (Bin.lss (k := .i64) (a := (i : Int)) (b := (t.f1.length : Int)))) ?_
   refine TL.nil ?_
   refine T.seq ?_
   refine T.cond (b := decide ((i : Int) < (t.f1.length : Int))) rfl (fun h4 => ?_) (fun h4 => ?_)
   ·
    replace h4 := of_decide_eq_true h4
    refine T.skip ?_
    refine T.seq ?_
    refine T.block ?_
    refine T.seq ?_
    refine T.region ?_
    refine TL.cons rfl (Step.index (e := 121) (z := 3) (i := (i : Int)) rfl rfl (lt_ok rfl) (by kernel_rfl) rfl rfl rfl (lt_ok rfl) rfl (by first | omega | (simp only [List.length_append] at *; omega) | (simp; omega)) (by simp only [D.size]; first | omega | (simp only [List.length_append] at *; omega) | (simp; omega))) ?_
    refine TL.cons rfl (Step.load_agg (n := 3) (cs := [.d (.int .i64 (t.f1.getD i default).f0), .d (.int .i64 (t.f1.getD i default).f1), .d (.ints .u8 (t.f1.getD i default).f2)]) rfl rfl (lt_ok rfl) (by kernel_rfl) rfl rfl (by simp only [List.range, List.range.loop, List.map_cons, List.map_nil]; rw [cell_map default (by first | omega | (simp only [List.length_append] at *; omega) | (simp; omega)), cell_map default (by first | omega | (simp only [List.length_append] at *; omega) | (simp; omega)), cell_map default (by first | omega | (simp only [List.length_append] at *; omega) | (simp; omega))]; rfl)) ?_
    refine TL.cons rfl (Step.alloc (cs := [.int .i64 0, .int .i64 0, .slice none 0 0]) (ps := [.d (.int .i64 0), .d (.int .i64 0), .nil]) rfl rfl (lt_ok rfl) (by kernel_rfl) rfl rfl rfl rfl) ?_
    refine TL.cons rfl (Step.store_box (n := 3) (p := (.agg [.d (.int .i64 (t.f1.getD i default).f0), .d (.int .i64 (t.f1.getD i default).f1), .d (.ints .u8 (t.f1.getD i default).f2)])) (qs := [.d (.int .i64 (t.f1.getD i default).f0), .d (.int .i64 (t.f1.getD i default).f1), .d (.ints .u8 (t.f1.getD i default).f2)]) (ps' := [.d (.int .i64 (t.f1.getD i default).f0), .d (.int .i64 (t.f1.getD i default).f1), .d (.ints .u8 (t.f1.getD i default).f2)]) rfl rfl (by kernel_rfl) rfl rfl rfl rfl rfl rfl (le_ok rfl) rfl) ?_
    refine TL.nil ?_
    refine T.seq ?_
    refine T.region ?_
    refine TL.cons rfl (Step.move (p := (.one (.ptr 18 0))) rfl rfl (lt_ok rfl) rfl) ?_
    refine TL.cons rfl (Step.fieldAddr (q := 0) (off := 0) (n := 1) (one := true) rfl rfl (lt_ok rfl) (by kernel_rfl) (Nat.succ_ne_zero _) rfl) ?_
    refine TL.cons rfl (Step.load_box (c := .d (.int .i64 (t.f1.getD i default).f0)) rfl rfl (lt_ok rfl) (by kernel_rfl) rfl rfl rfl) ?_
    have nn5 := putVar_len ((t.f1.take i).foldl entB (putVar (putVar b t.f0) (t.f1.length : Int))) (t.f1.getD i default).f0
    refine TL.cons rfl (Step.callX (f := 110) (b := 18) (T := 136) (xs := [.tmp 35, .tmp 37]) (ps := [(.one (.ptr 18 0)), (.one (.d (.int .i64 (t.f1.getD i default).f0)))]) (args := [.bx, .rd (.one (.int .i64 (t.f1.getD i default).f0))]) (bps := [.row 101800 []]) (cs := [.own 5 (.ints .u8 ((t.f1.take i).foldl entB (putVar (putVar b t.f0) (t.f1.length : Int))))]) (cs' := [.own 5 (.ints .u8 (putVar ((t.f1.take i).foldl entB (putVar (putVar b t.f0) (t.f1.length : Int))) (t.f1.getD i default).f0))]) (res := []) (ss := [101800]) (g := .func 110) rfl rfl (lt_ok rfl) rfl (by kernel_rfl) rfl (.cons (.bx) (.cons (.rd (.one (.d _))) .nil)) rfl (.own rfl (by simp) .nil) (ok_impl_writer__num ((t.f1.take i).foldl entB (putVar (putVar b t.f0) (t.f1.length : Int))) (t.f1.getD i default).f0 (by first | omega | assumption | (simp only [List.length_append] at *; omega))) rfl rfl (by simp) rfl) ?_
    refine TL.ren 1038 101800 rfl (by simp) ?_
    refine TL.nil ?_
    refine T.seq ?_
    refine T.region ?_
    refine TL.cons rfl (Step.move (p := (.one (.ptr 18 0))) rfl rfl (lt_ok rfl) rfl) ?_
    refine TL.cons rfl (Step.fieldAddr (q := 0) (off := 1) (n := 1) (one := true) rfl rfl (lt_ok rfl) (by kernel_rfl) (Nat.succ_ne_zero _) rfl) ?_
    refine TL.cons rfl (Step.load_box (c := .d (.int .i64 (t.f1.getD i default).f1)) rfl rfl (lt_ok rfl) (by kernel_rfl) rfl rfl rfl) ?_
    have nn6 := putVar_len (putVar ((t.f1.take i).foldl entB (putVar (putVar b t.f0) (t.f1.length : Int))) (t.f1.getD i default).f0) (t.f1.getD i default).f1
    refine TL.cons rfl (Step.callX (f := 110) (b := 18) (T := 136) (xs := [.tmp 39, .tmp 41]) (ps := [(.one (.ptr 18 0)), (.one (.d (.int .i64 (t.f1.getD i default).f1)))]) (args := [.bx, .rd (.one (.int .i64 (t.f1.getD i default).f1))]) (bps := [.row 101800 []]) (cs := [.own 5 (.ints .u8 (putVar ((t.f1.take i).foldl entB (putVar (putVar b t.f0) (t.f1.length : Int))) (t.f1.getD i default).f0))]) (cs' := [.own 5 (.ints .u8 (putVar (putVar ((t.f1.take i).foldl entB (putVar (putVar b t.f0) (t.f1.length : Int))) (t.f1.getD i default).f0) (t.f1.getD i default).f1))]) (res := []) (ss := [101800]) (g := .func 110) rfl rfl (lt_ok rfl) rfl (by kernel_rfl) rfl (.cons (.bx) (.cons (.rd (.one (.d _))) .nil)) rfl (.own rfl (by simp) .nil) (ok_impl_writer__num (putVar ((t.f1.take i).foldl entB (putVar (putVar b t.f0) (t.f1.length : Int))) (t.f1.getD i default).f0) (t.f1.getD i default).f1 (by first | omega | assumption | (simp only [List.length_append] at *; omega))) rfl rfl (by simp) rfl) ?_
    refine TL.ren 1042 101800 rfl (by simp) ?_
    refine TL.nil ?_
    refine T.region ?_
    refine TL.cons rfl (Step.move (p := (.one (.ptr 18 0))) rfl rfl (lt_ok rfl) rfl) ?_
    refine TL.cons rfl (Step.fieldAddr (q := 0) (off := 2) (n := 1) (one := true) rfl rfl (lt_ok rfl) (by kernel_rfl) (Nat.succ_ne_zero _) rfl) ?_
    refine TL.cons rfl (Step.load_box (c := .d (.ints .u8 (t.f1.getD i default).f2)) rfl rfl (lt_ok rfl) (by kernel_rfl) rfl rfl rfl) ?_
    refine TL.cons rfl (Step.callX (f := 111) (b := 18) (T := 136) (xs := [.tmp 43, .tmp 45]) (ps := [(.one (.ptr 18 0)), (.one (.d (.ints .u8 (t.f1.getD i default).f2)))]) (args := [.bx, .rd (.one (.ints .u8 (t.f1.getD i default).f2))]) (bps := [.row 101800 []]) (cs := [.own 5 (.ints .u8 (putVar (putVar ((t.f1.take i).foldl entB (putVar (putVar b t.f0) (t.f1.length : Int))) (t.f1.getD i default).f0) (t.f1.getD i default).f1))]) (cs' := [.own 5 (.ints .u8 ((putVar (putVar ((t.f1.take i).foldl entB (putVar (putVar b t.f0) (t.f1.length : Int))) (t.f1.getD i default).f0) (t.f1.getD i default).f1) ++ (t.f1.getD i default).f2))]) (res := []) (ss := [101800]) (g := .func 111) rfl rfl (lt_ok rfl) rfl (by kernel_rfl) rfl (.cons (.bx) (.cons (.rd (.one (.d _))) .nil)) rfl (.own rfl (by simp) .nil) (ok_impl_writer__raw (putVar (putVar ((t.f1.take i).foldl entB (putVar (putVar b t.f0) (t.f1.length : Int))) (t.f1.getD i default).f0) (t.f1.getD i default).f1) (t.f1.getD i default).f2 (by first | omega | assumption | (simp only [List.length_append] at *; omega)) (by first | omega | assumption | (simp only [List.length_append] at *; omega))) rfl rfl (by simp) rfl) ?_
    refine TL.ren 1046 101800 rfl (by simp) ?_
    refine TL.nil ?_
    refine T.region ?_
    refine TL.cons rfl (Step.bin (r := .int .i64 ((i : Int) + 1)) rfl rfl (lt_ok rfl) rfl rfl (Bin.add (a := (i : Int)) (b := 1) (by first | exact wrap_ok (by first | omega | (simp only [List.length_append] at *; omega) | (simp; omega)) (by first | omega | (simp only [List.length_append] at *; omega) | (simp; omega)) | rfl))) ?_
    refine TL.cons rfl (Step.move (p := (.one (.d (.int .i64 ((i : Int) + 1))))) rfl rfl (lt_ok rfl) rfl) ?_
    refine TL.nil ?_
    exact ⟨i + 1, by omega, by first | omega | (dsimp only; omega), Env.le_mk ⟨rfl, rfl, rfl, rfl, rfl, by first | (refine congrArg (fun x => some (_, D.ints .u8 x)) ?_; first | (rw [foldl_take_succ entB _ _ i default (by omega)]; rfl) | rfl) | rfl | (refine congrArg (fun n => PV.one (.d (.int .i64 n))) ?_; first | omega | (simp; done)), trivial⟩ ⟨by first | (refine congrArg (fun x => some (_, D.ints .u8 x)) ?_; first | (rw [foldl_take_succ entB _ _ i default (by omega)]; rfl) | rfl) | rfl | (refine congrArg (fun n => PV.one (.d (.int .i64 n))) ?_; first | omega | (simp; done)), trivial⟩ ⟨rfl, rfl, rfl, trivial⟩⟩
   ·
    replace h4 := of_decide_eq_false h4
    refine T.exit ?_
    refine T.seq ?_
    refine T.region ?_
    refine TL.cons rfl (Step.move (p := (.one (.ptr 18 0))) rfl rfl (lt_ok rfl) rfl) ?_
    refine TL.cons rfl (Step.nilCheck rfl rfl (lt_ok rfl) rfl) ?_
    refine TL.cons rfl (Step.fieldAddr (q := 0) (off := 0) (n := 1) (one := true) rfl rfl (lt_ok rfl) (by kernel_rfl) (Nat.succ_ne_zero _) rfl) ?_
    refine TL.cons rfl (Step.load_box (c := .row 101800 []) rfl rfl (lt_ok rfl) (by kernel_rfl) rfl rfl rfl) ?_
    refine TL.cons rfl (Step.assign (p := (.one (.row 101800 []))) rfl rfl (lt_ok rfl) rfl) ?_
    refine TL.cons rfl (Step.assign (p := (.one (.d (.bool true)))) rfl rfl (lt_ok rfl) rfl) ?_
    refine TL.nil ?_
    refine T.ret ?_
    exact ⟨[(false, [.row 101800 []]), (false, [.d (.bool true)])], (.cons rfl (.cons rfl .nil)), rfl, [101800], (RetC.own' rfl (by first | rfl | (congr 1; unfold putTc putTcB; rw [if_pos (by assumption), ← foldl_all entB _ t.f1 i (by omega)]) | (show (putTc l b t).length = 0; unfold putTc; rw [if_neg (by simp [*])]; rfl) | (congr 1; symm; assumption)) rfl (RetC.rd' (by first | rfl | (congr 1; unfold putTc putTcB; rw [if_pos (by assumption), ← foldl_all entB _ t.f1 i (by omega)]) | (show (putTc l b t).length = 0; unfold putTc; rw [if_neg (by simp [*])]; rfl) | (congr 1; symm; assumption)) .nil))⟩
theorem ok_laws_FnExactPutTc (aL : SLimits) (aB : List Int) (aT : STc) (h0_ : aL.ok) (h1_ : U8s aB) (h2_ : aT.ok) : RO Try.prog 8 [.agg aL.cells, .one (.ints .u8 aB), .agg aT.cells] [(false, [.rd (.bool true)])] := by
 refine RO.intro Try.func8 rfl 125 rfl (le_ok rfl) fun w Z => ?_
 refine T.bnd 1 0 rfl rfl fun hb_1_0 => ?_
 simp only [D.size, List.length_map] at hb_1_0
 refine T.seq ?_
 refine T.region ?_
 refine TL.cons rfl (Step.box (p := (.agg [.d (.int .i64 aL.f0), .d (.int .i64 aL.f1), .d (.int .i64 aL.f2), .d (.int .i64 aL.f3), .d (.int .i64 aL.f4)])) (ps := [.d (.int .i64 aL.f0), .d (.int .i64 aL.f1), .d (.int .i64 aL.f2), .d (.int .i64 aL.f3), .d (.int .i64 aL.f4)]) rfl rfl (lt_ok rfl) rfl rfl rfl rfl rfl) ?_
 refine TL.cons rfl (Step.box (p := (.agg [.d (.int .i64 aT.f0), .d (.sl 3 (aT.f1.map SEntry.cells))])) (ps := [.d (.int .i64 aT.f0), .d (.sl 3 (aT.f1.map SEntry.cells))]) rfl rfl (lt_ok rfl) rfl rfl rfl rfl rfl) ?_
 refine TL.cons rfl (Step.assign (p := (.one (.d (.bool false)))) rfl rfl (lt_ok rfl) rfl) ?_
 refine TL.nil ?_
 refine T.seq ?_
 refine T.seq ?_
 refine T.region ?_
 refine TL.cons rfl (Step.move (p := (.one (.d (.ints .u8 aB)))) rfl rfl (lt_ok rfl) rfl) ?_
 refine TL.cons rfl (Step.len (e := 5) (z := 1) (d := (.ints .u8 aB)) rfl rfl (lt_ok rfl) (by kernel_rfl) rfl rfl) ?_
 refine TL.cons rfl (Step.bin rfl rfl (lt_ok rfl) rfl rfl (Bin.gtr (k := .i64) (a := (aB.length : Int)) (b := 1048576))) ?_
 refine TL.nil ?_
 refine T.cond (b := decide (1048576 < (aB.length : Int))) rfl (fun h1 => ?_) (fun h1 => ?_)
 ·
  replace h1 := of_decide_eq_true h1
  refine T.seq ?_
  refine T.region ?_
  refine TL.cons rfl (Step.assign (p := (.one (.d (.bool true)))) rfl rfl (lt_ok rfl) rfl) ?_
  refine TL.nil ?_
  refine T.ret ?_
  exact ⟨[(false, [.d (.bool true)])], (.cons rfl .nil), rfl, [], (RetC.rd' (by rfl) .nil)⟩
 ·
  replace h1 := of_decide_eq_false h1
  refine T.skip ?_
  refine T.seq ?_
  refine T.region ?_
  refine TL.cons rfl (Step.assign (p := (.one (.d (.int .i64 1048576)))) rfl rfl (lt_ok rfl) rfl) ?_
  refine TL.nil ?_
  refine T.seq ?_
  refine T.region ?_
  refine TL.cons rfl (Step.load_box_agg (n := 2) (qs := [.d (.int .i64 aT.f0), .d (.sl 3 (aT.f1.map SEntry.cells))]) rfl rfl (lt_ok rfl) (by kernel_rfl) rfl rfl rfl rfl) ?_
  refine TL.cons rfl (Step.move (p := (.one (.d (.int .i64 1048576)))) rfl rfl (lt_ok rfl) rfl) ?_
  refine TL.cons rfl (Step.call (f := 24) (xs := [.tmp 22, .tmp 23]) (ps := [(.agg [.d (.int .i64 aT.f0), .d (.sl 3 (aT.f1.map SEntry.cells))]), (.one (.d (.int .i64 1048576)))]) false (g := .func 24) rfl rfl (lt_ok rfl) rfl (by kernel_rfl) rfl (.cons (.agg (.cons (.d _) (.cons (.d _) .nil))) (.cons (.one (.d _)) .nil)) (ok_laws_szTc aT 1048576 (by omega) (by omega)) (.inr rfl) rfl (by simp) rfl) ?_
  refine TL.cons rfl (Step.assign (p := (.one (.d (.int .i64 (aT.sz 1048576))))) rfl rfl (lt_ok rfl) rfl) ?_
  refine TL.nil ?_
  refine T.seq ?_
  refine T.seq ?_
  refine T.region ?_
  refine TL.cons rfl (Step.move (p := (.one (.d (.int .i64 (aT.sz 1048576))))) rfl rfl (lt_ok rfl) rfl) ?_
  refine TL.cons rfl (Step.bin rfl rfl (lt_ok rfl) rfl rfl (Bin.lss (k := .i64) (a := (aT.sz 1048576)) (b := 0))) ?_
  refine TL.nil ?_
  refine T.cond (b := decide ((aT.sz 1048576) < 0)) rfl (fun h3 => ?_) (fun h3 => ?_)
  ·
   replace h3 := of_decide_eq_true h3
   refine T.seq ?_
   refine T.region ?_
   refine TL.cons rfl (Step.assign (p := (.one (.d (.bool true)))) rfl rfl (lt_ok rfl) rfl) ?_
   refine TL.nil ?_
   refine T.ret ?_
   exact ⟨[(false, [.d (.bool true)])], (.cons rfl .nil), rfl, [], (RetC.rd' (by rfl) .nil)⟩
  ·
   replace h3 := of_decide_eq_false h3
   have z2_le : aT.sz 1048576 ≤ 1048576 := STc.sz_le _ (by omega)
   have z2_sm := STc.sz_sm _ (by omega : (0 : Int) ≤ 1048576) (by omega : (1048576 : Int) ≤ 1048576) (by omega : (0 : Int) ≤ aT.sz 1048576)
   refine T.skip ?_
   refine T.seq ?_
   have nn4 := @putTc_len aL aB aT (by assumption)
   refine T.draw [⟨28, (.agg [.d (.int .i64 aL.f0), .d (.int .i64 aL.f1), .d (.int .i64 aL.f2), .d (.int .i64 aL.f3), .d (.int .i64 aL.f4)]), []⟩, ⟨29, (.agg [.d (.int .i64 aL.f0), .d (.int .i64 aL.f1), .d (.int .i64 aL.f2), .d (.int .i64 aL.f3), .d (.int .i64 aL.f4)]), []⟩, ⟨30, (.one (.d (.ints .u8 aB))), []⟩, ⟨31, (.one (.row 1031 [])), [(1031, (5, (.ints .u8 aB)))]⟩, ⟨32, (.agg [.d (.int .i64 aT.f0), .d (.sl 3 (aT.f1.map SEntry.cells))]), []⟩, ⟨33, (.agg [.d (.int .i64 aT.f0), .row 2033 []]), [(2033, (121, (.sl 3 (aT.f1.map SEntry.cells))))]⟩, ⟨34, (.tup [(false, [.row 1034 []]), (false, [.d (.bool (tcOk aL aT))])]), [(1034, (5, (.ints .u8 (putTc aL aB aT))))]⟩, ⟨27, (.tup [(false, [.row 1034 []]), (false, [.d (.bool (tcOk aL aT))])]), []⟩, ⟨35, (.one (.row 1034 [])), []⟩, ⟨36, (.one (.d (.bool (tcOk aL aT)))), []⟩, ⟨8, (.one (.row 1034 [])), []⟩, ⟨9, (.one (.d (.bool (tcOk aL aT)))), []⟩] (by kernel_rfl) (by kernel_rfl) ?_ ?_
   ·
    refine .cons (fun E hA_ => by have g3 := hA_.get 3 (by decide); exact OpStep.plain rfl (Step.load_box_agg (n := 5) (qs := [.d (.int .i64 aL.f0), .d (.int .i64 aL.f1), .d (.int .i64 aL.f2), .d (.int .i64 aL.f3), .d (.int .i64 aL.f4)]) (t := 28) rfl rfl (by exact lt_ok rfl) (by kernel_rfl) (show Env.ev E (.tmp 3) = _ from g3.trans rfl) (by exact hA_.box rfl) rfl rfl)) ?_
    refine .cons (fun E hA_ => by have g28 := hA_.get 28 (by decide); exact OpStep.plain rfl (Step.call (f := 26) (xs := [.tmp 28]) (ps := [(.agg [.d (.int .i64 aL.f0), .d (.int .i64 aL.f1), .d (.int .i64 aL.f2), .d (.int .i64 aL.f3), .d (.int .i64 aL.f4)])]) false (g := .func 26) (t := 29) rfl rfl (by exact lt_ok rfl) rfl (by kernel_rfl) (evs_cons (show Env.ev E (.tmp 28) = _ from g28.trans rfl) (rfl)) (.cons (.agg (.cons (.d _) (.cons (.d _) (.cons (.d _) (.cons (.d _) (.cons (.d _) .nil)))))) .nil) (ok_laws_toLimits aL) (.inr rfl) (At.freshRows hA_ rfl) (by simp) rfl)) ?_
    refine .cons (fun E hA_ => by have g1 := hA_.get 1 (by decide); exact OpStep.plain rfl (Step.move (p := (.one (.d (.ints .u8 aB)))) (t := 30) rfl rfl (by exact lt_ok rfl) (show Env.ev E (.tmp 1) = _ from g1.trans rfl))) ?_
    refine .cons (fun E hA_ => by have g30 := hA_.get 30 (by decide); exact OpStep.plain rfl (Step.call (f := 49) (xs := [.tmp 30]) (ps := [(.one (.d (.ints .u8 aB)))]) false (g := .func 49) (t := 31) rfl rfl (by exact lt_ok rfl) rfl (by kernel_rfl) (evs_cons (show Env.ev E (.tmp 30) = _ from g30.trans rfl) (rfl)) (.cons (.one (.d _)) .nil) (ok_laws_toByteS aB (by first | omega | assumption | exact mem_getD h0_.2 (by omega))) (.inr rfl) (At.freshRows hA_ rfl) (by simp) rfl)) ?_
    refine .cons (fun E hA_ => by have g5 := hA_.get 5 (by decide); exact OpStep.plain rfl (Step.load_box_agg (n := 2) (qs := [.d (.int .i64 aT.f0), .d (.sl 3 (aT.f1.map SEntry.cells))]) (t := 32) rfl rfl (by exact lt_ok rfl) (by kernel_rfl) (show Env.ev E (.tmp 5) = _ from g5.trans rfl) (by exact hA_.box rfl) rfl rfl)) ?_
    refine .cons (fun E hA_ => by have g32 := hA_.get 32 (by decide); exact OpStep.plain rfl (Step.call (f := 27) (xs := [.tmp 32]) (ps := [(.agg [.d (.int .i64 aT.f0), .d (.sl 3 (aT.f1.map SEntry.cells))])]) false (g := .func 27) (t := 33) rfl rfl (by exact lt_ok rfl) rfl (by kernel_rfl) (evs_cons (show Env.ev E (.tmp 32) = _ from g32.trans rfl) (rfl)) (.cons (.agg (.cons (.d _) (.cons (.d _) .nil))) .nil) (ok_laws_toTc aT (by first | assumption | exact ⟨‹_›, ‹_›⟩ | (refine mem_getD (p := STc.sm) h0_.2 (by omega)) | exact mem_getD h0_.2 (by omega))) (.inr rfl) (At.freshRows hA_ rfl) (by simp) rfl)) ?_
    refine .cons (fun E hA_ => by have g29 := hA_.get 29 (by decide); have g31 := hA_.get 31 (by decide); have g33 := hA_.get 33 (by decide); exact OpStep.plain rfl (Step.call (f := 51) (xs := [.tmp 29, .tmp 31, .tmp 33]) (ps := [(.agg [.d (.int .i64 aL.f0), .d (.int .i64 aL.f1), .d (.int .i64 aL.f2), .d (.int .i64 aL.f3), .d (.int .i64 aL.f4)]), (.one (.row 1031 [])), (.agg [.d (.int .i64 aT.f0), .row 2033 []])]) false (g := .func 51) (t := 34) rfl rfl (by exact lt_ok rfl) rfl (by kernel_rfl) (evs_cons (show Env.ev E (.tmp 29) = _ from g29.trans rfl) (evs_cons (show Env.ev E (.tmp 31) = _ from g31.trans rfl) (evs_cons (show Env.ev E (.tmp 33) = _ from g33.trans rfl) (rfl)))) (.cons (.agg (.cons (.d _) (.cons (.d _) (.cons (.d _) (.cons (.d _) (.cons (.d _) .nil)))))) (.cons (.one (.row rfl (by exact (hA_.row 1031 (by kernel_rfl)).trans rfl) rfl rfl)) (.cons (.agg (.cons (.d _) (.cons (.row rfl (by exact (hA_.row 2033 (by kernel_rfl)).trans rfl) rfl rfl) .nil))) .nil))) (ok_spec_PutTc aL aB aT (by first | omega | assumption | (simp only [List.length_append] at *; omega)) (by assumption)) (.inr rfl) (At.freshRows hA_ rfl) (by simp) rfl)) ?_
    refine .cons (fun E hA_ => by have g34 := hA_.get 34 (by decide); exact OpStep.plain rfl (Step.move (p := (.tup [(false, [.row 1034 []]), (false, [.d (.bool (tcOk aL aT))])])) (t := 27) rfl rfl (by exact lt_ok rfl) (show Env.ev E (.tmp 34) = _ from g34.trans rfl))) ?_
    refine .cons (fun E hA_ => by have g27 := hA_.get 27 (by decide); exact OpStep.plain rfl (Step.extract (p := (.one (.row 1034 []))) (t := 35) rfl rfl (by exact lt_ok rfl) (show Env.ev E (.tmp 27) = _ from g27.trans rfl) rfl)) ?_
    refine .cons (fun E hA_ => by have g27 := hA_.get 27 (by decide); exact OpStep.plain rfl (Step.extract (p := (.one (.d (.bool (tcOk aL aT))))) (t := 36) rfl rfl (by exact lt_ok rfl) (show Env.ev E (.tmp 27) = _ from g27.trans rfl) rfl)) ?_
    refine .cons (fun E hA_ => by have g35 := hA_.get 35 (by decide); exact OpStep.plain rfl (Step.assign (p := (.one (.row 1034 []))) (t := 8) rfl rfl (by exact lt_ok rfl) (show Env.ev E (.tmp 35) = _ from g35.trans rfl))) ?_
    refine .cons (fun E hA_ => by have g36 := hA_.get 36 (by decide); exact OpStep.plain rfl (Step.assign (p := (.one (.d (.bool (tcOk aL aT))))) (t := 9) rfl rfl (by exact lt_ok rfl) (show Env.ev E (.tmp 36) = _ from g36.trans rfl))) ?_
    exact .nil _ _
   refine TL.nil ?_
   refine T.seq ?_
   refine T.region ?_
   refine TL.cons rfl (Step.move (p := (.one (.d (.ints .u8 aB)))) rfl rfl (lt_ok rfl) rfl) ?_
   refine TL.cons rfl (Step.call (f := 49) (xs := [.tmp 37]) (ps := [(.one (.d (.ints .u8 aB)))]) false (g := .func 49) rfl rfl (lt_ok rfl) rfl (by kernel_rfl) rfl (.cons (.one (.d _)) .nil) (ok_laws_toByteS aB (by first | omega | assumption | exact mem_getD h0_.2 (by omega))) (.inr rfl) rfl (by simp) rfl) ?_
   refine TL.cons rfl (Step.assign (p := (.one (.row 1038 []))) rfl rfl (lt_ok rfl) rfl) ?_
   refine TL.nil ?_
   refine T.seq ?_
   refine T.region ?_
   refine TL.cons rfl (Step.load_box_agg (n := 2) (qs := [.d (.int .i64 aT.f0), .d (.sl 3 (aT.f1.map SEntry.cells))]) rfl rfl (lt_ok rfl) (by kernel_rfl) rfl rfl rfl rfl) ?_
   refine TL.cons rfl (Step.call (f := 27) (xs := [.tmp 39]) (ps := [(.agg [.d (.int .i64 aT.f0), .d (.sl 3 (aT.f1.map SEntry.cells))])]) false (g := .func 27) rfl rfl (lt_ok rfl) rfl (by kernel_rfl) rfl (.cons (.agg (.cons (.d _) (.cons (.d _) .nil))) .nil) (ok_laws_toTc aT (by first | assumption | exact ⟨‹_›, ‹_›⟩ | (refine mem_getD (p := STc.sm) h0_.2 (by omega)) | exact mem_getD h0_.2 (by omega))) (.inr rfl) rfl (by simp) rfl) ?_
   refine TL.cons rfl (Step.alloc (cs := [.int .i64 0, .slice none 0 0]) (ps := [.d (.int .i64 0), .nil]) rfl rfl (lt_ok rfl) (by kernel_rfl) rfl rfl rfl rfl) ?_
   refine TL.cons rfl (Step.store_box (n := 2) (p := (.agg [.d (.int .i64 aT.f0), .row 2040 []])) (qs := [.d (.int .i64 aT.f0), .row 2040 []]) (ps' := [.d (.int .i64 aT.f0), .row 2040 []]) rfl rfl (by kernel_rfl) rfl rfl rfl rfl rfl rfl (le_ok rfl) rfl) ?_
   refine TL.nil ?_
   refine T.seq ?_
   have nn5 := @putTc_len aL aB aT (by assumption)
   refine T.draw [⟨42, (.agg [.d (.int .i64 aL.f0), .d (.int .i64 aL.f1), .d (.int .i64 aL.f2), .d (.int .i64 aL.f3), .d (.int .i64 aL.f4)]), []⟩, ⟨43, (.agg [.d (.int .i64 aL.f0), .d (.int .i64 aL.f1), .d (.int .i64 aL.f2), .d (.int .i64 aL.f3), .d (.int .i64 aL.f4)]), []⟩, ⟨44, (.one (.row 1038 [])), []⟩, ⟨45, (.agg [.d (.int .i64 aT.f0), .row 2040 []]), []⟩, ⟨46, (.tup [(false, [.row 1046 []]), (false, [.d (.bool (tcOk aL aT))])]), [(1046, (5, (.ints .u8 (putTc aL aB aT))))]⟩, ⟨41, (.tup [(false, [.row 1046 []]), (false, [.d (.bool (tcOk aL aT))])]), []⟩, ⟨47, (.one (.row 1046 [])), []⟩, ⟨48, (.one (.d (.bool (tcOk aL aT)))), []⟩, ⟨12, (.one (.row 1046 [])), []⟩, ⟨13, (.one (.d (.bool (tcOk aL aT)))), []⟩] (by kernel_rfl) (by kernel_rfl) ?_ ?_
   ·
    refine .cons (fun E hA_ => by have g3 := hA_.get 3 (by decide); exact OpStep.plain rfl (Step.load_box_agg (n := 5) (qs := [.d (.int .i64 aL.f0), .d (.int .i64 aL.f1), .d (.int .i64 aL.f2), .d (.int .i64 aL.f3), .d (.int .i64 aL.f4)]) (t := 42) rfl rfl (by exact lt_ok rfl) (by kernel_rfl) (show Env.ev E (.tmp 3) = _ from g3.trans rfl) (by exact hA_.box rfl) rfl rfl)) ?_
    refine .cons (fun E hA_ => by have g42 := hA_.get 42 (by decide); exact OpStep.plain rfl (Step.call (f := 26) (xs := [.tmp 42]) (ps := [(.agg [.d (.int .i64 aL.f0), .d (.int .i64 aL.f1), .d (.int .i64 aL.f2), .d (.int .i64 aL.f3), .d (.int .i64 aL.f4)])]) false (g := .func 26) (t := 43) rfl rfl (by exact lt_ok rfl) rfl (by kernel_rfl) (evs_cons (show Env.ev E (.tmp 42) = _ from g42.trans rfl) (rfl)) (.cons (.agg (.cons (.d _) (.cons (.d _) (.cons (.d _) (.cons (.d _) (.cons (.d _) .nil)))))) .nil) (ok_laws_toLimits aL) (.inr rfl) (At.freshRows hA_ rfl) (by simp) rfl)) ?_
    refine .cons (fun E hA_ => by have g10 := hA_.get 10 (by decide); exact OpStep.plain rfl (Step.move (p := (.one (.row 1038 []))) (t := 44) rfl rfl (by exact lt_ok rfl) (show Env.ev E (.tmp 10) = _ from g10.trans rfl))) ?_
    refine .cons (fun E hA_ => by have g11 := hA_.get 11 (by decide); exact OpStep.plain rfl (Step.load_box_agg (n := 2) (qs := [.d (.int .i64 aT.f0), .row 2040 []]) (t := 45) rfl rfl (by exact lt_ok rfl) (by kernel_rfl) (show Env.ev E (.tmp 11) = _ from g11.trans rfl) (by exact hA_.box rfl) rfl rfl)) ?_
    refine .cons (fun E hA_ => by have g43 := hA_.get 43 (by decide); have g44 := hA_.get 44 (by decide); have g45 := hA_.get 45 (by decide); exact OpStep.plain rfl (Step.call (f := 52) (xs := [.tmp 43, .tmp 44, .tmp 45]) (ps := [(.agg [.d (.int .i64 aL.f0), .d (.int .i64 aL.f1), .d (.int .i64 aL.f2), .d (.int .i64 aL.f3), .d (.int .i64 aL.f4)]), (.one (.row 1038 [])), (.agg [.d (.int .i64 aT.f0), .row 2040 []])]) false (g := .func 52) (t := 46) rfl rfl (by exact lt_ok rfl) rfl (by kernel_rfl) (evs_cons (show Env.ev E (.tmp 43) = _ from g43.trans rfl) (evs_cons (show Env.ev E (.tmp 44) = _ from g44.trans rfl) (evs_cons (show Env.ev E (.tmp 45) = _ from g45.trans rfl) (rfl)))) (.cons (.agg (.cons (.d _) (.cons (.d _) (.cons (.d _) (.cons (.d _) (.cons (.d _) .nil)))))) (.cons (.one (.row rfl (by exact (hA_.row 1038 (by kernel_rfl)).trans rfl) rfl rfl)) (.cons (.agg (.cons (.d _) (.cons (.row rfl (by exact (hA_.row 2040 (by kernel_rfl)).trans rfl) rfl rfl) .nil))) .nil))) (ok_impl_PutTc aL aB aT (by first | omega | assumption | (simp only [List.length_append] at *; omega)) (by assumption)) (.inr rfl) (At.freshRows hA_ rfl) (by simp) rfl)) ?_
    refine .cons (fun E hA_ => by have g46 := hA_.get 46 (by decide); exact OpStep.plain rfl (Step.move (p := (.tup [(false, [.row 1046 []]), (false, [.d (.bool (tcOk aL aT))])])) (t := 41) rfl rfl (by exact lt_ok rfl) (show Env.ev E (.tmp 46) = _ from g46.trans rfl))) ?_
    refine .cons (fun E hA_ => by have g41 := hA_.get 41 (by decide); exact OpStep.plain rfl (Step.extract (p := (.one (.row 1046 []))) (t := 47) rfl rfl (by exact lt_ok rfl) (show Env.ev E (.tmp 41) = _ from g41.trans rfl) rfl)) ?_
    refine .cons (fun E hA_ => by have g41 := hA_.get 41 (by decide); exact OpStep.plain rfl (Step.extract (p := (.one (.d (.bool (tcOk aL aT))))) (t := 48) rfl rfl (by exact lt_ok rfl) (show Env.ev E (.tmp 41) = _ from g41.trans rfl) rfl)) ?_
    refine .cons (fun E hA_ => by have g47 := hA_.get 47 (by decide); exact OpStep.plain rfl (Step.assign (p := (.one (.row 1046 []))) (t := 12) rfl rfl (by exact lt_ok rfl) (show Env.ev E (.tmp 47) = _ from g47.trans rfl))) ?_
    refine .cons (fun E hA_ => by have g48 := hA_.get 48 (by decide); exact OpStep.plain rfl (Step.assign (p := (.one (.d (.bool (tcOk aL aT))))) (t := 13) rfl rfl (by exact lt_ok rfl) (show Env.ev E (.tmp 48) = _ from g48.trans rfl))) ?_
    exact .nil _ _
   refine TL.nil ?_
   refine T.weaken (E' := { tm := [(1, (.one (.d (.ints .u8 aB)))), (3, (.one (.ptr 3 0))), (5, (.one (.ptr 5 0))), (6, (.one (.d (.bool false)))), (8, (.one (.row 1034 []))), (9, (.one (.d (.bool (tcOk aL aT))))), (10, (.one (.row 1038 []))), (11, (.one (.ptr 11 0))), (12, (.one (.row 1046 []))), (13, (.one (.d (.bool (tcOk aL aT)))))], rows := [(1034, (5, (.ints .u8 (putTc aL aB aT)))), (1038, (5, (.ints .u8 aB))), (2040, (121, (.sl 3 (aT.f1.map SEntry.cells)))), (1046, (5, (.ints .u8 (putTc aL aB aT))))], boxes := [(3, (37, [.d (.int .i64 aL.f0), .d (.int .i64 aL.f1), .d (.int .i64 aL.f2), .d (.int .i64 aL.f3), .d (.int .i64 aL.f4)])), (11, (48, [.d (.int .i64 aT.f0), .row 2040 []])), (5, (40, [.d (.int .i64 aT.f0), .d (.sl 3 (aT.f1.map SEntry.cells))]))] }) (Env.le_mk ⟨by kernel_rfl, by kernel_rfl, by kernel_rfl, by kernel_rfl, by kernel_rfl, by kernel_rfl, by kernel_rfl, by kernel_rfl, by kernel_rfl, by kernel_rfl, trivial⟩ ⟨by kernel_rfl, by kernel_rfl, by kernel_rfl, by kernel_rfl, trivial⟩ ⟨by kernel_rfl, by kernel_rfl, by kernel_rfl, trivial⟩) ?_
   refine T.seq ?_
   refine T.seq ?_
   refine T.region ?_
   refine TL.cons rfl (Step.move (p := (.one (.row 1046 []))) rfl rfl (lt_ok rfl) rfl) ?_
   refine TL.cons rfl (Step.move (p := (.one (.row 1034 []))) rfl rfl (lt_ok rfl) rfl) ?_
   refine TL.cons rfl (Step.call (f := 29) (xs := [.tmp 49, .tmp 50]) (ps := [(.one (.row 1046 [])), (.one (.row 1034 []))]) false (g := .func 29) rfl rfl (lt_ok rfl) rfl (by kernel_rfl) rfl (.cons (.one (.row rfl rfl rfl rfl)) (.cons (.one (.row rfl rfl rfl rfl)) .nil)) (ok_laws_eqByteS (putTc aL aB aT) (putTc aL aB aT)) (.inr rfl) rfl (by simp) rfl) ?_
   refine TL.known 51 (c := true) (by simp) rfl ?_
   refine TL.cons rfl (Step.not (b := true) rfl rfl (lt_ok rfl) rfl) ?_
   refine TL.cons rfl (Step.move (p := (.one (.d (.bool false)))) rfl rfl (lt_ok rfl) rfl) ?_
   refine TL.gyes 53 rfl rfl (lt_ok rfl) rfl (Step.move (p := (.one (.d (.bool (tcOk aL aT))))) rfl rfl (lt_ok rfl) rfl) ?_
   refine TL.gyes 53 rfl rfl (lt_ok rfl) rfl (Step.move (p := (.one (.d (.bool (tcOk aL aT))))) rfl rfl (lt_ok rfl) rfl) ?_
   refine TL.gyes 53 rfl rfl (lt_ok rfl) rfl (Step.bneq (b := (tcOk aL aT)) (c := (tcOk aL aT)) rfl rfl (lt_ok rfl) (by kernel_rfl) rfl rfl) ?_
   refine TL.known 56 (c := false) (by simp) rfl ?_
   refine TL.cons rfl (Step.pick (b := false) (p := (.one (.d (.bool false)))) rfl rfl (lt_ok rfl) rfl rfl) ?_
   refine TL.nil ?_
   refine T.cond (b := false) rfl (fun h6_ => absurd h6_ (by simp)) (fun h6_ => ?_)
   refine T.skip ?_
   refine T.seq ?_
   refine T.seq ?_
   refine T.region ?_
   refine TL.cons rfl (Step.move (p := (.one (.row 1038 []))) rfl rfl (lt_ok rfl) rfl) ?_
   refine TL.cons rfl (Step.move (p := (.one (.d (.ints .u8 aB)))) rfl rfl (lt_ok rfl) rfl) ?_
   refine TL.cons rfl (Step.call (f := 49) (xs := [.tmp 59]) (ps := [(.one (.d (.ints .u8 aB)))]) false (g := .func 49) rfl rfl (lt_ok rfl) rfl (by kernel_rfl) rfl (.cons (.one (.d _)) .nil) (ok_laws_toByteS aB (by first | omega | assumption | exact mem_getD h0_.2 (by omega))) (.inr rfl) rfl (by simp) rfl) ?_
   refine TL.cons rfl (Step.call (f := 29) (xs := [.tmp 58, .tmp 60]) (ps := [(.one (.row 1038 [])), (.one (.row 1060 []))]) false (g := .func 29) rfl rfl (lt_ok rfl) rfl (by kernel_rfl) rfl (.cons (.one (.row rfl rfl rfl rfl)) (.cons (.one (.row rfl rfl rfl rfl)) .nil)) (ok_laws_eqByteS aB aB) (.inr rfl) rfl (by simp) rfl) ?_
   refine TL.known 61 (c := true) (by simp) rfl ?_
   refine TL.cons rfl (Step.not (b := true) rfl rfl (lt_ok rfl) rfl) ?_
   refine TL.nil ?_
   refine T.cond (b := false) rfl (fun h7_ => absurd h7_ (by simp)) (fun h7_ => ?_)
   refine T.skip ?_
   refine T.seq ?_
   refine T.seq ?_
   refine T.draw [⟨63, (.agg [.d (.int .i64 aT.f0), .row 2040 []]), []⟩, ⟨64, (.agg [.d (.int .i64 aT.f0), .d (.sl 3 (aT.f1.map SEntry.cells))]), []⟩, ⟨65, (.agg [.d (.int .i64 aT.f0), .row 2065 []]), [(2065, (121, (.sl 3 (aT.f1.map SEntry.cells))))]⟩, ⟨66, (.one (.d (.bool true))), []⟩, ⟨67, (.one (.d (.bool false))), []⟩] (by kernel_rfl) (by kernel_rfl) ?_ ?_
   ·
    refine .cons (fun E hA_ => by have g11 := hA_.get 11 (by decide); exact OpStep.plain rfl (Step.load_box_agg (n := 2) (qs := [.d (.int .i64 aT.f0), .row 2040 []]) (t := 63) rfl rfl (by exact lt_ok rfl) (by kernel_rfl) (show Env.ev E (.tmp 11) = _ from g11.trans rfl) (by exact hA_.box rfl) rfl rfl)) ?_
    refine .cons (fun E hA_ => by have g5 := hA_.get 5 (by decide); exact OpStep.plain rfl (Step.load_box_agg (n := 2) (qs := [.d (.int .i64 aT.f0), .d (.sl 3 (aT.f1.map SEntry.cells))]) (t := 64) rfl rfl (by exact lt_ok rfl) (by kernel_rfl) (show Env.ev E (.tmp 5) = _ from g5.trans rfl) (by exact hA_.box rfl) rfl rfl)) ?_
    refine .cons (fun E hA_ => by have g64 := hA_.get 64 (by decide); exact OpStep.plain rfl (Step.call (f := 27) (xs := [.tmp 64]) (ps := [(.agg [.d (.int .i64 aT.f0), .d (.sl 3 (aT.f1.map SEntry.cells))])]) false (g := .func 27) (t := 65) rfl rfl (by exact lt_ok rfl) rfl (by kernel_rfl) (evs_cons (show Env.ev E (.tmp 64) = _ from g64.trans rfl) (rfl)) (.cons (.agg (.cons (.d _) (.cons (.d _) .nil))) .nil) (ok_laws_toTc aT (by first | assumption | exact ⟨‹_›, ‹_›⟩ | (refine mem_getD (p := STc.sm) h0_.2 (by omega)) | exact mem_getD h0_.2 (by omega))) (.inr rfl) (At.freshRows hA_ rfl) (by simp) rfl)) ?_
    refine .cons (fun E hA_ => by have g63 := hA_.get 63 (by decide); have g65 := hA_.get 65 (by decide); exact OpStep.plain rfl (Step.to (E1 := E.set 66 (.one (.d (.bool (decide (aT = aT)))))) (congrArg (fun b_ => E.set 66 (.one (.d (.bool b_)))) (by simp : (decide (aT = aT)) = true)) (Step.call (f := 30) (xs := [.tmp 63, .tmp 65]) (ps := [(.agg [.d (.int .i64 aT.f0), .row 2040 []]), (.agg [.d (.int .i64 aT.f0), .row 2065 []])]) false (g := .func 30) (t := 66) rfl rfl (by exact lt_ok rfl) rfl (by kernel_rfl) (evs_cons (show Env.ev E (.tmp 63) = _ from g63.trans rfl) (evs_cons (show Env.ev E (.tmp 65) = _ from g65.trans rfl) (rfl))) (.cons (.agg (.cons (.d _) (.cons (.row rfl (by exact (hA_.row 2040 (by kernel_rfl)).trans rfl) rfl rfl) .nil))) (.cons (.agg (.cons (.d _) (.cons (.row rfl (by exact (hA_.row 2065 (by kernel_rfl)).trans rfl) rfl rfl) .nil))) .nil)) (ok_laws_eqTc aT aT) (.inr rfl) (At.freshRows hA_ rfl) (by simp) rfl))) ?_
    refine .cons (fun E hA_ => by have g66 := hA_.get 66 (by decide); exact OpStep.plain rfl (Step.not (b := true) (t := 67) rfl rfl (by exact lt_ok rfl) (show Env.ev E (.tmp 66) = _ from g66.trans rfl))) ?_
    exact .nil _ _
   refine TL.nil ?_
   refine T.cond (b := false) rfl (fun h8_ => absurd h8_ (by simp)) (fun h8_ => ?_)
   refine T.skip ?_
   refine T.seq ?_
   refine T.region ?_
   refine TL.cons rfl (Step.assign (p := (.one (.d (.int .i64 1)))) rfl rfl (lt_ok rfl) rfl) ?_
   refine TL.nil ?_
   refine T.seq ?_
   refine T.region ?_
   refine TL.cons rfl (Step.move (p := (.one (.row 1038 []))) rfl rfl (lt_ok rfl) rfl) ?_
   refine TL.cons rfl (Step.move (p := (.one (.d (.int .i64 1)))) rfl rfl (lt_ok rfl) rfl) ?_
   refine TL.cons rfl (Step.callM (f := 32) (xs := [.tmp 68, .tmp 69]) (ps := [(.one (.row 1038 [])), (.one (.d (.int .i64 1)))]) (args := [.one (.mk (.ints .u8 aB) (.ints .u8 (mkB aB 1))), .one (.rd (.int .i64 1))]) (js := [(1038, (.ints .u8 (mkB aB 1)))]) (x := (.int .i64 (1 + (aB.length : Int)))) (g := .func 32) rfl rfl (lt_ok rfl) rfl (by kernel_rfl) rfl rfl (.row (T := 5) (d := (.ints .u8 aB)) (e' := (.ints .u8 (mkB aB 1))) (d' := (.ints .u8 (mkB aB 1))) rfl rfl rfl rfl rfl (by simp [D.size, mkL_length]) rfl rfl (.d .nil)) (ok_laws_markByteS aB 1 (by omega) (by first | omega | (have := (by assumption); omega))) rfl) ?_
   refine TL.cons rfl (Step.assign (p := (.one (.d (.int .i64 (1 + (aB.length : Int)))))) rfl rfl (lt_ok rfl) rfl) ?_
   refine TL.nil ?_
   refine T.seq ?_
   refine T.region ?_
   refine TL.cons rfl (Step.load_box_agg (n := 2) (qs := [.d (.int .i64 aT.f0), .row 2040 []]) rfl rfl (lt_ok rfl) (by kernel_rfl) rfl rfl rfl rfl) ?_
   refine TL.cons rfl (Step.move (p := (.one (.d (.int .i64 (1 + (aB.length : Int)))))) rfl rfl (lt_ok rfl) rfl) ?_
   have nn9 := STc.cm_nn aT
   refine TL.cons rfl (Step.callM (f := 31) (xs := [.tmp 71, .tmp 72]) (ps := [(.agg [.d (.int .i64 aT.f0), .row 2040 []]), (.one (.d (.int .i64 (1 + (aB.length : Int)))))]) (args := [.agg [.rd (.int .i64 aT.f0), .mk (.sl 3 (aT.f1.map SEntry.cells)) (.sl 3 ((mkL SEntry.ce SEntry.me aT.f1 (1 + (aB.length : Int))).map SEntry.cells))], .one (.rd (.int .i64 (1 + (aB.length : Int))))]) (js := [(2040, (.sl 3 ((mkL SEntry.ce SEntry.me aT.f1 (1 + (aB.length : Int))).map SEntry.cells)))]) (x := (.int .i64 ((1 + (aB.length : Int)) + aT.cm))) (g := .func 31) rfl rfl (lt_ok rfl) rfl (by kernel_rfl) rfl rfl (.d (.row (T := 121) (d := (.sl 3 (aT.f1.map SEntry.cells))) (e' := (.sl 3 ((mkL SEntry.ce SEntry.me aT.f1 (1 + (aB.length : Int))).map SEntry.cells))) (d' := (.sl 3 ((mkL SEntry.ce SEntry.me aT.f1 (1 + (aB.length : Int))).map SEntry.cells))) rfl rfl rfl rfl rfl (by simp [D.size, mkL_length]) rfl rfl (.d .nil))) (ok_laws_markTc aT (1 + (aB.length : Int)) (by omega) (by first | omega | (have := STc.cm_le (x := aT) (by assumption); omega))) rfl) ?_
   refine TL.cons rfl (Step.assign (p := (.one (.d (.int .i64 ((1 + (aB.length : Int)) + aT.cm))))) rfl rfl (lt_ok rfl) rfl) ?_
   refine TL.nil ?_
   refine T.seq ?_
   refine T.seq ?_
   refine T.region ?_
   refine TL.cons rfl (Step.move (p := (.one (.d (.int .i64 ((1 + (aB.length : Int)) + aT.cm))))) rfl rfl (lt_ok rfl) rfl) ?_
   refine TL.cons rfl (Step.bin rfl rfl (lt_ok rfl) rfl rfl (Bin.lss (k := .i64) (a := ((1 + (aB.length : Int)) + aT.cm)) (b := 0))) ?_
   refine TL.known 75 (c := false) (decide_eq_false (by omega)) rfl ?_
   refine TL.cons rfl (Step.move (p := (.one (.d (.bool false)))) rfl rfl (lt_ok rfl) rfl) ?_
   refine TL.gyes 76 rfl rfl (lt_ok rfl) rfl (Step.move (p := (.one (.row 1046 []))) rfl rfl (lt_ok rfl) rfl) ?_
   refine TL.gyes 76 rfl rfl (lt_ok rfl) rfl (Step.move (p := (.one (.row 1034 []))) rfl rfl (lt_ok rfl) rfl) ?_
   refine TL.gyes 76 rfl rfl (lt_ok rfl) rfl (Step.call (f := 29) (xs := [.tmp 77, .tmp 78]) (ps := [(.one (.row 1046 [])), (.one (.row 1034 []))]) false (g := .func 29) rfl rfl (lt_ok rfl) rfl (by kernel_rfl) rfl (.cons (.one (.row rfl rfl rfl rfl)) (.cons (.one (.row rfl rfl rfl rfl)) .nil)) (ok_laws_eqByteS (putTc aL aB aT) (putTc aL aB aT)) (.inr rfl) rfl (by simp) rfl) ?_
   refine TL.known 79 (c := true) (by simp) rfl ?_
   refine TL.gyes 76 rfl rfl (lt_ok rfl) rfl (Step.not (b := true) rfl rfl (lt_ok rfl) rfl) ?_
   refine TL.cons rfl (Step.pick (b := false) (p := (.one (.d (.bool false)))) rfl rfl (lt_ok rfl) rfl rfl) ?_
   refine TL.cons rfl (Step.move (p := (.one (.d (.bool false)))) rfl rfl (lt_ok rfl) rfl) ?_
   refine TL.gyes 82 rfl rfl (lt_ok rfl) rfl (Step.move (p := (.one (.d (.bool (tcOk aL aT))))) rfl rfl (lt_ok rfl) rfl) ?_
   refine TL.gyes 82 rfl rfl (lt_ok rfl) rfl (Step.move (p := (.one (.d (.bool (tcOk aL aT))))) rfl rfl (lt_ok rfl) rfl) ?_
   refine TL.gyes 82 rfl rfl (lt_ok rfl) rfl (Step.bneq (b := (tcOk aL aT)) (c := (tcOk aL aT)) rfl rfl (lt_ok rfl) (by kernel_rfl) rfl rfl) ?_
   refine TL.known 85 (c := false) (by simp) rfl ?_
   refine TL.cons rfl (Step.pick (b := false) (p := (.one (.d (.bool false)))) rfl rfl (lt_ok rfl) rfl rfl) ?_
   refine TL.nil ?_
   refine T.cond (b := false) rfl (fun h10_ => absurd h10_ (by simp)) (fun h10_ => ?_)
   refine T.skip ?_
   refine T.seq ?_
   refine T.region ?_
   refine TL.cons rfl (Step.assign (p := (.one (.d (.int .i64 1)))) rfl rfl (lt_ok rfl) rfl) ?_
   refine TL.nil ?_
   refine T.seq ?_
   refine T.region ?_
   refine TL.cons rfl (Step.move (p := (.one (.row 1046 []))) rfl rfl (lt_ok rfl) rfl) ?_
   refine TL.cons rfl (Step.move (p := (.one (.d (.int .i64 1)))) rfl rfl (lt_ok rfl) rfl) ?_
   refine TL.cons rfl (Step.callM (f := 32) (xs := [.tmp 87, .tmp 88]) (ps := [(.one (.row 1046 [])), (.one (.d (.int .i64 1)))]) (args := [.one (.mk (.ints .u8 (putTc aL aB aT)) (.ints .u8 (mkB (putTc aL aB aT) 1))), .one (.rd (.int .i64 1))]) (js := [(1046, (.ints .u8 (mkB (putTc aL aB aT) 1)))]) (x := (.int .i64 (1 + ((putTc aL aB aT).length : Int)))) (g := .func 32) rfl rfl (lt_ok rfl) rfl (by kernel_rfl) rfl rfl (.row (T := 5) (d := (.ints .u8 (putTc aL aB aT))) (e' := (.ints .u8 (mkB (putTc aL aB aT) 1))) (d' := (.ints .u8 (mkB (putTc aL aB aT) 1))) rfl rfl rfl rfl rfl (by simp [D.size, mkL_length]) rfl rfl (.d .nil)) (ok_laws_markByteS (putTc aL aB aT) 1 (by omega) (by first | omega | (have := (by assumption); omega))) rfl) ?_
   refine TL.cons rfl (Step.assign (p := (.one (.d (.int .i64 (1 + ((putTc aL aB aT).length : Int)))))) rfl rfl (lt_ok rfl) rfl) ?_
   refine TL.nil ?_
   refine T.seq ?_
   refine T.region ?_
   refine TL.cons rfl (Step.assign (p := (.one (.d (.int .i64 1)))) rfl rfl (lt_ok rfl) rfl) ?_
   refine TL.nil ?_
   refine T.seq ?_
   refine T.region ?_
   refine TL.cons rfl (Step.move (p := (.one (.row 1046 []))) rfl rfl (lt_ok rfl) rfl) ?_
   refine TL.cons rfl (Step.move (p := (.one (.d (.int .i64 1)))) rfl rfl (lt_ok rfl) rfl) ?_
   refine TL.cons rfl (Step.call (f := 33) (xs := [.tmp 90, .tmp 91]) (ps := [(.one (.row 1046 [])), (.one (.d (.int .i64 1)))]) false (g := .func 33) rfl rfl (lt_ok rfl) rfl (by kernel_rfl) rfl (.cons (.one (.row rfl rfl rfl rfl)) (.cons (.one (.d _)) .nil)) (ok_laws_heldByteS (putTc aL aB aT) (mkB (putTc aL aB aT) 1) 1 (by omega) (by first | omega | (have := (by assumption); omega)) (by first | rfl | assumption | (repeat' (first | rfl | apply And.intro)))) (.inr rfl) rfl (by simp) rfl) ?_
   refine TL.cons rfl (Step.assign (p := (.one (.d (.int .i64 (1 + ((putTc aL aB aT).length : Int)))))) rfl rfl (lt_ok rfl) rfl) ?_
   refine TL.nil ?_
   refine T.seq ?_
   refine T.seq ?_
   refine T.region ?_
   refine TL.cons rfl (Step.move (p := (.one (.d (.int .i64 (1 + ((putTc aL aB aT).length : Int)))))) rfl rfl (lt_ok rfl) rfl) ?_
   refine TL.cons rfl (Step.bin rfl rfl (lt_ok rfl) rfl rfl (Bin.lss (k := .i64) (a := (1 + ((putTc aL aB aT).length : Int))) (b := 0))) ?_
   refine TL.known 94 (c := false) (decide_eq_false (by omega)) rfl ?_
   refine TL.nil ?_
   refine T.cond (b := false) rfl (fun h11_ => absurd h11_ (by simp)) (fun h11_ => ?_)
   refine T.skip ?_
   refine T.seq ?_
   refine T.seq ?_
   refine T.region ?_
   refine TL.cons rfl (Step.move (p := (.one (.d (.int .i64 (1 + ((putTc aL aB aT).length : Int)))))) rfl rfl (lt_ok rfl) rfl) ?_
   refine TL.cons rfl (Step.move (p := (.one (.d (.int .i64 (1 + ((putTc aL aB aT).length : Int)))))) rfl rfl (lt_ok rfl) rfl) ?_
   refine TL.cons rfl (Step.bin rfl rfl (lt_ok rfl) rfl rfl (Bin.neq (k := .i64) (a := (1 + ((putTc aL aB aT).length : Int))) (b := (1 + ((putTc aL aB aT).length : Int))))) ?_
   refine TL.known 97 (c := false) (by simp) rfl ?_
   refine TL.nil ?_
   refine T.cond (b := false) rfl (fun h12_ => absurd h12_ (by simp)) (fun h12_ => ?_)
   refine T.skip ?_
   refine T.seq ?_
   have nn13 := @putTc_len aL aB aT (by assumption)
   refine T.draw [⟨99, (.agg [.d (.int .i64 aL.f0), .d (.int .i64 aL.f1), .d (.int .i64 aL.f2), .d (.int .i64 aL.f3), .d (.int .i64 aL.f4)]), []⟩, ⟨100, (.agg [.d (.int .i64 aL.f0), .d (.int .i64 aL.f1), .d (.int .i64 aL.f2), .d (.int .i64 aL.f3), .d (.int .i64 aL.f4)]), []⟩, ⟨101, (.one (.d (.ints .u8 aB))), []⟩, ⟨102, (.one (.row 1102 [])), [(1102, (5, (.ints .u8 aB)))]⟩, ⟨103, (.agg [.d (.int .i64 aT.f0), .d (.sl 3 (aT.f1.map SEntry.cells))]), []⟩, ⟨104, (.agg [.d (.int .i64 aT.f0), .row 2104 []]), [(2104, (121, (.sl 3 (aT.f1.map SEntry.cells))))]⟩, ⟨105, (.tup [(false, [.row 1105 []]), (false, [.d (.bool (tcOk aL aT))])]), [(1105, (5, (.ints .u8 (putTc aL aB aT))))]⟩, ⟨98, (.tup [(false, [.row 1105 []]), (false, [.d (.bool (tcOk aL aT))])]), []⟩, ⟨106, (.one (.row 1105 [])), []⟩, ⟨107, (.one (.d (.bool (tcOk aL aT)))), []⟩, ⟨17, (.one (.row 1105 [])), []⟩, ⟨18, (.one (.d (.bool (tcOk aL aT)))), []⟩] (by kernel_rfl) (by kernel_rfl) ?_ ?_
   ·
    refine .cons (fun E hA_ => by have g3 := hA_.get 3 (by decide); exact OpStep.plain rfl (Step.load_box_agg (n := 5) (qs := [.d (.int .i64 aL.f0), .d (.int .i64 aL.f1), .d (.int .i64 aL.f2), .d (.int .i64 aL.f3), .d (.int .i64 aL.f4)]) (t := 99) rfl rfl (by exact lt_ok rfl) (by kernel_rfl) (show Env.ev E (.tmp 3) = _ from g3.trans rfl) (by exact hA_.box rfl) rfl rfl)) ?_
    refine .cons (fun E hA_ => by have g99 := hA_.get 99 (by decide); exact OpStep.plain rfl (Step.call (f := 26) (xs := [.tmp 99]) (ps := [(.agg [.d (.int .i64 aL.f0), .d (.int .i64 aL.f1), .d (.int .i64 aL.f2), .d (.int .i64 aL.f3), .d (.int .i64 aL.f4)])]) false (g := .func 26) (t := 100) rfl rfl (by exact lt_ok rfl) rfl (by kernel_rfl) (evs_cons (show Env.ev E (.tmp 99) = _ from g99.trans rfl) (rfl)) (.cons (.agg (.cons (.d _) (.cons (.d _) (.cons (.d _) (.cons (.d _) (.cons (.d _) .nil)))))) .nil) (ok_laws_toLimits aL) (.inr rfl) (At.freshRows hA_ rfl) (by simp) rfl)) ?_
    refine .cons (fun E hA_ => by have g1 := hA_.get 1 (by decide); exact OpStep.plain rfl (Step.move (p := (.one (.d (.ints .u8 aB)))) (t := 101) rfl rfl (by exact lt_ok rfl) (show Env.ev E (.tmp 1) = _ from g1.trans rfl))) ?_
    refine .cons (fun E hA_ => by have g101 := hA_.get 101 (by decide); exact OpStep.plain rfl (Step.call (f := 49) (xs := [.tmp 101]) (ps := [(.one (.d (.ints .u8 aB)))]) false (g := .func 49) (t := 102) rfl rfl (by exact lt_ok rfl) rfl (by kernel_rfl) (evs_cons (show Env.ev E (.tmp 101) = _ from g101.trans rfl) (rfl)) (.cons (.one (.d _)) .nil) (ok_laws_toByteS aB (by first | omega | assumption | exact mem_getD h0_.2 (by omega))) (.inr rfl) (At.freshRows hA_ rfl) (by simp) rfl)) ?_
    refine .cons (fun E hA_ => by have g5 := hA_.get 5 (by decide); exact OpStep.plain rfl (Step.load_box_agg (n := 2) (qs := [.d (.int .i64 aT.f0), .d (.sl 3 (aT.f1.map SEntry.cells))]) (t := 103) rfl rfl (by exact lt_ok rfl) (by kernel_rfl) (show Env.ev E (.tmp 5) = _ from g5.trans rfl) (by exact hA_.box rfl) rfl rfl)) ?_
    refine .cons (fun E hA_ => by have g103 := hA_.get 103 (by decide); exact OpStep.plain rfl (Step.call (f := 27) (xs := [.tmp 103]) (ps := [(.agg [.d (.int .i64 aT.f0), .d (.sl 3 (aT.f1.map SEntry.cells))])]) false (g := .func 27) (t := 104) rfl rfl (by exact lt_ok rfl) rfl (by kernel_rfl) (evs_cons (show Env.ev E (.tmp 103) = _ from g103.trans rfl) (rfl)) (.cons (.agg (.cons (.d _) (.cons (.d _) .nil))) .nil) (ok_laws_toTc aT (by first | assumption | exact ⟨‹_›, ‹_›⟩ | (refine mem_getD (p := STc.sm) h0_.2 (by omega)) | exact mem_getD h0_.2 (by omega))) (.inr rfl) (At.freshRows hA_ rfl) (by simp) rfl)) ?_
    refine .cons (fun E hA_ => by have g100 := hA_.get 100 (by decide); have g102 := hA_.get 102 (by decide); have g104 := hA_.get 104 (by decide); exact OpStep.plain rfl (Step.call (f := 52) (xs := [.tmp 100, .tmp 102, .tmp 104]) (ps := [(.agg [.d (.int .i64 aL.f0), .d (.int .i64 aL.f1), .d (.int .i64 aL.f2), .d (.int .i64 aL.f3), .d (.int .i64 aL.f4)]), (.one (.row 1102 [])), (.agg [.d (.int .i64 aT.f0), .row 2104 []])]) false (g := .func 52) (t := 105) rfl rfl (by exact lt_ok rfl) rfl (by kernel_rfl) (evs_cons (show Env.ev E (.tmp 100) = _ from g100.trans rfl) (evs_cons (show Env.ev E (.tmp 102) = _ from g102.trans rfl) (evs_cons (show Env.ev E (.tmp 104) = _ from g104.trans rfl) (rfl)))) (.cons (.agg (.cons (.d _) (.cons (.d _) (.cons (.d _) (.cons (.d _) (.cons (.d _) .nil)))))) (.cons (.one (.row rfl (by exact (hA_.row 1102 (by kernel_rfl)).trans rfl) rfl rfl)) (.cons (.agg (.cons (.d _) (.cons (.row rfl (by exact (hA_.row 2104 (by kernel_rfl)).trans rfl) rfl rfl) .nil))) .nil))) (ok_impl_PutTc aL aB aT (by first | omega | assumption | (simp only [List.length_append] at *; omega)) (by assumption)) (.inr rfl) (At.freshRows hA_ rfl) (by simp) rfl)) ?_
    refine .cons (fun E hA_ => by have g105 := hA_.get 105 (by decide); exact OpStep.plain rfl (Step.move (p := (.tup [(false, [.row 1105 []]), (false, [.d (.bool (tcOk aL aT))])])) (t := 98) rfl rfl (by exact lt_ok rfl) (show Env.ev E (.tmp 105) = _ from g105.trans rfl))) ?_
    refine .cons (fun E hA_ => by have g98 := hA_.get 98 (by decide); exact OpStep.plain rfl (Step.extract (p := (.one (.row 1105 []))) (t := 106) rfl rfl (by exact lt_ok rfl) (show Env.ev E (.tmp 98) = _ from g98.trans rfl) rfl)) ?_
    refine .cons (fun E hA_ => by have g98 := hA_.get 98 (by decide); exact OpStep.plain rfl (Step.extract (p := (.one (.d (.bool (tcOk aL aT))))) (t := 107) rfl rfl (by exact lt_ok rfl) (show Env.ev E (.tmp 98) = _ from g98.trans rfl) rfl)) ?_
    refine .cons (fun E hA_ => by have g106 := hA_.get 106 (by decide); exact OpStep.plain rfl (Step.assign (p := (.one (.row 1105 []))) (t := 17) rfl rfl (by exact lt_ok rfl) (show Env.ev E (.tmp 106) = _ from g106.trans rfl))) ?_
    refine .cons (fun E hA_ => by have g107 := hA_.get 107 (by decide); exact OpStep.plain rfl (Step.assign (p := (.one (.d (.bool (tcOk aL aT))))) (t := 18) rfl rfl (by exact lt_ok rfl) (show Env.ev E (.tmp 107) = _ from g107.trans rfl))) ?_
    exact .nil _ _
   refine TL.nil ?_
   refine T.weaken (E' := { tm := [(6, (.one (.d (.bool false)))), (8, (.one (.row 1034 []))), (9, (.one (.d (.bool (tcOk aL aT))))), (12, (.one (.row 1046 []))), (15, (.one (.d (.int .i64 (1 + ((putTc aL aB aT).length : Int)))))), (16, (.one (.d (.int .i64 (1 + ((putTc aL aB aT).length : Int)))))), (17, (.one (.row 1105 []))), (18, (.one (.d (.bool (tcOk aL aT)))))], rows := [(1034, (5, (.ints .u8 (putTc aL aB aT)))), (1046, (5, (.ints .u8 (mkB (putTc aL aB aT) 1)))), (1105, (5, (.ints .u8 (putTc aL aB aT))))], boxes := [] }) (Env.le_mk ⟨by kernel_rfl, by kernel_rfl, by kernel_rfl, by kernel_rfl, by kernel_rfl, by kernel_rfl, by kernel_rfl, by kernel_rfl, trivial⟩ ⟨by kernel_rfl, by kernel_rfl, by kernel_rfl, trivial⟩ trivial) ?_
   refine T.seq ?_
   refine T.seq ?_
   refine T.region ?_
   refine TL.cons rfl (Step.move (p := (.one (.row 1105 []))) rfl rfl (lt_ok rfl) rfl) ?_
   refine TL.cons rfl (Step.move (p := (.one (.row 1034 []))) rfl rfl (lt_ok rfl) rfl) ?_
   refine TL.cons rfl (Step.call (f := 29) (xs := [.tmp 108, .tmp 109]) (ps := [(.one (.row 1105 [])), (.one (.row 1034 []))]) false (g := .func 29) rfl rfl (lt_ok rfl) rfl (by kernel_rfl) rfl (.cons (.one (.row rfl rfl rfl rfl)) (.cons (.one (.row rfl rfl rfl rfl)) .nil)) (ok_laws_eqByteS (putTc aL aB aT) (putTc aL aB aT)) (.inr rfl) rfl (by simp) rfl) ?_
   refine TL.known 110 (c := true) (by simp) rfl ?_
   refine TL.cons rfl (Step.not (b := true) rfl rfl (lt_ok rfl) rfl) ?_
   refine TL.cons rfl (Step.move (p := (.one (.d (.bool false)))) rfl rfl (lt_ok rfl) rfl) ?_
   refine TL.gyes 112 rfl rfl (lt_ok rfl) rfl (Step.move (p := (.one (.d (.bool (tcOk aL aT))))) rfl rfl (lt_ok rfl) rfl) ?_
   refine TL.gyes 112 rfl rfl (lt_ok rfl) rfl (Step.move (p := (.one (.d (.bool (tcOk aL aT))))) rfl rfl (lt_ok rfl) rfl) ?_
   refine TL.gyes 112 rfl rfl (lt_ok rfl) rfl (Step.bneq (b := (tcOk aL aT)) (c := (tcOk aL aT)) rfl rfl (lt_ok rfl) (by kernel_rfl) rfl rfl) ?_
   refine TL.known 115 (c := false) (by simp) rfl ?_
   refine TL.cons rfl (Step.pick (b := false) (p := (.one (.d (.bool false)))) rfl rfl (lt_ok rfl) rfl rfl) ?_
   refine TL.nil ?_
   refine T.cond (b := false) rfl (fun h14_ => absurd h14_ (by simp)) (fun h14_ => ?_)
   refine T.skip ?_
   refine T.seq ?_
   refine T.region ?_
   refine TL.cons rfl (Step.assign (p := (.one (.d (.int .i64 1)))) rfl rfl (lt_ok rfl) rfl) ?_
   refine TL.nil ?_
   refine T.seq ?_
   refine T.region ?_
   refine TL.cons rfl (Step.move (p := (.one (.row 1046 []))) rfl rfl (lt_ok rfl) rfl) ?_
   refine TL.cons rfl (Step.move (p := (.one (.d (.int .i64 1)))) rfl rfl (lt_ok rfl) rfl) ?_
   refine TL.cons rfl (Step.call (f := 33) (xs := [.tmp 117, .tmp 118]) (ps := [(.one (.row 1046 [])), (.one (.d (.int .i64 1)))]) false (g := .func 33) rfl rfl (lt_ok rfl) rfl (by kernel_rfl) rfl (.cons (.one (.row rfl rfl rfl rfl)) (.cons (.one (.d _)) .nil)) (ok_laws_heldByteS (putTc aL aB aT) (mkB (putTc aL aB aT) 1) 1 (by omega) (by first | omega | (have := (by assumption); omega)) (by first | rfl | assumption | (repeat' (first | rfl | apply And.intro)))) (.inr rfl) rfl (by simp) rfl) ?_
   refine TL.cons rfl (Step.assign (p := (.one (.d (.int .i64 (1 + ((putTc aL aB aT).length : Int)))))) rfl rfl (lt_ok rfl) rfl) ?_
   refine TL.nil ?_
   refine T.seq ?_
   refine T.seq ?_
   refine T.region ?_
   refine TL.cons rfl (Step.move (p := (.one (.d (.int .i64 (1 + ((putTc aL aB aT).length : Int)))))) rfl rfl (lt_ok rfl) rfl) ?_
   refine TL.cons rfl (Step.bin rfl rfl (lt_ok rfl) rfl rfl (Bin.lss (k := .i64) (a := (1 + ((putTc aL aB aT).length : Int))) (b := 0))) ?_
   refine TL.known 121 (c := false) (decide_eq_false (by omega)) rfl ?_
   refine TL.nil ?_
   refine T.cond (b := false) rfl (fun h15_ => absurd h15_ (by simp)) (fun h15_ => ?_)
   refine T.skip ?_
   refine T.seq ?_
   refine T.seq ?_
   refine T.region ?_
   refine TL.cons rfl (Step.move (p := (.one (.d (.int .i64 (1 + ((putTc aL aB aT).length : Int)))))) rfl rfl (lt_ok rfl) rfl) ?_
   refine TL.cons rfl (Step.move (p := (.one (.d (.int .i64 (1 + ((putTc aL aB aT).length : Int)))))) rfl rfl (lt_ok rfl) rfl) ?_
   refine TL.cons rfl (Step.bin rfl rfl (lt_ok rfl) rfl rfl (Bin.neq (k := .i64) (a := (1 + ((putTc aL aB aT).length : Int))) (b := (1 + ((putTc aL aB aT).length : Int))))) ?_
   refine TL.known 124 (c := false) (by simp) rfl ?_
   refine TL.nil ?_
   refine T.cond (b := false) rfl (fun h16_ => absurd h16_ (by simp)) (fun h16_ => ?_)
   refine T.skip ?_
   refine T.seq ?_
   refine T.region ?_
   refine TL.cons rfl (Step.assign (p := (.one (.d (.bool true)))) rfl rfl (lt_ok rfl) rfl) ?_
   refine TL.nil ?_
   refine T.ret ?_
   exact ⟨[(false, [.d (.bool true)])], (.cons rfl .nil), rfl, [], (RetC.rd' (by rfl) .nil)⟩
end Go.Proofs.Ythaagegnobegjaa.Rf
