/- The functions that FnExactConsOf calls, each held to what it answers. Printed by a program of this session; Lean checks it. -/
import Derived.Test.YtmdojlglemnijaaProg
import Derived.Test.YtmdojlglemnijaaRf32
import Derived.Test.YtmdojlglemnijaaRFnExactConsOfx1
namespace Go.Proofs.Ytmdojlglemnijaa.Rf
open Go.RowKit
set_option linter.unusedVariables false
set_option linter.unnecessarySimpa false
set_option linter.unusedSimpArgs false
set_option maxRecDepth 100000
set_option maxHeartbeats 400000
theorem ok_spec_l09Of_r (d_ : Nat) : ∀ (l : List (List Int)) (m : Int) (known : Bool) (hd_ : l.length = d_) (h0_ : ∀ y ∈ l, U8s y) (h1_ : ∀ y ∈ l, y.length ≤ 1048576) (h2_ : 1 ≤ m ∧ m ≤ (l.length : Int)) (h3_ : l.length ≤ 1048576), RO Try.prog 64 [.one (.bss l), .one (.int .i64 m), .one (.bool known)] [(false, [.own 22 (.bss (consOf l m known))])] := by
 refine Nat.strongRecOn d_ ?_
 intro d_ ih l m known hd_ h0_ h1_ h2_ h3_
 subst hd_
 refine RO.intro Try.func64 rfl 47 rfl (le_ok rfl) fun w Z => ?_
 refine T.bnd 0 0 rfl rfl fun hb_0_0 => ?_
 simp only [D.size, List.length_map] at hb_0_0
 have hsb_ := splitAtT_bd (l.length : Int)
 have hsl_ := splitAtT_le (l.length : Int)
 have hpt_ := part_len l
 refine T.seq ?_
 refine T.region ?_
 refine TL.cons rfl (Step.assign (p := (.one (.nil))) rfl rfl (lt_ok rfl) rfl) ?_
 refine TL.nil ?_
 refine T.seq ?_
 refine T.seq ?_
 refine T.region ?_
 refine TL.cons rfl (Step.move (p := (.one (.d (.int .i64 m)))) rfl rfl (lt_ok rfl) rfl) ?_
 refine TL.cons rfl (Step.move (p := (.one (.d (.bss l)))) rfl rfl (lt_ok rfl) rfl) ?_
 refine TL.cons rfl (Step.len (e := 22) (z := 1) (d := (.bss l)) rfl rfl (lt_ok rfl) (by kernel_rfl) rfl rfl) ?_
 refine TL.cons rfl (Step.bin rfl rfl (lt_ok rfl) rfl rfl (Bin.eql (k := .i64) (a := m) (b := (l.length : Int)))) ?_
 refine TL.nil ?_
 refine T.cond (b := decide (m = (l.length : Int))) rfl (fun h1 => ?_) (fun h1 => ?_)
 ·
  replace h1 := of_decide_eq_true h1
  refine T.seq ?_
  refine T.seq ?_
  refine T.region ?_
  refine TL.cons rfl (Step.move (p := (.one (.d (.bool known)))) rfl rfl (lt_ok rfl) rfl) ?_
  refine TL.nil ?_
  refine T.cond (b := known) rfl (fun h2 => ?_) (fun h2 => ?_)
  ·
   refine T.seq ?_
   refine T.region ?_
   refine TL.cons rfl (Step.assign (p := (.one (.nil))) rfl rfl (lt_ok rfl) rfl) ?_
   refine TL.nil ?_
   refine T.ret ?_
   refine ⟨[(false, [.nil])], (.cons rfl .nil), rfl, [], (RetC.nilown' rfl ?_ (by first | exact trivial | exact D.wf_nil _) .nil)⟩ <;> (first | (congr 1; first | (rw [consOf_known (l := l) (m := m) (by omega) (by assumption)]; done) | (rw [consOf_new (l := l) (m := m) (by omega) (by assumption)]; done) | (rw [consOf_left (l := l) (m := m) (by omega) (by omega) (by omega)]; done) | (rw [consOf_right (l := l) (m := m) (by omega) (by omega) (by omega)]; done)) | (simp only [D.size]; rw [consOf_known (l := l) (m := m) (by omega) (by assumption)]; rfl))
  ·
   refine T.skip ?_
   refine T.seq ?_
   refine T.region ?_
   refine TL.cons rfl (Step.move (p := (.one (.d (.bss l)))) rfl rfl (lt_ok rfl) rfl) ?_
   have nn3 := treeRoot_len l
   have nn4 := treeRoot_u8 l
   refine TL.cons rfl (Step.call (f := 61) (xs := [.tmp 13]) (ps := [(.one (.d (.bss l)))]) false (g := .func 61) rfl rfl (lt_ok rfl) rfl (by kernel_rfl) rfl (.cons (.one (.d _)) .nil) (ok_spec_TreeRoot l (by first | assumption | exact mem_sub (by assumption) _ _ | exact s0.2) (by first | assumption | exact mem_sub (by assumption) _ _ | exact s0.2)) (.inr rfl) rfl (by simp) rfl) ?_
   refine TL.cons rfl (Step.lit (e := 22) (z := 1) (by_ := 24) (xs := [.tmp 14]) (pss := [[.row 1014 []]]) (es := [(.ints .u8 (treeRoot l))]) (ss := [1014]) (d := (.bss [treeRoot l])) rfl rfl (lt_ok rfl) (by kernel_rfl) rfl rfl (.cons rfl .nil) (by simp) (le_ok rfl) (le_ok rfl) rfl (.row rfl (by simp) .nil) rfl (by simp) (by simp) rfl trivial rfl rfl) ?_
   refine TL.cons rfl (Step.assign (p := (.one (.row 15 []))) rfl rfl (lt_ok rfl) rfl) ?_
   refine TL.nil ?_
   refine T.ret ?_
   refine ⟨[(false, [.row 15 []])], (.cons rfl .nil), rfl, [15], (RetC.own' rfl ?_ rfl .nil)⟩ <;> (first | (congr 1; first | (rw [consOf_known (l := l) (m := m) (by omega) (by assumption)]; done) | (rw [consOf_new (l := l) (m := m) (by omega) (by assumption)]; done) | (rw [consOf_left (l := l) (m := m) (by omega) (by omega) (by omega)]; done) | (rw [consOf_right (l := l) (m := m) (by omega) (by omega) (by omega)]; done)) | (simp only [D.size]; rw [consOf_known (l := l) (m := m) (by omega) (by assumption)]; rfl))
 ·
  replace h1 := of_decide_eq_false h1
  refine T.skip ?_
  refine T.seq ?_
  refine T.region ?_
  refine TL.cons rfl (Step.move (p := (.one (.d (.bss l)))) rfl rfl (lt_ok rfl) rfl) ?_
  refine TL.cons rfl (Step.len (e := 22) (z := 1) (d := (.bss l)) rfl rfl (lt_ok rfl) (by kernel_rfl) rfl rfl) ?_
  have nn5 := splitAtT_bd (l.length : Int)
  refine TL.cons rfl (Step.call (f := 60) (xs := [.tmp 17]) (ps := [(.one (.d (.int .i64 (l.length : Int))))]) false (g := .func 60) rfl rfl (lt_ok rfl) rfl (by kernel_rfl) rfl (.cons (.one (.d _)) .nil) (ok_spec_SplitAt (l.length : Int) (by first | omega | assumption | (simp only [List.length_append] at *; omega))) (.inr rfl) rfl (by simp) rfl) ?_
  refine TL.cons rfl (Step.assign (p := (.one (.d (.int .i64 (splitAtT (l.length : Int)))))) rfl rfl (lt_ok rfl) rfl) ?_
  refine TL.nil ?_
  refine T.seq ?_
  refine T.seq ?_
  refine T.region ?_
  refine TL.cons rfl (Step.move (p := (.one (.d (.int .i64 m)))) rfl rfl (lt_ok rfl) rfl) ?_
  refine TL.cons rfl (Step.move (p := (.one (.d (.int .i64 (splitAtT (l.length : Int)))))) rfl rfl (lt_ok rfl) rfl) ?_
  refine TL.cons rfl (Step.bin rfl rfl (lt_ok rfl) rfl rfl (Bin.leq (k := .i64) (a := m) (b := (splitAtT (l.length : Int))))) ?_
  refine TL.nil ?_
  refine T.cond (b := decide (m ≤ (splitAtT (l.length : Int)))) rfl (fun h6 => ?_) (fun h6 => ?_)
  ·
   replace h6 := of_decide_eq_true h6
   refine T.seq ?_
   have nn7 := consOf_len ((l.drop 0).take ((splitAtT (l.length : Int)).toNat - 0)) m known
   have nn8 := treeRoot_len ((l.drop (splitAtT (l.length : Int)).toNat).take (l.length - (splitAtT (l.length : Int)).toNat))
   have nn9 := treeRoot_u8 ((l.drop (splitAtT (l.length : Int)).toNat).take (l.length - (splitAtT (l.length : Int)).toNat))
   refine T.draw [⟨22, (.one (.d (.bss l))), []⟩, ⟨23, (.one (.d (.int .i64 (splitAtT (l.length : Int))))), []⟩, ⟨24, (.one (.d (.bss ((l.drop 0).take ((splitAtT (l.length : Int)).toNat - 0))))), []⟩, ⟨25, (.one (.d (.int .i64 m))), []⟩, ⟨26, (.one (.d (.bool known))), []⟩, ⟨27, (.one (.row 1027 [])), [(1027, (22, (.bss (consOf ((l.drop 0).take ((splitAtT (l.length : Int)).toNat - 0)) m known))))]⟩, ⟨28, (.one (.d (.bss l))), []⟩, ⟨29, (.one (.d (.int .i64 (splitAtT (l.length : Int))))), []⟩, ⟨30, (.one (.d (.bss ((l.drop (splitAtT (l.length : Int)).toNat).take (l.length - (splitAtT (l.length : Int)).toNat))))), []⟩, ⟨31, (.one (.row 1031 [])), [(1031, (5, (.ints .u8 (treeRoot ((l.drop (splitAtT (l.length : Int)).toNat).take (l.length - (splitAtT (l.length : Int)).toNat))))))]⟩] (by kernel_rfl) (by kernel_rfl) ?_ ?_
   ·
    refine .cons (fun E hA_ => by have g0 := hA_.get 0 (by decide); exact OpStep.plain rfl (Step.move (p := (.one (.d (.bss l)))) (t := 22) rfl rfl (by exact lt_ok rfl) (show Env.ev E (.tmp 0) = _ from g0.trans rfl))) ?_
    refine .cons (fun E hA_ => by have g7 := hA_.get 7 (by decide); exact OpStep.plain rfl (Step.move (p := (.one (.d (.int .i64 (splitAtT (l.length : Int)))))) (t := 23) rfl rfl (by exact lt_ok rfl) (show Env.ev E (.tmp 7) = _ from g7.trans rfl))) ?_
    refine .cons (fun E hA_ => by have g22 := hA_.get 22 (by decide); have g23 := hA_.get 23 (by decide); exact OpStep.plain rfl (Step.slice (e := 22) (z := 1) (l := 0) (h := (splitAtT (l.length : Int)).toNat) (t := 24) rfl rfl (by exact lt_ok rfl) (by kernel_rfl) (show Env.ev E (.tmp 22) = _ from g22.trans rfl) rfl rfl (.none _) ((.some (i := (splitAtT (l.length : Int))) (show Env.ev E (.tmp 23) = _ from g23.trans rfl) (by first | omega | (simp; omega)))) (by first | omega | (simp; omega)) (by simp only [D.size]; first | omega | (simp; omega)) rfl)) ?_
    refine .cons (fun E hA_ => by have g1 := hA_.get 1 (by decide); exact OpStep.plain rfl (Step.move (p := (.one (.d (.int .i64 m)))) (t := 25) rfl rfl (by exact lt_ok rfl) (show Env.ev E (.tmp 1) = _ from g1.trans rfl))) ?_
    refine .cons (fun E hA_ => by have g2 := hA_.get 2 (by decide); exact OpStep.plain rfl (Step.move (p := (.one (.d (.bool known)))) (t := 26) rfl rfl (by exact lt_ok rfl) (show Env.ev E (.tmp 2) = _ from g2.trans rfl))) ?_
    refine .cons (fun E hA_ => by have g24 := hA_.get 24 (by decide); have g25 := hA_.get 25 (by decide); have g26 := hA_.get 26 (by decide); exact OpStep.plain rfl (Step.call (f := 64) (xs := [.tmp 24, .tmp 25, .tmp 26]) (ps := [(.one (.d (.bss ((l.drop 0).take ((splitAtT (l.length : Int)).toNat - 0))))), (.one (.d (.int .i64 m))), (.one (.d (.bool known)))]) false (g := .func 64) (t := 27) rfl rfl (by exact lt_ok rfl) rfl (by kernel_rfl) (evs_cons (show Env.ev E (.tmp 24) = _ from g24.trans rfl) (evs_cons (show Env.ev E (.tmp 25) = _ from g25.trans rfl) (evs_cons (show Env.ev E (.tmp 26) = _ from g26.trans rfl) (rfl)))) (.cons (.one (.d _)) (.cons (.one (.d _)) (.cons (.one (.d _)) .nil))) (ih ((l.drop 0).take ((splitAtT (l.length : Int)).toNat - 0)).length (by omega) ((l.drop 0).take ((splitAtT (l.length : Int)).toNat - 0)) m known rfl (by first | assumption | exact mem_sub (by assumption) _ _ | exact s0.2) (by first | assumption | exact mem_sub (by assumption) _ _ | exact s0.2) (by first | assumption | omega) (by first | omega | assumption)) (.inr rfl) (At.freshRows hA_ rfl) (by simp) rfl)) ?_
    refine .cons (fun E hA_ => by have g0 := hA_.get 0 (by decide); exact OpStep.plain rfl (Step.move (p := (.one (.d (.bss l)))) (t := 28) rfl rfl (by exact lt_ok rfl) (show Env.ev E (.tmp 0) = _ from g0.trans rfl))) ?_
    refine .cons (fun E hA_ => by have g7 := hA_.get 7 (by decide); exact OpStep.plain rfl (Step.move (p := (.one (.d (.int .i64 (splitAtT (l.length : Int)))))) (t := 29) rfl rfl (by exact lt_ok rfl) (show Env.ev E (.tmp 7) = _ from g7.trans rfl))) ?_
    refine .cons (fun E hA_ => by have g28 := hA_.get 28 (by decide); have g29 := hA_.get 29 (by decide); exact OpStep.plain rfl (Step.slice (e := 22) (z := 1) (l := (splitAtT (l.length : Int)).toNat) (h := l.length) (t := 30) rfl rfl (by exact lt_ok rfl) (by kernel_rfl) (show Env.ev E (.tmp 28) = _ from g28.trans rfl) rfl rfl ((.some (i := (splitAtT (l.length : Int))) (show Env.ev E (.tmp 29) = _ from g29.trans rfl) (by first | omega | (simp; omega)))) (.none _) (by first | omega | (simp; omega)) (by simp only [D.size]; first | omega | (simp; omega)) rfl)) ?_
    refine .cons (fun E hA_ => by have g30 := hA_.get 30 (by decide); exact OpStep.plain rfl (Step.call (f := 61) (xs := [.tmp 30]) (ps := [(.one (.d (.bss ((l.drop (splitAtT (l.length : Int)).toNat).take (l.length - (splitAtT (l.length : Int)).toNat)))))]) false (g := .func 61) (t := 31) rfl rfl (by exact lt_ok rfl) rfl (by kernel_rfl) (evs_cons (show Env.ev E (.tmp 30) = _ from g30.trans rfl) (rfl)) (.cons (.one (.d _)) .nil) (ok_spec_TreeRoot ((l.drop (splitAtT (l.length : Int)).toNat).take (l.length - (splitAtT (l.length : Int)).toNat)) (by first | assumption | exact mem_sub (by assumption) _ _ | exact s0.2) (by first | assumption | exact mem_sub (by assumption) _ _ | exact s0.2)) (.inr rfl) (At.freshRows hA_ rfl) (by simp) rfl)) ?_
    exact .nil _ _
   refine TL.cons rfl (Step.lit (e := 22) (z := 1) (by_ := 24) (xs := [.tmp 31]) (pss := [[.row 1031 []]]) (es := [(.ints .u8 (treeRoot ((l.drop (splitAtT (l.length : Int)).toNat).take (l.length - (splitAtT (l.length : Int)).toNat))))]) (ss := [1031]) (d := (.bss [treeRoot ((l.drop (splitAtT (l.length : Int)).toNat).take (l.length - (splitAtT (l.length : Int)).toNat))])) rfl rfl (lt_ok rfl) (by kernel_rfl) rfl rfl (.cons rfl .nil) (by simp) (le_ok rfl) (le_ok rfl) rfl (.row rfl (by simp) .nil) rfl (by simp) (by simp) rfl trivial rfl rfl) ?_
   refine TL.cons rfl (Step.append (e := 22) (z := 1) (by_ := 24) (d := (.bss (consOf ((l.drop 0).take ((splitAtT (l.length : Int)).toNat - 0)) m known))) (dy := (.bss [treeRoot ((l.drop (splitAtT (l.length : Int)).toNat).take (l.length - (splitAtT (l.length : Int)).toNat))])) (d' := (.bss ((consOf ((l.drop 0).take ((splitAtT (l.length : Int)).toNat - 0)) m known) ++ [treeRoot ((l.drop (splitAtT (l.length : Int)).toNat).take (l.length - (splitAtT (l.length : Int)).toNat))]))) (ss := [32]) rfl rfl (lt_ok rfl) (by kernel_rfl) rfl rfl rfl (lt_ok rfl) rfl (.move rfl) (by simp) rfl (by simp only [D.size, List.length_map]; first | omega | (simp only [List.length_append, List.length_cons, List.length_nil]; omega) | (simp; omega) | (simp only [List.length_append] at *; omega)) (by simp only [D.size, List.length_map]; first | omega | (simp only [List.length_append, List.length_cons, List.length_nil]; omega) | (simp; omega) | (simp only [List.length_append] at *; omega)) (by simp)) ?_
   refine TL.cons rfl (Step.assign (p := (.one (.row 1027 []))) rfl rfl (lt_ok rfl) rfl) ?_
   refine TL.nil ?_
   refine T.ret ?_
   refine ⟨[(false, [.row 1027 []])], (.cons rfl .nil), rfl, [1027], (RetC.own' rfl ?_ rfl .nil)⟩ <;> (first | (congr 1; first | (rw [consOf_known (l := l) (m := m) (by omega) (by assumption)]; done) | (rw [consOf_new (l := l) (m := m) (by omega) (by assumption)]; done) | (rw [consOf_left (l := l) (m := m) (by omega) (by omega) (by omega)]; done) | (rw [consOf_right (l := l) (m := m) (by omega) (by omega) (by omega)]; done)) | (simp only [D.size]; rw [consOf_known (l := l) (m := m) (by omega) (by assumption)]; rfl))
  ·
   replace h6 := of_decide_eq_false h6
   refine T.skip ?_
   refine T.seq ?_
   have nn10 := consOf_len ((l.drop (splitAtT (l.length : Int)).toNat).take (l.length - (splitAtT (l.length : Int)).toNat)) (m - (splitAtT (l.length : Int))) false
   have nn11 := treeRoot_len ((l.drop 0).take ((splitAtT (l.length : Int)).toNat - 0))
   have nn12 := treeRoot_u8 ((l.drop 0).take ((splitAtT (l.length : Int)).toNat - 0))
   refine T.draw [⟨34, (.one (.d (.bss l))), []⟩, ⟨35, (.one (.d (.int .i64 (splitAtT (l.length : Int))))), []⟩, ⟨36, (.one (.d (.bss ((l.drop (splitAtT (l.length : Int)).toNat).take (l.length - (splitAtT (l.length : Int)).toNat))))), []⟩, ⟨37, (.one (.d (.int .i64 m))), []⟩, ⟨38, (.one (.d (.int .i64 (splitAtT (l.length : Int))))), []⟩, ⟨39, (.one (.d (.int .i64 (m - (splitAtT (l.length : Int)))))), []⟩, ⟨40, (.one (.row 1040 [])), [(1040, (22, (.bss (consOf ((l.drop (splitAtT (l.length : Int)).toNat).take (l.length - (splitAtT (l.length : Int)).toNat)) (m - (splitAtT (l.length : Int))) false))))]⟩, ⟨41, (.one (.d (.bss l))), []⟩, ⟨42, (.one (.d (.int .i64 (splitAtT (l.length : Int))))), []⟩, ⟨43, (.one (.d (.bss ((l.drop 0).take ((splitAtT (l.length : Int)).toNat - 0))))), []⟩, ⟨44, (.one (.row 1044 [])), [(1044, (5, (.ints .u8 (treeRoot ((l.drop 0).take ((splitAtT (l.length : Int)).toNat - 0))))))]⟩] (by kernel_rfl) (by kernel_rfl) ?_ ?_
   ·
    refine .cons (fun E hA_ => by have g0 := hA_.get 0 (by decide); exact OpStep.plain rfl (Step.move (p := (.one (.d (.bss l)))) (t := 34) rfl rfl (by exact lt_ok rfl) (show Env.ev E (.tmp 0) = _ from g0.trans rfl))) ?_
    refine .cons (fun E hA_ => by have g7 := hA_.get 7 (by decide); exact OpStep.plain rfl (Step.move (p := (.one (.d (.int .i64 (splitAtT (l.length : Int)))))) (t := 35) rfl rfl (by exact lt_ok rfl) (show Env.ev E (.tmp 7) = _ from g7.trans rfl))) ?_
    refine .cons (fun E hA_ => by have g34 := hA_.get 34 (by decide); have g35 := hA_.get 35 (by decide); exact OpStep.plain rfl (Step.slice (e := 22) (z := 1) (l := (splitAtT (l.length : Int)).toNat) (h := l.length) (t := 36) rfl rfl (by exact lt_ok rfl) (by kernel_rfl) (show Env.ev E (.tmp 34) = _ from g34.trans rfl) rfl rfl ((.some (i := (splitAtT (l.length : Int))) (show Env.ev E (.tmp 35) = _ from g35.trans rfl) (by first | omega | (simp; omega)))) (.none _) (by first | omega | (simp; omega)) (by simp only [D.size]; first | omega | (simp; omega)) rfl)) ?_
    refine .cons (fun E hA_ => by have g1 := hA_.get 1 (by decide); exact OpStep.plain rfl (Step.move (p := (.one (.d (.int .i64 m)))) (t := 37) rfl rfl (by exact lt_ok rfl) (show Env.ev E (.tmp 1) = _ from g1.trans rfl))) ?_
    refine .cons (fun E hA_ => by have g7 := hA_.get 7 (by decide); exact OpStep.plain rfl (Step.move (p := (.one (.d (.int .i64 (splitAtT (l.length : Int)))))) (t := 38) rfl rfl (by exact lt_ok rfl) (show Env.ev E (.tmp 7) = _ from g7.trans rfl))) ?_
    refine .cons (fun E hA_ => by have g37 := hA_.get 37 (by decide); have g38 := hA_.get 38 (by decide); exact OpStep.plain rfl (Step.bin (r := .int .i64 (m - (splitAtT (l.length : Int)))) (t := 39) rfl rfl (by exact lt_ok rfl) (show Env.ev E (.tmp 37) = _ from g37.trans rfl) (show Env.ev E (.tmp 38) = _ from g38.trans rfl) (Bin.sub (a := m) (b := (splitAtT (l.length : Int))) (by first | exact wrap_ok (by first | omega | (simp; omega)) (by first | omega | (simp; omega)) | rfl)))) ?_
    refine .cons (fun E hA_ => by have g36 := hA_.get 36 (by decide); have g39 := hA_.get 39 (by decide); exact OpStep.plain rfl (Step.call (f := 64) (xs := [.tmp 36, .tmp 39, .const (.bool false)]) (ps := [(.one (.d (.bss ((l.drop (splitAtT (l.length : Int)).toNat).take (l.length - (splitAtT (l.length : Int)).toNat))))), (.one (.d (.int .i64 (m - (splitAtT (l.length : Int)))))), (.one (.d (.bool false)))]) false (g := .func 64) (t := 40) rfl rfl (by exact lt_ok rfl) rfl (by kernel_rfl) (evs_cons (show Env.ev E (.tmp 36) = _ from g36.trans rfl) (evs_cons (show Env.ev E (.tmp 39) = _ from g39.trans rfl) (evs_cons rfl (rfl)))) (.cons (.one (.d _)) (.cons (.one (.d _)) (.cons (.one (.d _)) .nil))) (ih ((l.drop (splitAtT (l.length : Int)).toNat).take (l.length - (splitAtT (l.length : Int)).toNat)).length (by omega) ((l.drop (splitAtT (l.length : Int)).toNat).take (l.length - (splitAtT (l.length : Int)).toNat)) (m - (splitAtT (l.length : Int))) false rfl (by first | assumption | exact mem_sub (by assumption) _ _ | exact s0.2) (by first | assumption | exact mem_sub (by assumption) _ _ | exact s0.2) (by first | assumption | omega) (by first | omega | assumption)) (.inr rfl) (At.freshRows hA_ rfl) (by simp) rfl)) ?_
    refine .cons (fun E hA_ => by have g0 := hA_.get 0 (by decide); exact OpStep.plain rfl (Step.move (p := (.one (.d (.bss l)))) (t := 41) rfl rfl (by exact lt_ok rfl) (show Env.ev E (.tmp 0) = _ from g0.trans rfl))) ?_
    refine .cons (fun E hA_ => by have g7 := hA_.get 7 (by decide); exact OpStep.plain rfl (Step.move (p := (.one (.d (.int .i64 (splitAtT (l.length : Int)))))) (t := 42) rfl rfl (by exact lt_ok rfl) (show Env.ev E (.tmp 7) = _ from g7.trans rfl))) ?_
    refine .cons (fun E hA_ => by have g41 := hA_.get 41 (by decide); have g42 := hA_.get 42 (by decide); exact OpStep.plain rfl (Step.slice (e := 22) (z := 1) (l := 0) (h := (splitAtT (l.length : Int)).toNat) (t := 43) rfl rfl (by exact lt_ok rfl) (by kernel_rfl) (show Env.ev E (.tmp 41) = _ from g41.trans rfl) rfl rfl (.none _) ((.some (i := (splitAtT (l.length : Int))) (show Env.ev E (.tmp 42) = _ from g42.trans rfl) (by first | omega | (simp; omega)))) (by first | omega | (simp; omega)) (by simp only [D.size]; first | omega | (simp; omega)) rfl)) ?_
    refine .cons (fun E hA_ => by have g43 := hA_.get 43 (by decide); exact OpStep.plain rfl (Step.call (f := 61) (xs := [.tmp 43]) (ps := [(.one (.d (.bss ((l.drop 0).take ((splitAtT (l.length : Int)).toNat - 0)))))]) false (g := .func 61) (t := 44) rfl rfl (by exact lt_ok rfl) rfl (by kernel_rfl) (evs_cons (show Env.ev E (.tmp 43) = _ from g43.trans rfl) (rfl)) (.cons (.one (.d _)) .nil) (ok_spec_TreeRoot ((l.drop 0).take ((splitAtT (l.length : Int)).toNat - 0)) (by first | assumption | exact mem_sub (by assumption) _ _ | exact s0.2) (by first | assumption | exact mem_sub (by assumption) _ _ | exact s0.2)) (.inr rfl) (At.freshRows hA_ rfl) (by simp) rfl)) ?_
    exact .nil _ _
   refine TL.cons rfl (Step.lit (e := 22) (z := 1) (by_ := 24) (xs := [.tmp 44]) (pss := [[.row 1044 []]]) (es := [(.ints .u8 (treeRoot ((l.drop 0).take ((splitAtT (l.length : Int)).toNat - 0))))]) (ss := [1044]) (d := (.bss [treeRoot ((l.drop 0).take ((splitAtT (l.length : Int)).toNat - 0))])) rfl rfl (lt_ok rfl) (by kernel_rfl) rfl rfl (.cons rfl .nil) (by simp) (le_ok rfl) (le_ok rfl) rfl (.row rfl (by simp) .nil) rfl (by simp) (by simp) rfl trivial rfl rfl) ?_
   refine TL.cons rfl (Step.append (e := 22) (z := 1) (by_ := 24) (d := (.bss (consOf ((l.drop (splitAtT (l.length : Int)).toNat).take (l.length - (splitAtT (l.length : Int)).toNat)) (m - (splitAtT (l.length : Int))) false))) (dy := (.bss [treeRoot ((l.drop 0).take ((splitAtT (l.length : Int)).toNat - 0))])) (d' := (.bss ((consOf ((l.drop (splitAtT (l.length : Int)).toNat).take (l.length - (splitAtT (l.length : Int)).toNat)) (m - (splitAtT (l.length : Int))) false) ++ [treeRoot ((l.drop 0).take ((splitAtT (l.length : Int)).toNat - 0))]))) (ss := [45]) rfl rfl (lt_ok rfl) (by kernel_rfl) rfl rfl rfl (lt_ok rfl) rfl (.move rfl) (by simp) rfl (by simp only [D.size, List.length_map]; first | omega | (simp only [List.length_append, List.length_cons, List.length_nil]; omega) | (simp; omega) | (simp only [List.length_append] at *; omega)) (by simp only [D.size, List.length_map]; first | omega | (simp only [List.length_append, List.length_cons, List.length_nil]; omega) | (simp; omega) | (simp only [List.length_append] at *; omega)) (by simp)) ?_
   refine TL.cons rfl (Step.assign (p := (.one (.row 1040 []))) rfl rfl (lt_ok rfl) rfl) ?_
   refine TL.nil ?_
   refine T.ret ?_
   refine ⟨[(false, [.row 1040 []])], (.cons rfl .nil), rfl, [1040], (RetC.own' rfl ?_ rfl .nil)⟩ <;> (first | (congr 1; first | (rw [consOf_known (l := l) (m := m) (by omega) (by assumption)]; done) | (rw [consOf_new (l := l) (m := m) (by omega) (by assumption)]; done) | (rw [consOf_left (l := l) (m := m) (by omega) (by omega) (by omega)]; done) | (rw [consOf_right (l := l) (m := m) (by omega) (by omega) (by omega)]; done)) | (simp only [D.size]; rw [consOf_known (l := l) (m := m) (by omega) (by assumption)]; rfl))
theorem ok_spec_l09Of (l : List (List Int)) (m : Int) (known : Bool) (h0_ : ∀ y ∈ l, U8s y) (h1_ : ∀ y ∈ l, y.length ≤ 1048576) (h2_ : 1 ≤ m ∧ m ≤ (l.length : Int)) (h3_ : l.length ≤ 1048576) : RO Try.prog 64 [.one (.bss l), .one (.int .i64 m), .one (.bool known)] [(false, [.own 22 (.bss (consOf l m known))])] := ok_spec_l09Of_r _ l m known rfl h0_ h1_ h2_ h3_
theorem ok_spec_ConsOf (l : List (List Int)) (m : Int) (h0_ : ∀ y ∈ l, U8s y) (h1_ : ∀ y ∈ l, y.length ≤ 1048576) (h2_ : l.length ≤ 1048576) : RO Try.prog 30 [.one (.bss l), .one (.int .i64 m)] [(false, [.own 22 (.bss (consOfT l m))]), (false, [.rd (.bool (decide (1 ≤ m ∧ m ≤ (l.length : Int))))])] := by
 refine RO.intro Try.func30 rfl 14 rfl (le_ok rfl) fun w Z => ?_
 refine T.bnd 0 0 rfl rfl fun hb_0_0 => ?_
 simp only [D.size, List.length_map] at hb_0_0
 refine T.seq ?_
 refine T.region ?_
 refine TL.cons rfl (Step.assign (p := (.one (.nil))) rfl rfl (lt_ok rfl) rfl) ?_
 refine TL.cons rfl (Step.assign (p := (.one (.d (.bool false)))) rfl rfl (lt_ok rfl) rfl) ?_
 refine TL.nil ?_
 refine T.seq ?_
 refine T.seq ?_
 refine T.region ?_
 refine TL.cons rfl (Step.move (p := (.one (.d (.int .i64 m)))) rfl rfl (lt_ok rfl) rfl) ?_
 refine TL.cons rfl (Step.move (p := (.one (.d (.bss l)))) rfl rfl (lt_ok rfl) rfl) ?_
 refine TL.cons rfl (Step.len (e := 22) (z := 1) (d := (.bss l)) rfl rfl (lt_ok rfl) (by kernel_rfl) rfl rfl) ?_
 refine TL.cons rfl (Step.call (f := 59) (xs := [.tmp 6, .const (.int .i64 1), .tmp 8]) (ps := [(.one (.d (.int .i64 m))), (.one (.d (.int .i64 1))), (.one (.d (.int .i64 (l.length : Int))))]) false (g := .func 59) rfl rfl (lt_ok rfl) rfl (by kernel_rfl) rfl (.cons (.one (.d _)) (.cons (.one (.d _)) (.cons (.one (.d _)) .nil))) (ok_spec_l01In m 1 (l.length : Int)) (.inr rfl) rfl (by simp) rfl) ?_
 refine TL.cons rfl (Step.not (b := (decide (1 ≤ m ∧ m ≤ (l.length : Int)))) rfl rfl (lt_ok rfl) rfl) ?_
 refine TL.nil ?_
 refine T.cond (b := !(decide (1 ≤ m ∧ m ≤ (l.length : Int)))) rfl (fun h1 => ?_) (fun h1 => ?_)
 ·
  replace h1 : (decide (1 ≤ m ∧ m ≤ (l.length : Int))) = false := by simpa only [Bool.not_eq_true', Bool.not_eq_false'] using h1
  replace h1 := of_decide_eq_false h1
  refine T.seq ?_
  refine T.region ?_
  refine TL.cons rfl (Step.assign (p := (.one (.nil))) rfl rfl (lt_ok rfl) rfl) ?_
  refine TL.cons rfl (Step.assign (p := (.one (.d (.bool false)))) rfl rfl (lt_ok rfl) rfl) ?_
  refine TL.nil ?_
  refine T.ret ?_
  refine ⟨[(false, [.nil]), (false, [.d (.bool false)])], (.cons rfl (.cons rfl .nil)), rfl, [], (RetC.nilown' rfl ?_ (by first | exact trivial | exact D.wf_nil _) (RetC.rd' ?_ .nil))⟩ <;> (first | (congr 1; first | (rw [consOfT_yes (l := l) (m := m) (by omega)]; done) | (rw [consOfT_no (l := l) (m := m) (by omega)]; done) | (symm; exact decide_eq_true (by omega)) | (symm; exact decide_eq_false (by omega))) | (simp only [D.size]; rw [consOfT_no (l := l) (m := m) (by omega)]; rfl))
 ·
  replace h1 : (decide (1 ≤ m ∧ m ≤ (l.length : Int))) = true := by simpa only [Bool.not_eq_true', Bool.not_eq_false'] using h1
  replace h1 := of_decide_eq_true h1
  refine T.skip ?_
  refine T.seq ?_
  refine T.region ?_
  refine TL.cons rfl (Step.move (p := (.one (.d (.bss l)))) rfl rfl (lt_ok rfl) rfl) ?_
  refine TL.cons rfl (Step.move (p := (.one (.d (.int .i64 m)))) rfl rfl (lt_ok rfl) rfl) ?_
  have nn2 := consOf_len l m true
  refine TL.cons rfl (Step.call (f := 64) (xs := [.tmp 11, .tmp 12, .const (.bool true)]) (ps := [(.one (.d (.bss l))), (.one (.d (.int .i64 m))), (.one (.d (.bool true)))]) false (g := .func 64) rfl rfl (lt_ok rfl) rfl (by kernel_rfl) rfl (.cons (.one (.d _)) (.cons (.one (.d _)) (.cons (.one (.d _)) .nil))) (ok_spec_l09Of l m true (by first | assumption | exact mem_sub (by assumption) _ _ | exact s0.2) (by first | assumption | exact mem_sub (by assumption) _ _ | exact s0.2) (by first | assumption | omega) (by first | omega | assumption)) (.inr rfl) rfl (by simp) rfl) ?_
  refine TL.cons rfl (Step.assign (p := (.one (.row 1013 []))) rfl rfl (lt_ok rfl) rfl) ?_
  refine TL.cons rfl (Step.assign (p := (.one (.d (.bool true)))) rfl rfl (lt_ok rfl) rfl) ?_
  refine TL.nil ?_
  refine T.ret ?_
  refine ⟨[(false, [.row 1013 []]), (false, [.d (.bool true)])], (.cons rfl (.cons rfl .nil)), rfl, [1013], (RetC.own' rfl ?_ rfl (RetC.rd' ?_ .nil))⟩ <;> (first | (congr 1; first | (rw [consOfT_yes (l := l) (m := m) (by omega)]; done) | (rw [consOfT_no (l := l) (m := m) (by omega)]; done) | (symm; exact decide_eq_true (by omega)) | (symm; exact decide_eq_false (by omega))) | (simp only [D.size]; rw [consOfT_no (l := l) (m := m) (by omega)]; rfl))
theorem ok_laws_FnExactConsOf (aL : List (List Int)) (aM : Int) (h0_ : ∀ y ∈ aL, U8s y) (h1_ : I64 aM) : RO Try.prog 6 [.one (.bss aL), .one (.int .i64 aM)] [(false, [.rd (.bool true)])] := by
 refine RO.intro Try.func6 rfl 101 rfl (le_ok rfl) fun w Z => ?_
 refine T.bnd 0 0 rfl rfl fun hb_0_0 => ?_
 simp only [D.size, List.length_map] at hb_0_0
 refine T.seq ?_
 refine T.region ?_
 refine TL.cons rfl (Step.assign (p := (.one (.d (.bool false)))) rfl rfl (lt_ok rfl) rfl) ?_
 refine TL.nil ?_
 refine T.seq ?_
 refine T.region ?_
 refine TL.cons rfl (Step.assign (p := (.one (.d (.int .i64 1048576)))) rfl rfl (lt_ok rfl) rfl) ?_
 refine TL.nil ?_
 refine T.seq ?_
 refine T.region ?_
 refine TL.cons rfl (Step.move (p := (.one (.d (.bss aL)))) rfl rfl (lt_ok rfl) rfl) ?_
 refine TL.cons rfl (Step.move (p := (.one (.d (.int .i64 1048576)))) rfl rfl (lt_ok rfl) rfl) ?_
 refine TL.cons rfl (Step.call (f := 19) (xs := [.tmp 16, .tmp 17]) (ps := [(.one (.d (.bss aL))), (.one (.d (.int .i64 1048576)))]) false (g := .func 19) rfl rfl (lt_ok rfl) rfl (by kernel_rfl) rfl (.cons (.one (.d _)) (.cons (.one (.d _)) .nil)) (ok_laws_szByteSS aL 1048576 (by omega) (by omega)) (.inr rfl) rfl (by simp) rfl) ?_
 refine TL.cons rfl (Step.assign (p := (.one (.d (.int .i64 (szLs szB aL 1048576))))) rfl rfl (lt_ok rfl) rfl) ?_
 refine TL.nil ?_
 refine T.seq ?_
 refine T.seq ?_
 refine T.region ?_
 refine TL.cons rfl (Step.move (p := (.one (.d (.int .i64 (szLs szB aL 1048576))))) rfl rfl (lt_ok rfl) rfl) ?_
 refine TL.cons rfl (Step.bin rfl rfl (lt_ok rfl) rfl rfl (Bin.lss (k := .i64) (a := (szLs szB aL 1048576)) (b := 0))) ?_
 refine TL.nil ?_
 refine T.cond (b := decide ((szLs szB aL 1048576) < 0)) rfl (fun h2 => ?_) (fun h2 => ?_)
 ·
  replace h2 := of_decide_eq_true h2
  refine T.seq ?_
  refine T.region ?_
  refine TL.cons rfl (Step.assign (p := (.one (.d (.bool true)))) rfl rfl (lt_ok rfl) rfl) ?_
  refine TL.nil ?_
  refine T.ret ?_
  exact ⟨[(false, [.d (.bool true)])], (.cons rfl .nil), rfl, [], (RetC.rd' rfl .nil)⟩
 ·
  replace h2 := of_decide_eq_false h2
  have z1_le : szLs szB aL 1048576 ≤ 1048576 := szLs_le (fun x l h => szB_le x h) _ (by omega)
  have z1_sm := szLs_sm (p := fun y => y.length ≤ 1048576) (fun x l h => szB_le x h) (fun x l h h0 hl => szB_sm h hl) (by omega : (0 : Int) ≤ szLs szB aL 1048576) (by omega : (1048576 : Int) ≤ 1048576)
  have osm := consOfT_sm (m := aM) z1_sm.1
  have s0l_ := z1_sm.1
  have s0m_ := z1_sm.2
  refine T.skip ?_
  refine T.seq ?_
  refine T.region ?_
  refine TL.cons rfl (Step.move (p := (.one (.d (.bss aL)))) rfl rfl (lt_ok rfl) rfl) ?_
  refine TL.cons rfl (Step.call (f := 21) (xs := [.tmp 22]) (ps := [(.one (.d (.bss aL)))]) false (g := .func 21) rfl rfl (lt_ok rfl) rfl (by kernel_rfl) rfl (.cons (.one (.d _)) .nil) (ok_laws_toByteSS aL (by first | assumption | exact ⟨‹_›, ‹_›⟩ | exact mem_getD h0_.2 (by omega))) (.inr rfl) rfl (by simp) rfl) ?_
  refine TL.cons rfl (Step.move (p := (.one (.d (.int .i64 aM)))) rfl rfl (lt_ok rfl) rfl) ?_
  refine TL.cons rfl (Step.call (f := 30) (xs := [.tmp 23, .tmp 24]) (ps := [(.one (.row 1023 [])), (.one (.d (.int .i64 aM)))]) false (g := .func 30) rfl rfl (lt_ok rfl) rfl (by kernel_rfl) rfl (.cons (.one (.row rfl rfl rfl rfl)) (.cons (.one (.d _)) .nil)) (ok_spec_ConsOf aL aM (by first | assumption | exact mem_sub (by assumption) _ _ | exact s0.2) (by first | assumption | exact mem_sub (by assumption) _ _ | exact s0.2) (by first | omega | assumption)) (.inr rfl) rfl (by simp) rfl) ?_
  refine TL.cons rfl (Step.move (p := (.tup [(false, [.row 1025 []]), (false, [.d (.bool (decide (1 ≤ aM ∧ aM ≤ (aL.length : Int))))])])) rfl rfl (lt_ok rfl) rfl) ?_
  refine TL.cons rfl (Step.extract (p := (.one (.row 1025 []))) rfl rfl (lt_ok rfl) rfl rfl) ?_
  refine TL.cons rfl (Step.extract (p := (.one (.d (.bool (decide (1 ≤ aM ∧ aM ≤ (aL.length : Int))))))) rfl rfl (lt_ok rfl) rfl rfl) ?_
  refine TL.cons rfl (Step.assign (p := (.one (.row 1025 []))) rfl rfl (lt_ok rfl) rfl) ?_
  refine TL.cons rfl (Step.assign (p := (.one (.d (.bool (decide (1 ≤ aM ∧ aM ≤ (aL.length : Int))))))) rfl rfl (lt_ok rfl) rfl) ?_
  refine TL.nil ?_
  refine T.seq ?_
  refine T.region ?_
  refine TL.cons rfl (Step.move (p := (.one (.d (.bss aL)))) rfl rfl (lt_ok rfl) rfl) ?_
  refine TL.cons rfl (Step.call (f := 21) (xs := [.tmp 28]) (ps := [(.one (.d (.bss aL)))]) false (g := .func 21) rfl rfl (lt_ok rfl) rfl (by kernel_rfl) rfl (.cons (.one (.d _)) .nil) (ok_laws_toByteSS aL (by first | assumption | exact ⟨‹_›, ‹_›⟩ | exact mem_getD h0_.2 (by omega))) (.inr rfl) rfl (by simp) rfl) ?_
  refine TL.cons rfl (Step.assign (p := (.one (.row 1029 []))) rfl rfl (lt_ok rfl) rfl) ?_
  refine TL.nil ?_
  refine T.seq ?_
  refine T.region ?_
  refine TL.cons rfl (Step.move (p := (.one (.row 1029 []))) rfl rfl (lt_ok rfl) rfl) ?_
  refine TL.cons rfl (Step.move (p := (.one (.d (.int .i64 aM)))) rfl rfl (lt_ok rfl) rfl) ?_
  refine TL.cons rfl (Step.call (f := 14) (xs := [.tmp 31, .tmp 32]) (ps := [(.one (.row 1029 [])), (.one (.d (.int .i64 aM)))]) false (g := .func 14) rfl rfl (lt_ok rfl) rfl (by kernel_rfl) rfl (.cons (.one (.row rfl rfl rfl rfl)) (.cons (.one (.d _)) .nil)) (ok_impl_ConsOf aL aM (by first | assumption | exact mem_sub (by assumption) _ _ | exact s0.2) (by first | assumption | exact mem_sub (by assumption) _ _ | exact s0.2) (by first | omega | assumption)) (.inr rfl) rfl (by simp) rfl) ?_
  refine TL.cons rfl (Step.move (p := (.tup [(false, [.row 1033 []]), (false, [.d (.bool (decide (1 ≤ aM ∧ aM ≤ (aL.length : Int))))])])) rfl rfl (lt_ok rfl) rfl) ?_
  refine TL.cons rfl (Step.extract (p := (.one (.row 1033 []))) rfl rfl (lt_ok rfl) rfl rfl) ?_
  refine TL.cons rfl (Step.extract (p := (.one (.d (.bool (decide (1 ≤ aM ∧ aM ≤ (aL.length : Int))))))) rfl rfl (lt_ok rfl) rfl rfl) ?_
  refine TL.cons rfl (Step.assign (p := (.one (.row 1033 []))) rfl rfl (lt_ok rfl) rfl) ?_
  refine TL.cons rfl (Step.assign (p := (.one (.d (.bool (decide (1 ≤ aM ∧ aM ≤ (aL.length : Int))))))) rfl rfl (lt_ok rfl) rfl) ?_
  refine TL.nil ?_
  refine T.seq ?_
  refine T.seq ?_
  refine T.region ?_
  refine TL.cons rfl (Step.move (p := (.one (.row 1033 []))) rfl rfl (lt_ok rfl) rfl) ?_
  refine TL.cons rfl (Step.move (p := (.one (.row 1025 []))) rfl rfl (lt_ok rfl) rfl) ?_
  refine TL.cons rfl (Step.call (f := 23) (xs := [.tmp 36, .tmp 37]) (ps := [(.one (.row 1033 [])), (.one (.row 1025 []))]) false (g := .func 23) rfl rfl (lt_ok rfl) rfl (by kernel_rfl) rfl (.cons (.one (.row rfl rfl rfl rfl)) (.cons (.one (.row rfl rfl rfl rfl)) .nil)) (ok_laws_eqByteSS (consOfT aL aM) (consOfT aL aM)) (.inr rfl) rfl (by simp) rfl) ?_
  refine TL.known 38 (c := true) (by simp) rfl ?_
  refine TL.cons rfl (Step.not (b := true) rfl rfl (lt_ok rfl) rfl) ?_
  refine TL.cons rfl (Step.move (p := (.one (.d (.bool false)))) rfl rfl (lt_ok rfl) rfl) ?_
  refine TL.gyes 40 rfl rfl (lt_ok rfl) rfl (Step.move (p := (.one (.d (.bool (decide (1 ≤ aM ∧ aM ≤ (aL.length : Int))))))) rfl rfl (lt_ok rfl) rfl) ?_
  refine TL.gyes 40 rfl rfl (lt_ok rfl) rfl (Step.move (p := (.one (.d (.bool (decide (1 ≤ aM ∧ aM ≤ (aL.length : Int))))))) rfl rfl (lt_ok rfl) rfl) ?_
  refine TL.gyes 40 rfl rfl (lt_ok rfl) rfl (Step.bneq (b := (decide (1 ≤ aM ∧ aM ≤ (aL.length : Int)))) (c := (decide (1 ≤ aM ∧ aM ≤ (aL.length : Int)))) rfl rfl (lt_ok rfl) (by kernel_rfl) rfl rfl) ?_
  refine TL.known 43 (c := false) (by simp) rfl ?_
  refine TL.cons rfl (Step.pick (b := false) (p := (.one (.d (.bool false)))) rfl rfl (lt_ok rfl) rfl rfl) ?_
  refine TL.nil ?_
  refine T.cond (b := false) rfl (fun h3_ => absurd h3_ (by simp)) (fun h3_ => ?_)
  refine T.skip ?_
  refine T.seq ?_
  refine T.seq ?_
  refine T.region ?_
  refine TL.cons rfl (Step.move (p := (.one (.row 1029 []))) rfl rfl (lt_ok rfl) rfl) ?_
  refine TL.cons rfl (Step.move (p := (.one (.d (.bss aL)))) rfl rfl (lt_ok rfl) rfl) ?_
  refine TL.cons rfl (Step.call (f := 21) (xs := [.tmp 46]) (ps := [(.one (.d (.bss aL)))]) false (g := .func 21) rfl rfl (lt_ok rfl) rfl (by kernel_rfl) rfl (.cons (.one (.d _)) .nil) (ok_laws_toByteSS aL (by first | assumption | exact ⟨‹_›, ‹_›⟩ | exact mem_getD h0_.2 (by omega))) (.inr rfl) rfl (by simp) rfl) ?_
  refine TL.cons rfl (Step.call (f := 23) (xs := [.tmp 45, .tmp 47]) (ps := [(.one (.row 1029 [])), (.one (.row 1047 []))]) false (g := .func 23) rfl rfl (lt_ok rfl) rfl (by kernel_rfl) rfl (.cons (.one (.row rfl rfl rfl rfl)) (.cons (.one (.row rfl rfl rfl rfl)) .nil)) (ok_laws_eqByteSS aL aL) (.inr rfl) rfl (by simp) rfl) ?_
  refine TL.known 48 (c := true) (by simp) rfl ?_
  refine TL.cons rfl (Step.not (b := true) rfl rfl (lt_ok rfl) rfl) ?_
  refine TL.nil ?_
  refine T.cond (b := false) rfl (fun h4_ => absurd h4_ (by simp)) (fun h4_ => ?_)
  refine T.skip ?_
  refine T.seq ?_
  refine T.region ?_
  refine TL.cons rfl (Step.assign (p := (.one (.d (.int .i64 1)))) rfl rfl (lt_ok rfl) rfl) ?_
  refine TL.nil ?_
  refine T.seq ?_
  refine T.region ?_
  refine TL.cons rfl (Step.move (p := (.one (.row 1029 []))) rfl rfl (lt_ok rfl) rfl) ?_
  refine TL.cons rfl (Step.move (p := (.one (.d (.int .i64 1)))) rfl rfl (lt_ok rfl) rfl) ?_
  have nn5 := cntBs_nonneg aL
  refine TL.cons rfl (Step.callM2 (xs := [.tmp 50, .tmp 51]) (ps := [(.one (.row 1029 [])), (.one (.d (.int .i64 1)))]) (js := [(1029, (.bss (mkBs aL 1)))]) (g := .func 24) (ok_laws_markByteSS aL 1 (by omega) (by first | omega | (have := cntBs_le (xs := aL) (by assumption); omega))) rfl rfl (lt_ok rfl) rfl (by kernel_rfl) rfl rfl (.row (T := 22) (d := (.bss aL)) (e' := (.bss (mkBs aL 1))) (d' := (.bss (mkBs aL 1))) rfl rfl rfl rfl rfl (by simp [D.size, mkL_length]) rfl rfl (.d .nil)) rfl) ?_
  refine TL.cons rfl (Step.assign (p := (.one (.d (.int .i64 (1 + cntL (fun x : List Int => (x.length : Int)) aL))))) rfl rfl (lt_ok rfl) rfl) ?_
  refine TL.nil ?_
  refine T.seq ?_
  refine T.seq ?_
  refine T.region ?_
  refine TL.cons rfl (Step.move (p := (.one (.d (.int .i64 (1 + cntL (fun x : List Int => (x.length : Int)) aL))))) rfl rfl (lt_ok rfl) rfl) ?_
  refine TL.cons rfl (Step.bin rfl rfl (lt_ok rfl) rfl rfl (Bin.lss (k := .i64) (a := (1 + cntL (fun x : List Int => (x.length : Int)) aL)) (b := 0))) ?_
  refine TL.known 54 (c := false) (decide_eq_false (by omega)) rfl ?_
  refine TL.cons rfl (Step.move (p := (.one (.d (.bool false)))) rfl rfl (lt_ok rfl) rfl) ?_
  refine TL.gyes 55 rfl rfl (lt_ok rfl) rfl (Step.move (p := (.one (.row 1033 []))) rfl rfl (lt_ok rfl) rfl) ?_
  refine TL.gyes 55 rfl rfl (lt_ok rfl) rfl (Step.move (p := (.one (.row 1025 []))) rfl rfl (lt_ok rfl) rfl) ?_
  refine TL.gyes 55 rfl rfl (lt_ok rfl) rfl (Step.call (f := 23) (xs := [.tmp 56, .tmp 57]) (ps := [(.one (.row 1033 [])), (.one (.row 1025 []))]) false (g := .func 23) rfl rfl (lt_ok rfl) rfl (by kernel_rfl) rfl (.cons (.one (.row rfl rfl rfl rfl)) (.cons (.one (.row rfl rfl rfl rfl)) .nil)) (ok_laws_eqByteSS (consOfT aL aM) (consOfT aL aM)) (.inr rfl) rfl (by simp) rfl) ?_
  refine TL.known 58 (c := true) (by simp) rfl ?_
  refine TL.gyes 55 rfl rfl (lt_ok rfl) rfl (Step.not (b := true) rfl rfl (lt_ok rfl) rfl) ?_
  refine TL.cons rfl (Step.pick (b := false) (p := (.one (.d (.bool false)))) rfl rfl (lt_ok rfl) rfl rfl) ?_
  refine TL.cons rfl (Step.move (p := (.one (.d (.bool false)))) rfl rfl (lt_ok rfl) rfl) ?_
  refine TL.gyes 61 rfl rfl (lt_ok rfl) rfl (Step.move (p := (.one (.d (.bool (decide (1 ≤ aM ∧ aM ≤ (aL.length : Int))))))) rfl rfl (lt_ok rfl) rfl) ?_
  refine TL.gyes 61 rfl rfl (lt_ok rfl) rfl (Step.move (p := (.one (.d (.bool (decide (1 ≤ aM ∧ aM ≤ (aL.length : Int))))))) rfl rfl (lt_ok rfl) rfl) ?_
  refine TL.gyes 61 rfl rfl (lt_ok rfl) rfl (Step.bneq (b := (decide (1 ≤ aM ∧ aM ≤ (aL.length : Int)))) (c := (decide (1 ≤ aM ∧ aM ≤ (aL.length : Int)))) rfl rfl (lt_ok rfl) (by kernel_rfl) rfl rfl) ?_
  refine TL.known 64 (c := false) (by simp) rfl ?_
  refine TL.cons rfl (Step.pick (b := false) (p := (.one (.d (.bool false)))) rfl rfl (lt_ok rfl) rfl rfl) ?_
  refine TL.nil ?_
  refine T.cond (b := false) rfl (fun h6_ => absurd h6_ (by simp)) (fun h6_ => ?_)
  refine T.skip ?_
  refine T.seq ?_
  refine T.region ?_
  refine TL.cons rfl (Step.assign (p := (.one (.d (.int .i64 1)))) rfl rfl (lt_ok rfl) rfl) ?_
  refine TL.nil ?_
  refine T.seq ?_
  refine T.region ?_
  refine TL.cons rfl (Step.move (p := (.one (.row 1033 []))) rfl rfl (lt_ok rfl) rfl) ?_
  refine TL.cons rfl (Step.move (p := (.one (.d (.int .i64 1)))) rfl rfl (lt_ok rfl) rfl) ?_
  have nn7 := cntBs_nonneg (consOfT aL aM)
  refine TL.cons rfl (Step.callM2 (xs := [.tmp 66, .tmp 67]) (ps := [(.one (.row 1033 [])), (.one (.d (.int .i64 1)))]) (js := [(1033, (.bss (mkBs (consOfT aL aM) 1)))]) (g := .func 24) (ok_laws_markByteSS (consOfT aL aM) 1 (by omega) (by first | omega | (have := cntBs_le (xs := (consOfT aL aM)) (by assumption); omega))) rfl rfl (lt_ok rfl) rfl (by kernel_rfl) rfl rfl (.row (T := 22) (d := (.bss (consOfT aL aM))) (e' := (.bss (mkBs (consOfT aL aM) 1))) (d' := (.bss (mkBs (consOfT aL aM) 1))) rfl rfl rfl rfl rfl (by simp [D.size, mkL_length]) rfl rfl (.d .nil)) rfl) ?_
  refine TL.cons rfl (Step.assign (p := (.one (.d (.int .i64 (1 + cntL (fun x : List Int => (x.length : Int)) (consOfT aL aM)))))) rfl rfl (lt_ok rfl) rfl) ?_
  refine TL.nil ?_
  refine T.weaken (E' := { tm := [(0, (.one (.d (.bss aL)))), (1, (.one (.d (.int .i64 aM)))), (4, (.one (.d (.bool false)))), (6, (.one (.row 1025 []))), (7, (.one (.d (.bool (decide (1 ≤ aM ∧ aM ≤ (aL.length : Int))))))), (9, (.one (.row 1033 []))), (12, (.one (.d (.int .i64 (1 + cntL (fun x : List Int => (x.length : Int)) (consOfT aL aM))))))], rows := [(1025, (22, (.bss (consOfT aL aM)))), (1033, (22, (.bss (mkBs (consOfT aL aM) 1))))], boxes := [] }) (Env.le_mk ⟨by kernel_rfl, by kernel_rfl, by kernel_rfl, by kernel_rfl, by kernel_rfl, by kernel_rfl, by kernel_rfl, trivial⟩ ⟨by kernel_rfl, by kernel_rfl, trivial⟩ trivial) ?_
  refine T.seq ?_
  refine T.region ?_
  refine TL.cons rfl (Step.assign (p := (.one (.d (.int .i64 1)))) rfl rfl (lt_ok rfl) rfl) ?_
  refine TL.nil ?_
  refine T.seq ?_
  refine T.region ?_
  refine TL.cons rfl (Step.move (p := (.one (.row 1033 []))) rfl rfl (lt_ok rfl) rfl) ?_
  refine TL.cons rfl (Step.move (p := (.one (.d (.int .i64 1)))) rfl rfl (lt_ok rfl) rfl) ?_
  have nn8 := cntBs_nonneg (consOfT aL aM)
  refine TL.cons rfl (Step.call (f := 25) (xs := [.tmp 69, .tmp 70]) (ps := [(.one (.row 1033 [])), (.one (.d (.int .i64 1)))]) false (g := .func 25) rfl rfl (lt_ok rfl) rfl (by kernel_rfl) rfl (.cons (.one (.row rfl rfl rfl rfl)) (.cons (.one (.d _)) .nil)) (ok_laws_heldByteSS (consOfT aL aM) (mkBs (consOfT aL aM) 1) 1 (by omega) (by first | omega | (have := cntBs_le (xs := (consOfT aL aM)) (by assumption); omega)) (by first | rfl | assumption | (repeat' (first | rfl | apply And.intro)))) (.inr rfl) rfl (by simp) rfl) ?_
  refine TL.cons rfl (Step.assign (p := (.one (.d (.int .i64 (1 + cntL (fun x : List Int => (x.length : Int)) (consOfT aL aM)))))) rfl rfl (lt_ok rfl) rfl) ?_
  refine TL.nil ?_
  refine T.seq ?_
  refine T.seq ?_
  refine T.region ?_
  refine TL.cons rfl (Step.move (p := (.one (.d (.int .i64 (1 + cntL (fun x : List Int => (x.length : Int)) (consOfT aL aM)))))) rfl rfl (lt_ok rfl) rfl) ?_
  refine TL.cons rfl (Step.bin rfl rfl (lt_ok rfl) rfl rfl (Bin.lss (k := .i64) (a := (1 + cntL (fun x : List Int => (x.length : Int)) (consOfT aL aM))) (b := 0))) ?_
  refine TL.known 73 (c := false) (decide_eq_false (by omega)) rfl ?_
  refine TL.nil ?_
  refine T.cond (b := false) rfl (fun h9_ => absurd h9_ (by simp)) (fun h9_ => ?_)
  refine T.skip ?_
  refine T.seq ?_
  refine T.seq ?_
  refine T.region ?_
  refine TL.cons rfl (Step.move (p := (.one (.d (.int .i64 (1 + cntL (fun x : List Int => (x.length : Int)) (consOfT aL aM)))))) rfl rfl (lt_ok rfl) rfl) ?_
  refine TL.cons rfl (Step.move (p := (.one (.d (.int .i64 (1 + cntL (fun x : List Int => (x.length : Int)) (consOfT aL aM)))))) rfl rfl (lt_ok rfl) rfl) ?_
  refine TL.cons rfl (Step.bin rfl rfl (lt_ok rfl) rfl rfl (Bin.neq (k := .i64) (a := (1 + cntL (fun x : List Int => (x.length : Int)) (consOfT aL aM))) (b := (1 + cntL (fun x : List Int => (x.length : Int)) (consOfT aL aM))))) ?_
  refine TL.known 76 (c := false) (by simp) rfl ?_
  refine TL.nil ?_
  refine T.cond (b := false) rfl (fun h10_ => absurd h10_ (by simp)) (fun h10_ => ?_)
  refine T.skip ?_
  refine T.seq ?_
  refine T.region ?_
  refine TL.cons rfl (Step.move (p := (.one (.d (.bss aL)))) rfl rfl (lt_ok rfl) rfl) ?_
  refine TL.cons rfl (Step.call (f := 21) (xs := [.tmp 78]) (ps := [(.one (.d (.bss aL)))]) false (g := .func 21) rfl rfl (lt_ok rfl) rfl (by kernel_rfl) rfl (.cons (.one (.d _)) .nil) (ok_laws_toByteSS aL (by first | assumption | exact ⟨‹_›, ‹_›⟩ | exact mem_getD h0_.2 (by omega))) (.inr rfl) rfl (by simp) rfl) ?_
  refine TL.cons rfl (Step.move (p := (.one (.d (.int .i64 aM)))) rfl rfl (lt_ok rfl) rfl) ?_
  refine TL.cons rfl (Step.call (f := 14) (xs := [.tmp 79, .tmp 80]) (ps := [(.one (.row 1079 [])), (.one (.d (.int .i64 aM)))]) false (g := .func 14) rfl rfl (lt_ok rfl) rfl (by kernel_rfl) rfl (.cons (.one (.row rfl rfl rfl rfl)) (.cons (.one (.d _)) .nil)) (ok_impl_ConsOf aL aM (by first | assumption | exact mem_sub (by assumption) _ _ | exact s0.2) (by first | assumption | exact mem_sub (by assumption) _ _ | exact s0.2) (by first | omega | assumption)) (.inr rfl) rfl (by simp) rfl) ?_
  refine TL.cons rfl (Step.move (p := (.tup [(false, [.row 1081 []]), (false, [.d (.bool (decide (1 ≤ aM ∧ aM ≤ (aL.length : Int))))])])) rfl rfl (lt_ok rfl) rfl) ?_
  refine TL.cons rfl (Step.extract (p := (.one (.row 1081 []))) rfl rfl (lt_ok rfl) rfl rfl) ?_
  refine TL.cons rfl (Step.extract (p := (.one (.d (.bool (decide (1 ≤ aM ∧ aM ≤ (aL.length : Int))))))) rfl rfl (lt_ok rfl) rfl rfl) ?_
  refine TL.cons rfl (Step.assign (p := (.one (.row 1081 []))) rfl rfl (lt_ok rfl) rfl) ?_
  refine TL.cons rfl (Step.assign (p := (.one (.d (.bool (decide (1 ≤ aM ∧ aM ≤ (aL.length : Int))))))) rfl rfl (lt_ok rfl) rfl) ?_
  refine TL.nil ?_
  refine T.seq ?_
  refine T.seq ?_
  refine T.region ?_
  refine TL.cons rfl (Step.move (p := (.one (.row 1081 []))) rfl rfl (lt_ok rfl) rfl) ?_
  refine TL.cons rfl (Step.move (p := (.one (.row 1025 []))) rfl rfl (lt_ok rfl) rfl) ?_
  refine TL.cons rfl (Step.call (f := 23) (xs := [.tmp 84, .tmp 85]) (ps := [(.one (.row 1081 [])), (.one (.row 1025 []))]) false (g := .func 23) rfl rfl (lt_ok rfl) rfl (by kernel_rfl) rfl (.cons (.one (.row rfl rfl rfl rfl)) (.cons (.one (.row rfl rfl rfl rfl)) .nil)) (ok_laws_eqByteSS (consOfT aL aM) (consOfT aL aM)) (.inr rfl) rfl (by simp) rfl) ?_
  refine TL.known 86 (c := true) (by simp) rfl ?_
  refine TL.cons rfl (Step.not (b := true) rfl rfl (lt_ok rfl) rfl) ?_
  refine TL.cons rfl (Step.move (p := (.one (.d (.bool false)))) rfl rfl (lt_ok rfl) rfl) ?_
  refine TL.gyes 88 rfl rfl (lt_ok rfl) rfl (Step.move (p := (.one (.d (.bool (decide (1 ≤ aM ∧ aM ≤ (aL.length : Int))))))) rfl rfl (lt_ok rfl) rfl) ?_
  refine TL.gyes 88 rfl rfl (lt_ok rfl) rfl (Step.move (p := (.one (.d (.bool (decide (1 ≤ aM ∧ aM ≤ (aL.length : Int))))))) rfl rfl (lt_ok rfl) rfl) ?_
  refine TL.gyes 88 rfl rfl (lt_ok rfl) rfl (Step.bneq (b := (decide (1 ≤ aM ∧ aM ≤ (aL.length : Int)))) (c := (decide (1 ≤ aM ∧ aM ≤ (aL.length : Int)))) rfl rfl (lt_ok rfl) (by kernel_rfl) rfl rfl) ?_
  refine TL.known 91 (c := false) (by simp) rfl ?_
  refine TL.cons rfl (Step.pick (b := false) (p := (.one (.d (.bool false)))) rfl rfl (lt_ok rfl) rfl rfl) ?_
  refine TL.nil ?_
  refine T.cond (b := false) rfl (fun h11_ => absurd h11_ (by simp)) (fun h11_ => ?_)
  refine T.skip ?_
  refine T.seq ?_
  refine T.region ?_
  refine TL.cons rfl (Step.assign (p := (.one (.d (.int .i64 1)))) rfl rfl (lt_ok rfl) rfl) ?_
  refine TL.nil ?_
  refine T.seq ?_
  refine T.region ?_
  refine TL.cons rfl (Step.move (p := (.one (.row 1033 []))) rfl rfl (lt_ok rfl) rfl) ?_
  refine TL.cons rfl (Step.move (p := (.one (.d (.int .i64 1)))) rfl rfl (lt_ok rfl) rfl) ?_
  have nn12 := cntBs_nonneg (consOfT aL aM)
  refine TL.cons rfl (Step.call (f := 25) (xs := [.tmp 93, .tmp 94]) (ps := [(.one (.row 1033 [])), (.one (.d (.int .i64 1)))]) false (g := .func 25) rfl rfl (lt_ok rfl) rfl (by kernel_rfl) rfl (.cons (.one (.row rfl rfl rfl rfl)) (.cons (.one (.d _)) .nil)) (ok_laws_heldByteSS (consOfT aL aM) (mkBs (consOfT aL aM) 1) 1 (by omega) (by first | omega | (have := cntBs_le (xs := (consOfT aL aM)) (by assumption); omega)) (by first | rfl | assumption | (repeat' (first | rfl | apply And.intro)))) (.inr rfl) rfl (by simp) rfl) ?_
  refine TL.cons rfl (Step.assign (p := (.one (.d (.int .i64 (1 + cntL (fun x : List Int => (x.length : Int)) (consOfT aL aM)))))) rfl rfl (lt_ok rfl) rfl) ?_
  refine TL.nil ?_
  refine T.seq ?_
  refine T.seq ?_
  refine T.region ?_
  refine TL.cons rfl (Step.move (p := (.one (.d (.int .i64 (1 + cntL (fun x : List Int => (x.length : Int)) (consOfT aL aM)))))) rfl rfl (lt_ok rfl) rfl) ?_
  refine TL.cons rfl (Step.bin rfl rfl (lt_ok rfl) rfl rfl (Bin.lss (k := .i64) (a := (1 + cntL (fun x : List Int => (x.length : Int)) (consOfT aL aM))) (b := 0))) ?_
  refine TL.known 97 (c := false) (decide_eq_false (by omega)) rfl ?_
  refine TL.nil ?_
  refine T.cond (b := false) rfl (fun h13_ => absurd h13_ (by simp)) (fun h13_ => ?_)
  refine T.skip ?_
  refine T.seq ?_
  refine T.seq ?_
  refine T.region ?_
  refine TL.cons rfl (Step.move (p := (.one (.d (.int .i64 (1 + cntL (fun x : List Int => (x.length : Int)) (consOfT aL aM)))))) rfl rfl (lt_ok rfl) rfl) ?_
  refine TL.cons rfl (Step.move (p := (.one (.d (.int .i64 (1 + cntL (fun x : List Int => (x.length : Int)) (consOfT aL aM)))))) rfl rfl (lt_ok rfl) rfl) ?_
  refine TL.cons rfl (Step.bin rfl rfl (lt_ok rfl) rfl rfl (Bin.neq (k := .i64) (a := (1 + cntL (fun x : List Int => (x.length : Int)) (consOfT aL aM))) (b := (1 + cntL (fun x : List Int => (x.length : Int)) (consOfT aL aM))))) ?_
  refine TL.known 100 (c := false) (by simp) rfl ?_
  refine TL.nil ?_
  refine T.cond (b := false) rfl (fun h14_ => absurd h14_ (by simp)) (fun h14_ => ?_)
  refine T.skip ?_
  refine T.seq ?_
  refine T.region ?_
  refine TL.cons rfl (Step.assign (p := (.one (.d (.bool true)))) rfl rfl (lt_ok rfl) rfl) ?_
  refine TL.nil ?_
  refine T.ret ?_
  exact ⟨[(false, [.d (.bool true)])], (.cons rfl .nil), rfl, [], (RetC.rd' rfl .nil)⟩
end Go.Proofs.Ytmdojlglemnijaa.Rf
