/- The functions that FnExactPathRoot calls, each held to what it answers. Printed by a program of this session; Lean checks it. -/
import Derived.Test.YtmdojlglemnijaaProg
import Derived.Test.YtmdojlglemnijaaRf32
import Derived.Test.YtmdojlglemnijaaRFnExactPathRootx1
namespace Go.Proofs.Ytmdojlglemnijaa.Rf
open Go.RowKit
set_option linter.unusedVariables false
set_option linter.unnecessarySimpa false
set_option linter.unusedSimpArgs false
set_option maxRecDepth 100000
set_option maxHeartbeats 400000
theorem ok_impl_pathRoot_r (d_ : Nat) : ∀ (h : List Int) (i : Int) (n : Int) (path : List (List Int)) (hd_ : n.toNat = d_) (h0_ : 1 ≤ n ∧ n ≤ 1048576 ∧ 0 ≤ i ∧ i ≤ n - 1) (h1_ : (path.length : Int) = pathLenT i n) (h2_ : U8s h) (h3_ : ∀ y ∈ path, U8s y) (h4_ : ∀ y ∈ path, y.length ≤ 1048576) (h5_ : h.length ≤ 1048576), RO Try.prog 72 [.one (.ints .u8 h), .one (.int .i64 i), .one (.int .i64 n), .one (.bss path)] [(false, [.own 5 (.ints .u8 (pRoot h i n path))])] := by
 refine Nat.strongRecOn d_ ?_
 intro d_ ih h i n path hd_ h0_ h1_ h2_ h3_ h4_ h5_
 subst hd_
 refine RO.intro Try.func72 rfl 51 rfl (le_ok rfl) fun w Z => ?_
 refine T.bnd 0 0 rfl rfl fun hb_0_0 => ?_
 simp only [D.size, List.length_map] at hb_0_0
 refine T.bnd 3 0 rfl rfl fun hb_3_0 => ?_
 simp only [D.size, List.length_map] at hb_3_0
 have hsb_ := splitAtT_bd n
 have hp0_ := fun i n => pathLenT_bd i n
 have hpl_ := @pathLenT_left i n h0_
 have hpr_ := @pathLenT_right i n h0_
 have hbl_ := pathLenT_bd i (splitAtT n)
 have hbr_ := pathLenT_bd (i - splitAtT n) (n - splitAtT n)
 have hpp_ := pre_len path
 have hy_ := mem_len h4_ ((path.length : Int) - 1).toNat
 refine T.seq ?_
 refine T.region ?_
 refine TL.cons rfl (Step.assign (p := (.one (.nil))) rfl rfl (lt_ok rfl) rfl) ?_
 refine TL.nil ?_
 refine T.seq ?_
 refine T.seq ?_
 refine T.region ?_
 refine TL.cons rfl (Step.move (p := (.one (.d (.int .i64 n)))) rfl rfl (lt_ok rfl) rfl) ?_
 refine TL.cons rfl (Step.bin rfl rfl (lt_ok rfl) rfl rfl (Bin.eql (k := .i64) (a := n) (b := 1))) ?_
 refine TL.nil ?_
 refine T.cond (b := decide (n = 1)) rfl (fun h1 => ?_) (fun h1 => ?_)
 ·
  replace h1 := of_decide_eq_true h1
  refine T.seq ?_
  refine T.region ?_
  refine TL.cons rfl (Step.move (p := (.one (.d (.ints .u8 h)))) rfl rfl (lt_ok rfl) rfl) ?_
  refine TL.cons rfl (Step.call (f := 88) (xs := [.tmp 13]) (ps := [(.one (.d (.ints .u8 h)))]) false (g := .func 88) rfl rfl (lt_ok rfl) rfl (by kernel_rfl) rfl (.cons (.one (.d _)) .nil) (ok_impl_copyBytes h (by first | omega | assumption | (simp only [List.length_take, List.length_drop]; omega))) (.inr rfl) rfl (by simp) rfl) ?_
  refine TL.cons rfl (Step.assign (p := (.one (.row 1014 []))) rfl rfl (lt_ok rfl) rfl) ?_
  refine TL.nil ?_
  refine T.ret ?_
  refine ⟨[(false, [.row 1014 []])], (.cons rfl .nil), rfl, [1014], (RetC.own' rfl ?_ rfl .nil)⟩ <;> ((congr 1; first | (rw [pRoot_one (h := h) (i := i) (n := n) (path := path) (by omega)]; done) | (rw [pRoot_left (h := h) (i := i) (n := n) (path := path) (by omega) (by omega)]; done) | (rw [pRoot_right (h := h) (i := i) (n := n) (path := path) (by omega) (by omega)]; done)))
 ·
  replace h1 := of_decide_eq_false h1
  refine T.skip ?_
  refine T.seq ?_
  refine T.region ?_
  refine TL.cons rfl (Step.move (p := (.one (.d (.int .i64 n)))) rfl rfl (lt_ok rfl) rfl) ?_
  have nn2 := splitAtT_bd n
  refine TL.cons rfl (Step.call (f := 50) (xs := [.tmp 15]) (ps := [(.one (.d (.int .i64 n)))]) false (g := .func 50) rfl rfl (lt_ok rfl) rfl (by kernel_rfl) rfl (.cons (.one (.d _)) .nil) (ok_impl_SplitAt n (by first | omega | assumption | (simp only [List.length_append] at *; omega))) (.inr rfl) rfl (by simp) rfl) ?_
  refine TL.cons rfl (Step.move (p := (.one (.d (.bss path)))) rfl rfl (lt_ok rfl) rfl) ?_
  refine TL.cons rfl (Step.len (e := 22) (z := 1) (d := (.bss path)) rfl rfl (lt_ok rfl) (by kernel_rfl) rfl rfl) ?_
  refine TL.cons rfl (Step.bin (r := .int .i64 ((path.length : Int) - 1)) rfl rfl (lt_ok rfl) rfl rfl (Bin.sub (a := (path.length : Int)) (b := 1) (by first | exact wrap_ok (by first | omega | (simp; omega) | (have := hpl_ (by omega) (by omega); omega) | (have := hpr_ (by omega) (by omega); omega)) (by first | omega | (simp; omega) | (have := hpl_ (by omega) (by omega); omega) | (have := hpr_ (by omega) (by omega); omega)) | rfl))) ?_
  refine TL.cons rfl (Step.assign (p := (.one (.d (.int .i64 (splitAtT n))))) rfl rfl (lt_ok rfl) rfl) ?_
  refine TL.cons rfl (Step.assign (p := (.one (.d (.int .i64 ((path.length : Int) - 1))))) rfl rfl (lt_ok rfl) rfl) ?_
  refine TL.nil ?_
  refine T.seq ?_
  refine T.seq ?_
  refine T.region ?_
  refine TL.cons rfl (Step.move (p := (.one (.d (.int .i64 i)))) rfl rfl (lt_ok rfl) rfl) ?_
  refine TL.cons rfl (Step.move (p := (.one (.d (.int .i64 (splitAtT n))))) rfl rfl (lt_ok rfl) rfl) ?_
  refine TL.cons rfl (Step.bin rfl rfl (lt_ok rfl) rfl rfl (Bin.lss (k := .i64) (a := i) (b := (splitAtT n)))) ?_
  refine TL.nil ?_
  refine T.cond (b := decide (i < (splitAtT n))) rfl (fun h3 => ?_) (fun h3 => ?_)
  ·
   replace h3 := of_decide_eq_true h3
   refine T.seq ?_
   have nn4 := @pRoot_len h (by first | assumption | omega) i (splitAtT n) ((path.drop 0).take (((path.length : Int) - 1).toNat - 0))
   have nn5 := @pRoot_u8 h (by first | assumption | skip) i (splitAtT n) ((path.drop 0).take (((path.length : Int) - 1).toNat - 0))
   have nn6 := nodeHash_len (pRoot h i (splitAtT n) ((path.drop 0).take (((path.length : Int) - 1).toNat - 0))) (path.getD ((path.length : Int) - 1).toNat [])
   have nn7 := nodeHash_u8 (pRoot h i (splitAtT n) ((path.drop 0).take (((path.length : Int) - 1).toNat - 0))) (path.getD ((path.length : Int) - 1).toNat [])
   refine T.draw [⟨23, (.one (.d (.ints .u8 h))), []⟩, ⟨24, (.one (.d (.int .i64 i))), []⟩, ⟨25, (.one (.d (.int .i64 (splitAtT n)))), []⟩, ⟨26, (.one (.d (.bss path))), []⟩, ⟨27, (.one (.d (.int .i64 ((path.length : Int) - 1)))), []⟩, ⟨28, (.one (.d (.bss ((path.drop 0).take (((path.length : Int) - 1).toNat - 0))))), []⟩, ⟨29, (.one (.row 1029 [])), [(1029, (5, (.ints .u8 (pRoot h i (splitAtT n) ((path.drop 0).take (((path.length : Int) - 1).toNat - 0))))))]⟩, ⟨30, (.one (.d (.bss path))), []⟩, ⟨31, (.one (.d (.int .i64 ((path.length : Int) - 1)))), []⟩, ⟨32, (.one (.eptr (.bss path) ((path.length : Int) - 1).toNat 0)), []⟩, ⟨33, (.one (.d (.ints .u8 (path.getD ((path.length : Int) - 1).toNat [])))), []⟩, ⟨34, (.one (.row 1034 [])), [(1034, (5, (.ints .u8 (nodeHash (pRoot h i (splitAtT n) ((path.drop 0).take (((path.length : Int) - 1).toNat - 0))) (path.getD ((path.length : Int) - 1).toNat [])))))]⟩, ⟨8, (.one (.row 1034 [])), []⟩] (by kernel_rfl) (by kernel_rfl) ?_ ?_
   ·
    refine .cons (fun E hA_ => by have g0 := hA_.get 0 (by decide); exact OpStep.plain rfl (Step.move (p := (.one (.d (.ints .u8 h)))) (t := 23) rfl rfl (by exact lt_ok rfl) (show Env.ev E (.tmp 0) = _ from g0.trans rfl))) ?_
    refine .cons (fun E hA_ => by have g1 := hA_.get 1 (by decide); exact OpStep.plain rfl (Step.move (p := (.one (.d (.int .i64 i)))) (t := 24) rfl rfl (by exact lt_ok rfl) (show Env.ev E (.tmp 1) = _ from g1.trans rfl))) ?_
    refine .cons (fun E hA_ => by have g9 := hA_.get 9 (by decide); exact OpStep.plain rfl (Step.move (p := (.one (.d (.int .i64 (splitAtT n))))) (t := 25) rfl rfl (by exact lt_ok rfl) (show Env.ev E (.tmp 9) = _ from g9.trans rfl))) ?_
    refine .cons (fun E hA_ => by have g3 := hA_.get 3 (by decide); exact OpStep.plain rfl (Step.move (p := (.one (.d (.bss path)))) (t := 26) rfl rfl (by exact lt_ok rfl) (show Env.ev E (.tmp 3) = _ from g3.trans rfl))) ?_
    refine .cons (fun E hA_ => by have g10 := hA_.get 10 (by decide); exact OpStep.plain rfl (Step.move (p := (.one (.d (.int .i64 ((path.length : Int) - 1))))) (t := 27) rfl rfl (by exact lt_ok rfl) (show Env.ev E (.tmp 10) = _ from g10.trans rfl))) ?_
    refine .cons (fun E hA_ => by have g26 := hA_.get 26 (by decide); have g27 := hA_.get 27 (by decide); exact OpStep.plain rfl (Step.slice (e := 22) (z := 1) (l := 0) (h := ((path.length : Int) - 1).toNat) (t := 28) rfl rfl (by exact lt_ok rfl) (by kernel_rfl) (show Env.ev E (.tmp 26) = _ from g26.trans rfl) rfl rfl (.none _) ((.some (i := ((path.length : Int) - 1)) (show Env.ev E (.tmp 27) = _ from g27.trans rfl) (by first | omega | (simp; omega) | (have := hpl_ (by omega) (by omega); omega) | (have := hpr_ (by omega) (by omega); omega)))) (by first | omega | (simp; omega) | (have := hpl_ (by omega) (by omega); omega) | (have := hpr_ (by omega) (by omega); omega)) (by simp only [D.size]; first | omega | (simp; omega) | (have := hpl_ (by omega) (by omega); omega) | (have := hpr_ (by omega) (by omega); omega)) rfl)) ?_
    refine .cons (fun E hA_ => by have g23 := hA_.get 23 (by decide); have g24 := hA_.get 24 (by decide); have g25 := hA_.get 25 (by decide); have g28 := hA_.get 28 (by decide); exact OpStep.plain rfl (Step.call (f := 72) (xs := [.tmp 23, .tmp 24, .tmp 25, .tmp 28]) (ps := [(.one (.d (.ints .u8 h))), (.one (.d (.int .i64 i))), (.one (.d (.int .i64 (splitAtT n)))), (.one (.d (.bss ((path.drop 0).take (((path.length : Int) - 1).toNat - 0)))))]) false (g := .func 72) (t := 29) rfl rfl (by exact lt_ok rfl) rfl (by kernel_rfl) (evs_cons (show Env.ev E (.tmp 23) = _ from g23.trans rfl) (evs_cons (show Env.ev E (.tmp 24) = _ from g24.trans rfl) (evs_cons (show Env.ev E (.tmp 25) = _ from g25.trans rfl) (evs_cons (show Env.ev E (.tmp 28) = _ from g28.trans rfl) (rfl))))) (.cons (.one (.d _)) (.cons (.one (.d _)) (.cons (.one (.d _)) (.cons (.one (.d _)) .nil)))) (ih (splitAtT n).toNat (by omega) h i (splitAtT n) ((path.drop 0).take (((path.length : Int) - 1).toNat - 0)) rfl (by first | assumption | omega | exact (pathFits_parts (by assumption)).1) (by first | assumption | omega | (have := hpl_ (by omega) (by omega); omega) | (have := hpr_ (by omega) (by omega); omega)) (by first | assumption | exact sha_u8 _ | exact treeRoot_u8 _ | exact nodeHash_u8 _ _ | exact leafHash_u8 _ | exact u8_cons (by decide) (by assumption) | exact mem_getD (p := U8s) (by assumption) (by omega) | exact u8_app (u8_cons (by decide) (by assumption)) (by assumption) | exact fun x hx => by cases hx) (by first | assumption | exact mem_sub (by assumption) _ _ | exact s0.2) (by first | assumption | exact mem_sub (by assumption) _ _ | exact s0.2) (by first | omega | assumption | (simp only [List.length_append] at *; omega))) (.inr rfl) (At.freshRows hA_ rfl) (by simp) rfl)) ?_
    refine .cons (fun E hA_ => by have g3 := hA_.get 3 (by decide); exact OpStep.plain rfl (Step.move (p := (.one (.d (.bss path)))) (t := 30) rfl rfl (by exact lt_ok rfl) (show Env.ev E (.tmp 3) = _ from g3.trans rfl))) ?_
    refine .cons (fun E hA_ => by have g10 := hA_.get 10 (by decide); exact OpStep.plain rfl (Step.move (p := (.one (.d (.int .i64 ((path.length : Int) - 1))))) (t := 31) rfl rfl (by exact lt_ok rfl) (show Env.ev E (.tmp 10) = _ from g10.trans rfl))) ?_
    refine .cons (fun E hA_ => by have g30 := hA_.get 30 (by decide); have g31 := hA_.get 31 (by decide); exact OpStep.plain rfl (Step.index (e := 22) (z := 1) (i := ((path.length : Int) - 1)) (t := 32) rfl rfl (by exact lt_ok rfl) (by kernel_rfl) (show Env.ev E (.tmp 30) = _ from g30.trans rfl) rfl rfl (lt_ok rfl) (show Env.ev E (.tmp 31) = _ from g31.trans rfl) (by first | omega | (simp; omega) | (have := hpl_ (by omega) (by omega); omega) | (have := hpr_ (by omega) (by omega); omega)) (by simp only [D.size]; first | omega | (simp; omega) | (have := hpl_ (by omega) (by omega); omega) | (have := hpr_ (by omega) (by omega); omega)))) ?_
    refine .cons (fun E hA_ => by have g32 := hA_.get 32 (by decide); exact OpStep.plain rfl (Step.load (e := (.ints .u8 (path.getD ((path.length : Int) - 1).toNat []))) (t := 33) rfl rfl (by exact lt_ok rfl) (by kernel_rfl) (show Env.ev E (.tmp 32) = _ from g32.trans rfl) rfl)) ?_
    refine .cons (fun E hA_ => by have g29 := hA_.get 29 (by decide); have g33 := hA_.get 33 (by decide); exact OpStep.plain rfl (Step.call (f := 51) (xs := [.tmp 29, .tmp 33]) (ps := [(.one (.row 1029 [])), (.one (.d (.ints .u8 (path.getD ((path.length : Int) - 1).toNat []))))]) false (g := .func 51) (t := 34) rfl rfl (by exact lt_ok rfl) rfl (by kernel_rfl) (evs_cons (show Env.ev E (.tmp 29) = _ from g29.trans rfl) (evs_cons (show Env.ev E (.tmp 33) = _ from g33.trans rfl) (rfl))) (.cons (.one (.row rfl (by exact (hA_.row 1029 (by kernel_rfl)).trans rfl) rfl rfl)) (.cons (.one (.d _)) .nil)) (ok_impl_NodeHash (pRoot h i (splitAtT n) ((path.drop 0).take (((path.length : Int) - 1).toNat - 0))) (path.getD ((path.length : Int) - 1).toNat []) (by first | assumption | exact sha_u8 _ | exact treeRoot_u8 _ | exact nodeHash_u8 _ _ | exact leafHash_u8 _ | exact u8_cons (by decide) (by assumption) | exact mem_getD (p := U8s) (by assumption) (by omega) | exact u8_app (u8_cons (by decide) (by assumption)) (by assumption) | exact fun x hx => by cases hx) (by first | assumption | exact sha_u8 _ | exact treeRoot_u8 _ | exact nodeHash_u8 _ _ | exact leafHash_u8 _ | exact u8_cons (by decide) (by assumption) | exact mem_getD (p := U8s) (by assumption) (by omega) | exact u8_app (u8_cons (by decide) (by assumption)) (by assumption) | exact fun x hx => by cases hx) (by first | omega | assumption | (simp only [List.length_append] at *; omega)) (by first | omega | assumption | (simp only [List.length_append] at *; omega))) (.inr rfl) (At.freshRows hA_ rfl) (by simp) rfl)) ?_
    refine .cons (fun E hA_ => by have g34 := hA_.get 34 (by decide); exact OpStep.plain rfl (Step.assign (p := (.one (.row 1034 []))) (t := 8) rfl rfl (by exact lt_ok rfl) (show Env.ev E (.tmp 34) = _ from g34.trans rfl))) ?_
    exact .nil _ _
   refine TL.nil ?_
   refine T.ret ?_
   refine ⟨[(false, [.row 1034 []])], (.cons rfl .nil), rfl, [1034], (RetC.own' rfl ?_ rfl .nil)⟩ <;> ((congr 1; first | (rw [pRoot_one (h := h) (i := i) (n := n) (path := path) (by omega)]; done) | (rw [pRoot_left (h := h) (i := i) (n := n) (path := path) (by omega) (by omega)]; done) | (rw [pRoot_right (h := h) (i := i) (n := n) (path := path) (by omega) (by omega)]; done)))
  ·
   replace h3 := of_decide_eq_false h3
   refine T.skip ?_
   refine T.seq ?_
   have nn8 := @pRoot_len h (by first | assumption | omega) (i - (splitAtT n)) (n - (splitAtT n)) ((path.drop 0).take (((path.length : Int) - 1).toNat - 0))
   have nn9 := @pRoot_u8 h (by first | assumption | skip) (i - (splitAtT n)) (n - (splitAtT n)) ((path.drop 0).take (((path.length : Int) - 1).toNat - 0))
   have nn10 := nodeHash_len (path.getD ((path.length : Int) - 1).toNat []) (pRoot h (i - (splitAtT n)) (n - (splitAtT n)) ((path.drop 0).take (((path.length : Int) - 1).toNat - 0)))
   have nn11 := nodeHash_u8 (path.getD ((path.length : Int) - 1).toNat []) (pRoot h (i - (splitAtT n)) (n - (splitAtT n)) ((path.drop 0).take (((path.length : Int) - 1).toNat - 0)))
   refine T.draw [⟨35, (.one (.d (.bss path))), []⟩, ⟨36, (.one (.d (.int .i64 ((path.length : Int) - 1)))), []⟩, ⟨37, (.one (.eptr (.bss path) ((path.length : Int) - 1).toNat 0)), []⟩, ⟨38, (.one (.d (.ints .u8 (path.getD ((path.length : Int) - 1).toNat [])))), []⟩, ⟨39, (.one (.d (.ints .u8 h))), []⟩, ⟨40, (.one (.d (.int .i64 i))), []⟩, ⟨41, (.one (.d (.int .i64 (splitAtT n)))), []⟩, ⟨42, (.one (.d (.int .i64 (i - (splitAtT n))))), []⟩, ⟨43, (.one (.d (.int .i64 n))), []⟩, ⟨44, (.one (.d (.int .i64 (splitAtT n)))), []⟩, ⟨45, (.one (.d (.int .i64 (n - (splitAtT n))))), []⟩, ⟨46, (.one (.d (.bss path))), []⟩, ⟨47, (.one (.d (.int .i64 ((path.length : Int) - 1)))), []⟩, ⟨48, (.one (.d (.bss ((path.drop 0).take (((path.length : Int) - 1).toNat - 0))))), []⟩, ⟨49, (.one (.row 1049 [])), [(1049, (5, (.ints .u8 (pRoot h (i - (splitAtT n)) (n - (splitAtT n)) ((path.drop 0).take (((path.length : Int) - 1).toNat - 0))))))]⟩, ⟨50, (.one (.row 1050 [])), [(1050, (5, (.ints .u8 (nodeHash (path.getD ((path.length : Int) - 1).toNat []) (pRoot h (i - (splitAtT n)) (n - (splitAtT n)) ((path.drop 0).take (((path.length : Int) - 1).toNat - 0)))))))]⟩, ⟨8, (.one (.row 1050 [])), []⟩] (by kernel_rfl) (by kernel_rfl) ?_ ?_
   ·
    refine .cons (fun E hA_ => by have g3 := hA_.get 3 (by decide); exact OpStep.plain rfl (Step.move (p := (.one (.d (.bss path)))) (t := 35) rfl rfl (by exact lt_ok rfl) (show Env.ev E (.tmp 3) = _ from g3.trans rfl))) ?_
    refine .cons (fun E hA_ => by have g10 := hA_.get 10 (by decide); exact OpStep.plain rfl (Step.move (p := (.one (.d (.int .i64 ((path.length : Int) - 1))))) (t := 36) rfl rfl (by exact lt_ok rfl) (show Env.ev E (.tmp 10) = _ from g10.trans rfl))) ?_
    refine .cons (fun E hA_ => by have g35 := hA_.get 35 (by decide); have g36 := hA_.get 36 (by decide); exact OpStep.plain rfl (Step.index (e := 22) (z := 1) (i := ((path.length : Int) - 1)) (t := 37) rfl rfl (by exact lt_ok rfl) (by kernel_rfl) (show Env.ev E (.tmp 35) = _ from g35.trans rfl) rfl rfl (lt_ok rfl) (show Env.ev E (.tmp 36) = _ from g36.trans rfl) (by first | omega | (simp; omega) | (have := hpl_ (by omega) (by omega); omega) | (have := hpr_ (by omega) (by omega); omega)) (by simp only [D.size]; first | omega | (simp; omega) | (have := hpl_ (by omega) (by omega); omega) | (have := hpr_ (by omega) (by omega); omega)))) ?_
    refine .cons (fun E hA_ => by have g37 := hA_.get 37 (by decide); exact OpStep.plain rfl (Step.load (e := (.ints .u8 (path.getD ((path.length : Int) - 1).toNat []))) (t := 38) rfl rfl (by exact lt_ok rfl) (by kernel_rfl) (show Env.ev E (.tmp 37) = _ from g37.trans rfl) rfl)) ?_
    refine .cons (fun E hA_ => by have g0 := hA_.get 0 (by decide); exact OpStep.plain rfl (Step.move (p := (.one (.d (.ints .u8 h)))) (t := 39) rfl rfl (by exact lt_ok rfl) (show Env.ev E (.tmp 0) = _ from g0.trans rfl))) ?_
    refine .cons (fun E hA_ => by have g1 := hA_.get 1 (by decide); exact OpStep.plain rfl (Step.move (p := (.one (.d (.int .i64 i)))) (t := 40) rfl rfl (by exact lt_ok rfl) (show Env.ev E (.tmp 1) = _ from g1.trans rfl))) ?_
    refine .cons (fun E hA_ => by have g9 := hA_.get 9 (by decide); exact OpStep.plain rfl (Step.move (p := (.one (.d (.int .i64 (splitAtT n))))) (t := 41) rfl rfl (by exact lt_ok rfl) (show Env.ev E (.tmp 9) = _ from g9.trans rfl))) ?_
    refine .cons (fun E hA_ => by have g40 := hA_.get 40 (by decide); have g41 := hA_.get 41 (by decide); exact OpStep.plain rfl (Step.bin (r := .int .i64 (i - (splitAtT n))) (t := 42) rfl rfl (by exact lt_ok rfl) (show Env.ev E (.tmp 40) = _ from g40.trans rfl) (show Env.ev E (.tmp 41) = _ from g41.trans rfl) (Bin.sub (a := i) (b := (splitAtT n)) (by first | exact wrap_ok (by first | omega | (simp; omega) | (have := hpl_ (by omega) (by omega); omega) | (have := hpr_ (by omega) (by omega); omega)) (by first | omega | (simp; omega) | (have := hpl_ (by omega) (by omega); omega) | (have := hpr_ (by omega) (by omega); omega)) | rfl)))) ?_
    refine .cons (fun E hA_ => by have g2 := hA_.get 2 (by decide); exact OpStep.plain rfl (Step.move (p := (.one (.d (.int .i64 n)))) (t := 43) rfl rfl (by exact lt_ok rfl) (show Env.ev E (.tmp 2) = _ from g2.trans rfl))) ?_
    refine .cons (fun E hA_ => by have g9 := hA_.get 9 (by decide); exact OpStep.plain rfl (Step.move (p := (.one (.d (.int .i64 (splitAtT n))))) (t := 44) rfl rfl (by exact lt_ok rfl) (show Env.ev E (.tmp 9) = _ from g9.trans rfl))) ?_
    refine .cons (fun E hA_ => by have g43 := hA_.get 43 (by decide); have g44 := hA_.get 44 (by decide); exact OpStep.plain rfl (Step.bin (r := .int .i64 (n - (splitAtT n))) (t := 45) rfl rfl (by exact lt_ok rfl) (show Env.ev E (.tmp 43) = _ from g43.trans rfl) (show Env.ev E (.tmp 44) = _ from g44.trans rfl) (Bin.sub (a := n) (b := (splitAtT n)) (by first | exact wrap_ok (by first | omega | (simp; omega) | (have := hpl_ (by omega) (by omega); omega) | (have := hpr_ (by omega) (by omega); omega)) (by first | omega | (simp; omega) | (have := hpl_ (by omega) (by omega); omega) | (have := hpr_ (by omega) (by omega); omega)) | rfl)))) ?_
    refine .cons (fun E hA_ => by have g3 := hA_.get 3 (by decide); exact OpStep.plain rfl (Step.move (p := (.one (.d (.bss path)))) (t := 46) rfl rfl (by exact lt_ok rfl) (show Env.ev E (.tmp 3) = _ from g3.trans rfl))) ?_
    refine .cons (fun E hA_ => by have g10 := hA_.get 10 (by decide); exact OpStep.plain rfl (Step.move (p := (.one (.d (.int .i64 ((path.length : Int) - 1))))) (t := 47) rfl rfl (by exact lt_ok rfl) (show Env.ev E (.tmp 10) = _ from g10.trans rfl))) ?_
    refine .cons (fun E hA_ => by have g46 := hA_.get 46 (by decide); have g47 := hA_.get 47 (by decide); exact OpStep.plain rfl (Step.slice (e := 22) (z := 1) (l := 0) (h := ((path.length : Int) - 1).toNat) (t := 48) rfl rfl (by exact lt_ok rfl) (by kernel_rfl) (show Env.ev E (.tmp 46) = _ from g46.trans rfl) rfl rfl (.none _) ((.some (i := ((path.length : Int) - 1)) (show Env.ev E (.tmp 47) = _ from g47.trans rfl) (by first | omega | (simp; omega) | (have := hpl_ (by omega) (by omega); omega) | (have := hpr_ (by omega) (by omega); omega)))) (by first | omega | (simp; omega) | (have := hpl_ (by omega) (by omega); omega) | (have := hpr_ (by omega) (by omega); omega)) (by simp only [D.size]; first | omega | (simp; omega) | (have := hpl_ (by omega) (by omega); omega) | (have := hpr_ (by omega) (by omega); omega)) rfl)) ?_
    refine .cons (fun E hA_ => by have g39 := hA_.get 39 (by decide); have g42 := hA_.get 42 (by decide); have g45 := hA_.get 45 (by decide); have g48 := hA_.get 48 (by decide); exact OpStep.plain rfl (Step.call (f := 72) (xs := [.tmp 39, .tmp 42, .tmp 45, .tmp 48]) (ps := [(.one (.d (.ints .u8 h))), (.one (.d (.int .i64 (i - (splitAtT n))))), (.one (.d (.int .i64 (n - (splitAtT n))))), (.one (.d (.bss ((path.drop 0).take (((path.length : Int) - 1).toNat - 0)))))]) false (g := .func 72) (t := 49) rfl rfl (by exact lt_ok rfl) rfl (by kernel_rfl) (evs_cons (show Env.ev E (.tmp 39) = _ from g39.trans rfl) (evs_cons (show Env.ev E (.tmp 42) = _ from g42.trans rfl) (evs_cons (show Env.ev E (.tmp 45) = _ from g45.trans rfl) (evs_cons (show Env.ev E (.tmp 48) = _ from g48.trans rfl) (rfl))))) (.cons (.one (.d _)) (.cons (.one (.d _)) (.cons (.one (.d _)) (.cons (.one (.d _)) .nil)))) (ih (n - (splitAtT n)).toNat (by omega) h (i - (splitAtT n)) (n - (splitAtT n)) ((path.drop 0).take (((path.length : Int) - 1).toNat - 0)) rfl (by first | assumption | omega | exact (pathFits_parts (by assumption)).1) (by first | assumption | omega | (have := hpl_ (by omega) (by omega); omega) | (have := hpr_ (by omega) (by omega); omega)) (by first | assumption | exact sha_u8 _ | exact treeRoot_u8 _ | exact nodeHash_u8 _ _ | exact leafHash_u8 _ | exact u8_cons (by decide) (by assumption) | exact mem_getD (p := U8s) (by assumption) (by omega) | exact u8_app (u8_cons (by decide) (by assumption)) (by assumption) | exact fun x hx => by cases hx) (by first | assumption | exact mem_sub (by assumption) _ _ | exact s0.2) (by first | assumption | exact mem_sub (by assumption) _ _ | exact s0.2) (by first | omega | assumption | (simp only [List.length_append] at *; omega))) (.inr rfl) (At.freshRows hA_ rfl) (by simp) rfl)) ?_
    refine .cons (fun E hA_ => by have g38 := hA_.get 38 (by decide); have g49 := hA_.get 49 (by decide); exact OpStep.plain rfl (Step.call (f := 51) (xs := [.tmp 38, .tmp 49]) (ps := [(.one (.d (.ints .u8 (path.getD ((path.length : Int) - 1).toNat [])))), (.one (.row 1049 []))]) false (g := .func 51) (t := 50) rfl rfl (by exact lt_ok rfl) rfl (by kernel_rfl) (evs_cons (show Env.ev E (.tmp 38) = _ from g38.trans rfl) (evs_cons (show Env.ev E (.tmp 49) = _ from g49.trans rfl) (rfl))) (.cons (.one (.d _)) (.cons (.one (.row rfl (by exact (hA_.row 1049 (by kernel_rfl)).trans rfl) rfl rfl)) .nil)) (ok_impl_NodeHash (path.getD ((path.length : Int) - 1).toNat []) (pRoot h (i - (splitAtT n)) (n - (splitAtT n)) ((path.drop 0).take (((path.length : Int) - 1).toNat - 0))) (by first | assumption | exact sha_u8 _ | exact treeRoot_u8 _ | exact nodeHash_u8 _ _ | exact leafHash_u8 _ | exact u8_cons (by decide) (by assumption) | exact mem_getD (p := U8s) (by assumption) (by omega) | exact u8_app (u8_cons (by decide) (by assumption)) (by assumption) | exact fun x hx => by cases hx) (by first | assumption | exact sha_u8 _ | exact treeRoot_u8 _ | exact nodeHash_u8 _ _ | exact leafHash_u8 _ | exact u8_cons (by decide) (by assumption) | exact mem_getD (p := U8s) (by assumption) (by omega) | exact u8_app (u8_cons (by decide) (by assumption)) (by assumption) | exact fun x hx => by cases hx) (by first | omega | assumption | (simp only [List.length_append] at *; omega)) (by first | omega | assumption | (simp only [List.length_append] at *; omega))) (.inr rfl) (At.freshRows hA_ rfl) (by simp) rfl)) ?_
    refine .cons (fun E hA_ => by have g50 := hA_.get 50 (by decide); exact OpStep.plain rfl (Step.assign (p := (.one (.row 1050 []))) (t := 8) rfl rfl (by exact lt_ok rfl) (show Env.ev E (.tmp 50) = _ from g50.trans rfl))) ?_
    exact .nil _ _
   refine TL.nil ?_
   refine T.ret ?_
   refine ⟨[(false, [.row 1050 []])], (.cons rfl .nil), rfl, [1050], (RetC.own' rfl ?_ rfl .nil)⟩ <;> ((congr 1; first | (rw [pRoot_one (h := h) (i := i) (n := n) (path := path) (by omega)]; done) | (rw [pRoot_left (h := h) (i := i) (n := n) (path := path) (by omega) (by omega)]; done) | (rw [pRoot_right (h := h) (i := i) (n := n) (path := path) (by omega) (by omega)]; done)))
theorem ok_impl_pathRoot (h : List Int) (i : Int) (n : Int) (path : List (List Int)) (h0_ : 1 ≤ n ∧ n ≤ 1048576 ∧ 0 ≤ i ∧ i ≤ n - 1) (h1_ : (path.length : Int) = pathLenT i n) (h2_ : U8s h) (h3_ : ∀ y ∈ path, U8s y) (h4_ : ∀ y ∈ path, y.length ≤ 1048576) (h5_ : h.length ≤ 1048576) : RO Try.prog 72 [.one (.ints .u8 h), .one (.int .i64 i), .one (.int .i64 n), .one (.bss path)] [(false, [.own 5 (.ints .u8 (pRoot h i n path))])] := ok_impl_pathRoot_r _ h i n path rfl h0_ h1_ h2_ h3_ h4_ h5_
theorem ok_impl_PathRoot (h : List Int) (i : Int) (n : Int) (path : List (List Int)) (h0_ : U8s h) (h1_ : ∀ y ∈ path, U8s y) (h2_ : ∀ y ∈ path, y.length ≤ 1048576) (h3_ : h.length ≤ 1048576) : RO Try.prog 32 [.one (.ints .u8 h), .one (.int .i64 i), .one (.int .i64 n), .one (.bss path)] [(false, [.own 5 (.ints .u8 (pathRoot h i n path))]), (false, [.rd (.bool (pathFits h i n path))])] := by
 refine RO.intro Try.func32 rfl 47 rfl (le_ok rfl) fun w Z => ?_
 refine T.bnd 0 0 rfl rfl fun hb_0_0 => ?_
 simp only [D.size, List.length_map] at hb_0_0
 refine T.bnd 3 0 rfl rfl fun hb_3_0 => ?_
 simp only [D.size, List.length_map] at hb_3_0
 refine T.seq ?_
 refine T.region ?_
 refine TL.cons rfl (Step.assign (p := (.one (.nil))) rfl rfl (lt_ok rfl) rfl) ?_
 refine TL.cons rfl (Step.assign (p := (.one (.d (.bool false)))) rfl rfl (lt_ok rfl) rfl) ?_
 refine TL.nil ?_
 refine T.seq ?_
 refine T.seq ?_
 refine T.region ?_
 refine TL.cons rfl (Step.move (p := (.one (.d (.ints .u8 h)))) rfl rfl (lt_ok rfl) rfl) ?_
 refine TL.cons rfl (Step.lit_d (e := 22) (z := 1) (by_ := 24) (xs := [.tmp 10]) (pss := [[.d (.ints .u8 h)]]) (ds := [(.ints .u8 h)]) (d := (.bss [h])) rfl rfl (lt_ok rfl) (by kernel_rfl) rfl rfl (.cons rfl .nil) (by simp) (le_ok rfl) (le_ok rfl) rfl rfl trivial rfl rfl) ?_
 refine TL.cons rfl (Step.call (f := 55) (xs := [.tmp 11]) (ps := [(.one (.d (.bss [h])))]) false (g := .func 55) rfl rfl (lt_ok rfl) rfl (by kernel_rfl) rfl (.cons (.one (.d _)) .nil) (ok_impl_areHashes [h]) (.inr rfl) rfl (by simp) rfl) ?_
 refine TL.cons rfl (Step.not (b := (hashes [h])) rfl rfl (lt_ok rfl) rfl) ?_
 refine TL.cons rfl (Step.move (p := (.one (.d (.bool (!(hashes [h])))))) rfl rfl (lt_ok rfl) rfl) ?_
 rcases Bool.eq_false_or_eq_true (!(hashes [h])) with hb1 | hb1
 ·
  refine TL.known 14 hb1 rfl ?_
  have hb1' := hb1
  replace hb1' : (hashes [h]) = false := by simpa only [Bool.not_eq_true', Bool.not_eq_false'] using hb1'
  refine TL.goff 14 rfl rfl (lt_ok rfl) rfl rfl rfl (lt_ok rfl) ?_
  refine TL.goff 14 rfl rfl (lt_ok rfl) rfl rfl rfl (lt_ok rfl) ?_
  refine TL.cons rfl (Step.pick (b := true) (p := (.one (.d (.bool true)))) rfl rfl (lt_ok rfl) rfl rfl) ?_
  refine TL.cons rfl (Step.move (p := (.one (.d (.bool true)))) rfl rfl (lt_ok rfl) rfl) ?_
  refine TL.goff 18 rfl rfl (lt_ok rfl) rfl rfl rfl (lt_ok rfl) ?_
  refine TL.goff 18 rfl rfl (lt_ok rfl) rfl rfl rfl (lt_ok rfl) ?_
  refine TL.cons rfl (Step.pick (b := true) (p := (.one (.d (.bool true)))) rfl rfl (lt_ok rfl) rfl rfl) ?_
  refine TL.cons rfl (Step.move (p := (.one (.d (.bool true)))) rfl rfl (lt_ok rfl) rfl) ?_
  refine TL.goff 22 rfl rfl (lt_ok rfl) rfl rfl rfl (lt_ok rfl) ?_
  refine TL.goff 22 rfl rfl (lt_ok rfl) rfl rfl rfl (lt_ok rfl) ?_
  refine TL.goff 22 rfl rfl (lt_ok rfl) rfl rfl rfl (lt_ok rfl) ?_
  refine TL.goff 22 rfl rfl (lt_ok rfl) rfl rfl rfl (lt_ok rfl) ?_
  refine TL.goff 22 rfl rfl (lt_ok rfl) rfl rfl rfl (lt_ok rfl) ?_
  refine TL.cons rfl (Step.pick (b := true) (p := (.one (.d (.bool true)))) rfl rfl (lt_ok rfl) rfl rfl) ?_
  refine TL.cons rfl (Step.move (p := (.one (.d (.bool true)))) rfl rfl (lt_ok rfl) rfl) ?_
  refine TL.goff 29 rfl rfl (lt_ok rfl) rfl rfl rfl (lt_ok rfl) ?_
  refine TL.goff 29 rfl rfl (lt_ok rfl) rfl rfl rfl (lt_ok rfl) ?_
  refine TL.goff 29 rfl rfl (lt_ok rfl) rfl rfl rfl (lt_ok rfl) ?_
  refine TL.goff 29 rfl rfl (lt_ok rfl) rfl rfl rfl (lt_ok rfl) ?_
  refine TL.goff 29 rfl rfl (lt_ok rfl) rfl rfl rfl (lt_ok rfl) ?_
  refine TL.goff 29 rfl rfl (lt_ok rfl) rfl rfl rfl (lt_ok rfl) ?_
  refine TL.cons rfl (Step.pick (b := true) (p := (.one (.d (.bool true)))) rfl rfl (lt_ok rfl) rfl rfl) ?_
  refine TL.cons rfl (Step.move (p := (.one (.d (.bool true)))) rfl rfl (lt_ok rfl) rfl) ?_
  refine TL.goff 37 rfl rfl (lt_ok rfl) rfl rfl rfl (lt_ok rfl) ?_
  refine TL.goff 37 rfl rfl (lt_ok rfl) rfl rfl rfl (lt_ok rfl) ?_
  refine TL.goff 37 rfl rfl (lt_ok rfl) rfl rfl rfl (lt_ok rfl) ?_
  refine TL.cons rfl (Step.pick (b := true) (p := (.one (.d (.bool true)))) rfl rfl (lt_ok rfl) rfl rfl) ?_
  refine TL.nil ?_
  refine T.cond (b := true) rfl (fun h2_ => ?_) (fun h2_ => absurd h2_ (by simp))
  refine T.seq ?_
  refine T.region ?_
  refine TL.cons rfl (Step.assign (p := (.one (.nil))) rfl rfl (lt_ok rfl) rfl) ?_
  refine TL.cons rfl (Step.assign (p := (.one (.d (.bool false)))) rfl rfl (lt_ok rfl) rfl) ?_
  refine TL.nil ?_
  refine T.ret ?_
  refine ⟨[(false, [.nil]), (false, [.d (.bool false)])], (.cons rfl (.cons rfl .nil)), rfl, [], (RetC.nilown' rfl ?_ (by first | exact trivial | exact D.wf_nil _) (RetC.rd' ?_ .nil))⟩ <;> (first | (show (pathRoot h i n path).length = 0; rw [pathRoot_no (Bool.eq_false_iff.2 fun hq_ => by obtain ⟨q1_, q2_, q3_, q4_⟩ := pathFits_all hq_; first | omega | exact bool_ne q4_ (by assumption) | (have h_ := ‹hashes [h] = false›; rw [hashes_one] at h_; exact of_decide_eq_false h_ q1_) | (simp_all; done))]; rfl) | (congr 1; first | (rw [pathRoot_yes (pathFits_mk (h := h) (i := i) (n := n) (path := path) (by first | omega | (have h_ := ‹hashes [h] = true›; rw [hashes_one] at h_; exact of_decide_eq_true h_)) (by omega) (by omega) (by assumption))]; done) | (symm; exact (Bool.eq_false_iff.2 fun hq_ => by obtain ⟨q1_, q2_, q3_, q4_⟩ := pathFits_all hq_; first | omega | exact bool_ne q4_ (by assumption) | (have h_ := ‹hashes [h] = false›; rw [hashes_one] at h_; exact of_decide_eq_false h_ q1_) | (simp_all; done))) | (symm; exact (pathFits_mk (h := h) (i := i) (n := n) (path := path) (by first | omega | (have h_ := ‹hashes [h] = true›; rw [hashes_one] at h_; exact of_decide_eq_true h_)) (by omega) (by omega) (by assumption)))))
 ·
  refine TL.known 14 hb1 rfl ?_
  have hb1' := hb1
  replace hb1' : (hashes [h]) = true := by simpa only [Bool.not_eq_true', Bool.not_eq_false'] using hb1'
  refine TL.gyes 14 rfl rfl (lt_ok rfl) rfl (Step.move (p := (.one (.d (.int .i64 n)))) rfl rfl (lt_ok rfl) rfl) ?_
  refine TL.gyes 14 rfl rfl (lt_ok rfl) rfl (Step.bin rfl rfl (lt_ok rfl) rfl rfl (Bin.lss (k := .i64) (a := n) (b := 1))) ?_
  refine TL.cons rfl (Step.pick (b := false) (p := (.one (.d (.bool (decide (n < 1)))))) rfl rfl (lt_ok rfl) rfl rfl) ?_
  refine TL.cons rfl (Step.move (p := (.one (.d (.bool (decide (n < 1)))))) rfl rfl (lt_ok rfl) rfl) ?_
  rcases Bool.eq_false_or_eq_true (decide (n < 1)) with hb3 | hb3
  ·
   refine TL.known 18 hb3 rfl ?_
   have hb3' := hb3
   replace hb3' := of_decide_eq_true hb3'
   refine TL.goff 18 rfl rfl (lt_ok rfl) rfl rfl rfl (lt_ok rfl) ?_
   refine TL.goff 18 rfl rfl (lt_ok rfl) rfl rfl rfl (lt_ok rfl) ?_
   refine TL.cons rfl (Step.pick (b := true) (p := (.one (.d (.bool true)))) rfl rfl (lt_ok rfl) rfl rfl) ?_
   refine TL.cons rfl (Step.move (p := (.one (.d (.bool true)))) rfl rfl (lt_ok rfl) rfl) ?_
   refine TL.goff 22 rfl rfl (lt_ok rfl) rfl rfl rfl (lt_ok rfl) ?_
   refine TL.goff 22 rfl rfl (lt_ok rfl) rfl rfl rfl (lt_ok rfl) ?_
   refine TL.goff 22 rfl rfl (lt_ok rfl) rfl rfl rfl (lt_ok rfl) ?_
   refine TL.goff 22 rfl rfl (lt_ok rfl) rfl rfl rfl (lt_ok rfl) ?_
   refine TL.goff 22 rfl rfl (lt_ok rfl) rfl rfl rfl (lt_ok rfl) ?_
   refine TL.cons rfl (Step.pick (b := true) (p := (.one (.d (.bool true)))) rfl rfl (lt_ok rfl) rfl rfl) ?_
   refine TL.cons rfl (Step.move (p := (.one (.d (.bool true)))) rfl rfl (lt_ok rfl) rfl) ?_
   refine TL.goff 29 rfl rfl (lt_ok rfl) rfl rfl rfl (lt_ok rfl) ?_
   refine TL.goff 29 rfl rfl (lt_ok rfl) rfl rfl rfl (lt_ok rfl) ?_
   refine TL.goff 29 rfl rfl (lt_ok rfl) rfl rfl rfl (lt_ok rfl) ?_
   refine TL.goff 29 rfl rfl (lt_ok rfl) rfl rfl rfl (lt_ok rfl) ?_
   refine TL.goff 29 rfl rfl (lt_ok rfl) rfl rfl rfl (lt_ok rfl) ?_
   refine TL.goff 29 rfl rfl (lt_ok rfl) rfl rfl rfl (lt_ok rfl) ?_
   refine TL.cons rfl (Step.pick (b := true) (p := (.one (.d (.bool true)))) rfl rfl (lt_ok rfl) rfl rfl) ?_
   refine TL.cons rfl (Step.move (p := (.one (.d (.bool true)))) rfl rfl (lt_ok rfl) rfl) ?_
   refine TL.goff 37 rfl rfl (lt_ok rfl) rfl rfl rfl (lt_ok rfl) ?_
   refine TL.goff 37 rfl rfl (lt_ok rfl) rfl rfl rfl (lt_ok rfl) ?_
   refine TL.goff 37 rfl rfl (lt_ok rfl) rfl rfl rfl (lt_ok rfl) ?_
   refine TL.cons rfl (Step.pick (b := true) (p := (.one (.d (.bool true)))) rfl rfl (lt_ok rfl) rfl rfl) ?_
   refine TL.nil ?_
   refine T.cond (b := true) rfl (fun h4_ => ?_) (fun h4_ => absurd h4_ (by simp))
   refine T.seq ?_
   refine T.region ?_
   refine TL.cons rfl (Step.assign (p := (.one (.nil))) rfl rfl (lt_ok rfl) rfl) ?_
   refine TL.cons rfl (Step.assign (p := (.one (.d (.bool false)))) rfl rfl (lt_ok rfl) rfl) ?_
   refine TL.nil ?_
   refine T.ret ?_
   refine ⟨[(false, [.nil]), (false, [.d (.bool false)])], (.cons rfl (.cons rfl .nil)), rfl, [], (RetC.nilown' rfl ?_ (by first | exact trivial | exact D.wf_nil _) (RetC.rd' ?_ .nil))⟩ <;> (first | (show (pathRoot h i n path).length = 0; rw [pathRoot_no (Bool.eq_false_iff.2 fun hq_ => by obtain ⟨q1_, q2_, q3_, q4_⟩ := pathFits_all hq_; first | omega | exact bool_ne q4_ (by assumption) | (have h_ := ‹hashes [h] = false›; rw [hashes_one] at h_; exact of_decide_eq_false h_ q1_) | (simp_all; done))]; rfl) | (congr 1; first | (rw [pathRoot_yes (pathFits_mk (h := h) (i := i) (n := n) (path := path) (by first | omega | (have h_ := ‹hashes [h] = true›; rw [hashes_one] at h_; exact of_decide_eq_true h_)) (by omega) (by omega) (by assumption))]; done) | (symm; exact (Bool.eq_false_iff.2 fun hq_ => by obtain ⟨q1_, q2_, q3_, q4_⟩ := pathFits_all hq_; first | omega | exact bool_ne q4_ (by assumption) | (have h_ := ‹hashes [h] = false›; rw [hashes_one] at h_; exact of_decide_eq_false h_ q1_) | (simp_all; done))) | (symm; exact (pathFits_mk (h := h) (i := i) (n := n) (path := path) (by first | omega | (have h_ := ‹hashes [h] = true›; rw [hashes_one] at h_; exact of_decide_eq_true h_)) (by omega) (by omega) (by assumption)))))
  ·
   refine TL.known 18 hb3 rfl ?_
   have hb3' := hb3
   replace hb3' := of_decide_eq_false hb3'
   refine TL.gyes 18 rfl rfl (lt_ok rfl) rfl (Step.move (p := (.one (.d (.int .i64 n)))) rfl rfl (lt_ok rfl) rfl) ?_
   refine TL.gyes 18 rfl rfl (lt_ok rfl) rfl (Step.bin rfl rfl (lt_ok rfl) rfl rfl (Bin.gtr (k := .i64) (a := n) (b := 1048576))) ?_
   refine TL.cons rfl (Step.pick (b := false) (p := (.one (.d (.bool (decide (1048576 < n)))))) rfl rfl (lt_ok rfl) rfl rfl) ?_
   refine TL.cons rfl (Step.move (p := (.one (.d (.bool (decide (1048576 < n)))))) rfl rfl (lt_ok rfl) rfl) ?_
   rcases Bool.eq_false_or_eq_true (decide (1048576 < n)) with hb5 | hb5
   ·
    refine TL.known 22 hb5 rfl ?_
    have hb5' := hb5
    replace hb5' := of_decide_eq_true hb5'
    refine TL.goff 22 rfl rfl (lt_ok rfl) rfl rfl rfl (lt_ok rfl) ?_
    refine TL.goff 22 rfl rfl (lt_ok rfl) rfl rfl rfl (lt_ok rfl) ?_
    refine TL.goff 22 rfl rfl (lt_ok rfl) rfl rfl rfl (lt_ok rfl) ?_
    refine TL.goff 22 rfl rfl (lt_ok rfl) rfl rfl rfl (lt_ok rfl) ?_
    refine TL.goff 22 rfl rfl (lt_ok rfl) rfl rfl rfl (lt_ok rfl) ?_
    refine TL.cons rfl (Step.pick (b := true) (p := (.one (.d (.bool true)))) rfl rfl (lt_ok rfl) rfl rfl) ?_
    refine TL.cons rfl (Step.move (p := (.one (.d (.bool true)))) rfl rfl (lt_ok rfl) rfl) ?_
    refine TL.goff 29 rfl rfl (lt_ok rfl) rfl rfl rfl (lt_ok rfl) ?_
    refine TL.goff 29 rfl rfl (lt_ok rfl) rfl rfl rfl (lt_ok rfl) ?_
    refine TL.goff 29 rfl rfl (lt_ok rfl) rfl rfl rfl (lt_ok rfl) ?_
    refine TL.goff 29 rfl rfl (lt_ok rfl) rfl rfl rfl (lt_ok rfl) ?_
    refine TL.goff 29 rfl rfl (lt_ok rfl) rfl rfl rfl (lt_ok rfl) ?_
    refine TL.goff 29 rfl rfl (lt_ok rfl) rfl rfl rfl (lt_ok rfl) ?_
    refine TL.cons rfl (Step.pick (b := true) (p := (.one (.d (.bool true)))) rfl rfl (lt_ok rfl) rfl rfl) ?_
    refine TL.cons rfl (Step.move (p := (.one (.d (.bool true)))) rfl rfl (lt_ok rfl) rfl) ?_
    refine TL.goff 37 rfl rfl (lt_ok rfl) rfl rfl rfl (lt_ok rfl) ?_
    refine TL.goff 37 rfl rfl (lt_ok rfl) rfl rfl rfl (lt_ok rfl) ?_
    refine TL.goff 37 rfl rfl (lt_ok rfl) rfl rfl rfl (lt_ok rfl) ?_
    refine TL.cons rfl (Step.pick (b := true) (p := (.one (.d (.bool true)))) rfl rfl (lt_ok rfl) rfl rfl) ?_
    refine TL.nil ?_
    refine T.cond (b := true) rfl (fun h6_ => ?_) (fun h6_ => absurd h6_ (by simp))
    refine T.seq ?_
    refine T.region ?_
    refine TL.cons rfl (Step.assign (p := (.one (.nil))) rfl rfl (lt_ok rfl) rfl) ?_
    refine TL.cons rfl (Step.assign (p := (.one (.d (.bool false)))) rfl rfl (lt_ok rfl) rfl) ?_
    refine TL.nil ?_
    refine T.ret ?_
    refine ⟨[(false, [.nil]), (false, [.d (.bool false)])], (.cons rfl (.cons rfl .nil)), rfl, [], (RetC.nilown' rfl ?_ (by first | exact trivial | exact D.wf_nil _) (RetC.rd' ?_ .nil))⟩ <;> (first | (show (pathRoot h i n path).length = 0; rw [pathRoot_no (Bool.eq_false_iff.2 fun hq_ => by obtain ⟨q1_, q2_, q3_, q4_⟩ := pathFits_all hq_; first | omega | exact bool_ne q4_ (by assumption) | (have h_ := ‹hashes [h] = false›; rw [hashes_one] at h_; exact of_decide_eq_false h_ q1_) | (simp_all; done))]; rfl) | (congr 1; first | (rw [pathRoot_yes (pathFits_mk (h := h) (i := i) (n := n) (path := path) (by first | omega | (have h_ := ‹hashes [h] = true›; rw [hashes_one] at h_; exact of_decide_eq_true h_)) (by omega) (by omega) (by assumption))]; done) | (symm; exact (Bool.eq_false_iff.2 fun hq_ => by obtain ⟨q1_, q2_, q3_, q4_⟩ := pathFits_all hq_; first | omega | exact bool_ne q4_ (by assumption) | (have h_ := ‹hashes [h] = false›; rw [hashes_one] at h_; exact of_decide_eq_false h_ q1_) | (simp_all; done))) | (symm; exact (pathFits_mk (h := h) (i := i) (n := n) (path := path) (by first | omega | (have h_ := ‹hashes [h] = true›; rw [hashes_one] at h_; exact of_decide_eq_true h_)) (by omega) (by omega) (by assumption)))))
   ·
    refine TL.known 22 hb5 rfl ?_
    have hb5' := hb5
    replace hb5' := of_decide_eq_false hb5'
    refine TL.gyes 22 rfl rfl (lt_ok rfl) rfl (Step.move (p := (.one (.d (.int .i64 i)))) rfl rfl (lt_ok rfl) rfl) ?_
    refine TL.gyes 22 rfl rfl (lt_ok rfl) rfl (Step.move (p := (.one (.d (.int .i64 n)))) rfl rfl (lt_ok rfl) rfl) ?_
    refine TL.gyes 22 rfl rfl (lt_ok rfl) rfl (Step.bin (r := .int .i64 (n - 1)) rfl rfl (lt_ok rfl) rfl rfl (Bin.sub (a := n) (b := 1) (by first | exact wrap_ok (by first | omega | (simp; omega)) (by first | omega | (simp; omega)) | rfl))) ?_
    refine TL.gyes 22 rfl rfl (lt_ok rfl) rfl (Step.call (f := 52) (xs := [.tmp 23, .const (.int .i64 0), .tmp 25]) (ps := [(.one (.d (.int .i64 i))), (.one (.d (.int .i64 0))), (.one (.d (.int .i64 (n - 1))))]) false (g := .func 52) rfl rfl (lt_ok rfl) rfl (by kernel_rfl) rfl (.cons (.one (.d _)) (.cons (.one (.d _)) (.cons (.one (.d _)) .nil))) (ok_impl_within i 0 (n - 1)) (.inr rfl) rfl (by simp) rfl) ?_
    refine TL.gyes 22 rfl rfl (lt_ok rfl) rfl (Step.not (b := (decide (0 ≤ i ∧ i ≤ (n - 1)))) rfl rfl (lt_ok rfl) rfl) ?_
    refine TL.cons rfl (Step.pick (b := false) (p := (.one (.d (.bool (!(decide (0 ≤ i ∧ i ≤ (n - 1)))))))) rfl rfl (lt_ok rfl) rfl rfl) ?_
    refine TL.cons rfl (Step.move (p := (.one (.d (.bool (!(decide (0 ≤ i ∧ i ≤ (n - 1)))))))) rfl rfl (lt_ok rfl) rfl) ?_
    rcases Bool.eq_false_or_eq_true (!(decide (0 ≤ i ∧ i ≤ (n - 1)))) with hb7 | hb7
    ·
     refine TL.known 29 hb7 rfl ?_
     have hb7' := hb7
     replace hb7' : (decide (0 ≤ i ∧ i ≤ (n - 1))) = false := by simpa only [Bool.not_eq_true', Bool.not_eq_false'] using hb7'
     replace hb7' := of_decide_eq_false hb7'
     refine TL.goff 29 rfl rfl (lt_ok rfl) rfl rfl rfl (lt_ok rfl) ?_
     refine TL.goff 29 rfl rfl (lt_ok rfl) rfl rfl rfl (lt_ok rfl) ?_
     refine TL.goff 29 rfl rfl (lt_ok rfl) rfl rfl rfl (lt_ok rfl) ?_
     refine TL.goff 29 rfl rfl (lt_ok rfl) rfl rfl rfl (lt_ok rfl) ?_
     refine TL.goff 29 rfl rfl (lt_ok rfl) rfl rfl rfl (lt_ok rfl) ?_
     refine TL.goff 29 rfl rfl (lt_ok rfl) rfl rfl rfl (lt_ok rfl) ?_
     refine TL.cons rfl (Step.pick (b := true) (p := (.one (.d (.bool true)))) rfl rfl (lt_ok rfl) rfl rfl) ?_
     refine TL.cons rfl (Step.move (p := (.one (.d (.bool true)))) rfl rfl (lt_ok rfl) rfl) ?_
     refine TL.goff 37 rfl rfl (lt_ok rfl) rfl rfl rfl (lt_ok rfl) ?_
     refine TL.goff 37 rfl rfl (lt_ok rfl) rfl rfl rfl (lt_ok rfl) ?_
     refine TL.goff 37 rfl rfl (lt_ok rfl) rfl rfl rfl (lt_ok rfl) ?_
     refine TL.cons rfl (Step.pick (b := true) (p := (.one (.d (.bool true)))) rfl rfl (lt_ok rfl) rfl rfl) ?_
     refine TL.nil ?_
     refine T.cond (b := true) rfl (fun h8_ => ?_) (fun h8_ => absurd h8_ (by simp))
     refine T.seq ?_
     refine T.region ?_
     refine TL.cons rfl (Step.assign (p := (.one (.nil))) rfl rfl (lt_ok rfl) rfl) ?_
     refine TL.cons rfl (Step.assign (p := (.one (.d (.bool false)))) rfl rfl (lt_ok rfl) rfl) ?_
     refine TL.nil ?_
     refine T.ret ?_
     refine ⟨[(false, [.nil]), (false, [.d (.bool false)])], (.cons rfl (.cons rfl .nil)), rfl, [], (RetC.nilown' rfl ?_ (by first | exact trivial | exact D.wf_nil _) (RetC.rd' ?_ .nil))⟩ <;> (first | (show (pathRoot h i n path).length = 0; rw [pathRoot_no (Bool.eq_false_iff.2 fun hq_ => by obtain ⟨q1_, q2_, q3_, q4_⟩ := pathFits_all hq_; first | omega | exact bool_ne q4_ (by assumption) | (have h_ := ‹hashes [h] = false›; rw [hashes_one] at h_; exact of_decide_eq_false h_ q1_) | (simp_all; done))]; rfl) | (congr 1; first | (rw [pathRoot_yes (pathFits_mk (h := h) (i := i) (n := n) (path := path) (by first | omega | (have h_ := ‹hashes [h] = true›; rw [hashes_one] at h_; exact of_decide_eq_true h_)) (by omega) (by omega) (by assumption))]; done) | (symm; exact (Bool.eq_false_iff.2 fun hq_ => by obtain ⟨q1_, q2_, q3_, q4_⟩ := pathFits_all hq_; first | omega | exact bool_ne q4_ (by assumption) | (have h_ := ‹hashes [h] = false›; rw [hashes_one] at h_; exact of_decide_eq_false h_ q1_) | (simp_all; done))) | (symm; exact (pathFits_mk (h := h) (i := i) (n := n) (path := path) (by first | omega | (have h_ := ‹hashes [h] = true›; rw [hashes_one] at h_; exact of_decide_eq_true h_)) (by omega) (by omega) (by assumption)))))
    ·
     refine TL.known 29 hb7 rfl ?_
     have hb7' := hb7
     replace hb7' : (decide (0 ≤ i ∧ i ≤ (n - 1))) = true := by simpa only [Bool.not_eq_true', Bool.not_eq_false'] using hb7'
     replace hb7' := of_decide_eq_true hb7'
     refine TL.gyes 29 rfl rfl (lt_ok rfl) rfl (Step.move (p := (.one (.d (.bss path)))) rfl rfl (lt_ok rfl) rfl) ?_
     refine TL.gyes 29 rfl rfl (lt_ok rfl) rfl (Step.len (e := 22) (z := 1) (d := (.bss path)) rfl rfl (lt_ok rfl) (by kernel_rfl) rfl rfl) ?_
     refine TL.gyes 29 rfl rfl (lt_ok rfl) rfl (Step.move (p := (.one (.d (.int .i64 i)))) rfl rfl (lt_ok rfl) rfl) ?_
     refine TL.gyes 29 rfl rfl (lt_ok rfl) rfl (Step.move (p := (.one (.d (.int .i64 n)))) rfl rfl (lt_ok rfl) rfl) ?_
     have nn9 := pathLenT_bd (i) (n)
     refine TL.gyes 29 rfl rfl (lt_ok rfl) rfl (Step.call (f := 71) (xs := [.tmp 32, .tmp 33]) (ps := [(.one (.d (.int .i64 i))), (.one (.d (.int .i64 n)))]) false (g := .func 71) rfl rfl (lt_ok rfl) rfl (by kernel_rfl) rfl (.cons (.one (.d _)) (.cons (.one (.d _)) .nil)) (ok_impl_PathLen i n) (.inr rfl) rfl (by simp) rfl) ?_
     refine TL.gyes 29 rfl rfl (lt_ok rfl) rfl (Step.bin rfl rfl (lt_ok rfl) rfl rfl (Bin.neq (k := .i64) (a := (path.length : Int)) (b := (pathLenT i n)))) ?_
     refine TL.cons rfl (Step.pick (b := false) (p := (.one (.d (.bool (decide ((path.length : Int) ≠ (pathLenT i n))))))) rfl rfl (lt_ok rfl) rfl rfl) ?_
     refine TL.cons rfl (Step.move (p := (.one (.d (.bool (decide ((path.length : Int) ≠ (pathLenT i n))))))) rfl rfl (lt_ok rfl) rfl) ?_
     rcases Bool.eq_false_or_eq_true (decide ((path.length : Int) ≠ (pathLenT i n))) with hb10 | hb10
     ·
      refine TL.known 37 hb10 rfl ?_
      have hb10' := hb10
      replace hb10' := of_decide_eq_true hb10'
      refine TL.goff 37 rfl rfl (lt_ok rfl) rfl rfl rfl (lt_ok rfl) ?_
      refine TL.goff 37 rfl rfl (lt_ok rfl) rfl rfl rfl (lt_ok rfl) ?_
      refine TL.goff 37 rfl rfl (lt_ok rfl) rfl rfl rfl (lt_ok rfl) ?_
      refine TL.cons rfl (Step.pick (b := true) (p := (.one (.d (.bool true)))) rfl rfl (lt_ok rfl) rfl rfl) ?_
      refine TL.nil ?_
      refine T.cond (b := true) rfl (fun h11_ => ?_) (fun h11_ => absurd h11_ (by simp))
      refine T.seq ?_
      refine T.region ?_
      refine TL.cons rfl (Step.assign (p := (.one (.nil))) rfl rfl (lt_ok rfl) rfl) ?_
      refine TL.cons rfl (Step.assign (p := (.one (.d (.bool false)))) rfl rfl (lt_ok rfl) rfl) ?_
      refine TL.nil ?_
      refine T.ret ?_
      refine ⟨[(false, [.nil]), (false, [.d (.bool false)])], (.cons rfl (.cons rfl .nil)), rfl, [], (RetC.nilown' rfl ?_ (by first | exact trivial | exact D.wf_nil _) (RetC.rd' ?_ .nil))⟩ <;> (first | (show (pathRoot h i n path).length = 0; rw [pathRoot_no (Bool.eq_false_iff.2 fun hq_ => by obtain ⟨q1_, q2_, q3_, q4_⟩ := pathFits_all hq_; first | omega | exact bool_ne q4_ (by assumption) | (have h_ := ‹hashes [h] = false›; rw [hashes_one] at h_; exact of_decide_eq_false h_ q1_) | (simp_all; done))]; rfl) | (congr 1; first | (rw [pathRoot_yes (pathFits_mk (h := h) (i := i) (n := n) (path := path) (by first | omega | (have h_ := ‹hashes [h] = true›; rw [hashes_one] at h_; exact of_decide_eq_true h_)) (by omega) (by omega) (by assumption))]; done) | (symm; exact (Bool.eq_false_iff.2 fun hq_ => by obtain ⟨q1_, q2_, q3_, q4_⟩ := pathFits_all hq_; first | omega | exact bool_ne q4_ (by assumption) | (have h_ := ‹hashes [h] = false›; rw [hashes_one] at h_; exact of_decide_eq_false h_ q1_) | (simp_all; done))) | (symm; exact (pathFits_mk (h := h) (i := i) (n := n) (path := path) (by first | omega | (have h_ := ‹hashes [h] = true›; rw [hashes_one] at h_; exact of_decide_eq_true h_)) (by omega) (by omega) (by assumption)))))
     ·
      refine TL.known 37 hb10 rfl ?_
      have hb10' := hb10
      replace hb10' := of_decide_eq_false hb10'
      refine TL.gyes 37 rfl rfl (lt_ok rfl) rfl (Step.move (p := (.one (.d (.bss path)))) rfl rfl (lt_ok rfl) rfl) ?_
      refine TL.gyes 37 rfl rfl (lt_ok rfl) rfl (Step.call (f := 55) (xs := [.tmp 38]) (ps := [(.one (.d (.bss path)))]) false (g := .func 55) rfl rfl (lt_ok rfl) rfl (by kernel_rfl) rfl (.cons (.one (.d _)) .nil) (ok_impl_areHashes path) (.inr rfl) rfl (by simp) rfl) ?_
      refine TL.gyes 37 rfl rfl (lt_ok rfl) rfl (Step.not (b := (hashes path)) rfl rfl (lt_ok rfl) rfl) ?_
      refine TL.cons rfl (Step.pick (b := false) (p := (.one (.d (.bool (!(hashes path)))))) rfl rfl (lt_ok rfl) rfl rfl) ?_
      refine TL.nil ?_
      refine T.cond (b := !(hashes path)) rfl (fun h12 => ?_) (fun h12 => ?_)
      ·
       replace h12 : (hashes path) = false := by simpa only [Bool.not_eq_true', Bool.not_eq_false'] using h12
       refine T.seq ?_
       refine T.region ?_
       refine TL.cons rfl (Step.assign (p := (.one (.nil))) rfl rfl (lt_ok rfl) rfl) ?_
       refine TL.cons rfl (Step.assign (p := (.one (.d (.bool false)))) rfl rfl (lt_ok rfl) rfl) ?_
       refine TL.nil ?_
       refine T.ret ?_
       refine ⟨[(false, [.nil]), (false, [.d (.bool false)])], (.cons rfl (.cons rfl .nil)), rfl, [], (RetC.nilown' rfl ?_ (by first | exact trivial | exact D.wf_nil _) (RetC.rd' ?_ .nil))⟩ <;> (first | (show (pathRoot h i n path).length = 0; rw [pathRoot_no (Bool.eq_false_iff.2 fun hq_ => by obtain ⟨q1_, q2_, q3_, q4_⟩ := pathFits_all hq_; first | omega | exact bool_ne q4_ (by assumption) | (have h_ := ‹hashes [h] = false›; rw [hashes_one] at h_; exact of_decide_eq_false h_ q1_) | (simp_all; done))]; rfl) | (congr 1; first | (rw [pathRoot_yes (pathFits_mk (h := h) (i := i) (n := n) (path := path) (by first | omega | (have h_ := ‹hashes [h] = true›; rw [hashes_one] at h_; exact of_decide_eq_true h_)) (by omega) (by omega) (by assumption))]; done) | (symm; exact (Bool.eq_false_iff.2 fun hq_ => by obtain ⟨q1_, q2_, q3_, q4_⟩ := pathFits_all hq_; first | omega | exact bool_ne q4_ (by assumption) | (have h_ := ‹hashes [h] = false›; rw [hashes_one] at h_; exact of_decide_eq_false h_ q1_) | (simp_all; done))) | (symm; exact (pathFits_mk (h := h) (i := i) (n := n) (path := path) (by first | omega | (have h_ := ‹hashes [h] = true›; rw [hashes_one] at h_; exact of_decide_eq_true h_)) (by omega) (by omega) (by assumption)))))
      ·
       replace h12 : (hashes path) = true := by simpa only [Bool.not_eq_true', Bool.not_eq_false'] using h12
       refine T.skip ?_
       refine T.seq ?_
       refine T.region ?_
       refine TL.cons rfl (Step.move (p := (.one (.d (.ints .u8 h)))) rfl rfl (lt_ok rfl) rfl) ?_
       refine TL.cons rfl (Step.move (p := (.one (.d (.int .i64 i)))) rfl rfl (lt_ok rfl) rfl) ?_
       refine TL.cons rfl (Step.move (p := (.one (.d (.int .i64 n)))) rfl rfl (lt_ok rfl) rfl) ?_
       refine TL.cons rfl (Step.move (p := (.one (.d (.bss path)))) rfl rfl (lt_ok rfl) rfl) ?_
       have nn13 := @pRoot_len h (by first | assumption | omega) i n path
       have nn14 := @pRoot_u8 h (by first | assumption | skip) i n path
       refine TL.cons rfl (Step.call (f := 72) (xs := [.tmp 42, .tmp 43, .tmp 44, .tmp 45]) (ps := [(.one (.d (.ints .u8 h))), (.one (.d (.int .i64 i))), (.one (.d (.int .i64 n))), (.one (.d (.bss path)))]) false (g := .func 72) rfl rfl (lt_ok rfl) rfl (by kernel_rfl) rfl (.cons (.one (.d _)) (.cons (.one (.d _)) (.cons (.one (.d _)) (.cons (.one (.d _)) .nil)))) (ok_impl_pathRoot h i n path (by first | assumption | omega | exact (pathFits_parts (by assumption)).1) (by first | assumption | omega | (have := hpl_ (by omega) (by omega); omega) | (have := hpr_ (by omega) (by omega); omega)) (by first | assumption | exact sha_u8 _ | exact treeRoot_u8 _ | exact nodeHash_u8 _ _ | exact leafHash_u8 _ | exact u8_cons (by decide) (by assumption) | exact mem_getD (p := U8s) (by assumption) (by omega) | exact u8_app (u8_cons (by decide) (by assumption)) (by assumption) | exact fun x hx => by cases hx) (by first | assumption | exact mem_sub (by assumption) _ _ | exact s0.2) (by first | assumption | exact mem_sub (by assumption) _ _ | exact s0.2) (by first | omega | assumption | (simp only [List.length_append] at *; omega))) (.inr rfl) rfl (by simp) rfl) ?_
       refine TL.cons rfl (Step.assign (p := (.one (.row 1046 []))) rfl rfl (lt_ok rfl) rfl) ?_
       refine TL.cons rfl (Step.assign (p := (.one (.d (.bool true)))) rfl rfl (lt_ok rfl) rfl) ?_
       refine TL.nil ?_
       refine T.ret ?_
       refine ⟨[(false, [.row 1046 []]), (false, [.d (.bool true)])], (.cons rfl (.cons rfl .nil)), rfl, [1046], (RetC.own' rfl ?_ rfl (RetC.rd' ?_ .nil))⟩ <;> (first | (show (pathRoot h i n path).length = 0; rw [pathRoot_no (Bool.eq_false_iff.2 fun hq_ => by obtain ⟨q1_, q2_, q3_, q4_⟩ := pathFits_all hq_; first | omega | exact bool_ne q4_ (by assumption) | (have h_ := ‹hashes [h] = false›; rw [hashes_one] at h_; exact of_decide_eq_false h_ q1_) | (simp_all; done))]; rfl) | (congr 1; first | (rw [pathRoot_yes (pathFits_mk (h := h) (i := i) (n := n) (path := path) (by first | omega | (have h_ := ‹hashes [h] = true›; rw [hashes_one] at h_; exact of_decide_eq_true h_)) (by omega) (by omega) (by assumption))]; done) | (symm; exact (Bool.eq_false_iff.2 fun hq_ => by obtain ⟨q1_, q2_, q3_, q4_⟩ := pathFits_all hq_; first | omega | exact bool_ne q4_ (by assumption) | (have h_ := ‹hashes [h] = false›; rw [hashes_one] at h_; exact of_decide_eq_false h_ q1_) | (simp_all; done))) | (symm; exact (pathFits_mk (h := h) (i := i) (n := n) (path := path) (by first | omega | (have h_ := ‹hashes [h] = true›; rw [hashes_one] at h_; exact of_decide_eq_true h_)) (by omega) (by omega) (by assumption)))))
theorem ok_laws_heldByteS (a : List Int) (b : List Int) (k : Int) (h0_ : 0 ≤ k) (h1_ : k + (a.length : Int) ≤ 4611686018427387904) (h2_ : b = mkB a k) : RO Try.prog 34 [.one (.ints .u8 b), .one (.int .i64 k)] [(false, [.rd (.int .i64 (k + (a.length : Int)))])] := by
 refine RO.intro Try.func34 rfl 22 rfl (le_ok rfl) fun w Z => ?_
 refine T.bnd 0 0 rfl rfl fun hb_0_0 => ?_
 simp only [D.size, List.length_map] at hb_0_0
 have hl_ : b.length = a.length := by rw [h2_, mkL_length]
 have hg_ : ∀ i, i < a.length → b.getD i 0 = (k + (i : Int)) % 256 := fun i hi => by rw [h2_, mkL_getD _ _ _ _ hi]; simp only [cntL_one_take a i (by omega)]
 refine T.seq ?_
 refine T.region ?_
 refine TL.cons rfl (Step.assign (p := (.one (.d (.int .i64 0)))) rfl rfl (lt_ok rfl) rfl) ?_
 refine TL.nil ?_
 refine T.seq ?_
 refine T.seq ?_
 refine T.region ?_
 refine TL.cons rfl (Step.assign (p := (.one (.d (.int .i64 0)))) rfl rfl (lt_ok rfl) rfl) ?_
 refine TL.nil ?_
 refine T.block ?_
 refine T.loop (ι := Nat) (fun xx_ => { tm := [(0, (.one (.d (.ints .u8 b)))), (5, (.one (.d (.int .i64 (xx_ : Int))))), (1, (.one (.d (.int .i64 (k + (xx_ : Int))))))], rows := [], boxes := [] }) (fun xx_ => xx_ ≤ a.length) (fun xx_ => a.length - xx_) 0 ?_ ?_ ?_
 · refine Env.le_mk ⟨rfl, ?_, ?_, trivial⟩ trivial trivial <;> (first | rfl | (refine congrArg (fun n => PV.one (.d (.int .i64 n))) ?_; first | omega | (simp; done) | (simp [cntL]; done)))
 · exact Nat.zero_le _
 ·
  intro i hx
  try dsimp only at hx ⊢
  refine T.seq ?_
  refine T.seq ?_
  refine T.region ?_
  refine TL.cons rfl (Step.move (p := (.one (.d (.int .i64 (i : Int))))) rfl rfl (lt_ok rfl) rfl) ?_
  refine TL.cons rfl (Step.move (p := (.one (.d (.ints .u8 b)))) rfl rfl (lt_ok rfl) rfl) ?_
  refine TL.cons rfl (Step.len (e := 5) (z := 1) (d := (.ints .u8 b)) rfl rfl (lt_ok rfl) (by kernel_rfl) rfl rfl) ?_
  refine TL.cons rfl (Step.bin rfl rfl (lt_ok rfl) rfl rfl (Bin.lss (k := .i64) (a := (i : Int)) (b := (b.length : Int)))) ?_
  refine TL.nil ?_
  refine T.cond (b := decide ((i : Int) < (b.length : Int))) rfl (fun h1 => ?_) (fun h1 => ?_)
  ·
   replace h1 := of_decide_eq_true h1
   refine T.skip ?_
   refine T.seq ?_
   refine T.block ?_
   refine T.seq ?_
   refine T.seq ?_
   refine T.region ?_
   refine TL.cons rfl (Step.move (p := (.one (.d (.ints .u8 b)))) rfl rfl (lt_ok rfl) rfl) ?_
   refine TL.cons rfl (Step.move (p := (.one (.d (.int .i64 (i : Int))))) rfl rfl (lt_ok rfl) rfl) ?_
   refine TL.cons rfl (Step.index (e := 5) (z := 1) (i := (i : Int)) rfl rfl (lt_ok rfl) (by kernel_rfl) rfl rfl rfl (lt_ok rfl) rfl (by first | omega | (simp; omega)) (by simp only [D.size]; first | omega | (simp; omega))) ?_
   refine TL.cons rfl (Step.load (e := (.int .u8 (b.getD i 0))) rfl rfl (lt_ok rfl) (by kernel_rfl) rfl rfl) ?_
   refine TL.cons rfl (Step.move (p := (.one (.d (.int .i64 (k + (i : Int)))))) rfl rfl (lt_ok rfl) rfl) ?_
   refine TL.cons rfl (Step.conv (c := ((k + (i : Int)) % 256)) rfl rfl (lt_ok rfl) (by kernel_rfl) (by kernel_rfl) rfl (wrap_byte _)) ?_
   refine TL.cons rfl (Step.bin rfl rfl (lt_ok rfl) rfl rfl (Bin.neq (k := .u8) (a := (b.getD i 0)) (b := ((k + (i : Int)) % 256)))) ?_
   refine TL.nil ?_
   refine T.cond (b := decide ((b.getD i 0) ≠ ((k + (i : Int)) % 256))) rfl (fun h2 => ?_) (fun h2 => ?_)
   ·
    replace h2 := of_decide_eq_true h2
    refine T.seq ?_
    refine T.region ?_
    refine TL.cons rfl (Step.assign (p := (.one (.d (.int .i64 (-1))))) rfl rfl (lt_ok rfl) rfl) ?_
    refine TL.nil ?_
    refine T.ret ?_
    refine ⟨[(false, [.d (.int .i64 (-1))])], (.cons rfl .nil), rfl, [], (RetC.rd' ?_ .nil)⟩ <;> (first | (congr 1; omega) | (exfalso; have := hg_ i (by omega); omega))
   ·
    replace h2 := of_decide_eq_false h2
    refine T.skip ?_
    refine T.region ?_
    refine TL.cons rfl (Step.move (p := (.one (.d (.int .i64 (k + (i : Int)))))) rfl rfl (lt_ok rfl) rfl) ?_
    refine TL.cons rfl (Step.bin (r := .int .i64 ((k + (i : Int)) + 1)) rfl rfl (lt_ok rfl) rfl rfl (Bin.add (a := (k + (i : Int))) (b := 1) (by first | exact wrap_ok (by first | omega | (simp; omega)) (by first | omega | (simp; omega)) | rfl))) ?_
    refine TL.cons rfl (Step.assign (p := (.one (.d (.int .i64 ((k + (i : Int)) + 1))))) rfl rfl (lt_ok rfl) rfl) ?_
    refine TL.nil ?_
    refine T.region ?_
    refine TL.cons rfl (Step.move (p := (.one (.d (.int .i64 (i : Int))))) rfl rfl (lt_ok rfl) rfl) ?_
    refine TL.cons rfl (Step.bin (r := .int .i64 ((i : Int) + 1)) rfl rfl (lt_ok rfl) rfl rfl (Bin.add (a := (i : Int)) (b := 1) (by first | exact wrap_ok (by first | omega | (simp; omega)) (by first | omega | (simp; omega)) | rfl))) ?_
    refine TL.cons rfl (Step.assign (p := (.one (.d (.int .i64 ((i : Int) + 1))))) rfl rfl (lt_ok rfl) rfl) ?_
    refine TL.nil ?_
    refine ⟨i + 1, by omega, by first | omega | (dsimp only; omega), Env.le_mk ⟨rfl, ?_, ?_, trivial⟩ trivial trivial⟩ <;> (first | rfl | (refine congrArg (fun n => PV.one (.d (.int .i64 n))) ?_; first | omega | (simp; done) | (simp [cntL]; done)))
  ·
   replace h1 := of_decide_eq_false h1
   refine T.exit ?_
   refine T.seq ?_
   refine T.region ?_
   refine TL.cons rfl (Step.move (p := (.one (.d (.int .i64 (k + (i : Int)))))) rfl rfl (lt_ok rfl) rfl) ?_
   refine TL.cons rfl (Step.assign (p := (.one (.d (.int .i64 (k + (i : Int)))))) rfl rfl (lt_ok rfl) rfl) ?_
   refine TL.nil ?_
   refine T.ret ?_
   refine ⟨[(false, [.d (.int .i64 (k + (i : Int)))])], (.cons rfl .nil), rfl, [], (RetC.rd' ?_ .nil)⟩ <;> (first | (congr 1; omega) | (exfalso; have := hg_ i (by omega); omega))
theorem ok_laws_FnExactPathRoot (aH : List Int) (aI : Int) (aN : Int) (aPath : List (List Int)) (h0_ : U8s aH) (h1_ : I64 aI) (h2_ : I64 aN) (h3_ : ∀ y ∈ aPath, U8s y) : RO Try.prog 7 [.one (.ints .u8 aH), .one (.int .i64 aI), .one (.int .i64 aN), .one (.bss aPath)] [(false, [.rd (.bool true)])] := by
 refine RO.intro Try.func7 rfl 127 rfl (le_ok rfl) fun w Z => ?_
 refine T.bnd 0 0 rfl rfl fun hb_0_0 => ?_
 simp only [D.size, List.length_map] at hb_0_0
 refine T.bnd 3 0 rfl rfl fun hb_3_0 => ?_
 simp only [D.size, List.length_map] at hb_3_0
 refine T.seq ?_
 refine T.region ?_
 refine TL.cons rfl (Step.assign (p := (.one (.d (.bool false)))) rfl rfl (lt_ok rfl) rfl) ?_
 refine TL.nil ?_
 refine T.seq ?_
 refine T.seq ?_
 refine T.region ?_
 refine TL.cons rfl (Step.move (p := (.one (.d (.ints .u8 aH)))) rfl rfl (lt_ok rfl) rfl) ?_
 refine TL.cons rfl (Step.len (e := 5) (z := 1) (d := (.ints .u8 aH)) rfl rfl (lt_ok rfl) (by kernel_rfl) rfl rfl) ?_
 refine TL.cons rfl (Step.bin rfl rfl (lt_ok rfl) rfl rfl (Bin.gtr (k := .i64) (a := (aH.length : Int)) (b := 1048576))) ?_
 refine TL.nil ?_
 refine T.cond (b := decide (1048576 < (aH.length : Int))) rfl (fun h1 => ?_) (fun h1 => ?_)
 ·
  replace h1 := of_decide_eq_true h1
  refine T.seq ?_
  refine T.region ?_
  refine TL.cons rfl (Step.assign (p := (.one (.d (.bool true)))) rfl rfl (lt_ok rfl) rfl) ?_
  refine TL.nil ?_
  refine T.ret ?_
  exact ⟨[(false, [.d (.bool true)])], (.cons rfl .nil), rfl, [], (RetC.rd' rfl .nil)⟩
 ·
  replace h1 := of_decide_eq_false h1
  refine T.skip ?_
  refine T.seq ?_
  refine T.region ?_
  refine TL.cons rfl (Step.assign (p := (.one (.d (.int .i64 1048576)))) rfl rfl (lt_ok rfl) rfl) ?_
  refine TL.nil ?_
  refine T.seq ?_
  refine T.region ?_
  refine TL.cons rfl (Step.move (p := (.one (.d (.bss aPath)))) rfl rfl (lt_ok rfl) rfl) ?_
  refine TL.cons rfl (Step.move (p := (.one (.d (.int .i64 1048576)))) rfl rfl (lt_ok rfl) rfl) ?_
  refine TL.cons rfl (Step.call (f := 19) (xs := [.tmp 24, .tmp 25]) (ps := [(.one (.d (.bss aPath))), (.one (.d (.int .i64 1048576)))]) false (g := .func 19) rfl rfl (lt_ok rfl) rfl (by kernel_rfl) rfl (.cons (.one (.d _)) (.cons (.one (.d _)) .nil)) (ok_laws_szByteSS aPath 1048576 (by omega) (by omega)) (.inr rfl) rfl (by simp) rfl) ?_
  refine TL.cons rfl (Step.assign (p := (.one (.d (.int .i64 (szLs szB aPath 1048576))))) rfl rfl (lt_ok rfl) rfl) ?_
  refine TL.nil ?_
  refine T.seq ?_
  refine T.seq ?_
  refine T.region ?_
  refine TL.cons rfl (Step.move (p := (.one (.d (.int .i64 (szLs szB aPath 1048576))))) rfl rfl (lt_ok rfl) rfl) ?_
  refine TL.cons rfl (Step.bin rfl rfl (lt_ok rfl) rfl rfl (Bin.lss (k := .i64) (a := (szLs szB aPath 1048576)) (b := 0))) ?_
  refine TL.nil ?_
  refine T.cond (b := decide ((szLs szB aPath 1048576) < 0)) rfl (fun h3 => ?_) (fun h3 => ?_)
  ·
   replace h3 := of_decide_eq_true h3
   refine T.seq ?_
   refine T.region ?_
   refine TL.cons rfl (Step.assign (p := (.one (.d (.bool true)))) rfl rfl (lt_ok rfl) rfl) ?_
   refine TL.nil ?_
   refine T.ret ?_
   exact ⟨[(false, [.d (.bool true)])], (.cons rfl .nil), rfl, [], (RetC.rd' rfl .nil)⟩
  ·
   replace h3 := of_decide_eq_false h3
   have z2_le : szLs szB aPath 1048576 ≤ 1048576 := szLs_le (fun x l h => szB_le x h) _ (by omega)
   have z2_sm := szLs_sm (p := fun y => y.length ≤ 1048576) (fun x l h => szB_le x h) (fun x l h h0 hl => szB_sm h hl) (by omega : (0 : Int) ≤ szLs szB aPath 1048576) (by omega : (1048576 : Int) ≤ 1048576)
   have s0l_ := z2_sm.1
   have s0m_ := z2_sm.2
   refine T.skip ?_
   refine T.seq ?_
   refine T.region ?_
   refine TL.cons rfl (Step.move (p := (.one (.d (.ints .u8 aH)))) rfl rfl (lt_ok rfl) rfl) ?_
   refine TL.cons rfl (Step.call (f := 27) (xs := [.tmp 30]) (ps := [(.one (.d (.ints .u8 aH)))]) false (g := .func 27) rfl rfl (lt_ok rfl) rfl (by kernel_rfl) rfl (.cons (.one (.d _)) .nil) (ok_laws_toByteS aH (by first | omega | assumption | exact mem_getD h0_.2 (by omega))) (.inr rfl) rfl (by simp) rfl) ?_
   refine TL.cons rfl (Step.move (p := (.one (.d (.int .i64 aI)))) rfl rfl (lt_ok rfl) rfl) ?_
   refine TL.cons rfl (Step.move (p := (.one (.d (.int .i64 aN)))) rfl rfl (lt_ok rfl) rfl) ?_
   refine TL.cons rfl (Step.move (p := (.one (.d (.bss aPath)))) rfl rfl (lt_ok rfl) rfl) ?_
   refine TL.cons rfl (Step.call (f := 21) (xs := [.tmp 34]) (ps := [(.one (.d (.bss aPath)))]) false (g := .func 21) rfl rfl (lt_ok rfl) rfl (by kernel_rfl) rfl (.cons (.one (.d _)) .nil) (ok_laws_toByteSS aPath (by first | assumption | exact ⟨‹_›, ‹_›⟩ | exact mem_getD h0_.2 (by omega))) (.inr rfl) rfl (by simp) rfl) ?_
   have nn4 := @pathRoot_len aH (by first | assumption | omega) aI aN aPath
   have nn5 := @pathRoot_u8 aH (by first | assumption | skip) aI aN aPath
   refine TL.cons rfl (Step.call (f := 31) (xs := [.tmp 31, .tmp 32, .tmp 33, .tmp 35]) (ps := [(.one (.row 1031 [])), (.one (.d (.int .i64 aI))), (.one (.d (.int .i64 aN))), (.one (.row 1035 []))]) false (g := .func 31) rfl rfl (lt_ok rfl) rfl (by kernel_rfl) rfl (.cons (.one (.row rfl rfl rfl rfl)) (.cons (.one (.d _)) (.cons (.one (.d _)) (.cons (.one (.row rfl rfl rfl rfl)) .nil)))) (ok_spec_PathRoot aH aI aN aPath (by first | assumption | exact sha_u8 _ | exact treeRoot_u8 _ | exact nodeHash_u8 _ _ | exact leafHash_u8 _ | exact u8_cons (by decide) (by assumption) | exact mem_getD (p := U8s) (by assumption) (by omega) | exact u8_app (u8_cons (by decide) (by assumption)) (by assumption) | exact fun x hx => by cases hx) (by first | assumption | exact mem_sub (by assumption) _ _ | exact s0.2) (by first | assumption | exact mem_sub (by assumption) _ _ | exact s0.2) (by first | omega | assumption | (simp only [List.length_append] at *; omega))) (.inr rfl) rfl (by simp) rfl) ?_
   refine TL.cons rfl (Step.move (p := (.tup [(false, [.row 1036 []]), (false, [.d (.bool (pathFits aH aI aN aPath))])])) rfl rfl (lt_ok rfl) rfl) ?_
   refine TL.cons rfl (Step.extract (p := (.one (.row 1036 []))) rfl rfl (lt_ok rfl) rfl rfl) ?_
   refine TL.cons rfl (Step.extract (p := (.one (.d (.bool (pathFits aH aI aN aPath))))) rfl rfl (lt_ok rfl) rfl rfl) ?_
   refine TL.cons rfl (Step.assign (p := (.one (.row 1036 []))) rfl rfl (lt_ok rfl) rfl) ?_
   refine TL.cons rfl (Step.assign (p := (.one (.d (.bool (pathFits aH aI aN aPath))))) rfl rfl (lt_ok rfl) rfl) ?_
   refine TL.nil ?_
   refine T.seq ?_
   refine T.region ?_
   refine TL.cons rfl (Step.move (p := (.one (.d (.ints .u8 aH)))) rfl rfl (lt_ok rfl) rfl) ?_
   refine TL.cons rfl (Step.call (f := 27) (xs := [.tmp 39]) (ps := [(.one (.d (.ints .u8 aH)))]) false (g := .func 27) rfl rfl (lt_ok rfl) rfl (by kernel_rfl) rfl (.cons (.one (.d _)) .nil) (ok_laws_toByteS aH (by first | omega | assumption | exact mem_getD h0_.2 (by omega))) (.inr rfl) rfl (by simp) rfl) ?_
   refine TL.cons rfl (Step.assign (p := (.one (.row 1040 []))) rfl rfl (lt_ok rfl) rfl) ?_
   refine TL.nil ?_
   refine T.seq ?_
   refine T.region ?_
   refine TL.cons rfl (Step.move (p := (.one (.d (.bss aPath)))) rfl rfl (lt_ok rfl) rfl) ?_
   refine TL.cons rfl (Step.call (f := 21) (xs := [.tmp 41]) (ps := [(.one (.d (.bss aPath)))]) false (g := .func 21) rfl rfl (lt_ok rfl) rfl (by kernel_rfl) rfl (.cons (.one (.d _)) .nil) (ok_laws_toByteSS aPath (by first | assumption | exact ⟨‹_›, ‹_›⟩ | exact mem_getD h0_.2 (by omega))) (.inr rfl) rfl (by simp) rfl) ?_
   refine TL.cons rfl (Step.assign (p := (.one (.row 1042 []))) rfl rfl (lt_ok rfl) rfl) ?_
   refine TL.nil ?_
   refine T.seq ?_
   refine T.region ?_
   refine TL.cons rfl (Step.move (p := (.one (.row 1040 []))) rfl rfl (lt_ok rfl) rfl) ?_
   refine TL.cons rfl (Step.move (p := (.one (.d (.int .i64 aI)))) rfl rfl (lt_ok rfl) rfl) ?_
   refine TL.cons rfl (Step.move (p := (.one (.d (.int .i64 aN)))) rfl rfl (lt_ok rfl) rfl) ?_
   refine TL.cons rfl (Step.move (p := (.one (.row 1042 []))) rfl rfl (lt_ok rfl) rfl) ?_
   have nn6 := @pathRoot_len aH (by first | assumption | omega) aI aN aPath
   have nn7 := @pathRoot_u8 aH (by first | assumption | skip) aI aN aPath
   refine TL.cons rfl (Step.call (f := 32) (xs := [.tmp 44, .tmp 45, .tmp 46, .tmp 47]) (ps := [(.one (.row 1040 [])), (.one (.d (.int .i64 aI))), (.one (.d (.int .i64 aN))), (.one (.row 1042 []))]) false (g := .func 32) rfl rfl (lt_ok rfl) rfl (by kernel_rfl) rfl (.cons (.one (.row rfl rfl rfl rfl)) (.cons (.one (.d _)) (.cons (.one (.d _)) (.cons (.one (.row rfl rfl rfl rfl)) .nil)))) (ok_impl_PathRoot aH aI aN aPath (by first | assumption | exact sha_u8 _ | exact treeRoot_u8 _ | exact nodeHash_u8 _ _ | exact leafHash_u8 _ | exact u8_cons (by decide) (by assumption) | exact mem_getD (p := U8s) (by assumption) (by omega) | exact u8_app (u8_cons (by decide) (by assumption)) (by assumption) | exact fun x hx => by cases hx) (by first | assumption | exact mem_sub (by assumption) _ _ | exact s0.2) (by first | assumption | exact mem_sub (by assumption) _ _ | exact s0.2) (by first | omega | assumption | (simp only [List.length_append] at *; omega))) (.inr rfl) rfl (by simp) rfl) ?_
   refine TL.cons rfl (Step.move (p := (.tup [(false, [.row 1048 []]), (false, [.d (.bool (pathFits aH aI aN aPath))])])) rfl rfl (lt_ok rfl) rfl) ?_
   refine TL.cons rfl (Step.extract (p := (.one (.row 1048 []))) rfl rfl (lt_ok rfl) rfl rfl) ?_
   refine TL.cons rfl (Step.extract (p := (.one (.d (.bool (pathFits aH aI aN aPath))))) rfl rfl (lt_ok rfl) rfl rfl) ?_
   refine TL.cons rfl (Step.assign (p := (.one (.row 1048 []))) rfl rfl (lt_ok rfl) rfl) ?_
   refine TL.cons rfl (Step.assign (p := (.one (.d (.bool (pathFits aH aI aN aPath))))) rfl rfl (lt_ok rfl) rfl) ?_
   refine TL.nil ?_
   refine T.seq ?_
   refine T.seq ?_
   refine T.region ?_
   refine TL.cons rfl (Step.move (p := (.one (.row 1048 []))) rfl rfl (lt_ok rfl) rfl) ?_
   refine TL.cons rfl (Step.move (p := (.one (.row 1036 []))) rfl rfl (lt_ok rfl) rfl) ?_
   refine TL.cons rfl (Step.call (f := 29) (xs := [.tmp 51, .tmp 52]) (ps := [(.one (.row 1048 [])), (.one (.row 1036 []))]) false (g := .func 29) rfl rfl (lt_ok rfl) rfl (by kernel_rfl) rfl (.cons (.one (.row rfl rfl rfl rfl)) (.cons (.one (.row rfl rfl rfl rfl)) .nil)) (ok_laws_eqByteS (pathRoot aH aI aN aPath) (pathRoot aH aI aN aPath)) (.inr rfl) rfl (by simp) rfl) ?_
   refine TL.known 53 (c := true) (by simp) rfl ?_
   refine TL.cons rfl (Step.not (b := true) rfl rfl (lt_ok rfl) rfl) ?_
   refine TL.cons rfl (Step.move (p := (.one (.d (.bool false)))) rfl rfl (lt_ok rfl) rfl) ?_
   refine TL.gyes 55 rfl rfl (lt_ok rfl) rfl (Step.move (p := (.one (.d (.bool (pathFits aH aI aN aPath))))) rfl rfl (lt_ok rfl) rfl) ?_
   refine TL.gyes 55 rfl rfl (lt_ok rfl) rfl (Step.move (p := (.one (.d (.bool (pathFits aH aI aN aPath))))) rfl rfl (lt_ok rfl) rfl) ?_
   refine TL.gyes 55 rfl rfl (lt_ok rfl) rfl (Step.bneq (b := (pathFits aH aI aN aPath)) (c := (pathFits aH aI aN aPath)) rfl rfl (lt_ok rfl) (by kernel_rfl) rfl rfl) ?_
   refine TL.known 58 (c := false) (by simp) rfl ?_
   refine TL.cons rfl (Step.pick (b := false) (p := (.one (.d (.bool false)))) rfl rfl (lt_ok rfl) rfl rfl) ?_
   refine TL.nil ?_
   refine T.cond (b := false) rfl (fun h8_ => absurd h8_ (by simp)) (fun h8_ => ?_)
   refine T.skip ?_
   refine T.seq ?_
   refine T.seq ?_
   refine T.region ?_
   refine TL.cons rfl (Step.move (p := (.one (.row 1040 []))) rfl rfl (lt_ok rfl) rfl) ?_
   refine TL.cons rfl (Step.move (p := (.one (.d (.ints .u8 aH)))) rfl rfl (lt_ok rfl) rfl) ?_
   refine TL.cons rfl (Step.call (f := 27) (xs := [.tmp 61]) (ps := [(.one (.d (.ints .u8 aH)))]) false (g := .func 27) rfl rfl (lt_ok rfl) rfl (by kernel_rfl) rfl (.cons (.one (.d _)) .nil) (ok_laws_toByteS aH (by first | omega | assumption | exact mem_getD h0_.2 (by omega))) (.inr rfl) rfl (by simp) rfl) ?_
   refine TL.cons rfl (Step.call (f := 29) (xs := [.tmp 60, .tmp 62]) (ps := [(.one (.row 1040 [])), (.one (.row 1062 []))]) false (g := .func 29) rfl rfl (lt_ok rfl) rfl (by kernel_rfl) rfl (.cons (.one (.row rfl rfl rfl rfl)) (.cons (.one (.row rfl rfl rfl rfl)) .nil)) (ok_laws_eqByteS aH aH) (.inr rfl) rfl (by simp) rfl) ?_
   refine TL.known 63 (c := true) (by simp) rfl ?_
   refine TL.cons rfl (Step.not (b := true) rfl rfl (lt_ok rfl) rfl) ?_
   refine TL.nil ?_
   refine T.cond (b := false) rfl (fun h9_ => absurd h9_ (by simp)) (fun h9_ => ?_)
   refine T.skip ?_
   refine T.seq ?_
   refine T.seq ?_
   refine T.region ?_
   refine TL.cons rfl (Step.move (p := (.one (.row 1042 []))) rfl rfl (lt_ok rfl) rfl) ?_
   refine TL.cons rfl (Step.move (p := (.one (.d (.bss aPath)))) rfl rfl (lt_ok rfl) rfl) ?_
   refine TL.cons rfl (Step.call (f := 21) (xs := [.tmp 66]) (ps := [(.one (.d (.bss aPath)))]) false (g := .func 21) rfl rfl (lt_ok rfl) rfl (by kernel_rfl) rfl (.cons (.one (.d _)) .nil) (ok_laws_toByteSS aPath (by first | assumption | exact ⟨‹_›, ‹_›⟩ | exact mem_getD h0_.2 (by omega))) (.inr rfl) rfl (by simp) rfl) ?_
   refine TL.cons rfl (Step.call (f := 23) (xs := [.tmp 65, .tmp 67]) (ps := [(.one (.row 1042 [])), (.one (.row 1067 []))]) false (g := .func 23) rfl rfl (lt_ok rfl) rfl (by kernel_rfl) rfl (.cons (.one (.row rfl rfl rfl rfl)) (.cons (.one (.row rfl rfl rfl rfl)) .nil)) (ok_laws_eqByteSS aPath aPath) (.inr rfl) rfl (by simp) rfl) ?_
   refine TL.known 68 (c := true) (by simp) rfl ?_
   refine TL.cons rfl (Step.not (b := true) rfl rfl (lt_ok rfl) rfl) ?_
   refine TL.nil ?_
   refine T.cond (b := false) rfl (fun h10_ => absurd h10_ (by simp)) (fun h10_ => ?_)
   refine T.skip ?_
   refine T.seq ?_
   refine T.region ?_
   refine TL.cons rfl (Step.assign (p := (.one (.d (.int .i64 1)))) rfl rfl (lt_ok rfl) rfl) ?_
   refine TL.nil ?_
   refine T.seq ?_
   refine T.region ?_
   refine TL.cons rfl (Step.move (p := (.one (.row 1040 []))) rfl rfl (lt_ok rfl) rfl) ?_
   refine TL.cons rfl (Step.move (p := (.one (.d (.int .i64 1)))) rfl rfl (lt_ok rfl) rfl) ?_
   refine TL.cons rfl (Step.callM2 (xs := [.tmp 70, .tmp 71]) (ps := [(.one (.row 1040 [])), (.one (.d (.int .i64 1)))]) (js := [(1040, (.ints .u8 (mkB aH 1)))]) (g := .func 33) (ok_laws_markByteS aH 1 (by omega) (by first | omega | (have := (by assumption); omega))) rfl rfl (lt_ok rfl) rfl (by kernel_rfl) rfl rfl (.row (T := 5) (d := (.ints .u8 aH)) (e' := (.ints .u8 (mkB aH 1))) (d' := (.ints .u8 (mkB aH 1))) rfl rfl rfl rfl rfl (by simp [D.size, mkL_length]) rfl rfl (.d .nil)) rfl) ?_
   refine TL.cons rfl (Step.assign (p := (.one (.d (.int .i64 (1 + (aH.length : Int)))))) rfl rfl (lt_ok rfl) rfl) ?_
   refine TL.nil ?_
   refine T.seq ?_
   refine T.region ?_
   refine TL.cons rfl (Step.move (p := (.one (.row 1042 []))) rfl rfl (lt_ok rfl) rfl) ?_
   refine TL.cons rfl (Step.move (p := (.one (.d (.int .i64 (1 + (aH.length : Int)))))) rfl rfl (lt_ok rfl) rfl) ?_
   have nn11 := cntBs_nonneg aPath
   refine TL.cons rfl (Step.callM2 (xs := [.tmp 73, .tmp 74]) (ps := [(.one (.row 1042 [])), (.one (.d (.int .i64 (1 + (aH.length : Int)))))]) (js := [(1042, (.bss (mkBs aPath (1 + (aH.length : Int)))))]) (g := .func 24) (ok_laws_markByteSS aPath (1 + (aH.length : Int)) (by omega) (by first | omega | (have := cntBs_le (xs := aPath) (by assumption); omega))) rfl rfl (lt_ok rfl) rfl (by kernel_rfl) rfl rfl (.row (T := 22) (d := (.bss aPath)) (e' := (.bss (mkBs aPath (1 + (aH.length : Int))))) (d' := (.bss (mkBs aPath (1 + (aH.length : Int))))) rfl rfl rfl rfl rfl (by simp [D.size, mkL_length]) rfl rfl (.d .nil)) rfl) ?_
   refine TL.cons rfl (Step.assign (p := (.one (.d (.int .i64 ((1 + (aH.length : Int)) + cntL (fun x : List Int => (x.length : Int)) aPath))))) rfl rfl (lt_ok rfl) rfl) ?_
   refine TL.nil ?_
   refine T.weaken (E' := { tm := [(0, (.one (.d (.ints .u8 aH)))), (1, (.one (.d (.int .i64 aI)))), (2, (.one (.d (.int .i64 aN)))), (3, (.one (.d (.bss aPath)))), (8, (.one (.d (.bool false)))), (10, (.one (.row 1036 []))), (11, (.one (.d (.bool (pathFits aH aI aN aPath))))), (14, (.one (.row 1048 []))), (15, (.one (.d (.bool (pathFits aH aI aN aPath))))), (16, (.one (.d (.int .i64 ((1 + (aH.length : Int)) + cntL (fun x : List Int => (x.length : Int)) aPath)))))], rows := [(1036, (5, (.ints .u8 (pathRoot aH aI aN aPath)))), (1048, (5, (.ints .u8 (pathRoot aH aI aN aPath))))], boxes := [] }) (Env.le_mk ⟨by kernel_rfl, by kernel_rfl, by kernel_rfl, by kernel_rfl, by kernel_rfl, by kernel_rfl, by kernel_rfl, by kernel_rfl, by kernel_rfl, by kernel_rfl, trivial⟩ ⟨by kernel_rfl, by kernel_rfl, trivial⟩ trivial) ?_
   refine T.seq ?_
   refine T.seq ?_
   refine T.region ?_
   refine TL.cons rfl (Step.move (p := (.one (.d (.int .i64 ((1 + (aH.length : Int)) + cntL (fun x : List Int => (x.length : Int)) aPath))))) rfl rfl (lt_ok rfl) rfl) ?_
   refine TL.cons rfl (Step.bin rfl rfl (lt_ok rfl) rfl rfl (Bin.lss (k := .i64) (a := ((1 + (aH.length : Int)) + cntL (fun x : List Int => (x.length : Int)) aPath)) (b := 0))) ?_
   refine TL.known 77 (c := false) (decide_eq_false (by omega)) rfl ?_
   refine TL.cons rfl (Step.move (p := (.one (.d (.bool false)))) rfl rfl (lt_ok rfl) rfl) ?_
   refine TL.gyes 78 rfl rfl (lt_ok rfl) rfl (Step.move (p := (.one (.row 1048 []))) rfl rfl (lt_ok rfl) rfl) ?_
   refine TL.gyes 78 rfl rfl (lt_ok rfl) rfl (Step.move (p := (.one (.row 1036 []))) rfl rfl (lt_ok rfl) rfl) ?_
   refine TL.gyes 78 rfl rfl (lt_ok rfl) rfl (Step.call (f := 29) (xs := [.tmp 79, .tmp 80]) (ps := [(.one (.row 1048 [])), (.one (.row 1036 []))]) false (g := .func 29) rfl rfl (lt_ok rfl) rfl (by kernel_rfl) rfl (.cons (.one (.row rfl rfl rfl rfl)) (.cons (.one (.row rfl rfl rfl rfl)) .nil)) (ok_laws_eqByteS (pathRoot aH aI aN aPath) (pathRoot aH aI aN aPath)) (.inr rfl) rfl (by simp) rfl) ?_
   refine TL.known 81 (c := true) (by simp) rfl ?_
   refine TL.gyes 78 rfl rfl (lt_ok rfl) rfl (Step.not (b := true) rfl rfl (lt_ok rfl) rfl) ?_
   refine TL.cons rfl (Step.pick (b := false) (p := (.one (.d (.bool false)))) rfl rfl (lt_ok rfl) rfl rfl) ?_
   refine TL.cons rfl (Step.move (p := (.one (.d (.bool false)))) rfl rfl (lt_ok rfl) rfl) ?_
   refine TL.gyes 84 rfl rfl (lt_ok rfl) rfl (Step.move (p := (.one (.d (.bool (pathFits aH aI aN aPath))))) rfl rfl (lt_ok rfl) rfl) ?_
   refine TL.gyes 84 rfl rfl (lt_ok rfl) rfl (Step.move (p := (.one (.d (.bool (pathFits aH aI aN aPath))))) rfl rfl (lt_ok rfl) rfl) ?_
   refine TL.gyes 84 rfl rfl (lt_ok rfl) rfl (Step.bneq (b := (pathFits aH aI aN aPath)) (c := (pathFits aH aI aN aPath)) rfl rfl (lt_ok rfl) (by kernel_rfl) rfl rfl) ?_
   refine TL.known 87 (c := false) (by simp) rfl ?_
   refine TL.cons rfl (Step.pick (b := false) (p := (.one (.d (.bool false)))) rfl rfl (lt_ok rfl) rfl rfl) ?_
   refine TL.nil ?_
   refine T.cond (b := false) rfl (fun h12_ => absurd h12_ (by simp)) (fun h12_ => ?_)
   refine T.skip ?_
   refine T.seq ?_
   refine T.region ?_
   refine TL.cons rfl (Step.assign (p := (.one (.d (.int .i64 1)))) rfl rfl (lt_ok rfl) rfl) ?_
   refine TL.nil ?_
   refine T.seq ?_
   refine T.region ?_
   refine TL.cons rfl (Step.move (p := (.one (.row 1048 []))) rfl rfl (lt_ok rfl) rfl) ?_
   refine TL.cons rfl (Step.move (p := (.one (.d (.int .i64 1)))) rfl rfl (lt_ok rfl) rfl) ?_
   refine TL.cons rfl (Step.callM2 (xs := [.tmp 89, .tmp 90]) (ps := [(.one (.row 1048 [])), (.one (.d (.int .i64 1)))]) (js := [(1048, (.ints .u8 (mkB (pathRoot aH aI aN aPath) 1)))]) (g := .func 33) (ok_laws_markByteS (pathRoot aH aI aN aPath) 1 (by omega) (by first | omega | (have := (by assumption); omega))) rfl rfl (lt_ok rfl) rfl (by kernel_rfl) rfl rfl (.row (T := 5) (d := (.ints .u8 (pathRoot aH aI aN aPath))) (e' := (.ints .u8 (mkB (pathRoot aH aI aN aPath) 1))) (d' := (.ints .u8 (mkB (pathRoot aH aI aN aPath) 1))) rfl rfl rfl rfl rfl (by simp [D.size, mkL_length]) rfl rfl (.d .nil)) rfl) ?_
   refine TL.cons rfl (Step.assign (p := (.one (.d (.int .i64 (1 + ((pathRoot aH aI aN aPath).length : Int)))))) rfl rfl (lt_ok rfl) rfl) ?_
   refine TL.nil ?_
   refine T.seq ?_
   refine T.region ?_
   refine TL.cons rfl (Step.assign (p := (.one (.d (.int .i64 1)))) rfl rfl (lt_ok rfl) rfl) ?_
   refine TL.nil ?_
   refine T.seq ?_
   refine T.region ?_
   refine TL.cons rfl (Step.move (p := (.one (.row 1048 []))) rfl rfl (lt_ok rfl) rfl) ?_
   refine TL.cons rfl (Step.move (p := (.one (.d (.int .i64 1)))) rfl rfl (lt_ok rfl) rfl) ?_
   refine TL.cons rfl (Step.call (f := 34) (xs := [.tmp 92, .tmp 93]) (ps := [(.one (.row 1048 [])), (.one (.d (.int .i64 1)))]) false (g := .func 34) rfl rfl (lt_ok rfl) rfl (by kernel_rfl) rfl (.cons (.one (.row rfl rfl rfl rfl)) (.cons (.one (.d _)) .nil)) (ok_laws_heldByteS (pathRoot aH aI aN aPath) (mkB (pathRoot aH aI aN aPath) 1) 1 (by omega) (by first | omega | (have := (by assumption); omega)) (by first | rfl | assumption | (repeat' (first | rfl | apply And.intro)))) (.inr rfl) rfl (by simp) rfl) ?_
   refine TL.cons rfl (Step.assign (p := (.one (.d (.int .i64 (1 + ((pathRoot aH aI aN aPath).length : Int)))))) rfl rfl (lt_ok rfl) rfl) ?_
   refine TL.nil ?_
   refine T.seq ?_
   refine T.seq ?_
   refine T.region ?_
   refine TL.cons rfl (Step.move (p := (.one (.d (.int .i64 (1 + ((pathRoot aH aI aN aPath).length : Int)))))) rfl rfl (lt_ok rfl) rfl) ?_
   refine TL.cons rfl (Step.bin rfl rfl (lt_ok rfl) rfl rfl (Bin.lss (k := .i64) (a := (1 + ((pathRoot aH aI aN aPath).length : Int))) (b := 0))) ?_
   refine TL.known 96 (c := false) (decide_eq_false (by omega)) rfl ?_
   refine TL.nil ?_
   refine T.cond (b := false) rfl (fun h13_ => absurd h13_ (by simp)) (fun h13_ => ?_)
   refine T.skip ?_
   refine T.seq ?_
   refine T.seq ?_
   refine T.region ?_
   refine TL.cons rfl (Step.move (p := (.one (.d (.int .i64 (1 + ((pathRoot aH aI aN aPath).length : Int)))))) rfl rfl (lt_ok rfl) rfl) ?_
   refine TL.cons rfl (Step.move (p := (.one (.d (.int .i64 (1 + ((pathRoot aH aI aN aPath).length : Int)))))) rfl rfl (lt_ok rfl) rfl) ?_
   refine TL.cons rfl (Step.bin rfl rfl (lt_ok rfl) rfl rfl (Bin.neq (k := .i64) (a := (1 + ((pathRoot aH aI aN aPath).length : Int))) (b := (1 + ((pathRoot aH aI aN aPath).length : Int))))) ?_
   refine TL.known 99 (c := false) (by simp) rfl ?_
   refine TL.nil ?_
   refine T.cond (b := false) rfl (fun h14_ => absurd h14_ (by simp)) (fun h14_ => ?_)
   refine T.skip ?_
   refine T.seq ?_
   refine T.region ?_
   refine TL.cons rfl (Step.move (p := (.one (.d (.ints .u8 aH)))) rfl rfl (lt_ok rfl) rfl) ?_
   refine TL.cons rfl (Step.call (f := 27) (xs := [.tmp 101]) (ps := [(.one (.d (.ints .u8 aH)))]) false (g := .func 27) rfl rfl (lt_ok rfl) rfl (by kernel_rfl) rfl (.cons (.one (.d _)) .nil) (ok_laws_toByteS aH (by first | omega | assumption | exact mem_getD h0_.2 (by omega))) (.inr rfl) rfl (by simp) rfl) ?_
   refine TL.cons rfl (Step.move (p := (.one (.d (.int .i64 aI)))) rfl rfl (lt_ok rfl) rfl) ?_
   refine TL.cons rfl (Step.move (p := (.one (.d (.int .i64 aN)))) rfl rfl (lt_ok rfl) rfl) ?_
   refine TL.cons rfl (Step.move (p := (.one (.d (.bss aPath)))) rfl rfl (lt_ok rfl) rfl) ?_
   refine TL.cons rfl (Step.call (f := 21) (xs := [.tmp 105]) (ps := [(.one (.d (.bss aPath)))]) false (g := .func 21) rfl rfl (lt_ok rfl) rfl (by kernel_rfl) rfl (.cons (.one (.d _)) .nil) (ok_laws_toByteSS aPath (by first | assumption | exact ⟨‹_›, ‹_›⟩ | exact mem_getD h0_.2 (by omega))) (.inr rfl) rfl (by simp) rfl) ?_
   have nn15 := @pathRoot_len aH (by first | assumption | omega) aI aN aPath
   have nn16 := @pathRoot_u8 aH (by first | assumption | skip) aI aN aPath
   refine TL.cons rfl (Step.call (f := 32) (xs := [.tmp 102, .tmp 103, .tmp 104, .tmp 106]) (ps := [(.one (.row 1102 [])), (.one (.d (.int .i64 aI))), (.one (.d (.int .i64 aN))), (.one (.row 1106 []))]) false (g := .func 32) rfl rfl (lt_ok rfl) rfl (by kernel_rfl) rfl (.cons (.one (.row rfl rfl rfl rfl)) (.cons (.one (.d _)) (.cons (.one (.d _)) (.cons (.one (.row rfl rfl rfl rfl)) .nil)))) (ok_impl_PathRoot aH aI aN aPath (by first | assumption | exact sha_u8 _ | exact treeRoot_u8 _ | exact nodeHash_u8 _ _ | exact leafHash_u8 _ | exact u8_cons (by decide) (by assumption) | exact mem_getD (p := U8s) (by assumption) (by omega) | exact u8_app (u8_cons (by decide) (by assumption)) (by assumption) | exact fun x hx => by cases hx) (by first | assumption | exact mem_sub (by assumption) _ _ | exact s0.2) (by first | assumption | exact mem_sub (by assumption) _ _ | exact s0.2) (by first | omega | assumption | (simp only [List.length_append] at *; omega))) (.inr rfl) rfl (by simp) rfl) ?_
   refine TL.cons rfl (Step.move (p := (.tup [(false, [.row 1107 []]), (false, [.d (.bool (pathFits aH aI aN aPath))])])) rfl rfl (lt_ok rfl) rfl) ?_
   refine TL.cons rfl (Step.extract (p := (.one (.row 1107 []))) rfl rfl (lt_ok rfl) rfl rfl) ?_
   refine TL.cons rfl (Step.extract (p := (.one (.d (.bool (pathFits aH aI aN aPath))))) rfl rfl (lt_ok rfl) rfl rfl) ?_
   refine TL.cons rfl (Step.assign (p := (.one (.row 1107 []))) rfl rfl (lt_ok rfl) rfl) ?_
   refine TL.cons rfl (Step.assign (p := (.one (.d (.bool (pathFits aH aI aN aPath))))) rfl rfl (lt_ok rfl) rfl) ?_
   refine TL.nil ?_
   refine T.seq ?_
   refine T.seq ?_
   refine T.region ?_
   refine TL.cons rfl (Step.move (p := (.one (.row 1107 []))) rfl rfl (lt_ok rfl) rfl) ?_
   refine TL.cons rfl (Step.move (p := (.one (.row 1036 []))) rfl rfl (lt_ok rfl) rfl) ?_
   refine TL.cons rfl (Step.call (f := 29) (xs := [.tmp 110, .tmp 111]) (ps := [(.one (.row 1107 [])), (.one (.row 1036 []))]) false (g := .func 29) rfl rfl (lt_ok rfl) rfl (by kernel_rfl) rfl (.cons (.one (.row rfl rfl rfl rfl)) (.cons (.one (.row rfl rfl rfl rfl)) .nil)) (ok_laws_eqByteS (pathRoot aH aI aN aPath) (pathRoot aH aI aN aPath)) (.inr rfl) rfl (by simp) rfl) ?_
   refine TL.known 112 (c := true) (by simp) rfl ?_
   refine TL.cons rfl (Step.not (b := true) rfl rfl (lt_ok rfl) rfl) ?_
   refine TL.cons rfl (Step.move (p := (.one (.d (.bool false)))) rfl rfl (lt_ok rfl) rfl) ?_
   refine TL.gyes 114 rfl rfl (lt_ok rfl) rfl (Step.move (p := (.one (.d (.bool (pathFits aH aI aN aPath))))) rfl rfl (lt_ok rfl) rfl) ?_
   refine TL.gyes 114 rfl rfl (lt_ok rfl) rfl (Step.move (p := (.one (.d (.bool (pathFits aH aI aN aPath))))) rfl rfl (lt_ok rfl) rfl) ?_
   refine TL.gyes 114 rfl rfl (lt_ok rfl) rfl (Step.bneq (b := (pathFits aH aI aN aPath)) (c := (pathFits aH aI aN aPath)) rfl rfl (lt_ok rfl) (by kernel_rfl) rfl rfl) ?_
   refine TL.known 117 (c := false) (by simp) rfl ?_
   refine TL.cons rfl (Step.pick (b := false) (p := (.one (.d (.bool false)))) rfl rfl (lt_ok rfl) rfl rfl) ?_
   refine TL.nil ?_
   refine T.cond (b := false) rfl (fun h17_ => absurd h17_ (by simp)) (fun h17_ => ?_)
   refine T.skip ?_
   refine T.seq ?_
   refine T.region ?_
   refine TL.cons rfl (Step.assign (p := (.one (.d (.int .i64 1)))) rfl rfl (lt_ok rfl) rfl) ?_
   refine TL.nil ?_
   refine T.seq ?_
   refine T.region ?_
   refine TL.cons rfl (Step.move (p := (.one (.row 1048 []))) rfl rfl (lt_ok rfl) rfl) ?_
   refine TL.cons rfl (Step.move (p := (.one (.d (.int .i64 1)))) rfl rfl (lt_ok rfl) rfl) ?_
   refine TL.cons rfl (Step.call (f := 34) (xs := [.tmp 119, .tmp 120]) (ps := [(.one (.row 1048 [])), (.one (.d (.int .i64 1)))]) false (g := .func 34) rfl rfl (lt_ok rfl) rfl (by kernel_rfl) rfl (.cons (.one (.row rfl rfl rfl rfl)) (.cons (.one (.d _)) .nil)) (ok_laws_heldByteS (pathRoot aH aI aN aPath) (mkB (pathRoot aH aI aN aPath) 1) 1 (by omega) (by first | omega | (have := (by assumption); omega)) (by first | rfl | assumption | (repeat' (first | rfl | apply And.intro)))) (.inr rfl) rfl (by simp) rfl) ?_
   refine TL.cons rfl (Step.assign (p := (.one (.d (.int .i64 (1 + ((pathRoot aH aI aN aPath).length : Int)))))) rfl rfl (lt_ok rfl) rfl) ?_
   refine TL.nil ?_
   refine T.seq ?_
   refine T.seq ?_
   refine T.region ?_
   refine TL.cons rfl (Step.move (p := (.one (.d (.int .i64 (1 + ((pathRoot aH aI aN aPath).length : Int)))))) rfl rfl (lt_ok rfl) rfl) ?_
   refine TL.cons rfl (Step.bin rfl rfl (lt_ok rfl) rfl rfl (Bin.lss (k := .i64) (a := (1 + ((pathRoot aH aI aN aPath).length : Int))) (b := 0))) ?_
   refine TL.known 123 (c := false) (decide_eq_false (by omega)) rfl ?_
   refine TL.nil ?_
   refine T.weaken (E' := { tm := [(8, (.one (.d (.bool false)))), (17, (.one (.d (.int .i64 (1 + ((pathRoot aH aI aN aPath).length : Int)))))), (18, (.one (.d (.int .i64 (1 + ((pathRoot aH aI aN aPath).length : Int)))))), (123, (.one (.d (.bool false))))], rows := [], boxes := [] }) (Env.le_mk ⟨by kernel_rfl, by kernel_rfl, by kernel_rfl, by kernel_rfl, trivial⟩ trivial trivial) ?_
   refine T.cond (b := false) rfl (fun h18_ => absurd h18_ (by simp)) (fun h18_ => ?_)
   refine T.skip ?_
   refine T.seq ?_
   refine T.seq ?_
   refine T.region ?_
   refine TL.cons rfl (Step.move (p := (.one (.d (.int .i64 (1 + ((pathRoot aH aI aN aPath).length : Int)))))) rfl rfl (lt_ok rfl) rfl) ?_
   refine TL.cons rfl (Step.move (p := (.one (.d (.int .i64 (1 + ((pathRoot aH aI aN aPath).length : Int)))))) rfl rfl (lt_ok rfl) rfl) ?_
   refine TL.cons rfl (Step.bin rfl rfl (lt_ok rfl) rfl rfl (Bin.neq (k := .i64) (a := (1 + ((pathRoot aH aI aN aPath).length : Int))) (b := (1 + ((pathRoot aH aI aN aPath).length : Int))))) ?_
   refine TL.known 126 (c := false) (by simp) rfl ?_
   refine TL.nil ?_
   refine T.cond (b := false) rfl (fun h19_ => absurd h19_ (by simp)) (fun h19_ => ?_)
   refine T.skip ?_
   refine T.seq ?_
   refine T.region ?_
   refine TL.cons rfl (Step.assign (p := (.one (.d (.bool true)))) rfl rfl (lt_ok rfl) rfl) ?_
   refine TL.nil ?_
   refine T.ret ?_
   exact ⟨[(false, [.d (.bool true)])], (.cons rfl .nil), rfl, [], (RetC.rd' rfl .nil)⟩
end Go.Proofs.Ytmdojlglemnijaa.Rf
