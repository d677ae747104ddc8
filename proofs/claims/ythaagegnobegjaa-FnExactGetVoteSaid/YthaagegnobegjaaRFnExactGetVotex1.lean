/- The functions that FnExactGetVote calls, each held to what it answers. Printed by a program of this session; Lean checks it. -/
import Derived.Test.YthaagegnobegjaaProg
import Derived.Test.YthaagegnobegjaaRf28
import Derived.Test.YthaagegnobegjaaRFnExactGetVotex0
namespace Go.Proofs.Ythaagegnobegjaa.Rf
open Go.RowKit
set_option linter.unusedVariables false
set_option linter.unnecessarySimpa false
set_option linter.unusedSimpArgs false
set_option maxRecDepth 100000
set_option maxHeartbeats 4000000
theorem ok_impl_GetVar (b : List Int) (a : Int) (h0_ : U8s b) (h1_ : b.length ≤ 1099511627776) : RO Try.prog 178 [.one (.ints .u8 b), .one (.int .i64 a)] [(false, [.rd (.int .i64 (getVar b a).1)]), (false, [.rd (.int .i64 (getVar b a).2.1)]), (false, [.rd (.int .i64 (getVar b a).2.2)])] := by
 refine RO.intro Try.func178 rfl 61 rfl (le_ok rfl) fun w Z => ?_
 refine T.bnd 0 0 rfl rfl fun hb_0_0 => ?_
 simp only [D.size, List.length_map] at hb_0_0
 refine T.seq ?_
 refine T.region ?_
 refine TL.cons rfl (Step.assign (p := (.one (.d (.int .i64 0)))) rfl rfl (lt_ok rfl) rfl) ?_
 refine TL.cons rfl (Step.assign (p := (.one (.d (.int .i64 0)))) rfl rfl (lt_ok rfl) rfl) ?_
 refine TL.cons rfl (Step.assign (p := (.one (.d (.int .i64 0)))) rfl rfl (lt_ok rfl) rfl) ?_
 refine TL.nil ?_
 refine T.seq ?_
 refine T.seq ?_
 refine T.region ?_
 refine TL.cons rfl (Step.move (p := (.one (.d (.int .i64 a)))) rfl rfl (lt_ok rfl) rfl) ?_
 refine TL.cons rfl (Step.move (p := (.one (.d (.ints .u8 b)))) rfl rfl (lt_ok rfl) rfl) ?_
 refine TL.cons rfl (Step.len (e := 5) (z := 1) (d := (.ints .u8 b)) rfl rfl (lt_ok rfl) (by kernel_rfl) rfl rfl) ?_
 refine TL.cons rfl (Step.call (f := 144) (xs := [.tmp 10, .const (.int .i64 0), .tmp 12]) (ps := [(.one (.d (.int .i64 a))), (.one (.d (.int .i64 0))), (.one (.d (.int .i64 (b.length : Int))))]) false (g := .func 144) rfl rfl (lt_ok rfl) rfl (by kernel_rfl) rfl (.cons (.one (.d _)) (.cons (.one (.d _)) (.cons (.one (.d _)) .nil))) (ok_impl_within a 0 (b.length : Int)) (.inr rfl) rfl (by simp) rfl) ?_
 refine TL.cons rfl (Step.not (b := (decide (0 ≤ a ∧ a ≤ (b.length : Int)))) rfl rfl (lt_ok rfl) rfl) ?_
 refine TL.nil ?_
 refine T.cond (b := !(decide (0 ≤ a ∧ a ≤ (b.length : Int)))) rfl (fun h1 => ?_) (fun h1 => ?_)
 ·
  replace h1 : (decide (0 ≤ a ∧ a ≤ (b.length : Int))) = false := by simpa only [Bool.not_eq_true', Bool.not_eq_false'] using h1
  replace h1 := of_decide_eq_false h1
  refine T.seq ?_
  refine T.region ?_
  refine TL.cons rfl (Step.assign (p := (.one (.d (.int .i64 0)))) rfl rfl (lt_ok rfl) rfl) ?_
  refine TL.cons rfl (Step.assign (p := (.one (.d (.int .i64 0)))) rfl rfl (lt_ok rfl) rfl) ?_
  refine TL.cons rfl (Step.assign (p := (.one (.d (.int .i64 1)))) rfl rfl (lt_ok rfl) rfl) ?_
  refine TL.nil ?_
  refine T.ret ?_
  exact ⟨[(false, [.d (.int .i64 0)]), (false, [.d (.int .i64 0)]), (false, [.d (.int .i64 1)])], (.cons rfl (.cons rfl (.cons rfl .nil))), rfl, [], (RetC.rd' (by (congr 1; first | (rw [getVar_out (by omega)]; done) | (rw [getVar_in (by omega), ← hx4]; first | (rw [gvGo_short (by omega) (by omega)]; done) | (rw [gvGo_var (by omega) (by omega) (by omega)]; done) | (rw [gvGo_done (by omega) (by omega) (by omega) (by omega) (by omega)]; done) | (rw [gvGo_big (by omega) (by omega) (by omega) (by omega) (by omega)]; done) | (rw [gvGo_end (by omega)]; done)))) (RetC.rd' (by (congr 1; first | (rw [getVar_out (by omega)]; done) | (rw [getVar_in (by omega), ← hx4]; first | (rw [gvGo_short (by omega) (by omega)]; done) | (rw [gvGo_var (by omega) (by omega) (by omega)]; done) | (rw [gvGo_done (by omega) (by omega) (by omega) (by omega) (by omega)]; done) | (rw [gvGo_big (by omega) (by omega) (by omega) (by omega) (by omega)]; done) | (rw [gvGo_end (by omega)]; done)))) (RetC.rd' (by (congr 1; first | (rw [getVar_out (by omega)]; done) | (rw [getVar_in (by omega), ← hx4]; first | (rw [gvGo_short (by omega) (by omega)]; done) | (rw [gvGo_var (by omega) (by omega) (by omega)]; done) | (rw [gvGo_done (by omega) (by omega) (by omega) (by omega) (by omega)]; done) | (rw [gvGo_big (by omega) (by omega) (by omega) (by omega) (by omega)]; done) | (rw [gvGo_end (by omega)]; done)))) .nil)))⟩
 ·
  replace h1 : (decide (0 ≤ a ∧ a ≤ (b.length : Int))) = true := by simpa only [Bool.not_eq_true', Bool.not_eq_false'] using h1
  replace h1 := of_decide_eq_true h1
  refine T.skip ?_
  refine T.seq ?_
  refine T.region ?_
  refine TL.cons rfl (Step.assign (p := (.one (.d (.int .i64 0)))) rfl rfl (lt_ok rfl) rfl) ?_
  refine TL.nil ?_
  refine T.seq ?_
  refine T.region ?_
  refine TL.cons rfl (Step.assign (p := (.one (.d (.int .i64 0)))) rfl rfl (lt_ok rfl) rfl) ?_
  refine TL.nil ?_
  refine T.block ?_
  refine T.loop (ι := Nat × Int) (fun xx_ => { tm := [(0, (.one (.d (.ints .u8 b)))), (1, (.one (.d (.int .i64 a)))), (8, (.one (.d (.int .i64 ((xx_.1) : Int))))), (7, (.one (.d (.int .i64 (xx_.2)))))], rows := [], boxes := [] }) (fun xx_ => (xx_.1) ≤ 8 ∧ 0 ≤ (xx_.2) ∧ (xx_.2) < 128 ^ (xx_.1) ∧ gvGo b a (9 - (xx_.1)) (xx_.1) (xx_.2) = gvGo b a 9 0 0) (fun xx_ => 9 - (xx_.1)) (0, 0) ?_ ?_ ?_
  · exact Env.le_mk ⟨rfl, rfl, by first | rfl | (refine congrArg (fun n => PV.one (.d (.int .i64 n))) ?_; first | rfl | omega | (simp; done)), by first | rfl | (refine congrArg (fun n => PV.one (.d (.int .i64 n))) ?_; first | rfl | omega | (simp; done)), trivial⟩ trivial trivial
  · (dsimp only; refine ⟨by omega, by omega, by simp, rfl⟩)
  ·
   intro xx_ hx
   obtain ⟨i, n⟩ := xx_
   try dsimp only at hx ⊢
   obtain ⟨hx1, hx2, hx3, hx4⟩ := hx
   have hu_ := getD_u8 h0_ (a + (i : Int)).toNat
   have hm_ := gv_mul hu_.1 i
   have hp_ := pow128 (i := i) (by omega)
   refine T.seq ?_
   refine T.block ?_
   refine T.seq ?_
   refine T.seq ?_
   refine T.region ?_
   refine TL.cons rfl (Step.move (p := (.one (.d (.int .i64 a)))) rfl rfl (lt_ok rfl) rfl) ?_
   refine TL.cons rfl (Step.move (p := (.one (.d (.int .i64 (i : Int))))) rfl rfl (lt_ok rfl) rfl) ?_
   refine TL.cons rfl (Step.bin (r := .int .i64 (a + (i : Int))) rfl rfl (lt_ok rfl) rfl rfl (Bin.add (a := a) (b := (i : Int)) (by first | exact wrap_ok (by first | omega | (simp; omega)) (by first | omega | (simp; omega)) | rfl))) ?_
   refine TL.cons rfl (Step.move (p := (.one (.d (.ints .u8 b)))) rfl rfl (lt_ok rfl) rfl) ?_
   refine TL.cons rfl (Step.len (e := 5) (z := 1) (d := (.ints .u8 b)) rfl rfl (lt_ok rfl) (by kernel_rfl) rfl rfl) ?_
   refine TL.cons rfl (Step.bin rfl rfl (lt_ok rfl) rfl rfl (Bin.geq (k := .i64) (a := (a + (i : Int))) (b := (b.length : Int)))) ?_
   refine TL.nil ?_
   refine T.cond (b := decide ((b.length : Int) ≤ (a + (i : Int)))) rfl (fun h2 => ?_) (fun h2 => ?_)
   ·
    replace h2 := of_decide_eq_true h2
    refine T.seq ?_
    refine T.region ?_
    refine TL.cons rfl (Step.assign (p := (.one (.d (.int .i64 0)))) rfl rfl (lt_ok rfl) rfl) ?_
    refine TL.cons rfl (Step.assign (p := (.one (.d (.int .i64 0)))) rfl rfl (lt_ok rfl) rfl) ?_
    refine TL.cons rfl (Step.assign (p := (.one (.d (.int .i64 1)))) rfl rfl (lt_ok rfl) rfl) ?_
    refine TL.nil ?_
    refine T.ret ?_
    exact ⟨[(false, [.d (.int .i64 0)]), (false, [.d (.int .i64 0)]), (false, [.d (.int .i64 1)])], (.cons rfl (.cons rfl (.cons rfl .nil))), rfl, [], (RetC.rd' (by (congr 1; first | (rw [getVar_out (by omega)]; done) | (rw [getVar_in (by omega), ← hx4]; first | (rw [gvGo_short (by omega) (by omega)]; done) | (rw [gvGo_var (by omega) (by omega) (by omega)]; done) | (rw [gvGo_done (by omega) (by omega) (by omega) (by omega) (by omega)]; done) | (rw [gvGo_big (by omega) (by omega) (by omega) (by omega) (by omega)]; done) | (rw [gvGo_end (by omega)]; done)))) (RetC.rd' (by (congr 1; first | (rw [getVar_out (by omega)]; done) | (rw [getVar_in (by omega), ← hx4]; first | (rw [gvGo_short (by omega) (by omega)]; done) | (rw [gvGo_var (by omega) (by omega) (by omega)]; done) | (rw [gvGo_done (by omega) (by omega) (by omega) (by omega) (by omega)]; done) | (rw [gvGo_big (by omega) (by omega) (by omega) (by omega) (by omega)]; done) | (rw [gvGo_end (by omega)]; done)))) (RetC.rd' (by (congr 1; first | (rw [getVar_out (by omega)]; done) | (rw [getVar_in (by omega), ← hx4]; first | (rw [gvGo_short (by omega) (by omega)]; done) | (rw [gvGo_var (by omega) (by omega) (by omega)]; done) | (rw [gvGo_done (by omega) (by omega) (by omega) (by omega) (by omega)]; done) | (rw [gvGo_big (by omega) (by omega) (by omega) (by omega) (by omega)]; done) | (rw [gvGo_end (by omega)]; done)))) .nil)))⟩
   ·
    replace h2 := of_decide_eq_false h2
    refine T.skip ?_
    refine T.seq ?_
    refine T.region ?_
    refine TL.cons rfl (Step.move (p := (.one (.d (.ints .u8 b)))) rfl rfl (lt_ok rfl) rfl) ?_
    refine TL.cons rfl (Step.move (p := (.one (.d (.int .i64 a)))) rfl rfl (lt_ok rfl) rfl) ?_
    refine TL.cons rfl (Step.move (p := (.one (.d (.int .i64 (i : Int))))) rfl rfl (lt_ok rfl) rfl) ?_
    refine TL.cons rfl (Step.bin (r := .int .i64 (a + (i : Int))) rfl rfl (lt_ok rfl) rfl rfl (Bin.add (a := a) (b := (i : Int)) (by first | exact wrap_ok (by first | omega | (simp; omega)) (by first | omega | (simp; omega)) | rfl))) ?_
    refine TL.cons rfl (Step.index (e := 5) (z := 1) (i := (a + (i : Int))) rfl rfl (lt_ok rfl) (by kernel_rfl) rfl rfl rfl (lt_ok rfl) rfl (by first | omega | (simp; omega)) (by simp only [D.size]; first | omega | (simp; omega))) ?_
    refine TL.cons rfl (Step.load (e := (.int .u8 (b.getD (a + (i : Int)).toNat 0))) rfl rfl (lt_ok rfl) (by kernel_rfl) rfl rfl) ?_
    refine TL.cons rfl (Step.assign (p := (.one (.d (.int .u8 (b.getD (a + (i : Int)).toNat 0))))) rfl rfl (lt_ok rfl) rfl) ?_
    refine TL.nil ?_
    refine T.seq ?_
    refine T.seq ?_
    refine T.region ?_
    refine TL.cons rfl (Step.move (p := (.one (.d (.int .i64 (i : Int))))) rfl rfl (lt_ok rfl) rfl) ?_
    refine TL.cons rfl (Step.bin rfl rfl (lt_ok rfl) rfl rfl (Bin.gtr (k := .i64) (a := (i : Int)) (b := 0))) ?_
    refine TL.cons rfl (Step.move (p := (.one (.d (.bool (decide (0 < (i : Int))))))) rfl rfl (lt_ok rfl) rfl) ?_
    rcases Bool.eq_false_or_eq_true (decide (0 < (i : Int))) with hb3 | hb3
    ·
     refine TL.known 31 hb3 rfl ?_
     have hb3' := hb3
     replace hb3' := of_decide_eq_true hb3'
     refine TL.gyes 31 rfl rfl (lt_ok rfl) rfl (Step.move (p := (.one (.d (.int .u8 (b.getD (a + (i : Int)).toNat 0))))) rfl rfl (lt_ok rfl) rfl) ?_
     refine TL.gyes 31 rfl rfl (lt_ok rfl) rfl (Step.bin rfl rfl (lt_ok rfl) rfl rfl (Bin.eql (k := .u8) (a := (b.getD (a + (i : Int)).toNat 0)) (b := 0))) ?_
     refine TL.cons rfl (Step.pick (b := true) (p := (.one (.d (.bool (decide ((b.getD (a + (i : Int)).toNat 0) = 0)))))) rfl rfl (lt_ok rfl) rfl rfl) ?_
     refine TL.cons rfl (Step.move (p := (.one (.d (.bool (decide ((b.getD (a + (i : Int)).toNat 0) = 0)))))) rfl rfl (lt_ok rfl) rfl) ?_
     rcases Bool.eq_false_or_eq_true (decide ((b.getD (a + (i : Int)).toNat 0) = 0)) with hb4 | hb4
     ·
      refine TL.known 35 hb4 rfl ?_
      have hb4' := hb4
      replace hb4' := of_decide_eq_true hb4'
      refine TL.goff 35 rfl rfl (lt_ok rfl) rfl rfl rfl (lt_ok rfl) ?_
      refine TL.goff 35 rfl rfl (lt_ok rfl) rfl rfl rfl (lt_ok rfl) ?_
      refine TL.goff 35 rfl rfl (lt_ok rfl) rfl rfl rfl (lt_ok rfl) ?_
      refine TL.goffU 38 rfl rfl (lt_ok rfl) rfl rfl (lt_ok rfl) ?_
      refine TL.goffU 38 rfl rfl (lt_ok rfl) rfl rfl (lt_ok rfl) ?_
      refine TL.goff 35 rfl rfl (lt_ok rfl) rfl rfl rfl (lt_ok rfl) ?_
      refine TL.cons rfl (Step.pick (b := true) (p := (.one (.d (.bool true)))) rfl rfl (lt_ok rfl) rfl rfl) ?_
      refine TL.nil ?_
      refine T.cond (b := true) rfl (fun h5_ => ?_) (fun h5_ => absurd h5_ (by simp))
      refine T.seq ?_
      refine T.region ?_
      refine TL.cons rfl (Step.assign (p := (.one (.d (.int .i64 0)))) rfl rfl (lt_ok rfl) rfl) ?_
      refine TL.cons rfl (Step.assign (p := (.one (.d (.int .i64 0)))) rfl rfl (lt_ok rfl) rfl) ?_
      refine TL.cons rfl (Step.assign (p := (.one (.d (.int .i64 2)))) rfl rfl (lt_ok rfl) rfl) ?_
      refine TL.nil ?_
      refine T.ret ?_
      exact ⟨[(false, [.d (.int .i64 0)]), (false, [.d (.int .i64 0)]), (false, [.d (.int .i64 2)])], (.cons rfl (.cons rfl (.cons rfl .nil))), rfl, [], (RetC.rd' (by (congr 1; first | (rw [getVar_out (by omega)]; done) | (rw [getVar_in (by omega), ← hx4]; first | (rw [gvGo_short (by omega) (by omega)]; done) | (rw [gvGo_var (by omega) (by omega) (by omega)]; done) | (rw [gvGo_done (by omega) (by omega) (by omega) (by omega) (by omega)]; done) | (rw [gvGo_big (by omega) (by omega) (by omega) (by omega) (by omega)]; done) | (rw [gvGo_end (by omega)]; done)))) (RetC.rd' (by (congr 1; first | (rw [getVar_out (by omega)]; done) | (rw [getVar_in (by omega), ← hx4]; first | (rw [gvGo_short (by omega) (by omega)]; done) | (rw [gvGo_var (by omega) (by omega) (by omega)]; done) | (rw [gvGo_done (by omega) (by omega) (by omega) (by omega) (by omega)]; done) | (rw [gvGo_big (by omega) (by omega) (by omega) (by omega) (by omega)]; done) | (rw [gvGo_end (by omega)]; done)))) (RetC.rd' (by (congr 1; first | (rw [getVar_out (by omega)]; done) | (rw [getVar_in (by omega), ← hx4]; first | (rw [gvGo_short (by omega) (by omega)]; done) | (rw [gvGo_var (by omega) (by omega) (by omega)]; done) | (rw [gvGo_done (by omega) (by omega) (by omega) (by omega) (by omega)]; done) | (rw [gvGo_big (by omega) (by omega) (by omega) (by omega) (by omega)]; done) | (rw [gvGo_end (by omega)]; done)))) .nil)))⟩
     ·
      refine TL.known 35 hb4 rfl ?_
      have hb4' := hb4
      replace hb4' := of_decide_eq_false hb4'
      refine TL.gyes 35 rfl rfl (lt_ok rfl) rfl (Step.move (p := (.one (.d (.int .i64 (i : Int))))) rfl rfl (lt_ok rfl) rfl) ?_
      refine TL.gyes 35 rfl rfl (lt_ok rfl) rfl (Step.bin rfl rfl (lt_ok rfl) rfl rfl (Bin.eql (k := .i64) (a := (i : Int)) (b := 8))) ?_
      refine TL.gyes 35 rfl rfl (lt_ok rfl) rfl (Step.move (p := (.one (.d (.bool (decide ((i : Int) = 8)))))) rfl rfl (lt_ok rfl) rfl) ?_
      rcases Bool.eq_false_or_eq_true (decide ((i : Int) = 8)) with hb6 | hb6
      ·
       refine TL.known 38 hb6 rfl ?_
       have hb6' := hb6
       replace hb6' := of_decide_eq_true hb6'
       refine TL.gyes 38 rfl rfl (lt_ok rfl) rfl (Step.move (p := (.one (.d (.int .u8 (b.getD (a + (i : Int)).toNat 0))))) rfl rfl (lt_ok rfl) rfl) ?_
       refine TL.gyes 38 rfl rfl (lt_ok rfl) rfl (Step.bin rfl rfl (lt_ok rfl) rfl rfl (Bin.geq (k := .u8) (a := (b.getD (a + (i : Int)).toNat 0)) (b := 128))) ?_
       refine TL.gyes 35 rfl rfl (lt_ok rfl) rfl (Step.pick (b := true) (p := (.one (.d (.bool (decide (128 ≤ (b.getD (a + (i : Int)).toNat 0))))))) rfl rfl (lt_ok rfl) rfl rfl) ?_
       refine TL.cons rfl (Step.pick (b := false) (p := (.one (.d (.bool (decide (128 ≤ (b.getD (a + (i : Int)).toNat 0))))))) rfl rfl (lt_ok rfl) rfl rfl) ?_
       refine TL.nil ?_
       refine T.cond (b := decide (128 ≤ (b.getD (a + (i : Int)).toNat 0))) rfl (fun h7 => ?_) (fun h7 => ?_)
       ·
        replace h7 := of_decide_eq_true h7
        refine T.seq ?_
        refine T.region ?_
        refine TL.cons rfl (Step.assign (p := (.one (.d (.int .i64 0)))) rfl rfl (lt_ok rfl) rfl) ?_
        refine TL.cons rfl (Step.assign (p := (.one (.d (.int .i64 0)))) rfl rfl (lt_ok rfl) rfl) ?_
        refine TL.cons rfl (Step.assign (p := (.one (.d (.int .i64 2)))) rfl rfl (lt_ok rfl) rfl) ?_
        refine TL.nil ?_
        refine T.ret ?_
        exact ⟨[(false, [.d (.int .i64 0)]), (false, [.d (.int .i64 0)]), (false, [.d (.int .i64 2)])], (.cons rfl (.cons rfl (.cons rfl .nil))), rfl, [], (RetC.rd' (by (congr 1; first | (rw [getVar_out (by omega)]; done) | (rw [getVar_in (by omega), ← hx4]; first | (rw [gvGo_short (by omega) (by omega)]; done) | (rw [gvGo_var (by omega) (by omega) (by omega)]; done) | (rw [gvGo_done (by omega) (by omega) (by omega) (by omega) (by omega)]; done) | (rw [gvGo_big (by omega) (by omega) (by omega) (by omega) (by omega)]; done) | (rw [gvGo_end (by omega)]; done)))) (RetC.rd' (by (congr 1; first | (rw [getVar_out (by omega)]; done) | (rw [getVar_in (by omega), ← hx4]; first | (rw [gvGo_short (by omega) (by omega)]; done) | (rw [gvGo_var (by omega) (by omega) (by omega)]; done) | (rw [gvGo_done (by omega) (by omega) (by omega) (by omega) (by omega)]; done) | (rw [gvGo_big (by omega) (by omega) (by omega) (by omega) (by omega)]; done) | (rw [gvGo_end (by omega)]; done)))) (RetC.rd' (by (congr 1; first | (rw [getVar_out (by omega)]; done) | (rw [getVar_in (by omega), ← hx4]; first | (rw [gvGo_short (by omega) (by omega)]; done) | (rw [gvGo_var (by omega) (by omega) (by omega)]; done) | (rw [gvGo_done (by omega) (by omega) (by omega) (by omega) (by omega)]; done) | (rw [gvGo_big (by omega) (by omega) (by omega) (by omega) (by omega)]; done) | (rw [gvGo_end (by omega)]; done)))) .nil)))⟩
       ·
        replace h7 := of_decide_eq_false h7
        refine T.skip ?_
        refine T.seq ?_
        refine T.region ?_
        refine TL.cons rfl (Step.move (p := (.one (.d (.int .i64 n)))) rfl rfl (lt_ok rfl) rfl) ?_
        refine TL.cons rfl (Step.move (p := (.one (.d (.int .u8 (b.getD (a + (i : Int)).toNat 0))))) rfl rfl (lt_ok rfl) rfl) ?_
        refine TL.cons rfl (Step.bin (r := .int .u8 (b.getD (a + (i : Int)).toNat 0 % 128)) rfl rfl (lt_ok rfl) rfl rfl (Bin.and (k := .u8) (a := (b.getD (a + (i : Int)).toNat 0)) (b := 127) (and127 hu_.1 hu_.2))) ?_
        refine TL.cons rfl (Step.conv (c := (b.getD (a + (i : Int)).toNat 0 % 128)) rfl rfl (lt_ok rfl) (by kernel_rfl) (by kernel_rfl) rfl (wrap_ok (by first | omega | (simp; omega)) (by first | omega | (simp; omega)))) ?_
        refine TL.cons rfl (Step.move (p := (.one (.d (.int .i64 (i : Int))))) rfl rfl (lt_ok rfl) rfl) ?_
        refine TL.cons rfl (Step.bin (r := .int .i64 (7 * (i : Int))) rfl rfl (lt_ok rfl) rfl rfl (Bin.mul (a := 7) (b := (i : Int)) (by first | exact wrap_ok (by first | omega | (simp; omega)) (by first | omega | (simp; omega)) | rfl))) ?_
        refine TL.cons rfl (Step.bin (r := .int .i64 (b.getD (a + (i : Int)).toNat 0 % 128 * 128 ^ i)) rfl rfl (lt_ok rfl) rfl rfl (Bin.shl (k := .i64) (k' := .i64) (a := (b.getD (a + (i : Int)).toNat 0 % 128)) (b := (7 * (i : Int))) (by first | omega | (simp; omega)) (shl_var (by omega) (by omega) (by omega)))) ?_
        refine TL.cons rfl (Step.bin (r := .int .i64 (n + b.getD (a + (i : Int)).toNat 0 % 128 * 128 ^ i)) rfl rfl (lt_ok rfl) rfl rfl (Bin.or (k := .i64) (a := n) (b := (b.getD (a + (i : Int)).toNat 0 % 128 * 128 ^ i)) (or_add (by omega) (by omega) (by omega) (by omega) (by omega)))) ?_
        refine TL.cons rfl (Step.assign (p := (.one (.d (.int .i64 (n + b.getD (a + (i : Int)).toNat 0 % 128 * 128 ^ i))))) rfl rfl (lt_ok rfl) rfl) ?_
        refine TL.nil ?_
        refine T.seq ?_
        refine T.region ?_
        refine TL.cons rfl (Step.move (p := (.one (.d (.int .u8 (b.getD (a + (i : Int)).toNat 0))))) rfl rfl (lt_ok rfl) rfl) ?_
        refine TL.cons rfl (Step.bin rfl rfl (lt_ok rfl) rfl rfl (Bin.lss (k := .u8) (a := (b.getD (a + (i : Int)).toNat 0)) (b := 128))) ?_
        refine TL.nil ?_
        refine T.cond (b := decide ((b.getD (a + (i : Int)).toNat 0) < 128)) rfl (fun h8 => ?_) (fun h8 => ?_)
        ·
         replace h8 := of_decide_eq_true h8
         refine T.seq ?_
         refine T.seq ?_
         refine T.region ?_
         refine TL.cons rfl (Step.move (p := (.one (.d (.int .i64 (n + b.getD (a + (i : Int)).toNat 0 % 128 * 128 ^ i))))) rfl rfl (lt_ok rfl) rfl) ?_
         refine TL.cons rfl (Step.call (f := 147) (xs := [.tmp 53]) (ps := [(.one (.d (.int .i64 (n + b.getD (a + (i : Int)).toNat 0 % 128 * 128 ^ i))))]) false (g := .func 147) rfl rfl (lt_ok rfl) rfl (by kernel_rfl) rfl (.cons (.one (.d _)) .nil) (ok_impl_isNum (n + b.getD (a + (i : Int)).toNat 0 % 128 * 128 ^ i)) (.inr rfl) rfl (by simp) rfl) ?_
         refine TL.cons rfl (Step.not (b := (decide (0 ≤ (n + b.getD (a + (i : Int)).toNat 0 % 128 * 128 ^ i) ∧ (n + b.getD (a + (i : Int)).toNat 0 % 128 * 128 ^ i) ≤ 1152921504606846975))) rfl rfl (lt_ok rfl) rfl) ?_
         refine TL.nil ?_
         refine T.cond (b := !(decide (0 ≤ (n + b.getD (a + (i : Int)).toNat 0 % 128 * 128 ^ i) ∧ (n + b.getD (a + (i : Int)).toNat 0 % 128 * 128 ^ i) ≤ 1152921504606846975))) rfl (fun h9 => ?_) (fun h9 => ?_)
         ·
          replace h9 : (decide (0 ≤ (n + b.getD (a + (i : Int)).toNat 0 % 128 * 128 ^ i) ∧ (n + b.getD (a + (i : Int)).toNat 0 % 128 * 128 ^ i) ≤ 1152921504606846975)) = false := by simpa only [Bool.not_eq_true', Bool.not_eq_false'] using h9
          replace h9 := of_decide_eq_false h9
          refine T.seq ?_
          refine T.region ?_
          refine TL.cons rfl (Step.assign (p := (.one (.d (.int .i64 0)))) rfl rfl (lt_ok rfl) rfl) ?_
          refine TL.cons rfl (Step.assign (p := (.one (.d (.int .i64 0)))) rfl rfl (lt_ok rfl) rfl) ?_
          refine TL.cons rfl (Step.assign (p := (.one (.d (.int .i64 2)))) rfl rfl (lt_ok rfl) rfl) ?_
          refine TL.nil ?_
          refine T.ret ?_
          exact ⟨[(false, [.d (.int .i64 0)]), (false, [.d (.int .i64 0)]), (false, [.d (.int .i64 2)])], (.cons rfl (.cons rfl (.cons rfl .nil))), rfl, [], (RetC.rd' (by (congr 1; first | (rw [getVar_out (by omega)]; done) | (rw [getVar_in (by omega), ← hx4]; first | (rw [gvGo_short (by omega) (by omega)]; done) | (rw [gvGo_var (by omega) (by omega) (by omega)]; done) | (rw [gvGo_done (by omega) (by omega) (by omega) (by omega) (by omega)]; done) | (rw [gvGo_big (by omega) (by omega) (by omega) (by omega) (by omega)]; done) | (rw [gvGo_end (by omega)]; done)))) (RetC.rd' (by (congr 1; first | (rw [getVar_out (by omega)]; done) | (rw [getVar_in (by omega), ← hx4]; first | (rw [gvGo_short (by omega) (by omega)]; done) | (rw [gvGo_var (by omega) (by omega) (by omega)]; done) | (rw [gvGo_done (by omega) (by omega) (by omega) (by omega) (by omega)]; done) | (rw [gvGo_big (by omega) (by omega) (by omega) (by omega) (by omega)]; done) | (rw [gvGo_end (by omega)]; done)))) (RetC.rd' (by (congr 1; first | (rw [getVar_out (by omega)]; done) | (rw [getVar_in (by omega), ← hx4]; first | (rw [gvGo_short (by omega) (by omega)]; done) | (rw [gvGo_var (by omega) (by omega) (by omega)]; done) | (rw [gvGo_done (by omega) (by omega) (by omega) (by omega) (by omega)]; done) | (rw [gvGo_big (by omega) (by omega) (by omega) (by omega) (by omega)]; done) | (rw [gvGo_end (by omega)]; done)))) .nil)))⟩
         ·
          replace h9 : (decide (0 ≤ (n + b.getD (a + (i : Int)).toNat 0 % 128 * 128 ^ i) ∧ (n + b.getD (a + (i : Int)).toNat 0 % 128 * 128 ^ i) ≤ 1152921504606846975)) = true := by simpa only [Bool.not_eq_true', Bool.not_eq_false'] using h9
          replace h9 := of_decide_eq_true h9
          refine T.skip ?_
          refine T.seq ?_
          refine T.region ?_
          refine TL.cons rfl (Step.move (p := (.one (.d (.int .i64 (n + b.getD (a + (i : Int)).toNat 0 % 128 * 128 ^ i))))) rfl rfl (lt_ok rfl) rfl) ?_
          refine TL.cons rfl (Step.move (p := (.one (.d (.int .i64 a)))) rfl rfl (lt_ok rfl) rfl) ?_
          refine TL.cons rfl (Step.move (p := (.one (.d (.int .i64 (i : Int))))) rfl rfl (lt_ok rfl) rfl) ?_
          refine TL.cons rfl (Step.bin (r := .int .i64 (a + (i : Int))) rfl rfl (lt_ok rfl) rfl rfl (Bin.add (a := a) (b := (i : Int)) (by first | exact wrap_ok (by first | omega | (simp; omega)) (by first | omega | (simp; omega)) | rfl))) ?_
          refine TL.cons rfl (Step.bin (r := .int .i64 ((a + (i : Int)) + 1)) rfl rfl (lt_ok rfl) rfl rfl (Bin.add (a := (a + (i : Int))) (b := 1) (by first | exact wrap_ok (by first | omega | (simp; omega)) (by first | omega | (simp; omega)) | rfl))) ?_
          refine TL.cons rfl (Step.assign (p := (.one (.d (.int .i64 (n + b.getD (a + (i : Int)).toNat 0 % 128 * 128 ^ i))))) rfl rfl (lt_ok rfl) rfl) ?_
          refine TL.cons rfl (Step.assign (p := (.one (.d (.int .i64 ((a + (i : Int)) + 1))))) rfl rfl (lt_ok rfl) rfl) ?_
          refine TL.cons rfl (Step.assign (p := (.one (.d (.int .i64 0)))) rfl rfl (lt_ok rfl) rfl) ?_
          refine TL.nil ?_
          refine T.ret ?_
          exact ⟨[(false, [.d (.int .i64 (n + b.getD (a + (i : Int)).toNat 0 % 128 * 128 ^ i))]), (false, [.d (.int .i64 ((a + (i : Int)) + 1))]), (false, [.d (.int .i64 0)])], (.cons rfl (.cons rfl (.cons rfl .nil))), rfl, [], (RetC.rd' (by (congr 1; first | (rw [getVar_out (by omega)]; done) | (rw [getVar_in (by omega), ← hx4]; first | (rw [gvGo_short (by omega) (by omega)]; done) | (rw [gvGo_var (by omega) (by omega) (by omega)]; done) | (rw [gvGo_done (by omega) (by omega) (by omega) (by omega) (by omega)]; done) | (rw [gvGo_big (by omega) (by omega) (by omega) (by omega) (by omega)]; done) | (rw [gvGo_end (by omega)]; done)))) (RetC.rd' (by (congr 1; first | (rw [getVar_out (by omega)]; done) | (rw [getVar_in (by omega), ← hx4]; first | (rw [gvGo_short (by omega) (by omega)]; done) | (rw [gvGo_var (by omega) (by omega) (by omega)]; done) | (rw [gvGo_done (by omega) (by omega) (by omega) (by omega) (by omega)]; done) | (rw [gvGo_big (by omega) (by omega) (by omega) (by omega) (by omega)]; done) | (rw [gvGo_end (by omega)]; done)))) (RetC.rd' (by (congr 1; first | (rw [getVar_out (by omega)]; done) | (rw [getVar_in (by omega), ← hx4]; first | (rw [gvGo_short (by omega) (by omega)]; done) | (rw [gvGo_var (by omega) (by omega) (by omega)]; done) | (rw [gvGo_done (by omega) (by omega) (by omega) (by omega) (by omega)]; done) | (rw [gvGo_big (by omega) (by omega) (by omega) (by omega) (by omega)]; done) | (rw [gvGo_end (by omega)]; done)))) .nil)))⟩
        ·
         replace h8 := of_decide_eq_false h8
         refine T.skip ?_
         refine T.region ?_
         refine TL.cons rfl (Step.move (p := (.one (.d (.int .i64 (i : Int))))) rfl rfl (lt_ok rfl) rfl) ?_
         refine TL.cons rfl (Step.bin (r := .int .i64 ((i : Int) + 1)) rfl rfl (lt_ok rfl) rfl rfl (Bin.add (a := (i : Int)) (b := 1) (by first | exact wrap_ok (by first | omega | (simp; omega)) (by first | omega | (simp; omega)) | rfl))) ?_
         refine TL.cons rfl (Step.assign (p := (.one (.d (.int .i64 ((i : Int) + 1))))) rfl rfl (lt_ok rfl) rfl) ?_
         refine TL.nil ?_
         exact ⟨(i + 1, n + b.getD (a + (i : Int)).toNat 0 % 128 * 128 ^ i), by (try dsimp only); (refine ⟨by omega, by omega, by rw [Int.pow_succ]; omega, ?_⟩; exact (gvGo_next (n := n) (by omega) (by omega) (by omega) (by omega)).symm.trans hx4), by (dsimp only; omega), Env.le_mk ⟨rfl, rfl, by first | rfl | (refine congrArg (fun n => PV.one (.d (.int .i64 n))) ?_; first | rfl | omega | (simp; done)), by first | rfl | (refine congrArg (fun n => PV.one (.d (.int .i64 n))) ?_; first | rfl | omega | (simp; done)), trivial⟩ trivial trivial⟩
      ·
       refine TL.known 38 hb6 rfl ?_
       have hb6' := hb6
       replace hb6' := of_decide_eq_false hb6'
       refine TL.goff 38 rfl rfl (lt_ok rfl) rfl rfl rfl (lt_ok rfl) ?_
       refine TL.goff 38 rfl rfl (lt_ok rfl) rfl rfl rfl (lt_ok rfl) ?_
       refine TL.gyes 35 rfl rfl (lt_ok rfl) rfl (Step.pick (b := false) (p := (.one (.d (.bool false)))) rfl rfl (lt_ok rfl) rfl rfl) ?_
       refine TL.cons rfl (Step.pick (b := false) (p := (.one (.d (.bool false)))) rfl rfl (lt_ok rfl) rfl rfl) ?_
       refine TL.nil ?_
       refine T.cond (b := false) rfl (fun h10_ => absurd h10_ (by simp)) (fun h10_ => ?_)
       refine T.skip ?_
       refine T.seq ?_
       refine T.region ?_
       refine TL.cons rfl (Step.move (p := (.one (.d (.int .i64 n)))) rfl rfl (lt_ok rfl) rfl) ?_
       refine TL.cons rfl (Step.move (p := (.one (.d (.int .u8 (b.getD (a + (i : Int)).toNat 0))))) rfl rfl (lt_ok rfl) rfl) ?_
       refine TL.cons rfl (Step.bin (r := .int .u8 (b.getD (a + (i : Int)).toNat 0 % 128)) rfl rfl (lt_ok rfl) rfl rfl (Bin.and (k := .u8) (a := (b.getD (a + (i : Int)).toNat 0)) (b := 127) (and127 hu_.1 hu_.2))) ?_
       refine TL.cons rfl (Step.conv (c := (b.getD (a + (i : Int)).toNat 0 % 128)) rfl rfl (lt_ok rfl) (by kernel_rfl) (by kernel_rfl) rfl (wrap_ok (by first | omega | (simp; omega)) (by first | omega | (simp; omega)))) ?_
       refine TL.cons rfl (Step.move (p := (.one (.d (.int .i64 (i : Int))))) rfl rfl (lt_ok rfl) rfl) ?_
       refine TL.cons rfl (Step.bin (r := .int .i64 (7 * (i : Int))) rfl rfl (lt_ok rfl) rfl rfl (Bin.mul (a := 7) (b := (i : Int)) (by first | exact wrap_ok (by first | omega | (simp; omega)) (by first | omega | (simp; omega)) | rfl))) ?_
       refine TL.cons rfl (Step.bin (r := .int .i64 (b.getD (a + (i : Int)).toNat 0 % 128 * 128 ^ i)) rfl rfl (lt_ok rfl) rfl rfl (Bin.shl (k := .i64) (k' := .i64) (a := (b.getD (a + (i : Int)).toNat 0 % 128)) (b := (7 * (i : Int))) (by first | omega | (simp; omega)) (shl_var (by omega) (by omega) (by omega)))) ?_
       refine TL.cons rfl (Step.bin (r := .int .i64 (n + b.getD (a + (i : Int)).toNat 0 % 128 * 128 ^ i)) rfl rfl (lt_ok rfl) rfl rfl (Bin.or (k := .i64) (a := n) (b := (b.getD (a + (i : Int)).toNat 0 % 128 * 128 ^ i)) (or_add (by omega) (by omega) (by omega) (by omega) (by omega)))) ?_
       refine TL.cons rfl (Step.assign (p := (.one (.d (.int .i64 (n + b.getD (a + (i : Int)).toNat 0 % 128 * 128 ^ i))))) rfl rfl (lt_ok rfl) rfl) ?_
       refine TL.nil ?_
       refine T.seq ?_
       refine T.region ?_
       refine TL.cons rfl (Step.move (p := (.one (.d (.int .u8 (b.getD (a + (i : Int)).toNat 0))))) rfl rfl (lt_ok rfl) rfl) ?_
       refine TL.cons rfl (Step.bin rfl rfl (lt_ok rfl) rfl rfl (Bin.lss (k := .u8) (a := (b.getD (a + (i : Int)).toNat 0)) (b := 128))) ?_
       refine TL.nil ?_
       refine T.cond (b := decide ((b.getD (a + (i : Int)).toNat 0) < 128)) rfl (fun h11 => ?_) (fun h11 => ?_)
       ·
        replace h11 := of_decide_eq_true h11
        refine T.seq ?_
        refine T.seq ?_
        refine T.region ?_
        refine TL.cons rfl (Step.move (p := (.one (.d (.int .i64 (n + b.getD (a + (i : Int)).toNat 0 % 128 * 128 ^ i))))) rfl rfl (lt_ok rfl) rfl) ?_
        refine TL.cons rfl (Step.call (f := 147) (xs := [.tmp 53]) (ps := [(.one (.d (.int .i64 (n + b.getD (a + (i : Int)).toNat 0 % 128 * 128 ^ i))))]) false (g := .func 147) rfl rfl (lt_ok rfl) rfl (by kernel_rfl) rfl (.cons (.one (.d _)) .nil) (ok_impl_isNum (n + b.getD (a + (i : Int)).toNat 0 % 128 * 128 ^ i)) (.inr rfl) rfl (by simp) rfl) ?_
        refine TL.cons rfl (Step.not (b := (decide (0 ≤ (n + b.getD (a + (i : Int)).toNat 0 % 128 * 128 ^ i) ∧ (n + b.getD (a + (i : Int)).toNat 0 % 128 * 128 ^ i) ≤ 1152921504606846975))) rfl rfl (lt_ok rfl) rfl) ?_
        refine TL.nil ?_
        refine T.cond (b := !(decide (0 ≤ (n + b.getD (a + (i : Int)).toNat 0 % 128 * 128 ^ i) ∧ (n + b.getD (a + (i : Int)).toNat 0 % 128 * 128 ^ i) ≤ 1152921504606846975))) rfl (fun h12 => ?_) (fun h12 => ?_)
        ·
         replace h12 : (decide (0 ≤ (n + b.getD (a + (i : Int)).toNat 0 % 128 * 128 ^ i) ∧ (n + b.getD (a + (i : Int)).toNat 0 % 128 * 128 ^ i) ≤ 1152921504606846975)) = false := by simpa only [Bool.not_eq_true', Bool.not_eq_false'] using h12
         replace h12 := of_decide_eq_false h12
         refine T.seq ?_
         refine T.region ?_
         refine TL.cons rfl (Step.assign (p := (.one (.d (.int .i64 0)))) rfl rfl (lt_ok rfl) rfl) ?_
         refine TL.cons rfl (Step.assign (p := (.one (.d (.int .i64 0)))) rfl rfl (lt_ok rfl) rfl) ?_
         refine TL.cons rfl (Step.assign (p := (.one (.d (.int .i64 2)))) rfl rfl (lt_ok rfl) rfl) ?_
         refine TL.nil ?_
         refine T.ret ?_
         exact ⟨[(false, [.d (.int .i64 0)]), (false, [.d (.int .i64 0)]), (false, [.d (.int .i64 2)])], (.cons rfl (.cons rfl (.cons rfl .nil))), rfl, [], (RetC.rd' (by (congr 1; first | (rw [getVar_out (by omega)]; done) | (rw [getVar_in (by omega), ← hx4]; first | (rw [gvGo_short (by omega) (by omega)]; done) | (rw [gvGo_var (by omega) (by omega) (by omega)]; done) | (rw [gvGo_done (by omega) (by omega) (by omega) (by omega) (by omega)]; done) | (rw [gvGo_big (by omega) (by omega) (by omega) (by omega) (by omega)]; done) | (rw [gvGo_end (by omega)]; done)))) (RetC.rd' (by (congr 1; first | (rw [getVar_out (by omega)]; done) | (rw [getVar_in (by omega), ← hx4]; first | (rw [gvGo_short (by omega) (by omega)]; done) | (rw [gvGo_var (by omega) (by omega) (by omega)]; done) | (rw [gvGo_done (by omega) (by omega) (by omega) (by omega) (by omega)]; done) | (rw [gvGo_big (by omega) (by omega) (by omega) (by omega) (by omega)]; done) | (rw [gvGo_end (by omega)]; done)))) (RetC.rd' (by (congr 1; first | (rw [getVar_out (by omega)]; done) | (rw [getVar_in (by omega), ← hx4]; first | (rw [gvGo_short (by omega) (by omega)]; done) | (rw [gvGo_var (by omega) (by omega) (by omega)]; done) | (rw [gvGo_done (by omega) (by omega) (by omega) (by omega) (by omega)]; done) | (rw [gvGo_big (by omega) (by omega) (by omega) (by omega) (by omega)]; done) | (rw [gvGo_end (by omega)]; done)))) .nil)))⟩
        ·
         replace h12 : (decide (0 ≤ (n + b.getD (a + (i : Int)).toNat 0 % 128 * 128 ^ i) ∧ (n + b.getD (a + (i : Int)).toNat 0 % 128 * 128 ^ i) ≤ 1152921504606846975)) = true := by simpa only [Bool.not_eq_true', Bool.not_eq_false'] using h12
         replace h12 := of_decide_eq_true h12
         refine T.skip ?_
         refine T.seq ?_
         refine T.region ?_
         refine TL.cons rfl (Step.move (p := (.one (.d (.int .i64 (n + b.getD (a + (i : Int)).toNat 0 % 128 * 128 ^ i))))) rfl rfl (lt_ok rfl) rfl) ?_
         refine TL.cons rfl (Step.move (p := (.one (.d (.int .i64 a)))) rfl rfl (lt_ok rfl) rfl) ?_
         refine TL.cons rfl (Step.move (p := (.one (.d (.int .i64 (i : Int))))) rfl rfl (lt_ok rfl) rfl) ?_
         refine TL.cons rfl (Step.bin (r := .int .i64 (a + (i : Int))) rfl rfl (lt_ok rfl) rfl rfl (Bin.add (a := a) (b := (i : Int)) (by first | exact wrap_ok (by first | omega | (simp; omega)) (by first | omega | (simp; omega)) | rfl))) ?_
         refine TL.cons rfl (Step.bin (r := .int .i64 ((a + (i : Int)) + 1)) rfl rfl (lt_ok rfl) rfl rfl (Bin.add (a := (a + (i : Int))) (b := 1) (by first | exact wrap_ok (by first | omega | (simp; omega)) (by first | omega | (simp; omega)) | rfl))) ?_
         refine TL.cons rfl (Step.assign (p := (.one (.d (.int .i64 (n + b.getD (a + (i : Int)).toNat 0 % 128 * 128 ^ i))))) rfl rfl (lt_ok rfl) rfl) ?_
         refine TL.cons rfl (Step.assign (p := (.one (.d (.int .i64 ((a + (i : Int)) + 1))))) rfl rfl (lt_ok rfl) rfl) ?_
         refine TL.cons rfl (Step.assign (p := (.one (.d (.int .i64 0)))) rfl rfl (lt_ok rfl) rfl) ?_
         refine TL.nil ?_
         refine T.ret ?_
         exact ⟨[(false, [.d (.int .i64 (n + b.getD (a + (i : Int)).toNat 0 % 128 * 128 ^ i))]), (false, [.d (.int .i64 ((a + (i : Int)) + 1))]), (false, [.d (.int .i64 0)])], (.cons rfl (.cons rfl (.cons rfl .nil))), rfl, [], (RetC.rd' (by (congr 1; first | (rw [getVar_out (by omega)]; done) | (rw [getVar_in (by omega), ← hx4]; first | (rw [gvGo_short (by omega) (by omega)]; done) | (rw [gvGo_var (by omega) (by omega) (by omega)]; done) | (rw [gvGo_done (by omega) (by omega) (by omega) (by omega) (by omega)]; done) | (rw [gvGo_big (by omega) (by omega) (by omega) (by omega) (by omega)]; done) | (rw [gvGo_end (by omega)]; done)))) (RetC.rd' (by (congr 1; first | (rw [getVar_out (by omega)]; done) | (rw [getVar_in (by omega), ← hx4]; first | (rw [gvGo_short (by omega) (by omega)]; done) | (rw [gvGo_var (by omega) (by omega) (by omega)]; done) | (rw [gvGo_done (by omega) (by omega) (by omega) (by omega) (by omega)]; done) | (rw [gvGo_big (by omega) (by omega) (by omega) (by omega) (by omega)]; done) | (rw [gvGo_end (by omega)]; done)))) (RetC.rd' (by (congr 1; first | (rw [getVar_out (by omega)]; done) | (rw [getVar_in (by omega), ← hx4]; first | (rw [gvGo_short (by omega) (by omega)]; done) | (rw [gvGo_var (by omega) (by omega) (by omega)]; done) | (rw [gvGo_done (by omega) (by omega) (by omega) (by omega) (by omega)]; done) | (rw [gvGo_big (by omega) (by omega) (by omega) (by omega) (by omega)]; done) | (rw [gvGo_end (by omega)]; done)))) .nil)))⟩
       ·
        replace h11 := of_decide_eq_false h11
        refine T.skip ?_
        refine T.region ?_
        refine TL.cons rfl (Step.move (p := (.one (.d (.int .i64 (i : Int))))) rfl rfl (lt_ok rfl) rfl) ?_
        refine TL.cons rfl (Step.bin (r := .int .i64 ((i : Int) + 1)) rfl rfl (lt_ok rfl) rfl rfl (Bin.add (a := (i : Int)) (b := 1) (by first | exact wrap_ok (by first | omega | (simp; omega)) (by first | omega | (simp; omega)) | rfl))) ?_
        refine TL.cons rfl (Step.assign (p := (.one (.d (.int .i64 ((i : Int) + 1))))) rfl rfl (lt_ok rfl) rfl) ?_
        refine TL.nil ?_
        exact ⟨(i + 1, n + b.getD (a + (i : Int)).toNat 0 % 128 * 128 ^ i), by (try dsimp only); (refine ⟨by omega, by omega, by rw [Int.pow_succ]; omega, ?_⟩; exact (gvGo_next (n := n) (by omega) (by omega) (by omega) (by omega)).symm.trans hx4), by (dsimp only; omega), Env.le_mk ⟨rfl, rfl, by first | rfl | (refine congrArg (fun n => PV.one (.d (.int .i64 n))) ?_; first | rfl | omega | (simp; done)), by first | rfl | (refine congrArg (fun n => PV.one (.d (.int .i64 n))) ?_; first | rfl | omega | (simp; done)), trivial⟩ trivial trivial⟩
    ·
     refine TL.known 31 hb3 rfl ?_
     have hb3' := hb3
     replace hb3' := of_decide_eq_false hb3'
     refine TL.goff 31 rfl rfl (lt_ok rfl) rfl rfl rfl (lt_ok rfl) ?_
     refine TL.goff 31 rfl rfl (lt_ok rfl) rfl rfl rfl (lt_ok rfl) ?_
     refine TL.cons rfl (Step.pick (b := false) (p := (.one (.d (.bool false)))) rfl rfl (lt_ok rfl) rfl rfl) ?_
     refine TL.cons rfl (Step.move (p := (.one (.d (.bool false)))) rfl rfl (lt_ok rfl) rfl) ?_
     refine TL.gyes 35 rfl rfl (lt_ok rfl) rfl (Step.move (p := (.one (.d (.int .i64 (i : Int))))) rfl rfl (lt_ok rfl) rfl) ?_
     refine TL.gyes 35 rfl rfl (lt_ok rfl) rfl (Step.bin rfl rfl (lt_ok rfl) rfl rfl (Bin.eql (k := .i64) (a := (i : Int)) (b := 8))) ?_
     refine TL.gyes 35 rfl rfl (lt_ok rfl) rfl (Step.move (p := (.one (.d (.bool (decide ((i : Int) = 8)))))) rfl rfl (lt_ok rfl) rfl) ?_
     rcases Bool.eq_false_or_eq_true (decide ((i : Int) = 8)) with hb13 | hb13
     ·
      refine TL.known 38 hb13 rfl ?_
      have hb13' := hb13
      replace hb13' := of_decide_eq_true hb13'
      refine TL.gyes 38 rfl rfl (lt_ok rfl) rfl (Step.move (p := (.one (.d (.int .u8 (b.getD (a + (i : Int)).toNat 0))))) rfl rfl (lt_ok rfl) rfl) ?_
      refine TL.gyes 38 rfl rfl (lt_ok rfl) rfl (Step.bin rfl rfl (lt_ok rfl) rfl rfl (Bin.geq (k := .u8) (a := (b.getD (a + (i : Int)).toNat 0)) (b := 128))) ?_
      refine TL.gyes 35 rfl rfl (lt_ok rfl) rfl (Step.pick (b := true) (p := (.one (.d (.bool (decide (128 ≤ (b.getD (a + (i : Int)).toNat 0))))))) rfl rfl (lt_ok rfl) rfl rfl) ?_
      refine TL.cons rfl (Step.pick (b := false) (p := (.one (.d (.bool (decide (128 ≤ (b.getD (a + (i : Int)).toNat 0))))))) rfl rfl (lt_ok rfl) rfl rfl) ?_
      refine TL.nil ?_
      refine T.cond (b := decide (128 ≤ (b.getD (a + (i : Int)).toNat 0))) rfl (fun h14 => ?_) (fun h14 => ?_)
      ·
       replace h14 := of_decide_eq_true h14
       refine T.seq ?_
       refine T.region ?_
       refine TL.cons rfl (Step.assign (p := (.one (.d (.int .i64 0)))) rfl rfl (lt_ok rfl) rfl) ?_
       refine TL.cons rfl (Step.assign (p := (.one (.d (.int .i64 0)))) rfl rfl (lt_ok rfl) rfl) ?_
       refine TL.cons rfl (Step.assign (p := (.one (.d (.int .i64 2)))) rfl rfl (lt_ok rfl) rfl) ?_
       refine TL.nil ?_
       refine T.ret ?_
       exact ⟨[(false, [.d (.int .i64 0)]), (false, [.d (.int .i64 0)]), (false, [.d (.int .i64 2)])], (.cons rfl (.cons rfl (.cons rfl .nil))), rfl, [], (RetC.rd' (by (congr 1; first | (rw [getVar_out (by omega)]; done) | (rw [getVar_in (by omega), ← hx4]; first | (rw [gvGo_short (by omega) (by omega)]; done) | (rw [gvGo_var (by omega) (by omega) (by omega)]; done) | (rw [gvGo_done (by omega) (by omega) (by omega) (by omega) (by omega)]; done) | (rw [gvGo_big (by omega) (by omega) (by omega) (by omega) (by omega)]; done) | (rw [gvGo_end (by omega)]; done)))) (RetC.rd' (by (congr 1; first | (rw [getVar_out (by omega)]; done) | (rw [getVar_in (by omega), ← hx4]; first | (rw [gvGo_short (by omega) (by omega)]; done) | (rw [gvGo_var (by omega) (by omega) (by omega)]; done) | (rw [gvGo_done (by omega) (by omega) (by omega) (by omega) (by omega)]; done) | (rw [gvGo_big (by omega) (by omega) (by omega) (by omega) (by omega)]; done) | (rw [gvGo_end (by omega)]; done)))) (RetC.rd' (by (congr 1; first | (rw [getVar_out (by omega)]; done) | (rw [getVar_in (by omega), ← hx4]; first | (rw [gvGo_short (by omega) (by omega)]; done) | (rw [gvGo_var (by omega) (by omega) (by omega)]; done) | (rw [gvGo_done (by omega) (by omega) (by omega) (by omega) (by omega)]; done) | (rw [gvGo_big (by omega) (by omega) (by omega) (by omega) (by omega)]; done) | (rw [gvGo_end (by omega)]; done)))) .nil)))⟩
      ·
       replace h14 := of_decide_eq_false h14
       refine T.skip ?_
       refine T.seq ?_
       refine T.region ?_
       refine TL.cons rfl (Step.move (p := (.one (.d (.int .i64 n)))) rfl rfl (lt_ok rfl) rfl) ?_
       refine TL.cons rfl (Step.move (p := (.one (.d (.int .u8 (b.getD (a + (i : Int)).toNat 0))))) rfl rfl (lt_ok rfl) rfl) ?_
       refine TL.cons rfl (Step.bin (r := .int .u8 (b.getD (a + (i : Int)).toNat 0 % 128)) rfl rfl (lt_ok rfl) rfl rfl (Bin.and (k := .u8) (a := (b.getD (a + (i : Int)).toNat 0)) (b := 127) (and127 hu_.1 hu_.2))) ?_
       refine TL.cons rfl (Step.conv (c := (b.getD (a + (i : Int)).toNat 0 % 128)) rfl rfl (lt_ok rfl) (by kernel_rfl) (by kernel_rfl) rfl (wrap_ok (by first | omega | (simp; omega)) (by first | omega | (simp; omega)))) ?_
       refine TL.cons rfl (Step.move (p := (.one (.d (.int .i64 (i : Int))))) rfl rfl (lt_ok rfl) rfl) ?_
       refine TL.cons rfl (Step.bin (r := .int .i64 (7 * (i : Int))) rfl rfl (lt_ok rfl) rfl rfl (Bin.mul (a := 7) (b := (i : Int)) (by first | exact wrap_ok (by first | omega | (simp; omega)) (by first | omega | (simp; omega)) | rfl))) ?_
       refine TL.cons rfl (Step.bin (r := .int .i64 (b.getD (a + (i : Int)).toNat 0 % 128 * 128 ^ i)) rfl rfl (lt_ok rfl) rfl rfl (Bin.shl (k := .i64) (k' := .i64) (a := (b.getD (a + (i : Int)).toNat 0 % 128)) (b := (7 * (i : Int))) (by first | omega | (simp; omega)) (shl_var (by omega) (by omega) (by omega)))) ?_
       refine TL.cons rfl (Step.bin (r := .int .i64 (n + b.getD (a + (i : Int)).toNat 0 % 128 * 128 ^ i)) rfl rfl (lt_ok rfl) rfl rfl (Bin.or (k := .i64) (a := n) (b := (b.getD (a + (i : Int)).toNat 0 % 128 * 128 ^ i)) (or_add (by omega) (by omega) (by omega) (by omega) (by omega)))) ?_
       refine TL.cons rfl (Step.assign (p := (.one (.d (.int .i64 (n + b.getD (a + (i : Int)).toNat 0 % 128 * 128 ^ i))))) rfl rfl (lt_ok rfl) rfl) ?_
       refine TL.nil ?_
       refine T.seq ?_
       refine T.region ?_
       refine TL.cons rfl (Step.move (p := (.one (.d (.int .u8 (b.getD (a + (i : Int)).toNat 0))))) rfl rfl (lt_ok rfl) rfl) ?_
       refine TL.cons rfl (Step.bin rfl rfl (lt_ok rfl) rfl rfl (Bin.lss (k := .u8) (a := (b.getD (a + (i : Int)).toNat 0)) (b := 128))) ?_
       refine TL.nil ?_
       refine T.cond (b := decide ((b.getD (a + (i : Int)).toNat 0) < 128)) rfl (fun h15 => ?_) (fun h15 => ?_)
       ·
        replace h15 := of_decide_eq_true h15
        refine T.seq ?_
        refine T.seq ?_
        refine T.region ?_
        refine TL.cons rfl (Step.move (p := (.one (.d (.int .i64 (n + b.getD (a + (i : Int)).toNat 0 % 128 * 128 ^ i))))) rfl rfl (lt_ok rfl) rfl) ?_
        refine TL.cons rfl (Step.call (f := 147) (xs := [.tmp 53]) (ps := [(.one (.d (.int .i64 (n + b.getD (a + (i : Int)).toNat 0 % 128 * 128 ^ i))))]) false (g := .func 147) rfl rfl (lt_ok rfl) rfl (by kernel_rfl) rfl (.cons (.one (.d _)) .nil) (ok_impl_isNum (n + b.getD (a + (i : Int)).toNat 0 % 128 * 128 ^ i)) (.inr rfl) rfl (by simp) rfl) ?_
        refine TL.cons rfl (Step.not (b := (decide (0 ≤ (n + b.getD (a + (i : Int)).toNat 0 % 128 * 128 ^ i) ∧ (n + b.getD (a + (i : Int)).toNat 0 % 128 * 128 ^ i) ≤ 1152921504606846975))) rfl rfl (lt_ok rfl) rfl) ?_
        refine TL.nil ?_
        refine T.cond (b := !(decide (0 ≤ (n + b.getD (a + (i : Int)).toNat 0 % 128 * 128 ^ i) ∧ (n + b.getD (a + (i : Int)).toNat 0 % 128 * 128 ^ i) ≤ 1152921504606846975))) rfl (fun h16 => ?_) (fun h16 => ?_)
        ·
         replace h16 : (decide (0 ≤ (n + b.getD (a + (i : Int)).toNat 0 % 128 * 128 ^ i) ∧ (n + b.getD (a + (i : Int)).toNat 0 % 128 * 128 ^ i) ≤ 1152921504606846975)) = false := by simpa only [Bool.not_eq_true', Bool.not_eq_false'] using h16
         replace h16 := of_decide_eq_false h16
         refine T.seq ?_
         refine T.region ?_
         refine TL.cons rfl (Step.assign (p := (.one (.d (.int .i64 0)))) rfl rfl (lt_ok rfl) rfl) ?_
         refine TL.cons rfl (Step.assign (p := (.one (.d (.int .i64 0)))) rfl rfl (lt_ok rfl) rfl) ?_
         refine TL.cons rfl (Step.assign (p := (.one (.d (.int .i64 2)))) rfl rfl (lt_ok rfl) rfl) ?_
         refine TL.nil ?_
         refine T.ret ?_
         exact ⟨[(false, [.d (.int .i64 0)]), (false, [.d (.int .i64 0)]), (false, [.d (.int .i64 2)])], (.cons rfl (.cons rfl (.cons rfl .nil))), rfl, [], (RetC.rd' (by (congr 1; first | (rw [getVar_out (by omega)]; done) | (rw [getVar_in (by omega), ← hx4]; first | (rw [gvGo_short (by omega) (by omega)]; done) | (rw [gvGo_var (by omega) (by omega) (by omega)]; done) | (rw [gvGo_done (by omega) (by omega) (by omega) (by omega) (by omega)]; done) | (rw [gvGo_big (by omega) (by omega) (by omega) (by omega) (by omega)]; done) | (rw [gvGo_end (by omega)]; done)))) (RetC.rd' (by (congr 1; first | (rw [getVar_out (by omega)]; done) | (rw [getVar_in (by omega), ← hx4]; first | (rw [gvGo_short (by omega) (by omega)]; done) | (rw [gvGo_var (by omega) (by omega) (by omega)]; done) | (rw [gvGo_done (by omega) (by omega) (by omega) (by omega) (by omega)]; done) | (rw [gvGo_big (by omega) (by omega) (by omega) (by omega) (by omega)]; done) | (rw [gvGo_end (by omega)]; done)))) (RetC.rd' (by (congr 1; first | (rw [getVar_out (by omega)]; done) | (rw [getVar_in (by omega), ← hx4]; first | (rw [gvGo_short (by omega) (by omega)]; done) | (rw [gvGo_var (by omega) (by omega) (by omega)]; done) | (rw [gvGo_done (by omega) (by omega) (by omega) (by omega) (by omega)]; done) | (rw [gvGo_big (by omega) (by omega) (by omega) (by omega) (by omega)]; done) | (rw [gvGo_end (by omega)]; done)))) .nil)))⟩
        ·
         replace h16 : (decide (0 ≤ (n + b.getD (a + (i : Int)).toNat 0 % 128 * 128 ^ i) ∧ (n + b.getD (a + (i : Int)).toNat 0 % 128 * 128 ^ i) ≤ 1152921504606846975)) = true := by simpa only [Bool.not_eq_true', Bool.not_eq_false'] using h16
         replace h16 := of_decide_eq_true h16
         refine T.skip ?_
         refine T.seq ?_
         refine T.region ?_
         refine TL.cons rfl (Step.move (p := (.one (.d (.int .i64 (n + b.getD (a + (i : Int)).toNat 0 % 128 * 128 ^ i))))) rfl rfl (lt_ok rfl) rfl) ?_
         refine TL.cons rfl (Step.move (p := (.one (.d (.int .i64 a)))) rfl rfl (lt_ok rfl) rfl) ?_
         refine TL.cons rfl (Step.move (p := (.one (.d (.int .i64 (i : Int))))) rfl rfl (lt_ok rfl) rfl) ?_
         refine TL.cons rfl (Step.bin (r := .int .i64 (a + (i : Int))) rfl rfl (lt_ok rfl) rfl rfl (Bin.add (a := a) (b := (i : Int)) (by first | exact wrap_ok (by first | omega | (simp; omega)) (by first | omega | (simp; omega)) | rfl))) ?_
         refine TL.cons rfl (Step.bin (r := .int .i64 ((a + (i : Int)) + 1)) rfl rfl (lt_ok rfl) rfl rfl (Bin.add (a := (a + (i : Int))) (b := 1) (by first | exact wrap_ok (by first | omega | (simp; omega)) (by first | omega | (simp; omega)) | rfl))) ?_
         refine TL.cons rfl (Step.assign (p := (.one (.d (.int .i64 (n + b.getD (a + (i : Int)).toNat 0 % 128 * 128 ^ i))))) rfl rfl (lt_ok rfl) rfl) ?_
         refine TL.cons rfl (Step.assign (p := (.one (.d (.int .i64 ((a + (i : Int)) + 1))))) rfl rfl (lt_ok rfl) rfl) ?_
         refine TL.cons rfl (Step.assign (p := (.one (.d (.int .i64 0)))) rfl rfl (lt_ok rfl) rfl) ?_
         refine TL.nil ?_
         refine T.ret ?_
         exact ⟨[(false, [.d (.int .i64 (n + b.getD (a + (i : Int)).toNat 0 % 128 * 128 ^ i))]), (false, [.d (.int .i64 ((a + (i : Int)) + 1))]), (false, [.d (.int .i64 0)])], (.cons rfl (.cons rfl (.cons rfl .nil))), rfl, [], (RetC.rd' (by (congr 1; first | (rw [getVar_out (by omega)]; done) | (rw [getVar_in (by omega), ← hx4]; first | (rw [gvGo_short (by omega) (by omega)]; done) | (rw [gvGo_var (by omega) (by omega) (by omega)]; done) | (rw [gvGo_done (by omega) (by omega) (by omega) (by omega) (by omega)]; done) | (rw [gvGo_big (by omega) (by omega) (by omega) (by omega) (by omega)]; done) | (rw [gvGo_end (by omega)]; done)))) (RetC.rd' (by (congr 1; first | (rw [getVar_out (by omega)]; done) | (rw [getVar_in (by omega), ← hx4]; first | (rw [gvGo_short (by omega) (by omega)]; done) | (rw [gvGo_var (by omega) (by omega) (by omega)]; done) | (rw [gvGo_done (by omega) (by omega) (by omega) (by omega) (by omega)]; done) | (rw [gvGo_big (by omega) (by omega) (by omega) (by omega) (by omega)]; done) | (rw [gvGo_end (by omega)]; done)))) (RetC.rd' (by (congr 1; first | (rw [getVar_out (by omega)]; done) | (rw [getVar_in (by omega), ← hx4]; first | (rw [gvGo_short (by omega) (by omega)]; done) | (rw [gvGo_var (by omega) (by omega) (by omega)]; done) | (rw [gvGo_done (by omega) (by omega) (by omega) (by omega) (by omega)]; done) | (rw [gvGo_big (by omega) (by omega) (by omega) (by omega) (by omega)]; done) | (rw [gvGo_end (by omega)]; done)))) .nil)))⟩
       ·
        replace h15 := of_decide_eq_false h15
        refine T.skip ?_
        refine T.region ?_
        refine TL.cons rfl (Step.move (p := (.one (.d (.int .i64 (i : Int))))) rfl rfl (lt_ok rfl) rfl) ?_
        refine TL.cons rfl (Step.bin (r := .int .i64 ((i : Int) + 1)) rfl rfl (lt_ok rfl) rfl rfl (Bin.add (a := (i : Int)) (b := 1) (by first | exact wrap_ok (by first | omega | (simp; omega)) (by first | omega | (simp; omega)) | rfl))) ?_
        refine TL.cons rfl (Step.assign (p := (.one (.d (.int .i64 ((i : Int) + 1))))) rfl rfl (lt_ok rfl) rfl) ?_
        refine TL.nil ?_
        exact ⟨(i + 1, n + b.getD (a + (i : Int)).toNat 0 % 128 * 128 ^ i), by (try dsimp only); (refine ⟨by omega, by omega, by rw [Int.pow_succ]; omega, ?_⟩; exact (gvGo_next (n := n) (by omega) (by omega) (by omega) (by omega)).symm.trans hx4), by (dsimp only; omega), Env.le_mk ⟨rfl, rfl, by first | rfl | (refine congrArg (fun n => PV.one (.d (.int .i64 n))) ?_; first | rfl | omega | (simp; done)), by first | rfl | (refine congrArg (fun n => PV.one (.d (.int .i64 n))) ?_; first | rfl | omega | (simp; done)), trivial⟩ trivial trivial⟩
     ·
      refine TL.known 38 hb13 rfl ?_
      have hb13' := hb13
      replace hb13' := of_decide_eq_false hb13'
      refine TL.goff 38 rfl rfl (lt_ok rfl) rfl rfl rfl (lt_ok rfl) ?_
      refine TL.goff 38 rfl rfl (lt_ok rfl) rfl rfl rfl (lt_ok rfl) ?_
      refine TL.gyes 35 rfl rfl (lt_ok rfl) rfl (Step.pick (b := false) (p := (.one (.d (.bool false)))) rfl rfl (lt_ok rfl) rfl rfl) ?_
      refine TL.cons rfl (Step.pick (b := false) (p := (.one (.d (.bool false)))) rfl rfl (lt_ok rfl) rfl rfl) ?_
      refine TL.nil ?_
      refine T.cond (b := false) rfl (fun h17_ => absurd h17_ (by simp)) (fun h17_ => ?_)
      refine T.skip ?_
      refine T.seq ?_
      refine T.region ?_
      refine TL.cons rfl (Step.move (p := (.one (.d (.int .i64 n)))) rfl rfl (lt_ok rfl) rfl) ?_
      refine TL.cons rfl (Step.move (p := (.one (.d (.int .u8 (b.getD (a + (i : Int)).toNat 0))))) rfl rfl (lt_ok rfl) rfl) ?_
      refine TL.cons rfl (Step.bin (r := .int .u8 (b.getD (a + (i : Int)).toNat 0 % 128)) rfl rfl (lt_ok rfl) rfl rfl (Bin.and (k := .u8) (a := (b.getD (a + (i : Int)).toNat 0)) (b := 127) (and127 hu_.1 hu_.2))) ?_
      refine TL.cons rfl (Step.conv (c := (b.getD (a + (i : Int)).toNat 0 % 128)) rfl rfl (lt_ok rfl) (by kernel_rfl) (by kernel_rfl) rfl (wrap_ok (by first | omega | (simp; omega)) (by first | omega | (simp; omega)))) ?_
      refine TL.cons rfl (Step.move (p := (.one (.d (.int .i64 (i : Int))))) rfl rfl (lt_ok rfl) rfl) ?_
      refine TL.cons rfl (Step.bin (r := .int .i64 (7 * (i : Int))) rfl rfl (lt_ok rfl) rfl rfl (Bin.mul (a := 7) (b := (i : Int)) (by first | exact wrap_ok (by first | omega | (simp; omega)) (by first | omega | (simp; omega)) | rfl))) ?_
      refine TL.cons rfl (Step.bin (r := .int .i64 (b.getD (a + (i : Int)).toNat 0 % 128 * 128 ^ i)) rfl rfl (lt_ok rfl) rfl rfl (Bin.shl (k := .i64) (k' := .i64) (a := (b.getD (a + (i : Int)).toNat 0 % 128)) (b := (7 * (i : Int))) (by first | omega | (simp; omega)) (shl_var (by omega) (by omega) (by omega)))) ?_
      refine TL.cons rfl (Step.bin (r := .int .i64 (n + b.getD (a + (i : Int)).toNat 0 % 128 * 128 ^ i)) rfl rfl (lt_ok rfl) rfl rfl (Bin.or (k := .i64) (a := n) (b := (b.getD (a + (i : Int)).toNat 0 % 128 * 128 ^ i)) (or_add (by omega) (by omega) (by omega) (by omega) (by omega)))) ?_
      refine TL.cons rfl (Step.assign (p := (.one (.d (.int .i64 (n + b.getD (a + (i : Int)).toNat 0 % 128 * 128 ^ i))))) rfl rfl (lt_ok rfl) rfl) ?_
      refine TL.nil ?_
      refine T.seq ?_
      refine T.region ?_
      refine TL.cons rfl (Step.move (p := (.one (.d (.int .u8 (b.getD (a + (i : Int)).toNat 0))))) rfl rfl (lt_ok rfl) rfl) ?_
      refine TL.cons rfl (Step.bin rfl rfl (lt_ok rfl) rfl rfl (Bin.lss (k := .u8) (a := (b.getD (a + (i : Int)).toNat 0)) (b := 128))) ?_
      refine TL.nil ?_
      refine T.cond (b := decide ((b.getD (a + (i : Int)).toNat 0) < 128)) rfl (fun h18 => ?_) (fun h18 => ?_)
      ·
       replace h18 := of_decide_eq_true h18
       refine T.seq ?_
       refine T.seq ?_
       refine T.region ?_
       refine TL.cons rfl (Step.move (p := (.one (.d (.int .i64 (n + b.getD (a + (i : Int)).toNat 0 % 128 * 128 ^ i))))) rfl rfl (lt_ok rfl) rfl) ?_
       refine TL.cons rfl (Step.call (f := 147) (xs := [.tmp 53]) (ps := [(.one (.d (.int .i64 (n + b.getD (a + (i : Int)).toNat 0 % 128 * 128 ^ i))))]) false (g := .func 147) rfl rfl (lt_ok rfl) rfl (by kernel_rfl) rfl (.cons (.one (.d _)) .nil) (ok_impl_isNum (n + b.getD (a + (i : Int)).toNat 0 % 128 * 128 ^ i)) (.inr rfl) rfl (by simp) rfl) ?_
       refine TL.cons rfl (Step.not (b := (decide (0 ≤ (n + b.getD (a + (i : Int)).toNat 0 % 128 * 128 ^ i) ∧ (n + b.getD (a + (i : Int)).toNat 0 % 128 * 128 ^ i) ≤ 1152921504606846975))) rfl rfl (lt_ok rfl) rfl) ?_
       refine TL.nil ?_
       refine T.cond (b := !(decide (0 ≤ (n + b.getD (a + (i : Int)).toNat 0 % 128 * 128 ^ i) ∧ (n + b.getD (a + (i : Int)).toNat 0 % 128 * 128 ^ i) ≤ 1152921504606846975))) rfl (fun h19 => ?_) (fun h19 => ?_)
       ·
        replace h19 : (decide (0 ≤ (n + b.getD (a + (i : Int)).toNat 0 % 128 * 128 ^ i) ∧ (n + b.getD (a + (i : Int)).toNat 0 % 128 * 128 ^ i) ≤ 1152921504606846975)) = false := by simpa only [Bool.not_eq_true', Bool.not_eq_false'] using h19
        replace h19 := of_decide_eq_false h19
        refine T.seq ?_
        refine T.region ?_
        refine TL.cons rfl (Step.assign (p := (.one (.d (.int .i64 0)))) rfl rfl (lt_ok rfl) rfl) ?_
        refine TL.cons rfl (Step.assign (p := (.one (.d (.int .i64 0)))) rfl rfl (lt_ok rfl) rfl) ?_
        refine TL.cons rfl (Step.assign (p := (.one (.d (.int .i64 2)))) rfl rfl (lt_ok rfl) rfl) ?_
        refine TL.nil ?_
        refine T.ret ?_
        exact ⟨[(false, [.d (.int .i64 0)]), (false, [.d (.int .i64 0)]), (false, [.d (.int .i64 2)])], (.cons rfl (.cons rfl (.cons rfl .nil))), rfl, [], (RetC.rd' (by (congr 1; first | (rw [getVar_out (by omega)]; done) | (rw [getVar_in (by omega), ← hx4]; first | (rw [gvGo_short (by omega) (by omega)]; done) | (rw [gvGo_var (by omega) (by omega) (by omega)]; done) | (rw [gvGo_done (by omega) (by omega) (by omega) (by omega) (by omega)]; done) | (rw [gvGo_big (by omega) (by omega) (by omega) (by omega) (by omega)]; done) | (rw [gvGo_end (by omega)]; done)))) (RetC.rd' (by (congr 1; first | (rw [getVar_out (by omega)]; done) | (rw [getVar_in (by omega), ← hx4]; first | (rw [gvGo_short (by omega) (by omega)]; done) | (rw [gvGo_var (by omega) (by omega) (by omega)]; done) | (rw [gvGo_done (by omega) (by omega) (by omega) (by omega) (by omega)]; done) | (rw [gvGo_big (by omega) (by omega) (by omega) (by omega) (by omega)]; done) | (rw [gvGo_end (by omega)]; done)))) (RetC.rd' (by (congr 1; first | (rw [getVar_out (by omega)]; done) | (rw [getVar_in (by omega), ← hx4]; first | (rw [gvGo_short (by omega) (by omega)]; done) | (rw [gvGo_var (by omega) (by omega) (by omega)]; done) | (rw [gvGo_done (by omega) (by omega) (by omega) (by omega) (by omega)]; done) | (rw [gvGo_big (by omega) (by omega) (by omega) (by omega) (by omega)]; done) | (rw [gvGo_end (by omega)]; done)))) .nil)))⟩
       ·
        replace h19 : (decide (0 ≤ (n + b.getD (a + (i : Int)).toNat 0 % 128 * 128 ^ i) ∧ (n + b.getD (a + (i : Int)).toNat 0 % 128 * 128 ^ i) ≤ 1152921504606846975)) = true := by simpa only [Bool.not_eq_true', Bool.not_eq_false'] using h19
        replace h19 := of_decide_eq_true h19
        refine T.skip ?_
        refine T.seq ?_
        refine T.region ?_
        refine TL.cons rfl (Step.move (p := (.one (.d (.int .i64 (n + b.getD (a + (i : Int)).toNat 0 % 128 * 128 ^ i))))) rfl rfl (lt_ok rfl) rfl) ?_
        refine TL.cons rfl (Step.move (p := (.one (.d (.int .i64 a)))) rfl rfl (lt_ok rfl) rfl) ?_
        refine TL.cons rfl (Step.move (p := (.one (.d (.int .i64 (i : Int))))) rfl rfl (lt_ok rfl) rfl) ?_
        refine TL.cons rfl (Step.bin (r := .int .i64 (a + (i : Int))) rfl rfl (lt_ok rfl) rfl rfl (Bin.add (a := a) (b := (i : Int)) (by first | exact wrap_ok (by first | omega | (simp; omega)) (by first | omega | (simp; omega)) | rfl))) ?_
        refine TL.cons rfl (Step.bin (r := .int .i64 ((a + (i : Int)) + 1)) rfl rfl (lt_ok rfl) rfl rfl (Bin.add (a := (a + (i : Int))) (b := 1) (by first | exact wrap_ok (by first | omega | (simp; omega)) (by first | omega | (simp; omega)) | rfl))) ?_
        refine TL.cons rfl (Step.assign (p := (.one (.d (.int .i64 (n + b.getD (a + (i : Int)).toNat 0 % 128 * 128 ^ i))))) rfl rfl (lt_ok rfl) rfl) ?_
        refine TL.cons rfl (Step.assign (p := (.one (.d (.int .i64 ((a + (i : Int)) + 1))))) rfl rfl (lt_ok rfl) rfl) ?_
        refine TL.cons rfl (Step.assign (p := (.one (.d (.int .i64 0)))) rfl rfl (lt_ok rfl) rfl) ?_
        refine TL.nil ?_
        refine T.ret ?_
        exact ⟨[(false, [.d (.int .i64 (n + b.getD (a + (i : Int)).toNat 0 % 128 * 128 ^ i))]), (false, [.d (.int .i64 ((a + (i : Int)) + 1))]), (false, [.d (.int .i64 0)])], (.cons rfl (.cons rfl (.cons rfl .nil))), rfl, [], (RetC.rd' (by (congr 1; first | (rw [getVar_out (by omega)]; done) | (rw [getVar_in (by omega), ← hx4]; first | (rw [gvGo_short (by omega) (by omega)]; done) | (rw [gvGo_var (by omega) (by omega) (by omega)]; done) | (rw [gvGo_done (by omega) (by omega) (by omega) (by omega) (by omega)]; done) | (rw [gvGo_big (by omega) (by omega) (by omega) (by omega) (by omega)]; done) | (rw [gvGo_end (by omega)]; done)))) (RetC.rd' (by (congr 1; first | (rw [getVar_out (by omega)]; done) | (rw [getVar_in (by omega), ← hx4]; first | (rw [gvGo_short (by omega) (by omega)]; done) | (rw [gvGo_var (by omega) (by omega) (by omega)]; done) | (rw [gvGo_done (by omega) (by omega) (by omega) (by omega) (by omega)]; done) | (rw [gvGo_big (by omega) (by omega) (by omega) (by omega) (by omega)]; done) | (rw [gvGo_end (by omega)]; done)))) (RetC.rd' (by (congr 1; first | (rw [getVar_out (by omega)]; done) | (rw [getVar_in (by omega), ← hx4]; first | (rw [gvGo_short (by omega) (by omega)]; done) | (rw [gvGo_var (by omega) (by omega) (by omega)]; done) | (rw [gvGo_done (by omega) (by omega) (by omega) (by omega) (by omega)]; done) | (rw [gvGo_big (by omega) (by omega) (by omega) (by omega) (by omega)]; done) | (rw [gvGo_end (by omega)]; done)))) .nil)))⟩
      ·
       replace h18 := of_decide_eq_false h18
       refine T.skip ?_
       refine T.region ?_
       refine TL.cons rfl (Step.move (p := (.one (.d (.int .i64 (i : Int))))) rfl rfl (lt_ok rfl) rfl) ?_
       refine TL.cons rfl (Step.bin (r := .int .i64 ((i : Int) + 1)) rfl rfl (lt_ok rfl) rfl rfl (Bin.add (a := (i : Int)) (b := 1) (by first | exact wrap_ok (by first | omega | (simp; omega)) (by first | omega | (simp; omega)) | rfl))) ?_
       refine TL.cons rfl (Step.assign (p := (.one (.d (.int .i64 ((i : Int) + 1))))) rfl rfl (lt_ok rfl) rfl) ?_
       refine TL.nil ?_
       exact ⟨(i + 1, n + b.getD (a + (i : Int)).toNat 0 % 128 * 128 ^ i), by (try dsimp only); (refine ⟨by omega, by omega, by rw [Int.pow_succ]; omega, ?_⟩; exact (gvGo_next (n := n) (by omega) (by omega) (by omega) (by omega)).symm.trans hx4), by (dsimp only; omega), Env.le_mk ⟨rfl, rfl, by first | rfl | (refine congrArg (fun n => PV.one (.d (.int .i64 n))) ?_; first | rfl | omega | (simp; done)), by first | rfl | (refine congrArg (fun n => PV.one (.d (.int .i64 n))) ?_; first | rfl | omega | (simp; done)), trivial⟩ trivial trivial⟩
theorem ok_impl_reader__num (b : List Int) (s : SRS) (h0_ : U8s b) (h1_ : b.length ≤ 1048576) : BX Try.prog 167 [.bx] 184 [.rd (.ints .u8 b), .rd (.int .i64 s.f0), .rd (.int .i64 s.f1)] [.rd (.ints .u8 b), .rd (.int .i64 (rdNum b s).1.f0), .rd (.int .i64 (rdNum b s).1.f1)] [(false, [.rd (.int .i64 (rdNum b s).2)])] := by
 refine BX.intro Try.func167 rfl 33 rfl (le_ok rfl) (le_ok rfl) fun w Z IX pin hp => ?_
 refine T.seq ?_
 refine T.region ?_
 refine TL.cons rfl (Step.assign (p := (.one (.d (.int .i64 0)))) rfl rfl (lt_ok rfl) rfl) ?_
 refine TL.nil ?_
 refine T.seq ?_
 refine T.seq ?_
 refine T.region ?_
 refine TL.cons rfl (Step.move (p := (.one (.ptr 800 0))) rfl rfl (lt_ok rfl) rfl) ?_
 refine TL.cons rfl (Step.nilCheck rfl rfl (lt_ok rfl) rfl) ?_
 refine TL.cons rfl (Step.fieldAddr (q := 0) (off := 2) (n := 1) (one := true) rfl rfl (lt_ok rfl) (by kernel_rfl) (Nat.succ_ne_zero _) rfl) ?_
 refine TL.cons rfl (Step.load_box (c := .d (.int .i64 s.f1)) rfl rfl (lt_ok rfl) (by kernel_rfl) rfl rfl rfl) ?_
 refine TL.cons rfl (Step.bin rfl rfl (lt_ok rfl) rfl rfl (Bin.neq (k := .i64) (a := s.f1) (b := 0))) ?_
 refine TL.nil ?_
 refine T.cond (b := decide (s.f1 ≠ 0)) rfl (fun h1 => ?_) (fun h1 => ?_)
 ·
  replace h1 := of_decide_eq_true h1
  refine T.seq ?_
  refine T.region ?_
  refine TL.cons rfl (Step.assign (p := (.one (.d (.int .i64 0)))) rfl rfl (lt_ok rfl) rfl) ?_
  refine TL.nil ?_
  refine T.ret ?_
  exact ⟨[.d (.ints .u8 b), .d (.int .i64 s.f0), .d (.int .i64 s.f1)], [(false, [.d (.int .i64 0)])], rfl, rfl, (.cons rfl .nil), rfl, [], (RetC.rd' (by first | rfl | (congr 1; unfold rdNum; first | (rw [if_pos (by omega)]; done) | (rw [if_neg (by omega)]; done)) | (simp only [D.size]; unfold rdNum; rw [if_neg (by omega)]; rfl)) (RetC.rd' (by first | rfl | (congr 1; unfold rdNum; first | (rw [if_pos (by omega)]; done) | (rw [if_neg (by omega)]; done)) | (simp only [D.size]; unfold rdNum; rw [if_neg (by omega)]; rfl)) (RetC.rd' (by first | rfl | (congr 1; unfold rdNum; first | (rw [if_pos (by omega)]; done) | (rw [if_neg (by omega)]; done)) | (simp only [D.size]; unfold rdNum; rw [if_neg (by omega)]; rfl)) (RetC.rd' (by first | rfl | (congr 1; unfold rdNum; first | (rw [if_pos (by omega)]; done) | (rw [if_neg (by omega)]; done)) | (simp only [D.size]; unfold rdNum; rw [if_neg (by omega)]; rfl)) .nil))))⟩
 ·
  replace h1 := of_decide_eq_false h1
  refine T.skip ?_
  refine T.seq ?_
  have nn2 := @getVar_bd b (by assumption) s.f0
  refine T.draw [⟨12, (.one (.ptr 800 0)), []⟩, ⟨13, (.one (.ptr 800 0)), []⟩, ⟨14, (.one (.ptr 800 0)), []⟩, ⟨15, (.one (.d (.ints .u8 b))), []⟩, ⟨16, (.one (.ptr 800 0)), []⟩, ⟨17, (.one (.ptr 800 0)), []⟩, ⟨18, (.one (.ptr 800 1)), []⟩, ⟨19, (.one (.d (.int .i64 s.f0))), []⟩, ⟨20, (.tup [(false, [.d (.int .i64 (getVar b s.f0).1)]), (false, [.d (.int .i64 (getVar b s.f0).2.1)]), (false, [.d (.int .i64 (getVar b s.f0).2.2)])]), []⟩, ⟨11, (.tup [(false, [.d (.int .i64 (getVar b s.f0).1)]), (false, [.d (.int .i64 (getVar b s.f0).2.1)]), (false, [.d (.int .i64 (getVar b s.f0).2.2)])]), []⟩, ⟨21, (.one (.d (.int .i64 (getVar b s.f0).1))), []⟩, ⟨22, (.one (.d (.int .i64 (getVar b s.f0).2.1))), []⟩, ⟨23, (.one (.d (.int .i64 (getVar b s.f0).2.2))), []⟩, ⟨3, (.one (.d (.int .i64 (getVar b s.f0).1))), []⟩, ⟨4, (.one (.d (.int .i64 (getVar b s.f0).2.1))), []⟩, ⟨5, (.one (.d (.int .i64 (getVar b s.f0).2.2))), []⟩] (by kernel_rfl) (by kernel_rfl) ?_ ?_
  ·
   refine .cons (fun E hA_ => by have g0 := hA_.get 0 (by decide); exact OpStep.plain rfl (Step.move (p := (.one (.ptr 800 0))) (t := 12) rfl rfl (by exact lt_ok rfl) (show Env.ev E (.tmp 0) = _ from g0.trans rfl))) ?_
   refine .cons (fun E hA_ => by have g12 := hA_.get 12 (by decide); exact OpStep.plain rfl (Step.nilCheck (t := 13) rfl rfl (by exact lt_ok rfl) (show Env.ev E (.tmp 12) = _ from g12.trans rfl))) ?_
   refine .cons (fun E hA_ => by have g13 := hA_.get 13 (by decide); exact OpStep.plain rfl (Step.fieldAddr (q := 0) (off := 0) (n := 1) (one := true) (t := 14) rfl rfl (by exact lt_ok rfl) (by kernel_rfl) (Nat.succ_ne_zero _) (show Env.ev E (.tmp 13) = _ from g13.trans rfl))) ?_
   refine .cons (fun E hA_ => by have g14 := hA_.get 14 (by decide); exact OpStep.plain rfl (Step.load_box (c := .d (.ints .u8 b)) (t := 15) rfl rfl (by exact lt_ok rfl) (by kernel_rfl) (show Env.ev E (.tmp 14) = _ from g14.trans rfl) (by exact hA_.box rfl) rfl)) ?_
   refine .cons (fun E hA_ => by have g0 := hA_.get 0 (by decide); exact OpStep.plain rfl (Step.move (p := (.one (.ptr 800 0))) (t := 16) rfl rfl (by exact lt_ok rfl) (show Env.ev E (.tmp 0) = _ from g0.trans rfl))) ?_
   refine .cons (fun E hA_ => by have g16 := hA_.get 16 (by decide); exact OpStep.plain rfl (Step.nilCheck (t := 17) rfl rfl (by exact lt_ok rfl) (show Env.ev E (.tmp 16) = _ from g16.trans rfl))) ?_
   refine .cons (fun E hA_ => by have g17 := hA_.get 17 (by decide); exact OpStep.plain rfl (Step.fieldAddr (q := 0) (off := 1) (n := 1) (one := true) (t := 18) rfl rfl (by exact lt_ok rfl) (by kernel_rfl) (Nat.succ_ne_zero _) (show Env.ev E (.tmp 17) = _ from g17.trans rfl))) ?_
   refine .cons (fun E hA_ => by have g18 := hA_.get 18 (by decide); exact OpStep.plain rfl (Step.load_box (c := .d (.int .i64 s.f0)) (t := 19) rfl rfl (by exact lt_ok rfl) (by kernel_rfl) (show Env.ev E (.tmp 18) = _ from g18.trans rfl) (by exact hA_.box rfl) rfl)) ?_
   refine .cons (fun E hA_ => by have g15 := hA_.get 15 (by decide); have g19 := hA_.get 19 (by decide); exact OpStep.plain rfl (Step.call (f := 178) (xs := [.tmp 15, .tmp 19]) (ps := [(.one (.d (.ints .u8 b))), (.one (.d (.int .i64 s.f0)))]) false (g := .func 178) (t := 20) rfl rfl (by exact lt_ok rfl) rfl (by kernel_rfl) (evs_cons (show Env.ev E (.tmp 15) = _ from g15.trans rfl) (evs_cons (show Env.ev E (.tmp 19) = _ from g19.trans rfl) (rfl))) (.cons (.one (.d _)) (.cons (.one (.d _)) .nil)) (ok_impl_GetVar b s.f0 (by assumption) (by first | omega | assumption | (simp only [List.length_append] at *; omega))) (.inr rfl) (At.freshRows hA_ rfl) (fun x hx => by have := hp x hx; omega) rfl)) ?_
   refine .cons (fun E hA_ => by have g20 := hA_.get 20 (by decide); exact OpStep.plain rfl (Step.move (p := (.tup [(false, [.d (.int .i64 (getVar b s.f0).1)]), (false, [.d (.int .i64 (getVar b s.f0).2.1)]), (false, [.d (.int .i64 (getVar b s.f0).2.2)])])) (t := 11) rfl rfl (by exact lt_ok rfl) (show Env.ev E (.tmp 20) = _ from g20.trans rfl))) ?_
   refine .cons (fun E hA_ => by have g11 := hA_.get 11 (by decide); exact OpStep.plain rfl (Step.extract (p := (.one (.d (.int .i64 (getVar b s.f0).1)))) (t := 21) rfl rfl (by exact lt_ok rfl) (show Env.ev E (.tmp 11) = _ from g11.trans rfl) rfl)) ?_
   refine .cons (fun E hA_ => by have g11 := hA_.get 11 (by decide); exact OpStep.plain rfl (Step.extract (p := (.one (.d (.int .i64 (getVar b s.f0).2.1)))) (t := 22) rfl rfl (by exact lt_ok rfl) (show Env.ev E (.tmp 11) = _ from g11.trans rfl) rfl)) ?_
   refine .cons (fun E hA_ => by have g11 := hA_.get 11 (by decide); exact OpStep.plain rfl (Step.extract (p := (.one (.d (.int .i64 (getVar b s.f0).2.2)))) (t := 23) rfl rfl (by exact lt_ok rfl) (show Env.ev E (.tmp 11) = _ from g11.trans rfl) rfl)) ?_
   refine .cons (fun E hA_ => by have g21 := hA_.get 21 (by decide); exact OpStep.plain rfl (Step.assign (p := (.one (.d (.int .i64 (getVar b s.f0).1)))) (t := 3) rfl rfl (by exact lt_ok rfl) (show Env.ev E (.tmp 21) = _ from g21.trans rfl))) ?_
   refine .cons (fun E hA_ => by have g22 := hA_.get 22 (by decide); exact OpStep.plain rfl (Step.assign (p := (.one (.d (.int .i64 (getVar b s.f0).2.1)))) (t := 4) rfl rfl (by exact lt_ok rfl) (show Env.ev E (.tmp 22) = _ from g22.trans rfl))) ?_
   refine .cons (fun E hA_ => by have g23 := hA_.get 23 (by decide); exact OpStep.plain rfl (Step.assign (p := (.one (.d (.int .i64 (getVar b s.f0).2.2)))) (t := 5) rfl rfl (by exact lt_ok rfl) (show Env.ev E (.tmp 23) = _ from g23.trans rfl))) ?_
   exact .nil _ _
  refine TL.nil ?_
  refine T.seq ?_
  refine T.region ?_
  refine TL.cons rfl (Step.move (p := (.one (.ptr 800 0))) rfl rfl (lt_ok rfl) rfl) ?_
  refine TL.cons rfl (Step.move (p := (.one (.ptr 800 0))) rfl rfl (lt_ok rfl) rfl) ?_
  refine TL.cons rfl (Step.move (p := (.one (.d (.int .i64 (getVar b s.f0).2.1)))) rfl rfl (lt_ok rfl) rfl) ?_
  refine TL.cons rfl (Step.move (p := (.one (.d (.int .i64 (getVar b s.f0).2.2)))) rfl rfl (lt_ok rfl) rfl) ?_
  refine TL.cons rfl (Step.nilCheck rfl rfl (lt_ok rfl) rfl) ?_
  refine TL.cons rfl (Step.fieldAddr (q := 0) (off := 1) (n := 1) (one := true) rfl rfl (lt_ok rfl) (by kernel_rfl) (Nat.succ_ne_zero _) rfl) ?_
  refine TL.cons rfl (Step.store_box (n := 1) (p := (.one (.d (.int .i64 (getVar b s.f0).2.1)))) (qs := [.d (.int .i64 (getVar b s.f0).2.1)]) (ps' := [.d (.ints .u8 b), .d (.int .i64 (getVar b s.f0).2.1), .d (.int .i64 s.f1)]) rfl rfl (by kernel_rfl) rfl rfl rfl rfl rfl rfl (le_ok rfl) rfl) ?_
  refine TL.cons rfl (Step.nilCheck rfl rfl (lt_ok rfl) rfl) ?_
  refine TL.cons rfl (Step.fieldAddr (q := 0) (off := 2) (n := 1) (one := true) rfl rfl (lt_ok rfl) (by kernel_rfl) (Nat.succ_ne_zero _) rfl) ?_
  refine TL.cons rfl (Step.store_box (n := 1) (p := (.one (.d (.int .i64 (getVar b s.f0).2.2)))) (qs := [.d (.int .i64 (getVar b s.f0).2.2)]) (ps' := [.d (.ints .u8 b), .d (.int .i64 (getVar b s.f0).2.1), .d (.int .i64 (getVar b s.f0).2.2)]) rfl rfl (by kernel_rfl) rfl rfl rfl rfl rfl rfl (le_ok rfl) rfl) ?_
  refine TL.nil ?_
  refine T.seq ?_
  refine T.region ?_
  refine TL.cons rfl (Step.move (p := (.one (.d (.int .i64 (getVar b s.f0).1)))) rfl rfl (lt_ok rfl) rfl) ?_
  refine TL.cons rfl (Step.assign (p := (.one (.d (.int .i64 (getVar b s.f0).1)))) rfl rfl (lt_ok rfl) rfl) ?_
  refine TL.nil ?_
  refine T.ret ?_
  exact ⟨[.d (.ints .u8 b), .d (.int .i64 (getVar b s.f0).2.1), .d (.int .i64 (getVar b s.f0).2.2)], [(false, [.d (.int .i64 (getVar b s.f0).1)])], rfl, rfl, (.cons rfl .nil), rfl, [], (RetC.rd' (by first | rfl | (congr 1; unfold rdNum; first | (rw [if_pos (by omega)]; done) | (rw [if_neg (by omega)]; done)) | (simp only [D.size]; unfold rdNum; rw [if_neg (by omega)]; rfl)) (RetC.rd' (by first | rfl | (congr 1; unfold rdNum; first | (rw [if_pos (by omega)]; done) | (rw [if_neg (by omega)]; done)) | (simp only [D.size]; unfold rdNum; rw [if_neg (by omega)]; rfl)) (RetC.rd' (by first | rfl | (congr 1; unfold rdNum; first | (rw [if_pos (by omega)]; done) | (rw [if_neg (by omega)]; done)) | (simp only [D.size]; unfold rdNum; rw [if_neg (by omega)]; rfl)) (RetC.rd' (by first | rfl | (congr 1; unfold rdNum; first | (rw [if_pos (by omega)]; done) | (rw [if_neg (by omega)]; done)) | (simp only [D.size]; unfold rdNum; rw [if_neg (by omega)]; rfl)) .nil))))⟩
theorem ok_impl_copyBytes (a : List Int) (h0_ : a.length ≤ 17592186044416) : RO Try.prog 83 [.one (.ints .u8 a)] [(false, [.own 5 (.ints .u8 a)])] := by
 refine RO.intro Try.func83 rfl 6 rfl (le_ok rfl) fun w Z => ?_
 refine T.bnd 0 0 rfl rfl fun hb_0_0 => ?_
 simp only [D.size, List.length_map] at hb_0_0
 refine T.seq ?_
 refine T.region ?_
 refine TL.cons rfl (Step.assign (p := (.one (.nil))) rfl rfl (lt_ok rfl) rfl) ?_
 refine TL.nil ?_
 refine T.seq ?_
 refine T.region ?_
 refine TL.cons rfl (Step.lit (e := 5) (z := 1) (by_ := 1) (xs := []) (pss := []) (es := []) (ss := []) (d := (.ints .u8 [])) rfl rfl (lt_ok rfl) (by kernel_rfl) rfl rfl .nil (by simp) (le_ok rfl) (le_ok rfl) rfl .nil rfl (by simp) (by simp) rfl trivial rfl rfl) ?_
 refine TL.cons rfl (Step.move (p := (.one (.d (.ints .u8 a)))) rfl rfl (lt_ok rfl) rfl) ?_
 refine TL.cons rfl (Step.append (e := 5) (z := 1) (by_ := 1) (d := (.ints .u8 [])) (dy := (.ints .u8 a)) (d' := (.ints .u8 ([] ++ a))) (ss := []) rfl rfl (lt_ok rfl) (by kernel_rfl) rfl rfl rfl (lt_ok rfl) rfl (.froz rfl (by simp [D.flat, D.val])) (by simp) rfl (by simp only [D.size, List.length_map]; first | omega | (simp; omega) | (simp only [List.length_append] at *; omega)) (by simp only [D.size, List.length_map]; first | omega | (simp; omega) | (simp only [List.length_append] at *; omega)) (by simp)) ?_
 refine TL.cons rfl (Step.assign (p := (.one (.row 3 []))) rfl rfl (lt_ok rfl) rfl) ?_
 refine TL.nil ?_
 refine T.ret ?_
 exact ⟨[(false, [.row 3 []])], (.cons rfl .nil), rfl, [3], (RetC.own' rfl (by rfl) rfl .nil)⟩
theorem ok_impl_GetRaw (b : List Int) (a : Int) (n : Int) (h0_ : b.length ≤ 1099511627776) : RO Try.prog 182 [.one (.ints .u8 b), .one (.int .i64 a), .one (.int .i64 n)] [(false, [.own 5 (.ints .u8 (getRaw b a n).1)]), (false, [.rd (.int .i64 (getRaw b a n).2.1)]), (false, [.rd (.int .i64 (getRaw b a n).2.2)])] := by
 refine RO.intro Try.func182 rfl 33 rfl (le_ok rfl) fun w Z => ?_
 refine T.bnd 0 0 rfl rfl fun hb_0_0 => ?_
 simp only [D.size, List.length_map] at hb_0_0
 refine T.seq ?_
 refine T.region ?_
 refine TL.cons rfl (Step.assign (p := (.one (.nil))) rfl rfl (lt_ok rfl) rfl) ?_
 refine TL.cons rfl (Step.assign (p := (.one (.d (.int .i64 0)))) rfl rfl (lt_ok rfl) rfl) ?_
 refine TL.cons rfl (Step.assign (p := (.one (.d (.int .i64 0)))) rfl rfl (lt_ok rfl) rfl) ?_
 refine TL.nil ?_
 refine T.seq ?_
 refine T.seq ?_
 refine T.region ?_
 refine TL.cons rfl (Step.move (p := (.one (.d (.int .i64 a)))) rfl rfl (lt_ok rfl) rfl) ?_
 refine TL.cons rfl (Step.move (p := (.one (.d (.ints .u8 b)))) rfl rfl (lt_ok rfl) rfl) ?_
 refine TL.cons rfl (Step.len (e := 5) (z := 1) (d := (.ints .u8 b)) rfl rfl (lt_ok rfl) (by kernel_rfl) rfl rfl) ?_
 refine TL.cons rfl (Step.call (f := 144) (xs := [.tmp 9, .const (.int .i64 0), .tmp 11]) (ps := [(.one (.d (.int .i64 a))), (.one (.d (.int .i64 0))), (.one (.d (.int .i64 (b.length : Int))))]) false (g := .func 144) rfl rfl (lt_ok rfl) rfl (by kernel_rfl) rfl (.cons (.one (.d _)) (.cons (.one (.d _)) (.cons (.one (.d _)) .nil))) (ok_impl_within a 0 (b.length : Int)) (.inr rfl) rfl (by simp) rfl) ?_
 refine TL.cons rfl (Step.not (b := (decide (0 ≤ a ∧ a ≤ (b.length : Int)))) rfl rfl (lt_ok rfl) rfl) ?_
 refine TL.cons rfl (Step.move (p := (.one (.d (.bool (!(decide (0 ≤ a ∧ a ≤ (b.length : Int)))))))) rfl rfl (lt_ok rfl) rfl) ?_
 rcases Bool.eq_false_or_eq_true (!(decide (0 ≤ a ∧ a ≤ (b.length : Int)))) with hb1 | hb1
 ·
  refine TL.known 14 hb1 rfl ?_
  have hb1' := hb1
  replace hb1' : (decide (0 ≤ a ∧ a ≤ (b.length : Int))) = false := by simpa only [Bool.not_eq_true', Bool.not_eq_false'] using hb1'
  replace hb1' := of_decide_eq_false hb1'
  refine TL.goff 14 rfl rfl (lt_ok rfl) rfl rfl rfl (lt_ok rfl) ?_
  refine TL.goff 14 rfl rfl (lt_ok rfl) rfl rfl rfl (lt_ok rfl) ?_
  refine TL.goff 14 rfl rfl (lt_ok rfl) rfl rfl rfl (lt_ok rfl) ?_
  refine TL.goff 14 rfl rfl (lt_ok rfl) rfl rfl rfl (lt_ok rfl) ?_
  refine TL.goff 14 rfl rfl (lt_ok rfl) rfl rfl rfl (lt_ok rfl) ?_
  refine TL.goff 14 rfl rfl (lt_ok rfl) rfl rfl rfl (lt_ok rfl) ?_
  refine TL.goff 14 rfl rfl (lt_ok rfl) rfl rfl rfl (lt_ok rfl) ?_
  refine TL.cons rfl (Step.pick (b := true) (p := (.one (.d (.bool true)))) rfl rfl (lt_ok rfl) rfl rfl) ?_
  refine TL.nil ?_
  refine T.cond (b := true) rfl (fun h2_ => ?_) (fun h2_ => absurd h2_ (by simp))
  refine T.seq ?_
  refine T.region ?_
  refine TL.cons rfl (Step.assign (p := (.one (.nil))) rfl rfl (lt_ok rfl) rfl) ?_
  refine TL.cons rfl (Step.assign (p := (.one (.d (.int .i64 0)))) rfl rfl (lt_ok rfl) rfl) ?_
  refine TL.cons rfl (Step.assign (p := (.one (.d (.int .i64 1)))) rfl rfl (lt_ok rfl) rfl) ?_
  refine TL.nil ?_
  refine T.ret ?_
  exact ⟨[(false, [.nil]), (false, [.d (.int .i64 0)]), (false, [.d (.int .i64 1)])], (.cons rfl (.cons rfl (.cons rfl .nil))), rfl, [], (RetC.nilown' rfl (by first | (congr 1; unfold getRaw; first | (rw [if_pos (by omega)]; done) | (rw [if_neg (by omega)]; done)) | (simp only [D.size]; unfold getRaw; rw [if_neg (by omega)]; rfl)) (by first | exact trivial | exact D.wf_nil _) (RetC.rd' (by first | (congr 1; unfold getRaw; first | (rw [if_pos (by omega)]; done) | (rw [if_neg (by omega)]; done)) | (simp only [D.size]; unfold getRaw; rw [if_neg (by omega)]; rfl)) (RetC.rd' (by first | (congr 1; unfold getRaw; first | (rw [if_pos (by omega)]; done) | (rw [if_neg (by omega)]; done)) | (simp only [D.size]; unfold getRaw; rw [if_neg (by omega)]; rfl)) .nil)))⟩
 ·
  refine TL.known 14 hb1 rfl ?_
  have hb1' := hb1
  replace hb1' : (decide (0 ≤ a ∧ a ≤ (b.length : Int))) = true := by simpa only [Bool.not_eq_true', Bool.not_eq_false'] using hb1'
  replace hb1' := of_decide_eq_true hb1'
  refine TL.gyes 14 rfl rfl (lt_ok rfl) rfl (Step.move (p := (.one (.d (.int .i64 n)))) rfl rfl (lt_ok rfl) rfl) ?_
  refine TL.gyes 14 rfl rfl (lt_ok rfl) rfl (Step.move (p := (.one (.d (.ints .u8 b)))) rfl rfl (lt_ok rfl) rfl) ?_
  refine TL.gyes 14 rfl rfl (lt_ok rfl) rfl (Step.len (e := 5) (z := 1) (d := (.ints .u8 b)) rfl rfl (lt_ok rfl) (by kernel_rfl) rfl rfl) ?_
  refine TL.gyes 14 rfl rfl (lt_ok rfl) rfl (Step.move (p := (.one (.d (.int .i64 a)))) rfl rfl (lt_ok rfl) rfl) ?_
  refine TL.gyes 14 rfl rfl (lt_ok rfl) rfl (Step.bin (r := .int .i64 ((b.length : Int) - a)) rfl rfl (lt_ok rfl) rfl rfl (Bin.sub (a := (b.length : Int)) (b := a) (by first | exact wrap_ok (by first | omega | (simp only [List.length_take, List.length_drop]; omega) | (simp; omega)) (by first | omega | (simp only [List.length_take, List.length_drop]; omega) | (simp; omega)) | rfl))) ?_
  refine TL.gyes 14 rfl rfl (lt_ok rfl) rfl (Step.call (f := 144) (xs := [.tmp 15, .const (.int .i64 0), .tmp 19]) (ps := [(.one (.d (.int .i64 n))), (.one (.d (.int .i64 0))), (.one (.d (.int .i64 ((b.length : Int) - a))))]) false (g := .func 144) rfl rfl (lt_ok rfl) rfl (by kernel_rfl) rfl (.cons (.one (.d _)) (.cons (.one (.d _)) (.cons (.one (.d _)) .nil))) (ok_impl_within n 0 ((b.length : Int) - a)) (.inr rfl) rfl (by simp) rfl) ?_
  refine TL.gyes 14 rfl rfl (lt_ok rfl) rfl (Step.not (b := (decide (0 ≤ n ∧ n ≤ ((b.length : Int) - a)))) rfl rfl (lt_ok rfl) rfl) ?_
  refine TL.cons rfl (Step.pick (b := false) (p := (.one (.d (.bool (!(decide (0 ≤ n ∧ n ≤ ((b.length : Int) - a)))))))) rfl rfl (lt_ok rfl) rfl rfl) ?_
  refine TL.nil ?_
  refine T.cond (b := !(decide (0 ≤ n ∧ n ≤ ((b.length : Int) - a)))) rfl (fun h3 => ?_) (fun h3 => ?_)
  ·
   replace h3 : (decide (0 ≤ n ∧ n ≤ ((b.length : Int) - a))) = false := by simpa only [Bool.not_eq_true', Bool.not_eq_false'] using h3
   replace h3 := of_decide_eq_false h3
   refine T.seq ?_
   refine T.region ?_
   refine TL.cons rfl (Step.assign (p := (.one (.nil))) rfl rfl (lt_ok rfl) rfl) ?_
   refine TL.cons rfl (Step.assign (p := (.one (.d (.int .i64 0)))) rfl rfl (lt_ok rfl) rfl) ?_
   refine TL.cons rfl (Step.assign (p := (.one (.d (.int .i64 1)))) rfl rfl (lt_ok rfl) rfl) ?_
   refine TL.nil ?_
   refine T.ret ?_
   exact ⟨[(false, [.nil]), (false, [.d (.int .i64 0)]), (false, [.d (.int .i64 1)])], (.cons rfl (.cons rfl (.cons rfl .nil))), rfl, [], (RetC.nilown' rfl (by first | (congr 1; unfold getRaw; first | (rw [if_pos (by omega)]; done) | (rw [if_neg (by omega)]; done)) | (simp only [D.size]; unfold getRaw; rw [if_neg (by omega)]; rfl)) (by first | exact trivial | exact D.wf_nil _) (RetC.rd' (by first | (congr 1; unfold getRaw; first | (rw [if_pos (by omega)]; done) | (rw [if_neg (by omega)]; done)) | (simp only [D.size]; unfold getRaw; rw [if_neg (by omega)]; rfl)) (RetC.rd' (by first | (congr 1; unfold getRaw; first | (rw [if_pos (by omega)]; done) | (rw [if_neg (by omega)]; done)) | (simp only [D.size]; unfold getRaw; rw [if_neg (by omega)]; rfl)) .nil)))⟩
  ·
   replace h3 : (decide (0 ≤ n ∧ n ≤ ((b.length : Int) - a))) = true := by simpa only [Bool.not_eq_true', Bool.not_eq_false'] using h3
   replace h3 := of_decide_eq_true h3
   refine T.skip ?_
   refine T.seq ?_
   refine T.region ?_
   refine TL.cons rfl (Step.move (p := (.one (.d (.ints .u8 b)))) rfl rfl (lt_ok rfl) rfl) ?_
   refine TL.cons rfl (Step.move (p := (.one (.d (.int .i64 a)))) rfl rfl (lt_ok rfl) rfl) ?_
   refine TL.cons rfl (Step.move (p := (.one (.d (.int .i64 a)))) rfl rfl (lt_ok rfl) rfl) ?_
   refine TL.cons rfl (Step.move (p := (.one (.d (.int .i64 n)))) rfl rfl (lt_ok rfl) rfl) ?_
   refine TL.cons rfl (Step.bin (r := .int .i64 (a + n)) rfl rfl (lt_ok rfl) rfl rfl (Bin.add (a := a) (b := n) (by first | exact wrap_ok (by first | omega | (simp only [List.length_take, List.length_drop]; omega) | (simp; omega)) (by first | omega | (simp only [List.length_take, List.length_drop]; omega) | (simp; omega)) | rfl))) ?_
   refine TL.cons rfl (Step.slice (e := 5) (z := 1) (l := (a).toNat) (h := (a + n).toNat) rfl rfl (lt_ok rfl) (by kernel_rfl) rfl rfl rfl ((.some (i := a) rfl (by first | omega | (simp only [List.length_take, List.length_drop]; omega) | (simp; omega)))) ((.some (i := (a + n)) rfl (by first | omega | (simp only [List.length_take, List.length_drop]; omega) | (simp; omega)))) (by first | omega | (simp only [List.length_take, List.length_drop]; omega) | (simp; omega)) (by simp only [D.size]; first | omega | (simp only [List.length_take, List.length_drop]; omega) | (simp; omega)) rfl) ?_
   refine TL.cons rfl (Step.call (f := 83) (xs := [.tmp 28]) (ps := [(.one (.d (.ints .u8 ((b.drop (a).toNat).take ((a + n).toNat - (a).toNat)))))]) false (g := .func 83) rfl rfl (lt_ok rfl) rfl (by kernel_rfl) rfl (.cons (.one (.d _)) .nil) (ok_impl_copyBytes ((b.drop (a).toNat).take ((a + n).toNat - (a).toNat)) (by first | omega | assumption | (simp only [List.length_take, List.length_drop]; omega))) (.inr rfl) rfl (by simp) rfl) ?_
   refine TL.cons rfl (Step.move (p := (.one (.d (.int .i64 a)))) rfl rfl (lt_ok rfl) rfl) ?_
   refine TL.cons rfl (Step.move (p := (.one (.d (.int .i64 n)))) rfl rfl (lt_ok rfl) rfl) ?_
   refine TL.cons rfl (Step.bin (r := .int .i64 (a + n)) rfl rfl (lt_ok rfl) rfl rfl (Bin.add (a := a) (b := n) (by first | exact wrap_ok (by first | omega | (simp only [List.length_take, List.length_drop]; omega) | (simp; omega)) (by first | omega | (simp only [List.length_take, List.length_drop]; omega) | (simp; omega)) | rfl))) ?_
   refine TL.cons rfl (Step.assign (p := (.one (.row 1029 []))) rfl rfl (lt_ok rfl) rfl) ?_
   refine TL.cons rfl (Step.assign (p := (.one (.d (.int .i64 (a + n))))) rfl rfl (lt_ok rfl) rfl) ?_
   refine TL.cons rfl (Step.assign (p := (.one (.d (.int .i64 0)))) rfl rfl (lt_ok rfl) rfl) ?_
   refine TL.nil ?_
   refine T.ret ?_
   exact ⟨[(false, [.row 1029 []]), (false, [.d (.int .i64 (a + n))]), (false, [.d (.int .i64 0)])], (.cons rfl (.cons rfl (.cons rfl .nil))), rfl, [1029], (RetC.own' rfl (by first | (congr 1; unfold getRaw; first | (rw [if_pos (by omega)]; done) | (rw [if_neg (by omega)]; done)) | (simp only [D.size]; unfold getRaw; rw [if_neg (by omega)]; rfl)) rfl (RetC.rd' (by first | (congr 1; unfold getRaw; first | (rw [if_pos (by omega)]; done) | (rw [if_neg (by omega)]; done)) | (simp only [D.size]; unfold getRaw; rw [if_neg (by omega)]; rfl)) (RetC.rd' (by first | (congr 1; unfold getRaw; first | (rw [if_pos (by omega)]; done) | (rw [if_neg (by omega)]; done)) | (simp only [D.size]; unfold getRaw; rw [if_neg (by omega)]; rfl)) .nil)))⟩
theorem ok_impl_reader__raw (b : List Int) (s : SRS) (n : Int) (h0_ : U8s b) (h1_ : b.length ≤ 1048576) : BX Try.prog 179 [.bx, .rd (.one (.int .i64 n))] 184 [.rd (.ints .u8 b), .rd (.int .i64 s.f0), .rd (.int .i64 s.f1)] [.rd (.ints .u8 b), .rd (.int .i64 (rdRaw b s n).1.f0), .rd (.int .i64 (rdRaw b s n).1.f1)] [(false, [.own 5 (.ints .u8 (rdRaw b s n).2)])] := by
 refine BX.intro Try.func179 rfl 36 rfl (le_ok rfl) (le_ok rfl) fun w Z IX pin hp => ?_
 refine T.seq ?_
 refine T.region ?_
 refine TL.cons rfl (Step.assign (p := (.one (.nil))) rfl rfl (lt_ok rfl) rfl) ?_
 refine TL.nil ?_
 refine T.seq ?_
 refine T.seq ?_
 refine T.region ?_
 refine TL.cons rfl (Step.move (p := (.one (.ptr 800 0))) rfl rfl (lt_ok rfl) rfl) ?_
 refine TL.cons rfl (Step.nilCheck rfl rfl (lt_ok rfl) rfl) ?_
 refine TL.cons rfl (Step.fieldAddr (q := 0) (off := 2) (n := 1) (one := true) rfl rfl (lt_ok rfl) (by kernel_rfl) (Nat.succ_ne_zero _) rfl) ?_
 refine TL.cons rfl (Step.load_box (c := .d (.int .i64 s.f1)) rfl rfl (lt_ok rfl) (by kernel_rfl) rfl rfl rfl) ?_
 refine TL.cons rfl (Step.bin rfl rfl (lt_ok rfl) rfl rfl (Bin.neq (k := .i64) (a := s.f1) (b := 0))) ?_
 refine TL.nil ?_
 refine T.cond (b := decide (s.f1 ≠ 0)) rfl (fun h1 => ?_) (fun h1 => ?_)
 ·
  replace h1 := of_decide_eq_true h1
  refine T.seq ?_
  refine T.region ?_
  refine TL.cons rfl (Step.assign (p := (.one (.nil))) rfl rfl (lt_ok rfl) rfl) ?_
  refine TL.nil ?_
  refine T.ret ?_
  exact ⟨[.d (.ints .u8 b), .d (.int .i64 s.f0), .d (.int .i64 s.f1)], [(false, [.nil])], rfl, rfl, (.cons rfl .nil), rfl, [], (RetC.rd' (by first | rfl | (congr 1; unfold rdRaw; first | (rw [if_pos (by omega)]; done) | (rw [if_neg (by omega)]; done)) | (simp only [D.size]; unfold rdRaw; rw [if_neg (by omega)]; rfl)) (RetC.rd' (by first | rfl | (congr 1; unfold rdRaw; first | (rw [if_pos (by omega)]; done) | (rw [if_neg (by omega)]; done)) | (simp only [D.size]; unfold rdRaw; rw [if_neg (by omega)]; rfl)) (RetC.rd' (by first | rfl | (congr 1; unfold rdRaw; first | (rw [if_pos (by omega)]; done) | (rw [if_neg (by omega)]; done)) | (simp only [D.size]; unfold rdRaw; rw [if_neg (by omega)]; rfl)) (RetC.nilown' rfl (by first | rfl | (congr 1; unfold rdRaw; first | (rw [if_pos (by omega)]; done) | (rw [if_neg (by omega)]; done)) | (simp only [D.size]; unfold rdRaw; rw [if_neg (by omega)]; rfl)) (by first | exact trivial | exact D.wf_nil _) .nil))))⟩
 ·
  replace h1 := of_decide_eq_false h1
  refine T.skip ?_
  refine T.seq ?_
  have nn2 := getRaw_bd b s.f0 n
  refine T.draw [⟨14, (.one (.ptr 800 0)), []⟩, ⟨15, (.one (.ptr 800 0)), []⟩, ⟨16, (.one (.ptr 800 0)), []⟩, ⟨17, (.one (.d (.ints .u8 b))), []⟩, ⟨18, (.one (.ptr 800 0)), []⟩, ⟨19, (.one (.ptr 800 0)), []⟩, ⟨20, (.one (.ptr 800 1)), []⟩, ⟨21, (.one (.d (.int .i64 s.f0))), []⟩, ⟨22, (.one (.d (.int .i64 n))), []⟩, ⟨23, (.tup [(false, [.row 1023 []]), (false, [.d (.int .i64 (getRaw b s.f0 n).2.1)]), (false, [.d (.int .i64 (getRaw b s.f0 n).2.2)])]), [(1023, (5, (.ints .u8 (getRaw b s.f0 n).1)))]⟩, ⟨13, (.tup [(false, [.row 1023 []]), (false, [.d (.int .i64 (getRaw b s.f0 n).2.1)]), (false, [.d (.int .i64 (getRaw b s.f0 n).2.2)])]), []⟩, ⟨24, (.one (.row 1023 [])), []⟩, ⟨25, (.one (.d (.int .i64 (getRaw b s.f0 n).2.1))), []⟩, ⟨26, (.one (.d (.int .i64 (getRaw b s.f0 n).2.2))), []⟩, ⟨5, (.one (.row 1023 [])), []⟩, ⟨6, (.one (.d (.int .i64 (getRaw b s.f0 n).2.1))), []⟩, ⟨7, (.one (.d (.int .i64 (getRaw b s.f0 n).2.2))), []⟩] (by kernel_rfl) (by kernel_rfl) ?_ ?_
  ·
   refine .cons (fun E hA_ => by have g0 := hA_.get 0 (by decide); exact OpStep.plain rfl (Step.move (p := (.one (.ptr 800 0))) (t := 14) rfl rfl (by exact lt_ok rfl) (show Env.ev E (.tmp 0) = _ from g0.trans rfl))) ?_
   refine .cons (fun E hA_ => by have g14 := hA_.get 14 (by decide); exact OpStep.plain rfl (Step.nilCheck (t := 15) rfl rfl (by exact lt_ok rfl) (show Env.ev E (.tmp 14) = _ from g14.trans rfl))) ?_
   refine .cons (fun E hA_ => by have g15 := hA_.get 15 (by decide); exact OpStep.plain rfl (Step.fieldAddr (q := 0) (off := 0) (n := 1) (one := true) (t := 16) rfl rfl (by exact lt_ok rfl) (by kernel_rfl) (Nat.succ_ne_zero _) (show Env.ev E (.tmp 15) = _ from g15.trans rfl))) ?_
   refine .cons (fun E hA_ => by have g16 := hA_.get 16 (by decide); exact OpStep.plain rfl (Step.load_box (c := .d (.ints .u8 b)) (t := 17) rfl rfl (by exact lt_ok rfl) (by kernel_rfl) (show Env.ev E (.tmp 16) = _ from g16.trans rfl) (by exact hA_.box rfl) rfl)) ?_
   refine .cons (fun E hA_ => by have g0 := hA_.get 0 (by decide); exact OpStep.plain rfl (Step.move (p := (.one (.ptr 800 0))) (t := 18) rfl rfl (by exact lt_ok rfl) (show Env.ev E (.tmp 0) = _ from g0.trans rfl))) ?_
   refine .cons (fun E hA_ => by have g18 := hA_.get 18 (by decide); exact OpStep.plain rfl (Step.nilCheck (t := 19) rfl rfl (by exact lt_ok rfl) (show Env.ev E (.tmp 18) = _ from g18.trans rfl))) ?_
   refine .cons (fun E hA_ => by have g19 := hA_.get 19 (by decide); exact OpStep.plain rfl (Step.fieldAddr (q := 0) (off := 1) (n := 1) (one := true) (t := 20) rfl rfl (by exact lt_ok rfl) (by kernel_rfl) (Nat.succ_ne_zero _) (show Env.ev E (.tmp 19) = _ from g19.trans rfl))) ?_
   refine .cons (fun E hA_ => by have g20 := hA_.get 20 (by decide); exact OpStep.plain rfl (Step.load_box (c := .d (.int .i64 s.f0)) (t := 21) rfl rfl (by exact lt_ok rfl) (by kernel_rfl) (show Env.ev E (.tmp 20) = _ from g20.trans rfl) (by exact hA_.box rfl) rfl)) ?_
   refine .cons (fun E hA_ => by have g1 := hA_.get 1 (by decide); exact OpStep.plain rfl (Step.move (p := (.one (.d (.int .i64 n)))) (t := 22) rfl rfl (by exact lt_ok rfl) (show Env.ev E (.tmp 1) = _ from g1.trans rfl))) ?_
   refine .cons (fun E hA_ => by have g17 := hA_.get 17 (by decide); have g21 := hA_.get 21 (by decide); have g22 := hA_.get 22 (by decide); exact OpStep.plain rfl (Step.call (f := 182) (xs := [.tmp 17, .tmp 21, .tmp 22]) (ps := [(.one (.d (.ints .u8 b))), (.one (.d (.int .i64 s.f0))), (.one (.d (.int .i64 n)))]) false (g := .func 182) (t := 23) rfl rfl (by exact lt_ok rfl) rfl (by kernel_rfl) (evs_cons (show Env.ev E (.tmp 17) = _ from g17.trans rfl) (evs_cons (show Env.ev E (.tmp 21) = _ from g21.trans rfl) (evs_cons (show Env.ev E (.tmp 22) = _ from g22.trans rfl) (rfl)))) (.cons (.one (.d _)) (.cons (.one (.d _)) (.cons (.one (.d _)) .nil))) (ok_impl_GetRaw b s.f0 n (by first | omega | assumption | (simp only [List.length_append] at *; omega))) (.inr rfl) (At.freshRows hA_ rfl) (fun x hx => by have := hp x hx; omega) rfl)) ?_
   refine .cons (fun E hA_ => by have g23 := hA_.get 23 (by decide); exact OpStep.plain rfl (Step.move (p := (.tup [(false, [.row 1023 []]), (false, [.d (.int .i64 (getRaw b s.f0 n).2.1)]), (false, [.d (.int .i64 (getRaw b s.f0 n).2.2)])])) (t := 13) rfl rfl (by exact lt_ok rfl) (show Env.ev E (.tmp 23) = _ from g23.trans rfl))) ?_
   refine .cons (fun E hA_ => by have g13 := hA_.get 13 (by decide); exact OpStep.plain rfl (Step.extract (p := (.one (.row 1023 []))) (t := 24) rfl rfl (by exact lt_ok rfl) (show Env.ev E (.tmp 13) = _ from g13.trans rfl) rfl)) ?_
   refine .cons (fun E hA_ => by have g13 := hA_.get 13 (by decide); exact OpStep.plain rfl (Step.extract (p := (.one (.d (.int .i64 (getRaw b s.f0 n).2.1)))) (t := 25) rfl rfl (by exact lt_ok rfl) (show Env.ev E (.tmp 13) = _ from g13.trans rfl) rfl)) ?_
   refine .cons (fun E hA_ => by have g13 := hA_.get 13 (by decide); exact OpStep.plain rfl (Step.extract (p := (.one (.d (.int .i64 (getRaw b s.f0 n).2.2)))) (t := 26) rfl rfl (by exact lt_ok rfl) (show Env.ev E (.tmp 13) = _ from g13.trans rfl) rfl)) ?_
   refine .cons (fun E hA_ => by have g24 := hA_.get 24 (by decide); exact OpStep.plain rfl (Step.assign (p := (.one (.row 1023 []))) (t := 5) rfl rfl (by exact lt_ok rfl) (show Env.ev E (.tmp 24) = _ from g24.trans rfl))) ?_
   refine .cons (fun E hA_ => by have g25 := hA_.get 25 (by decide); exact OpStep.plain rfl (Step.assign (p := (.one (.d (.int .i64 (getRaw b s.f0 n).2.1)))) (t := 6) rfl rfl (by exact lt_ok rfl) (show Env.ev E (.tmp 25) = _ from g25.trans rfl))) ?_
   refine .cons (fun E hA_ => by have g26 := hA_.get 26 (by decide); exact OpStep.plain rfl (Step.assign (p := (.one (.d (.int .i64 (getRaw b s.f0 n).2.2)))) (t := 7) rfl rfl (by exact lt_ok rfl) (show Env.ev E (.tmp 26) = _ from g26.trans rfl))) ?_
   exact .nil _ _
  refine TL.nil ?_
  refine T.seq ?_
  refine T.region ?_
  refine TL.cons rfl (Step.move (p := (.one (.ptr 800 0))) rfl rfl (lt_ok rfl) rfl) ?_
  refine TL.cons rfl (Step.move (p := (.one (.ptr 800 0))) rfl rfl (lt_ok rfl) rfl) ?_
  refine TL.cons rfl (Step.move (p := (.one (.d (.int .i64 (getRaw b s.f0 n).2.1)))) rfl rfl (lt_ok rfl) rfl) ?_
  refine TL.cons rfl (Step.move (p := (.one (.d (.int .i64 (getRaw b s.f0 n).2.2)))) rfl rfl (lt_ok rfl) rfl) ?_
  refine TL.cons rfl (Step.nilCheck rfl rfl (lt_ok rfl) rfl) ?_
  refine TL.cons rfl (Step.fieldAddr (q := 0) (off := 1) (n := 1) (one := true) rfl rfl (lt_ok rfl) (by kernel_rfl) (Nat.succ_ne_zero _) rfl) ?_
  refine TL.cons rfl (Step.store_box (n := 1) (p := (.one (.d (.int .i64 (getRaw b s.f0 n).2.1)))) (qs := [.d (.int .i64 (getRaw b s.f0 n).2.1)]) (ps' := [.d (.ints .u8 b), .d (.int .i64 (getRaw b s.f0 n).2.1), .d (.int .i64 s.f1)]) rfl rfl (by kernel_rfl) rfl rfl rfl rfl rfl rfl (le_ok rfl) rfl) ?_
  refine TL.cons rfl (Step.nilCheck rfl rfl (lt_ok rfl) rfl) ?_
  refine TL.cons rfl (Step.fieldAddr (q := 0) (off := 2) (n := 1) (one := true) rfl rfl (lt_ok rfl) (by kernel_rfl) (Nat.succ_ne_zero _) rfl) ?_
  refine TL.cons rfl (Step.store_box (n := 1) (p := (.one (.d (.int .i64 (getRaw b s.f0 n).2.2)))) (qs := [.d (.int .i64 (getRaw b s.f0 n).2.2)]) (ps' := [.d (.ints .u8 b), .d (.int .i64 (getRaw b s.f0 n).2.1), .d (.int .i64 (getRaw b s.f0 n).2.2)]) rfl rfl (by kernel_rfl) rfl rfl rfl rfl rfl rfl (le_ok rfl) rfl) ?_
  refine TL.nil ?_
  refine T.seq ?_
  refine T.region ?_
  refine TL.cons rfl (Step.move (p := (.one (.row 1023 []))) rfl rfl (lt_ok rfl) rfl) ?_
  refine TL.cons rfl (Step.assign (p := (.one (.row 1023 []))) rfl rfl (lt_ok rfl) rfl) ?_
  refine TL.nil ?_
  refine T.ret ?_
  exact ⟨[.d (.ints .u8 b), .d (.int .i64 (getRaw b s.f0 n).2.1), .d (.int .i64 (getRaw b s.f0 n).2.2)], [(false, [.row 1023 []])], rfl, rfl, (.cons rfl .nil), rfl, [1023], (RetC.rd' (by first | rfl | (congr 1; unfold rdRaw; first | (rw [if_pos (by omega)]; done) | (rw [if_neg (by omega)]; done)) | (simp only [D.size]; unfold rdRaw; rw [if_neg (by omega)]; rfl)) (RetC.rd' (by first | rfl | (congr 1; unfold rdRaw; first | (rw [if_pos (by omega)]; done) | (rw [if_neg (by omega)]; done)) | (simp only [D.size]; unfold rdRaw; rw [if_neg (by omega)]; rfl)) (RetC.rd' (by first | rfl | (congr 1; unfold rdRaw; first | (rw [if_pos (by omega)]; done) | (rw [if_neg (by omega)]; done)) | (simp only [D.size]; unfold rdRaw; rw [if_neg (by omega)]; rfl)) (RetC.own' rfl (by first | rfl | (congr 1; unfold rdRaw; first | (rw [if_pos (by omega)]; done) | (rw [if_neg (by omega)]; done)) | (simp only [D.size]; unfold rdRaw; rw [if_neg (by omega)]; rfl)) rfl .nil))))⟩
theorem ok_impl_reader__hash (b : List Int) (s : SRS) (h0_ : U8s b) (h1_ : b.length ≤ 1048576) : BX Try.prog 168 [.bx] 184 [.rd (.ints .u8 b), .rd (.int .i64 s.f0), .rd (.int .i64 s.f1)] [.rd (.ints .u8 b), .rd (.int .i64 (rdRaw b s 32).1.f0), .rd (.int .i64 (rdRaw b s 32).1.f1)] [(false, [.own 5 (.ints .u8 (rdRaw b s 32).2)])] := by
 refine BX.intro Try.func168 rfl 5 rfl (le_ok rfl) (le_ok rfl) fun w Z IX pin hp => ?_
 refine T.seq ?_
 refine T.region ?_
 refine TL.cons rfl (Step.assign (p := (.one (.nil))) rfl rfl (lt_ok rfl) rfl) ?_
 refine TL.nil ?_
 refine T.seq ?_
 refine T.region ?_
 refine TL.cons rfl (Step.move (p := (.one (.ptr 800 0))) rfl rfl (lt_ok rfl) rfl) ?_
 have nn1 := rdRaw_len b s 32
 refine TL.cons rfl (Step.callX (f := 179) (b := 800) (T := 184) (xs := [.tmp 3, .const (.int .i64 32)]) (ps := [(.one (.ptr 800 0)), (.one (.d (.int .i64 32)))]) (args := [.bx, .rd (.one (.int .i64 32))]) (bps := [.d (.ints .u8 b), .d (.int .i64 s.f0), .d (.int .i64 s.f1)]) (cs := [.rd (.ints .u8 b), .rd (.int .i64 s.f0), .rd (.int .i64 s.f1)]) (cs' := [.rd (.ints .u8 b), .rd (.int .i64 (rdRaw b s 32).1.f0), .rd (.int .i64 (rdRaw b s 32).1.f1)]) (res := [(false, [.own 5 (.ints .u8 (rdRaw b s 32).2)])]) (ss := []) (g := .func 179) rfl rfl (lt_ok rfl) rfl (by kernel_rfl) rfl (.cons (.bx) (.cons (.rd (.one (.d _))) .nil)) rfl (.rd (.rd (.rd .nil))) (ok_impl_reader__raw b s 32 (by assumption) (by first | omega | assumption | (simp only [List.length_append] at *; omega))) rfl rfl (fun x hx => by have := hp x hx; omega) rfl) ?_
 refine TL.cons rfl (Step.assign (p := (.one (.row 4004 []))) rfl rfl (lt_ok rfl) rfl) ?_
 refine TL.nil ?_
 refine T.ret ?_
 exact ⟨[.d (.ints .u8 b), .d (.int .i64 (rdRaw b s 32).1.f0), .d (.int .i64 (rdRaw b s 32).1.f1)], [(false, [.row 4004 []])], rfl, rfl, (.cons rfl .nil), rfl, [4004], (RetC.rd' (by rfl) (RetC.rd' (by rfl) (RetC.rd' (by rfl) (RetC.own' rfl (by rfl) rfl .nil))))⟩
theorem ok_impl_reader__must (b : List Int) (s : SRS) (k : Bool) (c : Int) (h0_ : U8s b) (h1_ : b.length ≤ 1048576) : BX Try.prog 170 [.bx, .rd (.one (.bool k)), .rd (.one (.int .i64 c))] 184 [.rd (.ints .u8 b), .rd (.int .i64 s.f0), .rd (.int .i64 s.f1)] [.rd (.ints .u8 b), .rd (.int .i64 (rdMust s k c).f0), .rd (.int .i64 (rdMust s k c).f1)] [] := by
 refine BX.intro Try.func170 rfl 19 rfl (le_ok rfl) (le_ok rfl) fun w Z IX pin hp => ?_
 refine T.seq ?_
 refine T.region ?_
 refine TL.cons rfl (Step.move (p := (.one (.ptr 800 0))) rfl rfl (lt_ok rfl) rfl) ?_
 refine TL.cons rfl (Step.nilCheck rfl rfl (lt_ok rfl) rfl) ?_
 refine TL.cons rfl (Step.fieldAddr (q := 0) (off := 2) (n := 1) (one := true) rfl rfl (lt_ok rfl) (by kernel_rfl) (Nat.succ_ne_zero _) rfl) ?_
 refine TL.cons rfl (Step.load_box (c := .d (.int .i64 s.f1)) rfl rfl (lt_ok rfl) (by kernel_rfl) rfl rfl rfl) ?_
 refine TL.cons rfl (Step.bin rfl rfl (lt_ok rfl) rfl rfl (Bin.eql (k := .i64) (a := s.f1) (b := 0))) ?_
 refine TL.cons rfl (Step.move (p := (.one (.d (.bool (decide (s.f1 = 0)))))) rfl rfl (lt_ok rfl) rfl) ?_
 rcases Bool.eq_false_or_eq_true (decide (s.f1 = 0)) with hb1 | hb1
 ·
  refine TL.known 11 hb1 rfl ?_
  have hb1' := hb1
  replace hb1' := of_decide_eq_true hb1'
  refine TL.gyes 11 rfl rfl (lt_ok rfl) rfl (Step.move (p := (.one (.d (.bool k)))) rfl rfl (lt_ok rfl) rfl) ?_
  refine TL.gyes 11 rfl rfl (lt_ok rfl) rfl (Step.not (b := k) rfl rfl (lt_ok rfl) rfl) ?_
  refine TL.cons rfl (Step.pick (b := true) (p := (.one (.d (.bool (!k))))) rfl rfl (lt_ok rfl) rfl rfl) ?_
  refine TL.nil ?_
  refine T.cond (b := !k) rfl (fun h2 => ?_) (fun h2 => ?_)
  ·
   replace h2 : (k) = false := by simpa only [Bool.not_eq_true', Bool.not_eq_false'] using h2
   refine T.region ?_
   refine TL.cons rfl (Step.move (p := (.one (.ptr 800 0))) rfl rfl (lt_ok rfl) rfl) ?_
   refine TL.cons rfl (Step.move (p := (.one (.d (.int .i64 c)))) rfl rfl (lt_ok rfl) rfl) ?_
   refine TL.cons rfl (Step.nilCheck rfl rfl (lt_ok rfl) rfl) ?_
   refine TL.cons rfl (Step.fieldAddr (q := 0) (off := 2) (n := 1) (one := true) rfl rfl (lt_ok rfl) (by kernel_rfl) (Nat.succ_ne_zero _) rfl) ?_
   refine TL.cons rfl (Step.store_box (n := 1) (p := (.one (.d (.int .i64 c)))) (qs := [.d (.int .i64 c)]) (ps' := [.d (.ints .u8 b), .d (.int .i64 s.f0), .d (.int .i64 c)]) rfl rfl (by kernel_rfl) rfl rfl rfl rfl rfl rfl (le_ok rfl) rfl) ?_
   refine TL.nil ?_
   exact ⟨[.d (.ints .u8 b), .d (.int .i64 s.f0), .d (.int .i64 c)], [], rfl, rfl, .nil, rfl, [], (RetC.rd' (by first | rfl | (congr 1; first | (rw [rdMust_er (by omega)]; done) | (rw [rdMust_ok (by first | assumption | (rw [hk_, show bad = true from by assumption]; rfl) | (rw [hk_, show bad = false from by assumption]; rfl))]; done) | (rw [rdMust_hit (by omega) (by first | assumption | (rw [hk_, show bad = true from by assumption]; rfl) | (rw [hk_, show bad = false from by assumption]; rfl))]; done))) (RetC.rd' (by first | rfl | (congr 1; first | (rw [rdMust_er (by omega)]; done) | (rw [rdMust_ok (by first | assumption | (rw [hk_, show bad = true from by assumption]; rfl) | (rw [hk_, show bad = false from by assumption]; rfl))]; done) | (rw [rdMust_hit (by omega) (by first | assumption | (rw [hk_, show bad = true from by assumption]; rfl) | (rw [hk_, show bad = false from by assumption]; rfl))]; done))) (RetC.rd' (by first | rfl | (congr 1; first | (rw [rdMust_er (by omega)]; done) | (rw [rdMust_ok (by first | assumption | (rw [hk_, show bad = true from by assumption]; rfl) | (rw [hk_, show bad = false from by assumption]; rfl))]; done) | (rw [rdMust_hit (by omega) (by first | assumption | (rw [hk_, show bad = true from by assumption]; rfl) | (rw [hk_, show bad = false from by assumption]; rfl))]; done))) .nil)))⟩
  ·
   replace h2 : (k) = true := by simpa only [Bool.not_eq_true', Bool.not_eq_false'] using h2
   refine T.skip ?_
   exact ⟨[.d (.ints .u8 b), .d (.int .i64 s.f0), .d (.int .i64 s.f1)], [], rfl, rfl, .nil, rfl, [], (RetC.rd' (by first | rfl | (congr 1; first | (rw [rdMust_er (by omega)]; done) | (rw [rdMust_ok (by first | assumption | (rw [hk_, show bad = true from by assumption]; rfl) | (rw [hk_, show bad = false from by assumption]; rfl))]; done) | (rw [rdMust_hit (by omega) (by first | assumption | (rw [hk_, show bad = true from by assumption]; rfl) | (rw [hk_, show bad = false from by assumption]; rfl))]; done))) (RetC.rd' (by first | rfl | (congr 1; first | (rw [rdMust_er (by omega)]; done) | (rw [rdMust_ok (by first | assumption | (rw [hk_, show bad = true from by assumption]; rfl) | (rw [hk_, show bad = false from by assumption]; rfl))]; done) | (rw [rdMust_hit (by omega) (by first | assumption | (rw [hk_, show bad = true from by assumption]; rfl) | (rw [hk_, show bad = false from by assumption]; rfl))]; done))) (RetC.rd' (by first | rfl | (congr 1; first | (rw [rdMust_er (by omega)]; done) | (rw [rdMust_ok (by first | assumption | (rw [hk_, show bad = true from by assumption]; rfl) | (rw [hk_, show bad = false from by assumption]; rfl))]; done) | (rw [rdMust_hit (by omega) (by first | assumption | (rw [hk_, show bad = true from by assumption]; rfl) | (rw [hk_, show bad = false from by assumption]; rfl))]; done))) .nil)))⟩
 ·
  refine TL.known 11 hb1 rfl ?_
  have hb1' := hb1
  replace hb1' := of_decide_eq_false hb1'
  refine TL.goff 11 rfl rfl (lt_ok rfl) rfl rfl rfl (lt_ok rfl) ?_
  refine TL.goff 11 rfl rfl (lt_ok rfl) rfl rfl rfl (lt_ok rfl) ?_
  refine TL.cons rfl (Step.pick (b := false) (p := (.one (.d (.bool false)))) rfl rfl (lt_ok rfl) rfl rfl) ?_
  refine TL.nil ?_
  refine T.cond (b := false) rfl (fun h3_ => absurd h3_ (by simp)) (fun h3_ => ?_)
  refine T.skip ?_
  exact ⟨[.d (.ints .u8 b), .d (.int .i64 s.f0), .d (.int .i64 s.f1)], [], rfl, rfl, .nil, rfl, [], (RetC.rd' (by first | rfl | (congr 1; first | (rw [rdMust_er (by omega)]; done) | (rw [rdMust_ok (by first | assumption | (rw [hk_, show bad = true from by assumption]; rfl) | (rw [hk_, show bad = false from by assumption]; rfl))]; done) | (rw [rdMust_hit (by omega) (by first | assumption | (rw [hk_, show bad = true from by assumption]; rfl) | (rw [hk_, show bad = false from by assumption]; rfl))]; done))) (RetC.rd' (by first | rfl | (congr 1; first | (rw [rdMust_er (by omega)]; done) | (rw [rdMust_ok (by first | assumption | (rw [hk_, show bad = true from by assumption]; rfl) | (rw [hk_, show bad = false from by assumption]; rfl))]; done) | (rw [rdMust_hit (by omega) (by first | assumption | (rw [hk_, show bad = true from by assumption]; rfl) | (rw [hk_, show bad = false from by assumption]; rfl))]; done))) (RetC.rd' (by first | rfl | (congr 1; first | (rw [rdMust_er (by omega)]; done) | (rw [rdMust_ok (by first | assumption | (rw [hk_, show bad = true from by assumption]; rfl) | (rw [hk_, show bad = false from by assumption]; rfl))]; done) | (rw [rdMust_hit (by omega) (by first | assumption | (rw [hk_, show bad = true from by assumption]; rfl) | (rw [hk_, show bad = false from by assumption]; rfl))]; done))) .nil)))⟩
theorem ok_impl_reader__below (b : List Int) (s : SRS) (n : Int) (c : Int) (h0_ : U8s b) (h1_ : b.length ≤ 1048576) : BX Try.prog 169 [.bx, .rd (.one (.int .i64 n)), .rd (.one (.int .i64 c))] 184 [.rd (.ints .u8 b), .rd (.int .i64 s.f0), .rd (.int .i64 s.f1)] [.rd (.ints .u8 b), .rd (.int .i64 (rdBelow b s n c).1.f0), .rd (.int .i64 (rdBelow b s n c).1.f1)] [(false, [.rd (.int .i64 (rdBelow b s n c).2)])] := by
 refine BX.intro Try.func169 rfl 17 rfl (le_ok rfl) (le_ok rfl) fun w Z IX pin hp => ?_
 refine T.seq ?_
 refine T.region ?_
 refine TL.cons rfl (Step.assign (p := (.one (.d (.int .i64 0)))) rfl rfl (lt_ok rfl) rfl) ?_
 refine TL.nil ?_
 refine T.seq ?_
 refine T.region ?_
 refine TL.cons rfl (Step.move (p := (.one (.ptr 800 0))) rfl rfl (lt_ok rfl) rfl) ?_
 have nn1 := @rdNum_bd b (by assumption) s
 refine TL.cons rfl (Step.callX (f := 167) (b := 800) (T := 184) (xs := [.tmp 8]) (ps := [(.one (.ptr 800 0))]) (args := [.bx]) (bps := [.d (.ints .u8 b), .d (.int .i64 s.f0), .d (.int .i64 s.f1)]) (cs := [.rd (.ints .u8 b), .rd (.int .i64 s.f0), .rd (.int .i64 s.f1)]) (cs' := [.rd (.ints .u8 b), .rd (.int .i64 (rdNum b s).1.f0), .rd (.int .i64 (rdNum b s).1.f1)]) (res := [(false, [.rd (.int .i64 (rdNum b s).2)])]) (ss := []) (g := .func 167) rfl rfl (lt_ok rfl) rfl (by kernel_rfl) rfl (.cons (.bx) .nil) rfl (.rd (.rd (.rd .nil))) (ok_impl_reader__num b s (by assumption) (by first | omega | assumption | (simp only [List.length_append] at *; omega))) rfl rfl (fun x hx => by have := hp x hx; omega) rfl) ?_
 refine TL.cons rfl (Step.assign (p := (.one (.d (.int .i64 (rdNum b s).2)))) rfl rfl (lt_ok rfl) rfl) ?_
 refine TL.nil ?_
 refine T.seq ?_
 refine T.region ?_
 refine TL.cons rfl (Step.move (p := (.one (.ptr 800 0))) rfl rfl (lt_ok rfl) rfl) ?_
 refine TL.cons rfl (Step.move (p := (.one (.d (.int .i64 (rdNum b s).2)))) rfl rfl (lt_ok rfl) rfl) ?_
 refine TL.cons rfl (Step.move (p := (.one (.d (.int .i64 n)))) rfl rfl (lt_ok rfl) rfl) ?_
 refine TL.cons rfl (Step.bin rfl rfl (lt_ok rfl) rfl rfl (Bin.lss (k := .i64) (a := (rdNum b s).2) (b := n))) ?_
 refine TL.cons rfl (Step.move (p := (.one (.d (.int .i64 c)))) rfl rfl (lt_ok rfl) rfl) ?_
 refine TL.cons rfl (Step.callX (f := 170) (b := 800) (T := 184) (xs := [.tmp 10, .tmp 13, .tmp 14]) (ps := [(.one (.ptr 800 0)), (.one (.d (.bool (decide ((rdNum b s).2 < n))))), (.one (.d (.int .i64 c)))]) (args := [.bx, .rd (.one (.bool (decide ((rdNum b s).2 < n)))), .rd (.one (.int .i64 c))]) (bps := [.d (.ints .u8 b), .d (.int .i64 (rdNum b s).1.f0), .d (.int .i64 (rdNum b s).1.f1)]) (cs := [.rd (.ints .u8 b), .rd (.int .i64 (rdNum b s).1.f0), .rd (.int .i64 (rdNum b s).1.f1)]) (cs' := [.rd (.ints .u8 b), .rd (.int .i64 (rdMust (rdNum b s).1 (decide ((rdNum b s).2 < n)) c).f0), .rd (.int .i64 (rdMust (rdNum b s).1 (decide ((rdNum b s).2 < n)) c).f1)]) (res := []) (ss := []) (g := .func 170) rfl rfl (lt_ok rfl) rfl (by kernel_rfl) rfl (.cons (.bx) (.cons (.rd (.one (.d _))) (.cons (.rd (.one (.d _))) .nil))) rfl (.rd (.rd (.rd .nil))) (ok_impl_reader__must b (rdNum b s).1 (decide ((rdNum b s).2 < n)) c (by assumption) (by first | omega | assumption | (simp only [List.length_append] at *; omega))) rfl rfl (fun x hx => by have := hp x hx; omega) rfl) ?_
 refine TL.nil ?_
 refine T.seq ?_
 refine T.region ?_
 refine TL.cons rfl (Step.move (p := (.one (.d (.int .i64 (rdNum b s).2)))) rfl rfl (lt_ok rfl) rfl) ?_
 refine TL.cons rfl (Step.assign (p := (.one (.d (.int .i64 (rdNum b s).2)))) rfl rfl (lt_ok rfl) rfl) ?_
 refine TL.nil ?_
 refine T.ret ?_
 exact ⟨[.d (.ints .u8 b), .d (.int .i64 (rdMust (rdNum b s).1 (decide ((rdNum b s).2 < n)) c).f0), .d (.int .i64 (rdMust (rdNum b s).1 (decide ((rdNum b s).2 < n)) c).f1)], [(false, [.d (.int .i64 (rdNum b s).2)])], rfl, rfl, (.cons rfl .nil), rfl, [], (RetC.rd' (by rfl) (RetC.rd' (by rfl) (RetC.rd' (by rfl) (RetC.rd' (by rfl) .nil))))⟩
theorem ok_impl_readVote (b : List Int) (s : SRS) (l : SLimits) (h0_ : U8s b) (h1_ : b.length ≤ 1048576) : BX Try.prog 125 [.rd (.agg [(.int .i64 l.f0), (.int .i64 l.f1), (.int .i64 l.f2), (.int .i64 l.f3), (.int .i64 l.f4)]), .bx] 184 [.rd (.ints .u8 b), .rd (.int .i64 s.f0), .rd (.int .i64 s.f1)] [.rd (.ints .u8 b), .rd (.int .i64 (rdVote l b s).1.f0), .rd (.int .i64 (rdVote l b s).1.f1)] [(true, [.rd (.int .i64 (rdVote l b s).2.f0), .rd (.int .i64 (rdVote l b s).2.f1), .own 5 (.ints .u8 (rdVote l b s).2.f2), .rd (.int .i64 (rdVote l b s).2.f3), .own 5 (.ints .u8 (rdVote l b s).2.f4)])] := by
 refine BX.intro Try.func125 rfl 18 rfl (le_ok rfl) (le_ok rfl) fun w Z IX pin hp => ?_
 refine T.seq ?_
 refine T.region ?_
 refine TL.cons rfl (Step.box (p := (.agg [.d (.int .i64 l.f0), .d (.int .i64 l.f1), .d (.int .i64 l.f2), .d (.int .i64 l.f3), .d (.int .i64 l.f4)])) (ps := [.d (.int .i64 l.f0), .d (.int .i64 l.f1), .d (.int .i64 l.f2), .d (.int .i64 l.f3), .d (.int .i64 l.f4)]) rfl rfl (lt_ok rfl) rfl rfl rfl rfl rfl) ?_
 refine TL.cons rfl (Step.alloc (cs := [.int .i64 0, .int .i64 0, .slice none 0 0, .int .i64 0, .slice none 0 0]) (ps := [.d (.int .i64 0), .d (.int .i64 0), .nil, .d (.int .i64 0), .nil]) rfl rfl (lt_ok rfl) (by kernel_rfl) rfl rfl rfl rfl) ?_
 refine TL.nil ?_
 refine T.seq ?_
 have nn1 := @rdNum_bd b (by assumption) s
 have nn2 := @rdNum_bd b (by assumption) (rdNum b s).1
 have nn3 := rdRaw_len b (rdNum b (rdNum b s).1).1 32
 have nn4 := @rdNum_bd b (by assumption) (rdRaw b (rdNum b (rdNum b s).1).1 32).1
 have nn5 := rdRaw_len b (rdBelow b (rdRaw b (rdNum b (rdNum b s).1).1 32).1 l.f0 5).1 32
 refine T.drawX [{ dst := some 5, pv := (.one (.ptr 800 0)) }, { dst := some 6, pv := (.one (.d (.int .i64 (rdNum b s).2))), box := some (800, (184, [.d (.ints .u8 b), .d (.int .i64 (rdNum b s).1.f0), .d (.int .i64 (rdNum b s).1.f1)])) }, { dst := some 7, pv := (.one (.ptr 800 0)) }, { dst := some 8, pv := (.one (.d (.int .i64 (rdNum b (rdNum b s).1).2))), box := some (800, (184, [.d (.ints .u8 b), .d (.int .i64 (rdNum b (rdNum b s).1).1.f0), .d (.int .i64 (rdNum b (rdNum b s).1).1.f1)])) }, { dst := some 9, pv := (.one (.ptr 800 0)) }, { dst := some 10, pv := (.one (.row 4010 [])), rows := [(4010, (5, (.ints .u8 (rdRaw b (rdNum b (rdNum b s).1).1 32).2)))], box := some (800, (184, [.d (.ints .u8 b), .d (.int .i64 (rdRaw b (rdNum b (rdNum b s).1).1 32).1.f0), .d (.int .i64 (rdRaw b (rdNum b (rdNum b s).1).1 32).1.f1)])) }, { dst := some 11, pv := (.one (.ptr 800 0)) }, { dst := some 12, pv := (.one (.ptr 2 0)) }, { dst := some 13, pv := (.one (.d (.int .i64 l.f0))) }, { dst := some 14, pv := (.one (.d (.int .i64 (rdBelow b (rdRaw b (rdNum b (rdNum b s).1).1 32).1 l.f0 5).2))), box := some (800, (184, [.d (.ints .u8 b), .d (.int .i64 (rdBelow b (rdRaw b (rdNum b (rdNum b s).1).1 32).1 l.f0 5).1.f0), .d (.int .i64 (rdBelow b (rdRaw b (rdNum b (rdNum b s).1).1 32).1 l.f0 5).1.f1)])) }, { dst := some 15, pv := (.one (.ptr 800 0)) }, { dst := some 16, pv := (.one (.row 4016 [])), rows := [(4016, (5, (.ints .u8 (rdRaw b (rdBelow b (rdRaw b (rdNum b (rdNum b s).1).1 32).1 l.f0 5).1 32).2)))], box := some (800, (184, [.d (.ints .u8 b), .d (.int .i64 (rdRaw b (rdBelow b (rdRaw b (rdNum b (rdNum b s).1).1 32).1 l.f0 5).1 32).1.f0), .d (.int .i64 (rdRaw b (rdBelow b (rdRaw b (rdNum b (rdNum b s).1).1 32).1 l.f0 5).1 32).1.f1)])) }, { dst := some 17, pv := (.agg [.d (.int .i64 (rdNum b s).2), .d (.int .i64 (rdNum b (rdNum b s).1).2), .row 4010 [], .d (.int .i64 (rdBelow b (rdRaw b (rdNum b (rdNum b s).1).1 32).1 l.f0 5).2), .row 4016 []]) }, { box := some (4, (64, [.d (.int .i64 (rdNum b s).2), .d (.int .i64 (rdNum b (rdNum b s).1).2), .row 4010 [], .d (.int .i64 (rdBelow b (rdRaw b (rdNum b (rdNum b s).1).1 32).1 l.f0 5).2), .row 4016 []])) }] (by kernel_rfl) (by kernel_rfl) ?_ ?_
 ·
  refine .cons (fun E hA_ => by have g1 : E.get 1 = (.one (.ptr 800 0)) := (hA_.get 1 (by kernel_rfl)).trans (by kernel_rfl); exact OpStep.plain rfl (Step.move (p := (.one (.ptr 800 0))) (t := 5) rfl rfl (by exact lt_ok rfl) (show Env.ev E (.tmp 1) = _ from g1.trans rfl))) ?_
  refine .cons (fun E hA_ => by have g5 : E.get 5 = (.one (.ptr 800 0)) := (hA_.get 5 (by kernel_rfl)).trans (by kernel_rfl); have b800 : E.box 800 = some (184, [.d (.ints .u8 b), .d (.int .i64 s.f0), .d (.int .i64 s.f1)]) := (hA_.box 800 (by kernel_rfl)).trans (by kernel_rfl); exact OpStep.plain rfl (Step.callXX (f := 167) (b := 800) (T := 184) (xs := [.tmp 5]) (ps := [(.one (.ptr 800 0))]) (args := [.bx]) (bps := [.d (.ints .u8 b), .d (.int .i64 s.f0), .d (.int .i64 s.f1)]) (cs := [.rd (.ints .u8 b), .rd (.int .i64 s.f0), .rd (.int .i64 s.f1)]) (cs' := [.rd (.ints .u8 b), .rd (.int .i64 (rdNum b s).1.f0), .rd (.int .i64 (rdNum b s).1.f1)]) (res := [(false, [.rd (.int .i64 (rdNum b s).2)])]) (ss := []) (g := .func 167) (t := 6) rfl rfl (by exact lt_ok rfl) rfl (by kernel_rfl) (evs_cons (show Env.ev E (.tmp 5) = _ from g5.trans rfl) (rfl)) (.cons (.bx) .nil) b800 (.rd (.rd (.rd .nil))) (ok_impl_reader__num b s (by assumption) (by first | omega | assumption | (simp only [List.length_append] at *; omega))) rfl (handX_fresh (fun x_ hx_ => hA_.fresh x_ (by exact hx_))) (fun x hx => by have := hp x hx; omega) rfl (by simp [rowsOf, rid]))) ?_
  refine .cons (fun E hA_ => by have g1 : E.get 1 = (.one (.ptr 800 0)) := (hA_.get 1 (by kernel_rfl)).trans (by kernel_rfl); exact OpStep.plain rfl (Step.move (p := (.one (.ptr 800 0))) (t := 7) rfl rfl (by exact lt_ok rfl) (show Env.ev E (.tmp 1) = _ from g1.trans rfl))) ?_
  refine .cons (fun E hA_ => by have g7 : E.get 7 = (.one (.ptr 800 0)) := (hA_.get 7 (by kernel_rfl)).trans (by kernel_rfl); have b800 : E.box 800 = some (184, [.d (.ints .u8 b), .d (.int .i64 (rdNum b s).1.f0), .d (.int .i64 (rdNum b s).1.f1)]) := (hA_.box 800 (by kernel_rfl)).trans (by kernel_rfl); exact OpStep.plain rfl (Step.callXX (f := 167) (b := 800) (T := 184) (xs := [.tmp 7]) (ps := [(.one (.ptr 800 0))]) (args := [.bx]) (bps := [.d (.ints .u8 b), .d (.int .i64 (rdNum b s).1.f0), .d (.int .i64 (rdNum b s).1.f1)]) (cs := [.rd (.ints .u8 b), .rd (.int .i64 (rdNum b s).1.f0), .rd (.int .i64 (rdNum b s).1.f1)]) (cs' := [.rd (.ints .u8 b), .rd (.int .i64 (rdNum b (rdNum b s).1).1.f0), .rd (.int .i64 (rdNum b (rdNum b s).1).1.f1)]) (res := [(false, [.rd (.int .i64 (rdNum b (rdNum b s).1).2)])]) (ss := []) (g := .func 167) (t := 8) rfl rfl (by exact lt_ok rfl) rfl (by kernel_rfl) (evs_cons (show Env.ev E (.tmp 7) = _ from g7.trans rfl) (rfl)) (.cons (.bx) .nil) b800 (.rd (.rd (.rd .nil))) (ok_impl_reader__num b (rdNum b s).1 (by assumption) (by first | omega | assumption | (simp only [List.length_append] at *; omega))) rfl (handX_fresh (fun x_ hx_ => hA_.fresh x_ (by exact hx_))) (fun x hx => by have := hp x hx; omega) rfl (by simp [rowsOf, rid]))) ?_
  refine .cons (fun E hA_ => by have g1 : E.get 1 = (.one (.ptr 800 0)) := (hA_.get 1 (by kernel_rfl)).trans (by kernel_rfl); exact OpStep.plain rfl (Step.move (p := (.one (.ptr 800 0))) (t := 9) rfl rfl (by exact lt_ok rfl) (show Env.ev E (.tmp 1) = _ from g1.trans rfl))) ?_
  refine .cons (fun E hA_ => by have g9 : E.get 9 = (.one (.ptr 800 0)) := (hA_.get 9 (by kernel_rfl)).trans (by kernel_rfl); have b800 : E.box 800 = some (184, [.d (.ints .u8 b), .d (.int .i64 (rdNum b (rdNum b s).1).1.f0), .d (.int .i64 (rdNum b (rdNum b s).1).1.f1)]) := (hA_.box 800 (by kernel_rfl)).trans (by kernel_rfl); exact OpStep.plain rfl (Step.callXX (f := 168) (b := 800) (T := 184) (xs := [.tmp 9]) (ps := [(.one (.ptr 800 0))]) (args := [.bx]) (bps := [.d (.ints .u8 b), .d (.int .i64 (rdNum b (rdNum b s).1).1.f0), .d (.int .i64 (rdNum b (rdNum b s).1).1.f1)]) (cs := [.rd (.ints .u8 b), .rd (.int .i64 (rdNum b (rdNum b s).1).1.f0), .rd (.int .i64 (rdNum b (rdNum b s).1).1.f1)]) (cs' := [.rd (.ints .u8 b), .rd (.int .i64 (rdRaw b (rdNum b (rdNum b s).1).1 32).1.f0), .rd (.int .i64 (rdRaw b (rdNum b (rdNum b s).1).1 32).1.f1)]) (res := [(false, [.own 5 (.ints .u8 (rdRaw b (rdNum b (rdNum b s).1).1 32).2)])]) (ss := []) (g := .func 168) (t := 10) rfl rfl (by exact lt_ok rfl) rfl (by kernel_rfl) (evs_cons (show Env.ev E (.tmp 9) = _ from g9.trans rfl) (rfl)) (.cons (.bx) .nil) b800 (.rd (.rd (.rd .nil))) (ok_impl_reader__hash b (rdNum b (rdNum b s).1).1 (by assumption) (by first | omega | assumption | (simp only [List.length_append] at *; omega))) rfl (handX_fresh (fun x_ hx_ => hA_.fresh x_ (by exact hx_))) (fun x hx => by have := hp x hx; omega) rfl (by simp [rowsOf, rid]))) ?_
  refine .cons (fun E hA_ => by have g1 : E.get 1 = (.one (.ptr 800 0)) := (hA_.get 1 (by kernel_rfl)).trans (by kernel_rfl); exact OpStep.plain rfl (Step.move (p := (.one (.ptr 800 0))) (t := 11) rfl rfl (by exact lt_ok rfl) (show Env.ev E (.tmp 1) = _ from g1.trans rfl))) ?_
  refine .cons (fun E hA_ => by have g2 : E.get 2 = (.one (.ptr 2 0)) := (hA_.get 2 (by kernel_rfl)).trans (by kernel_rfl); exact OpStep.plain rfl (Step.fieldAddr (q := 0) (off := 0) (n := 1) (one := true) (t := 12) rfl rfl (by exact lt_ok rfl) (by kernel_rfl) (Nat.succ_ne_zero _) (show Env.ev E (.tmp 2) = _ from g2.trans rfl))) ?_
  refine .cons (fun E hA_ => by have g12 : E.get 12 = (.one (.ptr 2 0)) := (hA_.get 12 (by kernel_rfl)).trans (by kernel_rfl); have b2 : E.box 2 = some (44, [.d (.int .i64 l.f0), .d (.int .i64 l.f1), .d (.int .i64 l.f2), .d (.int .i64 l.f3), .d (.int .i64 l.f4)]) := (hA_.box 2 (by kernel_rfl)).trans (by kernel_rfl); exact OpStep.plain rfl (Step.load_box (c := .d (.int .i64 l.f0)) (t := 13) rfl rfl (by exact lt_ok rfl) (by kernel_rfl) (show Env.ev E (.tmp 12) = _ from g12.trans rfl) b2 rfl)) ?_
  refine .cons (fun E hA_ => by have g11 : E.get 11 = (.one (.ptr 800 0)) := (hA_.get 11 (by kernel_rfl)).trans (by kernel_rfl); have g13 : E.get 13 = (.one (.d (.int .i64 l.f0))) := (hA_.get 13 (by kernel_rfl)).trans (by kernel_rfl); have b800 : E.box 800 = some (184, [.d (.ints .u8 b), .d (.int .i64 (rdRaw b (rdNum b (rdNum b s).1).1 32).1.f0), .d (.int .i64 (rdRaw b (rdNum b (rdNum b s).1).1 32).1.f1)]) := (hA_.box 800 (by kernel_rfl)).trans (by kernel_rfl); exact OpStep.plain rfl (Step.callXX (f := 169) (b := 800) (T := 184) (xs := [.tmp 11, .tmp 13, .const (.int .i64 5)]) (ps := [(.one (.ptr 800 0)), (.one (.d (.int .i64 l.f0))), (.one (.d (.int .i64 5)))]) (args := [.bx, .rd (.one (.int .i64 l.f0)), .rd (.one (.int .i64 5))]) (bps := [.d (.ints .u8 b), .d (.int .i64 (rdRaw b (rdNum b (rdNum b s).1).1 32).1.f0), .d (.int .i64 (rdRaw b (rdNum b (rdNum b s).1).1 32).1.f1)]) (cs := [.rd (.ints .u8 b), .rd (.int .i64 (rdRaw b (rdNum b (rdNum b s).1).1 32).1.f0), .rd (.int .i64 (rdRaw b (rdNum b (rdNum b s).1).1 32).1.f1)]) (cs' := [.rd (.ints .u8 b), .rd (.int .i64 (rdBelow b (rdRaw b (rdNum b (rdNum b s).1).1 32).1 l.f0 5).1.f0), .rd (.int .i64 (rdBelow b (rdRaw b (rdNum b (rdNum b s).1).1 32).1 l.f0 5).1.f1)]) (res := [(false, [.rd (.int .i64 (rdBelow b (rdRaw b (rdNum b (rdNum b s).1).1 32).1 l.f0 5).2)])]) (ss := []) (g := .func 169) (t := 14) rfl rfl (by exact lt_ok rfl) rfl (by kernel_rfl) (evs_cons (show Env.ev E (.tmp 11) = _ from g11.trans rfl) (evs_cons (show Env.ev E (.tmp 13) = _ from g13.trans rfl) (evs_cons rfl (rfl)))) (.cons (.bx) (.cons (.rd (.one (.d _))) (.cons (.rd (.one (.d _))) .nil))) b800 (.rd (.rd (.rd .nil))) (ok_impl_reader__below b (rdRaw b (rdNum b (rdNum b s).1).1 32).1 l.f0 5 (by assumption) (by first | omega | assumption | (simp only [List.length_append] at *; omega))) rfl (handX_fresh (fun x_ hx_ => hA_.fresh x_ (by exact hx_))) (fun x hx => by have := hp x hx; omega) rfl (by simp [rowsOf, rid]))) ?_
  refine .cons (fun E hA_ => by have g1 : E.get 1 = (.one (.ptr 800 0)) := (hA_.get 1 (by kernel_rfl)).trans (by kernel_rfl); exact OpStep.plain rfl (Step.move (p := (.one (.ptr 800 0))) (t := 15) rfl rfl (by exact lt_ok rfl) (show Env.ev E (.tmp 1) = _ from g1.trans rfl))) ?_
  refine .cons (fun E hA_ => by have g15 : E.get 15 = (.one (.ptr 800 0)) := (hA_.get 15 (by kernel_rfl)).trans (by kernel_rfl); have b800 : E.box 800 = some (184, [.d (.ints .u8 b), .d (.int .i64 (rdBelow b (rdRaw b (rdNum b (rdNum b s).1).1 32).1 l.f0 5).1.f0), .d (.int .i64 (rdBelow b (rdRaw b (rdNum b (rdNum b s).1).1 32).1 l.f0 5).1.f1)]) := (hA_.box 800 (by kernel_rfl)).trans (by kernel_rfl); exact OpStep.plain rfl (Step.callXX (f := 168) (b := 800) (T := 184) (xs := [.tmp 15]) (ps := [(.one (.ptr 800 0))]) (args := [.bx]) (bps := [.d (.ints .u8 b), .d (.int .i64 (rdBelow b (rdRaw b (rdNum b (rdNum b s).1).1 32).1 l.f0 5).1.f0), .d (.int .i64 (rdBelow b (rdRaw b (rdNum b (rdNum b s).1).1 32).1 l.f0 5).1.f1)]) (cs := [.rd (.ints .u8 b), .rd (.int .i64 (rdBelow b (rdRaw b (rdNum b (rdNum b s).1).1 32).1 l.f0 5).1.f0), .rd (.int .i64 (rdBelow b (rdRaw b (rdNum b (rdNum b s).1).1 32).1 l.f0 5).1.f1)]) (cs' := [.rd (.ints .u8 b), .rd (.int .i64 (rdRaw b (rdBelow b (rdRaw b (rdNum b (rdNum b s).1).1 32).1 l.f0 5).1 32).1.f0), .rd (.int .i64 (rdRaw b (rdBelow b (rdRaw b (rdNum b (rdNum b s).1).1 32).1 l.f0 5).1 32).1.f1)]) (res := [(false, [.own 5 (.ints .u8 (rdRaw b (rdBelow b (rdRaw b (rdNum b (rdNum b s).1).1 32).1 l.f0 5).1 32).2)])]) (ss := []) (g := .func 168) (t := 16) rfl rfl (by exact lt_ok rfl) rfl (by kernel_rfl) (evs_cons (show Env.ev E (.tmp 15) = _ from g15.trans rfl) (rfl)) (.cons (.bx) .nil) b800 (.rd (.rd (.rd .nil))) (ok_impl_reader__hash b (rdBelow b (rdRaw b (rdNum b (rdNum b s).1).1 32).1 l.f0 5).1 (by assumption) (by first | omega | assumption | (simp only [List.length_append] at *; omega))) rfl (handX_fresh (fun x_ hx_ => hA_.fresh x_ (by exact hx_))) (fun x hx => by have := hp x hx; omega) rfl (by simp [rowsOf, rid]))) ?_
  refine .cons (fun E hA_ => by have g6 : E.get 6 = (.one (.d (.int .i64 (rdNum b s).2))) := (hA_.get 6 (by kernel_rfl)).trans (by kernel_rfl); have g8 : E.get 8 = (.one (.d (.int .i64 (rdNum b (rdNum b s).1).2))) := (hA_.get 8 (by kernel_rfl)).trans (by kernel_rfl); have g10 : E.get 10 = (.one (.row 4010 [])) := (hA_.get 10 (by kernel_rfl)).trans (by kernel_rfl); have g14 : E.get 14 = (.one (.d (.int .i64 (rdBelow b (rdRaw b (rdNum b (rdNum b s).1).1 32).1 l.f0 5).2))) := (hA_.get 14 (by kernel_rfl)).trans (by kernel_rfl); have g16 : E.get 16 = (.one (.row 4016 [])) := (hA_.get 16 (by kernel_rfl)).trans (by kernel_rfl); have q4010 : E.row 4010 = some (5, (.ints .u8 (rdRaw b (rdNum b (rdNum b s).1).1 32).2)) := (hA_.row 4010 (by kernel_rfl)).trans (by kernel_rfl); have q4016 : E.row 4016 = some (5, (.ints .u8 (rdRaw b (rdBelow b (rdRaw b (rdNum b (rdNum b s).1).1 32).1 l.f0 5).1 32).2)) := (hA_.row 4016 (by kernel_rfl)).trans (by kernel_rfl); exact OpStep.plain rfl (Step.build (zs := [.int .i64 0, .int .i64 0, .slice none 0 0, .int .i64 0, .slice none 0 0]) (places := [(0, 1), (1, 1), (2, 1), (3, 1), (4, 1)]) (pss := [(0, [.d (.int .i64 (rdNum b s).2)]), (1, [.d (.int .i64 (rdNum b (rdNum b s).1).2)]), (2, [.row 4010 []]), (3, [.d (.int .i64 (rdBelow b (rdRaw b (rdNum b (rdNum b s).1).1 32).1 l.f0 5).2)]), (4, [.row 4016 []])]) (ps' := [.d (.int .i64 (rdNum b s).2), .d (.int .i64 (rdNum b (rdNum b s).1).2), .row 4010 [], .d (.int .i64 (rdBelow b (rdRaw b (rdNum b (rdNum b s).1).1 32).1 l.f0 5).2), .row 4016 []]) (t := 17) rfl rfl (by exact lt_ok rfl) (by kernel_rfl) (.cons ⟨rfl, (by exact (congrArg PV.flat (show Env.ev E (.tmp 6) = _ from g6.trans rfl)).trans rfl)⟩ (.cons ⟨rfl, (by exact (congrArg PV.flat (show Env.ev E (.tmp 8) = _ from g8.trans rfl)).trans rfl)⟩ (.cons ⟨rfl, (by exact (congrArg PV.flat (show Env.ev E (.tmp 10) = _ from g10.trans rfl)).trans rfl)⟩ (.cons ⟨rfl, (by exact (congrArg PV.flat (show Env.ev E (.tmp 14) = _ from g14.trans rfl)).trans rfl)⟩ (.cons ⟨rfl, (by exact (congrArg PV.flat (show Env.ev E (.tmp 16) = _ from g16.trans rfl)).trans rfl)⟩ .nil))))) (by simp only [List.all_cons, List.all_nil, Env.fine, q4010, q4016]; rfl) rfl rfl)) ?_
  refine .cons (fun E hA_ => by have g4 : E.get 4 = (.one (.ptr 4 0)) := (hA_.get 4 (by kernel_rfl)).trans (by kernel_rfl); have g17 : E.get 17 = (.agg [.d (.int .i64 (rdNum b s).2), .d (.int .i64 (rdNum b (rdNum b s).1).2), .row 4010 [], .d (.int .i64 (rdBelow b (rdRaw b (rdNum b (rdNum b s).1).1 32).1 l.f0 5).2), .row 4016 []]) := (hA_.get 17 (by kernel_rfl)).trans (by kernel_rfl); have q4010 : E.row 4010 = some (5, (.ints .u8 (rdRaw b (rdNum b (rdNum b s).1).1 32).2)) := (hA_.row 4010 (by kernel_rfl)).trans (by kernel_rfl); have q4016 : E.row 4016 = some (5, (.ints .u8 (rdRaw b (rdBelow b (rdRaw b (rdNum b (rdNum b s).1).1 32).1 l.f0 5).1 32).2)) := (hA_.row 4016 (by kernel_rfl)).trans (by kernel_rfl); have b4 : E.box 4 = some (64, [.d (.int .i64 0), .d (.int .i64 0), .nil, .d (.int .i64 0), .nil]) := (hA_.box 4 (by kernel_rfl)).trans (by kernel_rfl); exact OpStep.plain rfl (Step.store_box (n := 5) (p := (.agg [.d (.int .i64 (rdNum b s).2), .d (.int .i64 (rdNum b (rdNum b s).1).2), .row 4010 [], .d (.int .i64 (rdBelow b (rdRaw b (rdNum b (rdNum b s).1).1 32).1 l.f0 5).2), .row 4016 []])) (qs := [.d (.int .i64 (rdNum b s).2), .d (.int .i64 (rdNum b (rdNum b s).1).2), .row 4010 [], .d (.int .i64 (rdBelow b (rdRaw b (rdNum b (rdNum b s).1).1 32).1 l.f0 5).2), .row 4016 []]) (ps' := [.d (.int .i64 (rdNum b s).2), .d (.int .i64 (rdNum b (rdNum b s).1).2), .row 4010 [], .d (.int .i64 (rdBelow b (rdRaw b (rdNum b (rdNum b s).1).1 32).1 l.f0 5).2), .row 4016 []]) rfl rfl (by kernel_rfl) (show Env.ev E (.tmp 4) = _ from g4.trans rfl) b4 (show Env.ev E (.tmp 17) = _ from g17.trans rfl) rfl rfl (by simp only [List.all_cons, List.all_nil, List.flatten_cons, List.flatten_nil, List.append_nil, List.cons_append, List.nil_append, Env.fine, q4010, q4016]; rfl) (le_ok rfl) rfl)) ?_
  exact .nil _ _
 refine TL.weaken (E' := { tm := [(0, (.agg [.d (.int .i64 l.f0), .d (.int .i64 l.f1), .d (.int .i64 l.f2), .d (.int .i64 l.f3), .d (.int .i64 l.f4)])), (1, (.one (.ptr 800 0))), (2, (.one (.ptr 2 0))), (4, (.one (.ptr 4 0))), (5, (.one (.ptr 800 0))), (6, (.one (.d (.int .i64 (rdNum b s).2)))), (7, (.one (.ptr 800 0))), (8, (.one (.d (.int .i64 (rdNum b (rdNum b s).1).2)))), (9, (.one (.ptr 800 0))), (10, (.one (.row 4010 []))), (11, (.one (.ptr 800 0))), (12, (.one (.ptr 2 0))), (13, (.one (.d (.int .i64 l.f0)))), (14, (.one (.d (.int .i64 (rdBelow b (rdRaw b (rdNum b (rdNum b s).1).1 32).1 l.f0 5).2)))), (15, (.one (.ptr 800 0))), (16, (.one (.row 4016 []))), (17, (.agg [.d (.int .i64 (rdNum b s).2), .d (.int .i64 (rdNum b (rdNum b s).1).2), .row 4010 [], .d (.int .i64 (rdBelow b (rdRaw b (rdNum b (rdNum b s).1).1 32).1 l.f0 5).2), .row 4016 []]))], rows := [(4010, (5, (.ints .u8 (rdRaw b (rdNum b (rdNum b s).1).1 32).2))), (4016, (5, (.ints .u8 (rdRaw b (rdBelow b (rdRaw b (rdNum b (rdNum b s).1).1 32).1 l.f0 5).1 32).2)))], boxes := [(800, (184, [.d (.ints .u8 b), .d (.int .i64 (rdRaw b (rdBelow b (rdRaw b (rdNum b (rdNum b s).1).1 32).1 l.f0 5).1 32).1.f0), .d (.int .i64 (rdRaw b (rdBelow b (rdRaw b (rdNum b (rdNum b s).1).1 32).1 l.f0 5).1 32).1.f1)])), (2, (44, [.d (.int .i64 l.f0), .d (.int .i64 l.f1), .d (.int .i64 l.f2), .d (.int .i64 l.f3), .d (.int .i64 l.f4)])), (4, (64, [.d (.int .i64 (rdNum b s).2), .d (.int .i64 (rdNum b (rdNum b s).1).2), .row 4010 [], .d (.int .i64 (rdBelow b (rdRaw b (rdNum b (rdNum b s).1).1 32).1 l.f0 5).2), .row 4016 []]))] }) (Env.le_mk ⟨by kernel_rfl, by kernel_rfl, by kernel_rfl, by kernel_rfl, by kernel_rfl, by kernel_rfl, by kernel_rfl, by kernel_rfl, by kernel_rfl, by kernel_rfl, by kernel_rfl, by kernel_rfl, by kernel_rfl, by kernel_rfl, by kernel_rfl, by kernel_rfl, by kernel_rfl, trivial⟩ ⟨by kernel_rfl, by kernel_rfl, trivial⟩ ⟨by kernel_rfl, by kernel_rfl, by kernel_rfl, trivial⟩) ?_
 refine TL.nil ?_
 refine T.ret ?_
 exact ⟨[.d (.ints .u8 b), .d (.int .i64 (rdRaw b (rdBelow b (rdRaw b (rdNum b (rdNum b s).1).1 32).1 l.f0 5).1 32).1.f0), .d (.int .i64 (rdRaw b (rdBelow b (rdRaw b (rdNum b (rdNum b s).1).1 32).1 l.f0 5).1 32).1.f1)], [(true, [.d (.int .i64 (rdNum b s).2), .d (.int .i64 (rdNum b (rdNum b s).1).2), .row 4010 [], .d (.int .i64 (rdBelow b (rdRaw b (rdNum b (rdNum b s).1).1 32).1 l.f0 5).2), .row 4016 []])], rfl, rfl, (.cons rfl .nil), rfl, [4010, 4016], (RetC.rd' (by rfl) (RetC.rd' (by rfl) (RetC.rd' (by rfl) (RetC.rd' (by rfl) (RetC.rd' (by rfl) (RetC.own' rfl (by rfl) rfl (RetC.rd' (by rfl) (RetC.own' rfl (by rfl) rfl .nil))))))))⟩
theorem ok_impl_LimitsOk (l : SLimits) : RO Try.prog 146 [.agg l.cells] [(false, [.rd (.bool (limOk l))])] := by
 refine RO.intro Try.func146 rfl 26 rfl (le_ok rfl) fun w Z => ?_
 refine T.seq ?_
 refine T.region ?_
 refine TL.cons rfl (Step.box (p := (.agg [.d (.int .i64 l.f0), .d (.int .i64 l.f1), .d (.int .i64 l.f2), .d (.int .i64 l.f3), .d (.int .i64 l.f4)])) (ps := [.d (.int .i64 l.f0), .d (.int .i64 l.f1), .d (.int .i64 l.f2), .d (.int .i64 l.f3), .d (.int .i64 l.f4)]) rfl rfl (lt_ok rfl) rfl rfl rfl rfl rfl) ?_
 refine TL.cons rfl (Step.assign (p := (.one (.d (.bool false)))) rfl rfl (lt_ok rfl) rfl) ?_
 refine TL.nil ?_
 refine T.seq ?_
 refine T.region ?_
 refine TL.cons rfl (Step.fieldAddr (q := 0) (off := 0) (n := 1) (one := true) rfl rfl (lt_ok rfl) (by kernel_rfl) (Nat.succ_ne_zero _) rfl) ?_
 refine TL.cons rfl (Step.load_box (c := .d (.int .i64 l.f0)) rfl rfl (lt_ok rfl) (by kernel_rfl) rfl rfl rfl) ?_
 refine TL.cons rfl (Step.call (f := 144) (xs := [.tmp 4, .const (.int .i64 1), .const (.int .i64 10)]) (ps := [(.one (.d (.int .i64 l.f0))), (.one (.d (.int .i64 1))), (.one (.d (.int .i64 10)))]) false (g := .func 144) rfl rfl (lt_ok rfl) rfl (by kernel_rfl) rfl (.cons (.one (.d _)) (.cons (.one (.d _)) (.cons (.one (.d _)) .nil))) (ok_impl_within l.f0 1 10) (.inr rfl) rfl (by simp) rfl) ?_
 refine TL.cons rfl (Step.move (p := (.one (.d (.bool (decide (1 ≤ l.f0 ∧ l.f0 ≤ 10)))))) rfl rfl (lt_ok rfl) rfl) ?_
 rcases Bool.eq_false_or_eq_true (decide (1 ≤ l.f0 ∧ l.f0 ≤ 10)) with hb1 | hb1
 ·
  refine TL.known 6 hb1 rfl ?_
  refine TL.gyes 6 rfl rfl (lt_ok rfl) rfl (Step.fieldAddr (q := 0) (off := 1) (n := 1) (one := true) rfl rfl (lt_ok rfl) (by kernel_rfl) (Nat.succ_ne_zero _) rfl) ?_
  refine TL.gyes 6 rfl rfl (lt_ok rfl) rfl (Step.load_box (c := .d (.int .i64 l.f1)) rfl rfl (lt_ok rfl) (by kernel_rfl) rfl rfl rfl) ?_
  refine TL.gyes 6 rfl rfl (lt_ok rfl) rfl (Step.call (f := 144) (xs := [.tmp 8, .const (.int .i64 0), .const (.int .i64 40)]) (ps := [(.one (.d (.int .i64 l.f1))), (.one (.d (.int .i64 0))), (.one (.d (.int .i64 40)))]) false (g := .func 144) rfl rfl (lt_ok rfl) rfl (by kernel_rfl) rfl (.cons (.one (.d _)) (.cons (.one (.d _)) (.cons (.one (.d _)) .nil))) (ok_impl_within l.f1 0 40) (.inr rfl) rfl (by simp) rfl) ?_
  refine TL.cons rfl (Step.pick (b := true) (p := (.one (.d (.bool (decide (0 ≤ l.f1 ∧ l.f1 ≤ 40)))))) rfl rfl (lt_ok rfl) rfl rfl) ?_
  refine TL.cons rfl (Step.move (p := (.one (.d (.bool (decide (0 ≤ l.f1 ∧ l.f1 ≤ 40)))))) rfl rfl (lt_ok rfl) rfl) ?_
  rcases Bool.eq_false_or_eq_true (decide (0 ≤ l.f1 ∧ l.f1 ≤ 40)) with hb2 | hb2
  ·
   refine TL.known 11 hb2 rfl ?_
   refine TL.gyes 11 rfl rfl (lt_ok rfl) rfl (Step.fieldAddr (q := 0) (off := 2) (n := 1) (one := true) rfl rfl (lt_ok rfl) (by kernel_rfl) (Nat.succ_ne_zero _) rfl) ?_
   refine TL.gyes 11 rfl rfl (lt_ok rfl) rfl (Step.load_box (c := .d (.int .i64 l.f2)) rfl rfl (lt_ok rfl) (by kernel_rfl) rfl rfl rfl) ?_
   refine TL.gyes 11 rfl rfl (lt_ok rfl) rfl (Step.call (f := 144) (xs := [.tmp 13, .const (.int .i64 0), .const (.int .i64 8)]) (ps := [(.one (.d (.int .i64 l.f2))), (.one (.d (.int .i64 0))), (.one (.d (.int .i64 8)))]) false (g := .func 144) rfl rfl (lt_ok rfl) rfl (by kernel_rfl) rfl (.cons (.one (.d _)) (.cons (.one (.d _)) (.cons (.one (.d _)) .nil))) (ok_impl_within l.f2 0 8) (.inr rfl) rfl (by simp) rfl) ?_
   refine TL.cons rfl (Step.pick (b := true) (p := (.one (.d (.bool (decide (0 ≤ l.f2 ∧ l.f2 ≤ 8)))))) rfl rfl (lt_ok rfl) rfl rfl) ?_
   refine TL.cons rfl (Step.move (p := (.one (.d (.bool (decide (0 ≤ l.f2 ∧ l.f2 ≤ 8)))))) rfl rfl (lt_ok rfl) rfl) ?_
   rcases Bool.eq_false_or_eq_true (decide (0 ≤ l.f2 ∧ l.f2 ≤ 8)) with hb3 | hb3
   ·
    refine TL.known 16 hb3 rfl ?_
    refine TL.gyes 16 rfl rfl (lt_ok rfl) rfl (Step.fieldAddr (q := 0) (off := 3) (n := 1) (one := true) rfl rfl (lt_ok rfl) (by kernel_rfl) (Nat.succ_ne_zero _) rfl) ?_
    refine TL.gyes 16 rfl rfl (lt_ok rfl) rfl (Step.load_box (c := .d (.int .i64 l.f3)) rfl rfl (lt_ok rfl) (by kernel_rfl) rfl rfl rfl) ?_
    refine TL.gyes 16 rfl rfl (lt_ok rfl) rfl (Step.call (f := 144) (xs := [.tmp 18, .const (.int .i64 1), .const (.int .i64 4000)]) (ps := [(.one (.d (.int .i64 l.f3))), (.one (.d (.int .i64 1))), (.one (.d (.int .i64 4000)))]) false (g := .func 144) rfl rfl (lt_ok rfl) rfl (by kernel_rfl) rfl (.cons (.one (.d _)) (.cons (.one (.d _)) (.cons (.one (.d _)) .nil))) (ok_impl_within l.f3 1 4000) (.inr rfl) rfl (by simp) rfl) ?_
    refine TL.cons rfl (Step.pick (b := true) (p := (.one (.d (.bool (decide (1 ≤ l.f3 ∧ l.f3 ≤ 4000)))))) rfl rfl (lt_ok rfl) rfl rfl) ?_
    refine TL.cons rfl (Step.move (p := (.one (.d (.bool (decide (1 ≤ l.f3 ∧ l.f3 ≤ 4000)))))) rfl rfl (lt_ok rfl) rfl) ?_
    rcases Bool.eq_false_or_eq_true (decide (1 ≤ l.f3 ∧ l.f3 ≤ 4000)) with hb4 | hb4
    ·
     refine TL.known 21 hb4 rfl ?_
     refine TL.gyes 21 rfl rfl (lt_ok rfl) rfl (Step.fieldAddr (q := 0) (off := 4) (n := 1) (one := true) rfl rfl (lt_ok rfl) (by kernel_rfl) (Nat.succ_ne_zero _) rfl) ?_
     refine TL.gyes 21 rfl rfl (lt_ok rfl) rfl (Step.load_box (c := .d (.int .i64 l.f4)) rfl rfl (lt_ok rfl) (by kernel_rfl) rfl rfl rfl) ?_
     refine TL.gyes 21 rfl rfl (lt_ok rfl) rfl (Step.call (f := 144) (xs := [.tmp 23, .const (.int .i64 3), .const (.int .i64 5)]) (ps := [(.one (.d (.int .i64 l.f4))), (.one (.d (.int .i64 3))), (.one (.d (.int .i64 5)))]) false (g := .func 144) rfl rfl (lt_ok rfl) rfl (by kernel_rfl) rfl (.cons (.one (.d _)) (.cons (.one (.d _)) (.cons (.one (.d _)) .nil))) (ok_impl_within l.f4 3 5) (.inr rfl) rfl (by simp) rfl) ?_
     refine TL.cons rfl (Step.pick (b := true) (p := (.one (.d (.bool (decide (3 ≤ l.f4 ∧ l.f4 ≤ 5)))))) rfl rfl (lt_ok rfl) rfl rfl) ?_
     refine TL.cons rfl (Step.assign (p := (.one (.d (.bool (decide (3 ≤ l.f4 ∧ l.f4 ≤ 5)))))) rfl rfl (lt_ok rfl) rfl) ?_
     refine TL.nil ?_
     refine T.ret ?_
     exact ⟨[(false, [.d (.bool (decide (3 ≤ l.f4 ∧ l.f4 ≤ 5)))])], (.cons rfl .nil), rfl, [], (RetC.rd' (by first | rfl | (congr 1; symm; simp only [limOk, *, Bool.and_true, Bool.true_and, Bool.and_false, Bool.false_and, decide_true, decide_false, and_true, true_and, and_self, and_false, false_and, Bool.and_self, not_true, not_false, Bool.not_true, Bool.not_false, ge_iff_le, gt_iff_lt, if_true, if_false, Bool.false_eq_true, ite_true, ite_false, reduceIte]; done) | (congr 1; symm; simp_all [limOk]; done) | (congr 1; symm; simp_all [limOk]; omega)) .nil)⟩
    ·
     refine TL.known 21 hb4 rfl ?_
     refine TL.goff 21 rfl rfl (lt_ok rfl) rfl rfl rfl (lt_ok rfl) ?_
     refine TL.goff 21 rfl rfl (lt_ok rfl) rfl rfl rfl (lt_ok rfl) ?_
     refine TL.goff 21 rfl rfl (lt_ok rfl) rfl rfl rfl (lt_ok rfl) ?_
     refine TL.cons rfl (Step.pick (b := false) (p := (.one (.d (.bool false)))) rfl rfl (lt_ok rfl) rfl rfl) ?_
     refine TL.cons rfl (Step.assign (p := (.one (.d (.bool false)))) rfl rfl (lt_ok rfl) rfl) ?_
     refine TL.nil ?_
     refine T.ret ?_
     exact ⟨[(false, [.d (.bool false)])], (.cons rfl .nil), rfl, [], (RetC.rd' (by first | rfl | (congr 1; symm; simp only [limOk, *, Bool.and_true, Bool.true_and, Bool.and_false, Bool.false_and, decide_true, decide_false, and_true, true_and, and_self, and_false, false_and, Bool.and_self, not_true, not_false, Bool.not_true, Bool.not_false, ge_iff_le, gt_iff_lt, if_true, if_false, Bool.false_eq_true, ite_true, ite_false, reduceIte]; done) | (congr 1; symm; simp_all [limOk]; done) | (congr 1; symm; simp_all [limOk]; omega)) .nil)⟩
   ·
    refine TL.known 16 hb3 rfl ?_
    refine TL.goff 16 rfl rfl (lt_ok rfl) rfl rfl rfl (lt_ok rfl) ?_
    refine TL.goff 16 rfl rfl (lt_ok rfl) rfl rfl rfl (lt_ok rfl) ?_
    refine TL.goff 16 rfl rfl (lt_ok rfl) rfl rfl rfl (lt_ok rfl) ?_
    refine TL.cons rfl (Step.pick (b := false) (p := (.one (.d (.bool false)))) rfl rfl (lt_ok rfl) rfl rfl) ?_
    refine TL.cons rfl (Step.move (p := (.one (.d (.bool false)))) rfl rfl (lt_ok rfl) rfl) ?_
    refine TL.goff 21 rfl rfl (lt_ok rfl) rfl rfl rfl (lt_ok rfl) ?_
    refine TL.goff 21 rfl rfl (lt_ok rfl) rfl rfl rfl (lt_ok rfl) ?_
    refine TL.goff 21 rfl rfl (lt_ok rfl) rfl rfl rfl (lt_ok rfl) ?_
    refine TL.cons rfl (Step.pick (b := false) (p := (.one (.d (.bool false)))) rfl rfl (lt_ok rfl) rfl rfl) ?_
    refine TL.cons rfl (Step.assign (p := (.one (.d (.bool false)))) rfl rfl (lt_ok rfl) rfl) ?_
    refine TL.nil ?_
    refine T.ret ?_
    exact ⟨[(false, [.d (.bool false)])], (.cons rfl .nil), rfl, [], (RetC.rd' (by first | rfl | (congr 1; symm; simp only [limOk, *, Bool.and_true, Bool.true_and, Bool.and_false, Bool.false_and, decide_true, decide_false, and_true, true_and, and_self, and_false, false_and, Bool.and_self, not_true, not_false, Bool.not_true, Bool.not_false, ge_iff_le, gt_iff_lt, if_true, if_false, Bool.false_eq_true, ite_true, ite_false, reduceIte]; done) | (congr 1; symm; simp_all [limOk]; done) | (congr 1; symm; simp_all [limOk]; omega)) .nil)⟩
  ·
   refine TL.known 11 hb2 rfl ?_
   refine TL.goff 11 rfl rfl (lt_ok rfl) rfl rfl rfl (lt_ok rfl) ?_
   refine TL.goff 11 rfl rfl (lt_ok rfl) rfl rfl rfl (lt_ok rfl) ?_
   refine TL.goff 11 rfl rfl (lt_ok rfl) rfl rfl rfl (lt_ok rfl) ?_
   refine TL.cons rfl (Step.pick (b := false) (p := (.one (.d (.bool false)))) rfl rfl (lt_ok rfl) rfl rfl) ?_
   refine TL.cons rfl (Step.move (p := (.one (.d (.bool false)))) rfl rfl (lt_ok rfl) rfl) ?_
   refine TL.goff 16 rfl rfl (lt_ok rfl) rfl rfl rfl (lt_ok rfl) ?_
   refine TL.goff 16 rfl rfl (lt_ok rfl) rfl rfl rfl (lt_ok rfl) ?_
   refine TL.goff 16 rfl rfl (lt_ok rfl) rfl rfl rfl (lt_ok rfl) ?_
   refine TL.cons rfl (Step.pick (b := false) (p := (.one (.d (.bool false)))) rfl rfl (lt_ok rfl) rfl rfl) ?_
   refine TL.cons rfl (Step.move (p := (.one (.d (.bool false)))) rfl rfl (lt_ok rfl) rfl) ?_
   refine TL.goff 21 rfl rfl (lt_ok rfl) rfl rfl rfl (lt_ok rfl) ?_
   refine TL.goff 21 rfl rfl (lt_ok rfl) rfl rfl rfl (lt_ok rfl) ?_
   refine TL.goff 21 rfl rfl (lt_ok rfl) rfl rfl rfl (lt_ok rfl) ?_
   refine TL.cons rfl (Step.pick (b := false) (p := (.one (.d (.bool false)))) rfl rfl (lt_ok rfl) rfl rfl) ?_
   refine TL.cons rfl (Step.assign (p := (.one (.d (.bool false)))) rfl rfl (lt_ok rfl) rfl) ?_
   refine TL.nil ?_
   refine T.ret ?_
   exact ⟨[(false, [.d (.bool false)])], (.cons rfl .nil), rfl, [], (RetC.rd' (by first | rfl | (congr 1; symm; simp only [limOk, *, Bool.and_true, Bool.true_and, Bool.and_false, Bool.false_and, decide_true, decide_false, and_true, true_and, and_self, and_false, false_and, Bool.and_self, not_true, not_false, Bool.not_true, Bool.not_false, ge_iff_le, gt_iff_lt, if_true, if_false, Bool.false_eq_true, ite_true, ite_false, reduceIte]; done) | (congr 1; symm; simp_all [limOk]; done) | (congr 1; symm; simp_all [limOk]; omega)) .nil)⟩
 ·
  refine TL.known 6 hb1 rfl ?_
  refine TL.goff 6 rfl rfl (lt_ok rfl) rfl rfl rfl (lt_ok rfl) ?_
  refine TL.goff 6 rfl rfl (lt_ok rfl) rfl rfl rfl (lt_ok rfl) ?_
  refine TL.goff 6 rfl rfl (lt_ok rfl) rfl rfl rfl (lt_ok rfl) ?_
  refine TL.cons rfl (Step.pick (b := false) (p := (.one (.d (.bool false)))) rfl rfl (lt_ok rfl) rfl rfl) ?_
  refine TL.cons rfl (Step.move (p := (.one (.d (.bool false)))) rfl rfl (lt_ok rfl) rfl) ?_
  refine TL.goff 11 rfl rfl (lt_ok rfl) rfl rfl rfl (lt_ok rfl) ?_
  refine TL.goff 11 rfl rfl (lt_ok rfl) rfl rfl rfl (lt_ok rfl) ?_
  refine TL.goff 11 rfl rfl (lt_ok rfl) rfl rfl rfl (lt_ok rfl) ?_
  refine TL.cons rfl (Step.pick (b := false) (p := (.one (.d (.bool false)))) rfl rfl (lt_ok rfl) rfl rfl) ?_
  refine TL.cons rfl (Step.move (p := (.one (.d (.bool false)))) rfl rfl (lt_ok rfl) rfl) ?_
  refine TL.goff 16 rfl rfl (lt_ok rfl) rfl rfl rfl (lt_ok rfl) ?_
  refine TL.goff 16 rfl rfl (lt_ok rfl) rfl rfl rfl (lt_ok rfl) ?_
  refine TL.goff 16 rfl rfl (lt_ok rfl) rfl rfl rfl (lt_ok rfl) ?_
  refine TL.cons rfl (Step.pick (b := false) (p := (.one (.d (.bool false)))) rfl rfl (lt_ok rfl) rfl rfl) ?_
  refine TL.cons rfl (Step.move (p := (.one (.d (.bool false)))) rfl rfl (lt_ok rfl) rfl) ?_
  refine TL.goff 21 rfl rfl (lt_ok rfl) rfl rfl rfl (lt_ok rfl) ?_
  refine TL.goff 21 rfl rfl (lt_ok rfl) rfl rfl rfl (lt_ok rfl) ?_
  refine TL.goff 21 rfl rfl (lt_ok rfl) rfl rfl rfl (lt_ok rfl) ?_
  refine TL.cons rfl (Step.pick (b := false) (p := (.one (.d (.bool false)))) rfl rfl (lt_ok rfl) rfl rfl) ?_
  refine TL.cons rfl (Step.assign (p := (.one (.d (.bool false)))) rfl rfl (lt_ok rfl) rfl) ?_
  refine TL.nil ?_
  refine T.ret ?_
  exact ⟨[(false, [.d (.bool false)])], (.cons rfl .nil), rfl, [], (RetC.rd' (by first | rfl | (congr 1; symm; simp only [limOk, *, Bool.and_true, Bool.true_and, Bool.and_false, Bool.false_and, decide_true, decide_false, and_true, true_and, and_self, and_false, false_and, Bool.and_self, not_true, not_false, Bool.not_true, Bool.not_false, ge_iff_le, gt_iff_lt, if_true, if_false, Bool.false_eq_true, ite_true, ite_false, reduceIte]; done) | (congr 1; symm; simp_all [limOk]; done) | (congr 1; symm; simp_all [limOk]; omega)) .nil)⟩
theorem ok_impl_Vote_ (l : SLimits) (b : List Int) (a : Int) (h0_ : U8s b) (h1_ : b.length ≤ 1048576) : RO Try.prog 124 [.agg l.cells, .one (.ints .u8 b), .one (.int .i64 a), .one (.fn 125)] [(true, [.rd (.int .i64 (getVote l b a).1.f0), .rd (.int .i64 (getVote l b a).1.f1), .own 5 (.ints .u8 (getVote l b a).1.f2), .rd (.int .i64 (getVote l b a).1.f3), .own 5 (.ints .u8 (getVote l b a).1.f4)]), (false, [.rd (.int .i64 (getVote l b a).2.1)]), (false, [.rd (.int .i64 (getVote l b a).2.2)])] := by
 refine RO.intro Try.func124 rfl 41 rfl (le_ok rfl) fun w Z => ?_
 refine T.bnd 1 0 rfl rfl fun hb_1_0 => ?_
 simp only [D.size, List.length_map] at hb_1_0
 refine T.seq ?_
 refine T.region ?_
 refine TL.cons rfl (Step.box (p := (.agg [.d (.int .i64 l.f0), .d (.int .i64 l.f1), .d (.int .i64 l.f2), .d (.int .i64 l.f3), .d (.int .i64 l.f4)])) (ps := [.d (.int .i64 l.f0), .d (.int .i64 l.f1), .d (.int .i64 l.f2), .d (.int .i64 l.f3), .d (.int .i64 l.f4)]) rfl rfl (lt_ok rfl) rfl rfl rfl rfl rfl) ?_
 refine TL.cons rfl (Step.alloc (cs := [.int .i64 0, .int .i64 0, .slice none 0 0, .int .i64 0, .slice none 0 0]) (ps := [.d (.int .i64 0), .d (.int .i64 0), .nil, .d (.int .i64 0), .nil]) rfl rfl (lt_ok rfl) (by kernel_rfl) rfl rfl rfl rfl) ?_
 refine TL.cons rfl (Step.assign (p := (.one (.d (.int .i64 0)))) rfl rfl (lt_ok rfl) rfl) ?_
 refine TL.cons rfl (Step.assign (p := (.one (.d (.int .i64 0)))) rfl rfl (lt_ok rfl) rfl) ?_
 refine TL.nil ?_
 refine T.seq ?_
 refine T.region ?_
 refine TL.cons rfl (Step.alloc (cs := [.int .i64 0, .int .i64 0, .slice none 0 0, .int .i64 0, .slice none 0 0]) (ps := [.d (.int .i64 0), .d (.int .i64 0), .nil, .d (.int .i64 0), .nil]) rfl rfl (lt_ok rfl) (by kernel_rfl) rfl rfl rfl rfl) ?_
 refine TL.nil ?_
 refine T.seq ?_
 refine T.seq ?_
 refine T.region ?_
 refine TL.cons rfl (Step.load_box_agg (n := 5) (qs := [.d (.int .i64 l.f0), .d (.int .i64 l.f1), .d (.int .i64 l.f2), .d (.int .i64 l.f3), .d (.int .i64 l.f4)]) rfl rfl (lt_ok rfl) (by kernel_rfl) rfl rfl rfl rfl) ?_
 refine TL.cons rfl (Step.call (f := 146) (xs := [.tmp 14]) (ps := [(.agg [.d (.int .i64 l.f0), .d (.int .i64 l.f1), .d (.int .i64 l.f2), .d (.int .i64 l.f3), .d (.int .i64 l.f4)])]) false (g := .func 146) rfl rfl (lt_ok rfl) rfl (by kernel_rfl) rfl (.cons (.agg (.cons (.d _) (.cons (.d _) (.cons (.d _) (.cons (.d _) (.cons (.d _) .nil)))))) .nil) (ok_impl_LimitsOk l) (.inr rfl) rfl (by simp) rfl) ?_
 refine TL.cons rfl (Step.not (b := (limOk l)) rfl rfl (lt_ok rfl) rfl) ?_
 refine TL.nil ?_
 refine T.cond (b := !(limOk l)) rfl (fun h1 => ?_) (fun h1 => ?_)
 ·
  replace h1 : (limOk l) = false := by simpa only [Bool.not_eq_true', Bool.not_eq_false'] using h1
  refine T.seq ?_
  refine T.region ?_
  refine TL.cons rfl (Step.load_box_agg (n := 5) (qs := [.d (.int .i64 0), .d (.int .i64 0), .nil, .d (.int .i64 0), .nil]) rfl rfl (lt_ok rfl) (by kernel_rfl) rfl rfl rfl rfl) ?_
  refine TL.cons rfl (Step.store_box (n := 5) (p := (.agg [.d (.int .i64 0), .d (.int .i64 0), .nil, .d (.int .i64 0), .nil])) (qs := [.d (.int .i64 0), .d (.int .i64 0), .nil, .d (.int .i64 0), .nil]) (ps' := [.d (.int .i64 0), .d (.int .i64 0), .nil, .d (.int .i64 0), .nil]) rfl rfl (by kernel_rfl) rfl rfl rfl rfl rfl rfl (le_ok rfl) rfl) ?_
  refine TL.cons rfl (Step.assign (p := (.one (.d (.int .i64 0)))) rfl rfl (lt_ok rfl) rfl) ?_
  refine TL.cons rfl (Step.assign (p := (.one (.d (.int .i64 5)))) rfl rfl (lt_ok rfl) rfl) ?_
  refine TL.nil ?_
  refine T.ret ?_
  exact ⟨[(true, [.d (.int .i64 0), .d (.int .i64 0), .nil, .d (.int .i64 0), .nil]), (false, [.d (.int .i64 0)]), (false, [.d (.int .i64 5)])], (.cons rfl (.cons rfl (.cons rfl .nil))), rfl, [], (RetC.rd' (by first | rfl | (congr 1; unfold getVote; first | (rw [getOut_yes (by assumption)]; first | done | rfl) | (rw [getOut_no (by assumption)]; first | done | rfl) | (rw [rs0_ok (by assumption), getOut_yes (by assumption)]; first | done | rfl) | (rw [rs0_ok (by assumption), getOut_no (by assumption)]; first | done | rfl) | (rw [rs0_no (by assumption), getOut_nr (rdVote_er (show ¬ ((5 : Int) = 0) by decide)) rfl]; first | done | rfl)) | (simp only [D.size, List.length_map]; unfold getVote; first | (rw [getOut_yes (by assumption)]; first | done | rfl) | (rw [getOut_no (by assumption)]; first | done | rfl) | (rw [rs0_ok (by assumption), getOut_yes (by assumption)]; first | done | rfl) | (rw [rs0_ok (by assumption), getOut_no (by assumption)]; first | done | rfl) | (rw [rs0_no (by assumption), getOut_nr (rdVote_er (show ¬ ((5 : Int) = 0) by decide)) rfl]; first | done | rfl))) (RetC.rd' (by first | rfl | (congr 1; unfold getVote; first | (rw [getOut_yes (by assumption)]; first | done | rfl) | (rw [getOut_no (by assumption)]; first | done | rfl) | (rw [rs0_ok (by assumption), getOut_yes (by assumption)]; first | done | rfl) | (rw [rs0_ok (by assumption), getOut_no (by assumption)]; first | done | rfl) | (rw [rs0_no (by assumption), getOut_nr (rdVote_er (show ¬ ((5 : Int) = 0) by decide)) rfl]; first | done | rfl)) | (simp only [D.size, List.length_map]; unfold getVote; first | (rw [getOut_yes (by assumption)]; first | done | rfl) | (rw [getOut_no (by assumption)]; first | done | rfl) | (rw [rs0_ok (by assumption), getOut_yes (by assumption)]; first | done | rfl) | (rw [rs0_ok (by assumption), getOut_no (by assumption)]; first | done | rfl) | (rw [rs0_no (by assumption), getOut_nr (rdVote_er (show ¬ ((5 : Int) = 0) by decide)) rfl]; first | done | rfl))) (RetC.nilown' rfl (by first | rfl | (congr 1; unfold getVote; first | (rw [getOut_yes (by assumption)]; first | done | rfl) | (rw [getOut_no (by assumption)]; first | done | rfl) | (rw [rs0_ok (by assumption), getOut_yes (by assumption)]; first | done | rfl) | (rw [rs0_ok (by assumption), getOut_no (by assumption)]; first | done | rfl) | (rw [rs0_no (by assumption), getOut_nr (rdVote_er (show ¬ ((5 : Int) = 0) by decide)) rfl]; first | done | rfl)) | (simp only [D.size, List.length_map]; unfold getVote; first | (rw [getOut_yes (by assumption)]; first | done | rfl) | (rw [getOut_no (by assumption)]; first | done | rfl) | (rw [rs0_ok (by assumption), getOut_yes (by assumption)]; first | done | rfl) | (rw [rs0_ok (by assumption), getOut_no (by assumption)]; first | done | rfl) | (rw [rs0_no (by assumption), getOut_nr (rdVote_er (show ¬ ((5 : Int) = 0) by decide)) rfl]; first | done | rfl))) (by first | exact trivial | exact D.wf_nil _) (RetC.rd' (by first | rfl | (congr 1; unfold getVote; first | (rw [getOut_yes (by assumption)]; first | done | rfl) | (rw [getOut_no (by assumption)]; first | done | rfl) | (rw [rs0_ok (by assumption), getOut_yes (by assumption)]; first | done | rfl) | (rw [rs0_ok (by assumption), getOut_no (by assumption)]; first | done | rfl) | (rw [rs0_no (by assumption), getOut_nr (rdVote_er (show ¬ ((5 : Int) = 0) by decide)) rfl]; first | done | rfl)) | (simp only [D.size, List.length_map]; unfold getVote; first | (rw [getOut_yes (by assumption)]; first | done | rfl) | (rw [getOut_no (by assumption)]; first | done | rfl) | (rw [rs0_ok (by assumption), getOut_yes (by assumption)]; first | done | rfl) | (rw [rs0_ok (by assumption), getOut_no (by assumption)]; first | done | rfl) | (rw [rs0_no (by assumption), getOut_nr (rdVote_er (show ¬ ((5 : Int) = 0) by decide)) rfl]; first | done | rfl))) (RetC.nilown' rfl (by first | rfl | (congr 1; unfold getVote; first | (rw [getOut_yes (by assumption)]; first | done | rfl) | (rw [getOut_no (by assumption)]; first | done | rfl) | (rw [rs0_ok (by assumption), getOut_yes (by assumption)]; first | done | rfl) | (rw [rs0_ok (by assumption), getOut_no (by assumption)]; first | done | rfl) | (rw [rs0_no (by assumption), getOut_nr (rdVote_er (show ¬ ((5 : Int) = 0) by decide)) rfl]; first | done | rfl)) | (simp only [D.size, List.length_map]; unfold getVote; first | (rw [getOut_yes (by assumption)]; first | done | rfl) | (rw [getOut_no (by assumption)]; first | done | rfl) | (rw [rs0_ok (by assumption), getOut_yes (by assumption)]; first | done | rfl) | (rw [rs0_ok (by assumption), getOut_no (by assumption)]; first | done | rfl) | (rw [rs0_no (by assumption), getOut_nr (rdVote_er (show ¬ ((5 : Int) = 0) by decide)) rfl]; first | done | rfl))) (by first | exact trivial | exact D.wf_nil _) (RetC.rd' (by first | rfl | (congr 1; unfold getVote; first | (rw [getOut_yes (by assumption)]; first | done | rfl) | (rw [getOut_no (by assumption)]; first | done | rfl) | (rw [rs0_ok (by assumption), getOut_yes (by assumption)]; first | done | rfl) | (rw [rs0_ok (by assumption), getOut_no (by assumption)]; first | done | rfl) | (rw [rs0_no (by assumption), getOut_nr (rdVote_er (show ¬ ((5 : Int) = 0) by decide)) rfl]; first | done | rfl)) | (simp only [D.size, List.length_map]; unfold getVote; first | (rw [getOut_yes (by assumption)]; first | done | rfl) | (rw [getOut_no (by assumption)]; first | done | rfl) | (rw [rs0_ok (by assumption), getOut_yes (by assumption)]; first | done | rfl) | (rw [rs0_ok (by assumption), getOut_no (by assumption)]; first | done | rfl) | (rw [rs0_no (by assumption), getOut_nr (rdVote_er (show ¬ ((5 : Int) = 0) by decide)) rfl]; first | done | rfl))) (RetC.rd' (by first | rfl | (congr 1; unfold getVote; first | (rw [getOut_yes (by assumption)]; first | done | rfl) | (rw [getOut_no (by assumption)]; first | done | rfl) | (rw [rs0_ok (by assumption), getOut_yes (by assumption)]; first | done | rfl) | (rw [rs0_ok (by assumption), getOut_no (by assumption)]; first | done | rfl) | (rw [rs0_no (by assumption), getOut_nr (rdVote_er (show ¬ ((5 : Int) = 0) by decide)) rfl]; first | done | rfl)) | (simp only [D.size, List.length_map]; unfold getVote; first | (rw [getOut_yes (by assumption)]; first | done | rfl) | (rw [getOut_no (by assumption)]; first | done | rfl) | (rw [rs0_ok (by assumption), getOut_yes (by assumption)]; first | done | rfl) | (rw [rs0_ok (by assumption), getOut_no (by assumption)]; first | done | rfl) | (rw [rs0_no (by assumption), getOut_nr (rdVote_er (show ¬ ((5 : Int) = 0) by decide)) rfl]; first | done | rfl))) .nil)))))))⟩
 ·
  replace h1 : (limOk l) = true := by simpa only [Bool.not_eq_true', Bool.not_eq_false'] using h1
  refine T.skip ?_
  refine T.seq ?_
  refine T.region ?_
  refine TL.cons rfl (Step.move (p := (.one (.d (.ints .u8 b)))) rfl rfl (lt_ok rfl) rfl) ?_
  refine TL.cons rfl (Step.move (p := (.one (.d (.int .i64 a)))) rfl rfl (lt_ok rfl) rfl) ?_
  refine TL.cons rfl (Step.build (zs := [.slice none 0 0, .int .i64 0, .int .i64 0]) (places := [(0, 1), (1, 1), (2, 1)]) (pss := [(0, [.d (.ints .u8 b)]), (1, [.d (.int .i64 a)])]) (ps' := [.d (.ints .u8 b), .d (.int .i64 a), .d (.int .i64 0)]) rfl rfl (lt_ok rfl) (by kernel_rfl) (.cons ⟨rfl, rfl⟩ (.cons ⟨rfl, rfl⟩ .nil)) rfl rfl rfl) ?_
  refine TL.cons rfl (Step.box (p := (.agg [.d (.ints .u8 b), .d (.int .i64 a), .d (.int .i64 0)])) (ps := [.d (.ints .u8 b), .d (.int .i64 a), .d (.int .i64 0)]) rfl rfl (lt_ok rfl) rfl rfl rfl rfl rfl) ?_
  refine TL.cons rfl (Step.assign (p := (.one (.ptr 21 0))) rfl rfl (lt_ok rfl) rfl) ?_
  refine TL.nil ?_
  refine T.seq ?_
  refine T.region ?_
  refine TL.cons rfl (Step.move (p := (.one (.d (.fn 125)))) rfl rfl (lt_ok rfl) rfl) ?_
  refine TL.cons rfl (Step.load_box_agg (n := 5) (qs := [.d (.int .i64 l.f0), .d (.int .i64 l.f1), .d (.int .i64 l.f2), .d (.int .i64 l.f3), .d (.int .i64 l.f4)]) rfl rfl (lt_ok rfl) (by kernel_rfl) rfl rfl rfl rfl) ?_
  refine TL.cons rfl (Step.move (p := (.one (.ptr 21 0))) rfl rfl (lt_ok rfl) rfl) ?_
  have nn2 := @rdVote_sm l b (⟨a, 0⟩ : SRS) (by first | assumption | omega)
  refine TL.cons rfl (Step.callX (f := 125) (b := 21) (T := 184) (xs := [.tmp 23, .tmp 24]) (ps := [(.agg [.d (.int .i64 l.f0), .d (.int .i64 l.f1), .d (.int .i64 l.f2), .d (.int .i64 l.f3), .d (.int .i64 l.f4)]), (.one (.ptr 21 0))]) (args := [.rd (.agg [(.int .i64 l.f0), (.int .i64 l.f1), (.int .i64 l.f2), (.int .i64 l.f3), (.int .i64 l.f4)]), .bx]) (bps := [.d (.ints .u8 b), .d (.int .i64 a), .d (.int .i64 0)]) (cs := [.rd (.ints .u8 b), .rd (.int .i64 (⟨a, 0⟩ : SRS).f0), .rd (.int .i64 (⟨a, 0⟩ : SRS).f1)]) (cs' := [.rd (.ints .u8 b), .rd (.int .i64 (rdVote l b (⟨a, 0⟩ : SRS)).1.f0), .rd (.int .i64 (rdVote l b (⟨a, 0⟩ : SRS)).1.f1)]) (res := [(true, [.rd (.int .i64 (rdVote l b (⟨a, 0⟩ : SRS)).2.f0), .rd (.int .i64 (rdVote l b (⟨a, 0⟩ : SRS)).2.f1), .own 5 (.ints .u8 (rdVote l b (⟨a, 0⟩ : SRS)).2.f2), .rd (.int .i64 (rdVote l b (⟨a, 0⟩ : SRS)).2.f3), .own 5 (.ints .u8 (rdVote l b (⟨a, 0⟩ : SRS)).2.f4)])]) (ss := []) (g := .tmp 22) rfl rfl (lt_ok rfl) rfl (by kernel_rfl) rfl (.cons (.rd (.agg (.cons (.d _) (.cons (.d _) (.cons (.d _) (.cons (.d _) (.cons (.d _) .nil))))))) (.cons (.bx) .nil)) rfl (.rd (.rd (.rd .nil))) (ok_impl_readVote b (⟨a, 0⟩ : SRS) l (by assumption) (by first | omega | assumption | (simp only [List.length_append] at *; omega))) rfl rfl (by simp) rfl) ?_
  refine TL.cons rfl (Step.alloc (cs := [.int .i64 0, .int .i64 0, .slice none 0 0, .int .i64 0, .slice none 0 0]) (ps := [.d (.int .i64 0), .d (.int .i64 0), .nil, .d (.int .i64 0), .nil]) rfl rfl (lt_ok rfl) (by kernel_rfl) rfl rfl rfl rfl) ?_
  refine TL.cons rfl (Step.store_box (n := 5) (p := (.agg [.d (.int .i64 (rdVote l b (⟨a, 0⟩ : SRS)).2.f0), .d (.int .i64 (rdVote l b (⟨a, 0⟩ : SRS)).2.f1), .row 6025 [], .d (.int .i64 (rdVote l b (⟨a, 0⟩ : SRS)).2.f3), .row 8025 []])) (qs := [.d (.int .i64 (rdVote l b (⟨a, 0⟩ : SRS)).2.f0), .d (.int .i64 (rdVote l b (⟨a, 0⟩ : SRS)).2.f1), .row 6025 [], .d (.int .i64 (rdVote l b (⟨a, 0⟩ : SRS)).2.f3), .row 8025 []]) (ps' := [.d (.int .i64 (rdVote l b (⟨a, 0⟩ : SRS)).2.f0), .d (.int .i64 (rdVote l b (⟨a, 0⟩ : SRS)).2.f1), .row 6025 [], .d (.int .i64 (rdVote l b (⟨a, 0⟩ : SRS)).2.f3), .row 8025 []]) rfl rfl (by kernel_rfl) rfl rfl rfl rfl rfl rfl (le_ok rfl) rfl) ?_
  refine TL.nil ?_
  refine T.seq ?_
  refine T.seq ?_
  refine T.region ?_
  refine TL.cons rfl (Step.move (p := (.one (.ptr 21 0))) rfl rfl (lt_ok rfl) rfl) ?_
  refine TL.cons rfl (Step.nilCheck rfl rfl (lt_ok rfl) rfl) ?_
  refine TL.cons rfl (Step.fieldAddr (q := 0) (off := 2) (n := 1) (one := true) rfl rfl (lt_ok rfl) (by kernel_rfl) (Nat.succ_ne_zero _) rfl) ?_
  refine TL.cons rfl (Step.load_box (c := .d (.int .i64 (rdVote l b (⟨a, 0⟩ : SRS)).1.f1)) rfl rfl (lt_ok rfl) (by kernel_rfl) rfl rfl rfl) ?_
  refine TL.cons rfl (Step.bin rfl rfl (lt_ok rfl) rfl rfl (Bin.neq (k := .i64) (a := (rdVote l b (⟨a, 0⟩ : SRS)).1.f1) (b := 0))) ?_
  refine TL.nil ?_
  refine T.cond (b := decide ((rdVote l b (⟨a, 0⟩ : SRS)).1.f1 ≠ 0)) rfl (fun h3 => ?_) (fun h3 => ?_)
  ·
   replace h3 := of_decide_eq_true h3
   refine T.seq ?_
   refine T.drawX [{ dst := some 31, pv := (.agg [.d (.int .i64 0), .d (.int .i64 0), .nil, .d (.int .i64 0), .nil]) }, { dst := some 32, pv := (.one (.ptr 21 0)) }, { dst := some 33, pv := (.one (.ptr 21 0)) }, { dst := some 34, pv := (.one (.ptr 21 2)) }, { dst := some 35, pv := (.one (.d (.int .i64 (rdVote l b (⟨a, 0⟩ : SRS)).1.f1))) }, { box := some (8, (64, [.d (.int .i64 0), .d (.int .i64 0), .nil, .d (.int .i64 0), .nil])) }, { dst := some 9, pv := (.one (.d (.int .i64 0))) }, { dst := some 10, pv := (.one (.d (.int .i64 (rdVote l b (⟨a, 0⟩ : SRS)).1.f1))) }] (by kernel_rfl) (by kernel_rfl) ?_ ?_
   ·
    refine .cons (fun E hA_ => by have g11 : E.get 11 = (.one (.ptr 11 0)) := (hA_.get 11 (by kernel_rfl)).trans (by kernel_rfl); have b11 : E.box 11 = some (64, [.d (.int .i64 0), .d (.int .i64 0), .nil, .d (.int .i64 0), .nil]) := (hA_.box 11 (by kernel_rfl)).trans (by kernel_rfl); exact OpStep.plain rfl (Step.load_box_agg (n := 5) (qs := [.d (.int .i64 0), .d (.int .i64 0), .nil, .d (.int .i64 0), .nil]) (t := 31) rfl rfl (by exact lt_ok rfl) (by kernel_rfl) (show Env.ev E (.tmp 11) = _ from g11.trans rfl) b11 rfl rfl)) ?_
    refine .cons (fun E hA_ => by have g12 : E.get 12 = (.one (.ptr 21 0)) := (hA_.get 12 (by kernel_rfl)).trans (by kernel_rfl); exact OpStep.plain rfl (Step.move (p := (.one (.ptr 21 0))) (t := 32) rfl rfl (by exact lt_ok rfl) (show Env.ev E (.tmp 12) = _ from g12.trans rfl))) ?_
    refine .cons (fun E hA_ => by have g32 : E.get 32 = (.one (.ptr 21 0)) := (hA_.get 32 (by kernel_rfl)).trans (by kernel_rfl); exact OpStep.plain rfl (Step.nilCheck (t := 33) rfl rfl (by exact lt_ok rfl) (show Env.ev E (.tmp 32) = _ from g32.trans rfl))) ?_
    refine .cons (fun E hA_ => by have g33 : E.get 33 = (.one (.ptr 21 0)) := (hA_.get 33 (by kernel_rfl)).trans (by kernel_rfl); exact OpStep.plain rfl (Step.fieldAddr (q := 0) (off := 2) (n := 1) (one := true) (t := 34) rfl rfl (by exact lt_ok rfl) (by kernel_rfl) (Nat.succ_ne_zero _) (show Env.ev E (.tmp 33) = _ from g33.trans rfl))) ?_
    refine .cons (fun E hA_ => by have g34 : E.get 34 = (.one (.ptr 21 2)) := (hA_.get 34 (by kernel_rfl)).trans (by kernel_rfl); have b21 : E.box 21 = some (184, [.d (.ints .u8 b), .d (.int .i64 (rdVote l b (⟨a, 0⟩ : SRS)).1.f0), .d (.int .i64 (rdVote l b (⟨a, 0⟩ : SRS)).1.f1)]) := (hA_.box 21 (by kernel_rfl)).trans (by kernel_rfl); exact OpStep.plain rfl (Step.load_box (c := .d (.int .i64 (rdVote l b (⟨a, 0⟩ : SRS)).1.f1)) (t := 35) rfl rfl (by exact lt_ok rfl) (by kernel_rfl) (show Env.ev E (.tmp 34) = _ from g34.trans rfl) b21 rfl)) ?_
    refine .cons (fun E hA_ => by have g8 : E.get 8 = (.one (.ptr 8 0)) := (hA_.get 8 (by kernel_rfl)).trans (by kernel_rfl); have g31 : E.get 31 = (.agg [.d (.int .i64 0), .d (.int .i64 0), .nil, .d (.int .i64 0), .nil]) := (hA_.get 31 (by kernel_rfl)).trans (by kernel_rfl); have b8 : E.box 8 = some (64, [.d (.int .i64 0), .d (.int .i64 0), .nil, .d (.int .i64 0), .nil]) := (hA_.box 8 (by kernel_rfl)).trans (by kernel_rfl); exact OpStep.plain rfl (Step.store_box (n := 5) (p := (.agg [.d (.int .i64 0), .d (.int .i64 0), .nil, .d (.int .i64 0), .nil])) (qs := [.d (.int .i64 0), .d (.int .i64 0), .nil, .d (.int .i64 0), .nil]) (ps' := [.d (.int .i64 0), .d (.int .i64 0), .nil, .d (.int .i64 0), .nil]) rfl rfl (by kernel_rfl) (show Env.ev E (.tmp 8) = _ from g8.trans rfl) b8 (show Env.ev E (.tmp 31) = _ from g31.trans rfl) rfl rfl rfl (le_ok rfl) rfl)) ?_
    refine .cons (fun E hA_ => by exact OpStep.plain rfl (Step.assign (p := (.one (.d (.int .i64 0)))) (t := 9) rfl rfl (by exact lt_ok rfl) rfl)) ?_
    refine .cons (fun E hA_ => by have g35 : E.get 35 = (.one (.d (.int .i64 (rdVote l b (⟨a, 0⟩ : SRS)).1.f1))) := (hA_.get 35 (by kernel_rfl)).trans (by kernel_rfl); exact OpStep.plain rfl (Step.assign (p := (.one (.d (.int .i64 (rdVote l b (⟨a, 0⟩ : SRS)).1.f1)))) (t := 10) rfl rfl (by exact lt_ok rfl) (show Env.ev E (.tmp 35) = _ from g35.trans rfl))) ?_
    exact .nil _ _
   refine TL.weaken (E' := { tm := [(0, (.agg [.d (.int .i64 l.f0), .d (.int .i64 l.f1), .d (.int .i64 l.f2), .d (.int .i64 l.f3), .d (.int .i64 l.f4)])), (1, (.one (.d (.ints .u8 b)))), (2, (.one (.d (.int .i64 a)))), (3, (.one (.d (.fn 125)))), (4, (.one (.ptr 4 0))), (8, (.one (.ptr 8 0))), (9, (.one (.d (.int .i64 0)))), (10, (.one (.d (.int .i64 (rdVote l b (⟨a, 0⟩ : SRS)).1.f1)))), (11, (.one (.ptr 11 0))), (14, (.agg [.d (.int .i64 l.f0), .d (.int .i64 l.f1), .d (.int .i64 l.f2), .d (.int .i64 l.f3), .d (.int .i64 l.f4)])), (15, (.one (.d (.bool (limOk l))))), (16, (.one (.d (.bool (!(limOk l)))))), (18, (.one (.d (.ints .u8 b)))), (19, (.one (.d (.int .i64 a)))), (20, (.agg [.d (.ints .u8 b), .d (.int .i64 a), .d (.int .i64 0)])), (21, (.one (.ptr 21 0))), (12, (.one (.ptr 21 0))), (22, (.one (.d (.fn 125)))), (23, (.agg [.d (.int .i64 l.f0), .d (.int .i64 l.f1), .d (.int .i64 l.f2), .d (.int .i64 l.f3), .d (.int .i64 l.f4)])), (24, (.one (.ptr 21 0))), (25, (.agg [.d (.int .i64 (rdVote l b (⟨a, 0⟩ : SRS)).2.f0), .d (.int .i64 (rdVote l b (⟨a, 0⟩ : SRS)).2.f1), .row 6025 [], .d (.int .i64 (rdVote l b (⟨a, 0⟩ : SRS)).2.f3), .row 8025 []])), (13, (.one (.ptr 13 0))), (26, (.one (.ptr 21 0))), (27, (.one (.ptr 21 0))), (28, (.one (.ptr 21 2))), (29, (.one (.d (.int .i64 (rdVote l b (⟨a, 0⟩ : SRS)).1.f1)))), (30, (.one (.d (.bool (decide ((rdVote l b (⟨a, 0⟩ : SRS)).1.f1 ≠ 0)))))), (31, (.agg [.d (.int .i64 0), .d (.int .i64 0), .nil, .d (.int .i64 0), .nil])), (32, (.one (.ptr 21 0))), (33, (.one (.ptr 21 0))), (34, (.one (.ptr 21 2))), (35, (.one (.d (.int .i64 (rdVote l b (⟨a, 0⟩ : SRS)).1.f1))))], rows := [(6025, (5, (.ints .u8 (rdVote l b (⟨a, 0⟩ : SRS)).2.f2))), (8025, (5, (.ints .u8 (rdVote l b (⟨a, 0⟩ : SRS)).2.f4)))], boxes := [(4, (44, [.d (.int .i64 l.f0), .d (.int .i64 l.f1), .d (.int .i64 l.f2), .d (.int .i64 l.f3), .d (.int .i64 l.f4)])), (8, (64, [.d (.int .i64 0), .d (.int .i64 0), .nil, .d (.int .i64 0), .nil])), (11, (64, [.d (.int .i64 0), .d (.int .i64 0), .nil, .d (.int .i64 0), .nil])), (21, (184, [.d (.ints .u8 b), .d (.int .i64 (rdVote l b (⟨a, 0⟩ : SRS)).1.f0), .d (.int .i64 (rdVote l b (⟨a, 0⟩ : SRS)).1.f1)])), (13, (64, [.d (.int .i64 (rdVote l b (⟨a, 0⟩ : SRS)).2.f0), .d (.int .i64 (rdVote l b (⟨a, 0⟩ : SRS)).2.f1), .row 6025 [], .d (.int .i64 (rdVote l b (⟨a, 0⟩ : SRS)).2.f3), .row 8025 []]))] }) (Env.le_mk ⟨by kernel_rfl, by kernel_rfl, by kernel_rfl, by kernel_rfl, by kernel_rfl, by kernel_rfl, by kernel_rfl, by kernel_rfl, by kernel_rfl, by kernel_rfl, by kernel_rfl, by kernel_rfl, by kernel_rfl, by kernel_rfl, by kernel_rfl, by kernel_rfl, by kernel_rfl, by kernel_rfl, by kernel_rfl, by kernel_rfl, by kernel_rfl, by kernel_rfl, by kernel_rfl, by kernel_rfl, by kernel_rfl, by kernel_rfl, by kernel_rfl, by kernel_rfl, by kernel_rfl, by kernel_rfl, by kernel_rfl, by kernel_rfl, trivial⟩ ⟨by kernel_rfl, by kernel_rfl, trivial⟩ ⟨by kernel_rfl, by kernel_rfl, by kernel_rfl, by kernel_rfl, by kernel_rfl, trivial⟩) ?_
   refine TL.nil ?_
   refine T.ret ?_
   exact ⟨[(true, [.d (.int .i64 0), .d (.int .i64 0), .nil, .d (.int .i64 0), .nil]), (false, [.d (.int .i64 0)]), (false, [.d (.int .i64 (rdVote l b (⟨a, 0⟩ : SRS)).1.f1)])], (.cons rfl (.cons rfl (.cons rfl .nil))), rfl, [], (RetC.rd' (by first | rfl | (congr 1; unfold getVote; first | (rw [getOut_yes (by assumption)]; first | done | rfl) | (rw [getOut_no (by assumption)]; first | done | rfl) | (rw [rs0_ok (by assumption), getOut_yes (by assumption)]; first | done | rfl) | (rw [rs0_ok (by assumption), getOut_no (by assumption)]; first | done | rfl) | (rw [rs0_no (by assumption), getOut_nr (rdVote_er (show ¬ ((5 : Int) = 0) by decide)) rfl]; first | done | rfl)) | (simp only [D.size, List.length_map]; unfold getVote; first | (rw [getOut_yes (by assumption)]; first | done | rfl) | (rw [getOut_no (by assumption)]; first | done | rfl) | (rw [rs0_ok (by assumption), getOut_yes (by assumption)]; first | done | rfl) | (rw [rs0_ok (by assumption), getOut_no (by assumption)]; first | done | rfl) | (rw [rs0_no (by assumption), getOut_nr (rdVote_er (show ¬ ((5 : Int) = 0) by decide)) rfl]; first | done | rfl))) (RetC.rd' (by first | rfl | (congr 1; unfold getVote; first | (rw [getOut_yes (by assumption)]; first | done | rfl) | (rw [getOut_no (by assumption)]; first | done | rfl) | (rw [rs0_ok (by assumption), getOut_yes (by assumption)]; first | done | rfl) | (rw [rs0_ok (by assumption), getOut_no (by assumption)]; first | done | rfl) | (rw [rs0_no (by assumption), getOut_nr (rdVote_er (show ¬ ((5 : Int) = 0) by decide)) rfl]; first | done | rfl)) | (simp only [D.size, List.length_map]; unfold getVote; first | (rw [getOut_yes (by assumption)]; first | done | rfl) | (rw [getOut_no (by assumption)]; first | done | rfl) | (rw [rs0_ok (by assumption), getOut_yes (by assumption)]; first | done | rfl) | (rw [rs0_ok (by assumption), getOut_no (by assumption)]; first | done | rfl) | (rw [rs0_no (by assumption), getOut_nr (rdVote_er (show ¬ ((5 : Int) = 0) by decide)) rfl]; first | done | rfl))) (RetC.nilown' rfl (by first | rfl | (congr 1; unfold getVote; first | (rw [getOut_yes (by assumption)]; first | done | rfl) | (rw [getOut_no (by assumption)]; first | done | rfl) | (rw [rs0_ok (by assumption), getOut_yes (by assumption)]; first | done | rfl) | (rw [rs0_ok (by assumption), getOut_no (by assumption)]; first | done | rfl) | (rw [rs0_no (by assumption), getOut_nr (rdVote_er (show ¬ ((5 : Int) = 0) by decide)) rfl]; first | done | rfl)) | (simp only [D.size, List.length_map]; unfold getVote; first | (rw [getOut_yes (by assumption)]; first | done | rfl) | (rw [getOut_no (by assumption)]; first | done | rfl) | (rw [rs0_ok (by assumption), getOut_yes (by assumption)]; first | done | rfl) | (rw [rs0_ok (by assumption), getOut_no (by assumption)]; first | done | rfl) | (rw [rs0_no (by assumption), getOut_nr (rdVote_er (show ¬ ((5 : Int) = 0) by decide)) rfl]; first | done | rfl))) (by first | exact trivial | exact D.wf_nil _) (RetC.rd' (by first | rfl | (congr 1; unfold getVote; first | (rw [getOut_yes (by assumption)]; first | done | rfl) | (rw [getOut_no (by assumption)]; first | done | rfl) | (rw [rs0_ok (by assumption), getOut_yes (by assumption)]; first | done | rfl) | (rw [rs0_ok (by assumption), getOut_no (by assumption)]; first | done | rfl) | (rw [rs0_no (by assumption), getOut_nr (rdVote_er (show ¬ ((5 : Int) = 0) by decide)) rfl]; first | done | rfl)) | (simp only [D.size, List.length_map]; unfold getVote; first | (rw [getOut_yes (by assumption)]; first | done | rfl) | (rw [getOut_no (by assumption)]; first | done | rfl) | (rw [rs0_ok (by assumption), getOut_yes (by assumption)]; first | done | rfl) | (rw [rs0_ok (by assumption), getOut_no (by assumption)]; first | done | rfl) | (rw [rs0_no (by assumption), getOut_nr (rdVote_er (show ¬ ((5 : Int) = 0) by decide)) rfl]; first | done | rfl))) (RetC.nilown' rfl (by first | rfl | (congr 1; unfold getVote; first | (rw [getOut_yes (by assumption)]; first | done | rfl) | (rw [getOut_no (by assumption)]; first | done | rfl) | (rw [rs0_ok (by assumption), getOut_yes (by assumption)]; first | done | rfl) | (rw [rs0_ok (by assumption), getOut_no (by assumption)]; first | done | rfl) | (rw [rs0_no (by assumption), getOut_nr (rdVote_er (show ¬ ((5 : Int) = 0) by decide)) rfl]; first | done | rfl)) | (simp only [D.size, List.length_map]; unfold getVote; first | (rw [getOut_yes (by assumption)]; first | done | rfl) | (rw [getOut_no (by assumption)]; first | done | rfl) | (rw [rs0_ok (by assumption), getOut_yes (by assumption)]; first | done | rfl) | (rw [rs0_ok (by assumption), getOut_no (by assumption)]; first | done | rfl) | (rw [rs0_no (by assumption), getOut_nr (rdVote_er (show ¬ ((5 : Int) = 0) by decide)) rfl]; first | done | rfl))) (by first | exact trivial | exact D.wf_nil _) (RetC.rd' (by first | rfl | (congr 1; unfold getVote; first | (rw [getOut_yes (by assumption)]; first | done | rfl) | (rw [getOut_no (by assumption)]; first | done | rfl) | (rw [rs0_ok (by assumption), getOut_yes (by assumption)]; first | done | rfl) | (rw [rs0_ok (by assumption), getOut_no (by assumption)]; first | done | rfl) | (rw [rs0_no (by assumption), getOut_nr (rdVote_er (show ¬ ((5 : Int) = 0) by decide)) rfl]; first | done | rfl)) | (simp only [D.size, List.length_map]; unfold getVote; first | (rw [getOut_yes (by assumption)]; first | done | rfl) | (rw [getOut_no (by assumption)]; first | done | rfl) | (rw [rs0_ok (by assumption), getOut_yes (by assumption)]; first | done | rfl) | (rw [rs0_ok (by assumption), getOut_no (by assumption)]; first | done | rfl) | (rw [rs0_no (by assumption), getOut_nr (rdVote_er (show ¬ ((5 : Int) = 0) by decide)) rfl]; first | done | rfl))) (RetC.rd' (by first | rfl | (congr 1; unfold getVote; first | (rw [getOut_yes (by assumption)]; first | done | rfl) | (rw [getOut_no (by assumption)]; first | done | rfl) | (rw [rs0_ok (by assumption), getOut_yes (by assumption)]; first | done | rfl) | (rw [rs0_ok (by assumption), getOut_no (by assumption)]; first | done | rfl) | (rw [rs0_no (by assumption), getOut_nr (rdVote_er (show ¬ ((5 : Int) = 0) by decide)) rfl]; first | done | rfl)) | (simp only [D.size, List.length_map]; unfold getVote; first | (rw [getOut_yes (by assumption)]; first | done | rfl) | (rw [getOut_no (by assumption)]; first | done | rfl) | (rw [rs0_ok (by assumption), getOut_yes (by assumption)]; first | done | rfl) | (rw [rs0_ok (by assumption), getOut_no (by assumption)]; first | done | rfl) | (rw [rs0_no (by assumption), getOut_nr (rdVote_er (show ¬ ((5 : Int) = 0) by decide)) rfl]; first | done | rfl))) .nil)))))))⟩
  ·
   replace h3 := of_decide_eq_false h3
   refine T.skip ?_
   refine T.seq ?_
   refine T.drawX [{ dst := some 36, pv := (.agg [.d (.int .i64 (rdVote l b (⟨a, 0⟩ : SRS)).2.f0), .d (.int .i64 (rdVote l b (⟨a, 0⟩ : SRS)).2.f1), .row 6025 [], .d (.int .i64 (rdVote l b (⟨a, 0⟩ : SRS)).2.f3), .row 8025 []]) }, { dst := some 37, pv := (.one (.ptr 21 0)) }, { dst := some 38, pv := (.one (.ptr 21 0)) }, { dst := some 39, pv := (.one (.ptr 21 1)) }, { dst := some 40, pv := (.one (.d (.int .i64 (rdVote l b (⟨a, 0⟩ : SRS)).1.f0))) }, { box := some (8, (64, [.d (.int .i64 (rdVote l b (⟨a, 0⟩ : SRS)).2.f0), .d (.int .i64 (rdVote l b (⟨a, 0⟩ : SRS)).2.f1), .row 6025 [], .d (.int .i64 (rdVote l b (⟨a, 0⟩ : SRS)).2.f3), .row 8025 []])) }, { dst := some 9, pv := (.one (.d (.int .i64 (rdVote l b (⟨a, 0⟩ : SRS)).1.f0))) }, { dst := some 10, pv := (.one (.d (.int .i64 0))) }] (by kernel_rfl) (by kernel_rfl) ?_ ?_
   ·
    refine .cons (fun E hA_ => by have g13 : E.get 13 = (.one (.ptr 13 0)) := (hA_.get 13 (by kernel_rfl)).trans (by kernel_rfl); have b13 : E.box 13 = some (64, [.d (.int .i64 (rdVote l b (⟨a, 0⟩ : SRS)).2.f0), .d (.int .i64 (rdVote l b (⟨a, 0⟩ : SRS)).2.f1), .row 6025 [], .d (.int .i64 (rdVote l b (⟨a, 0⟩ : SRS)).2.f3), .row 8025 []]) := (hA_.box 13 (by kernel_rfl)).trans (by kernel_rfl); exact OpStep.plain rfl (Step.load_box_agg (n := 5) (qs := [.d (.int .i64 (rdVote l b (⟨a, 0⟩ : SRS)).2.f0), .d (.int .i64 (rdVote l b (⟨a, 0⟩ : SRS)).2.f1), .row 6025 [], .d (.int .i64 (rdVote l b (⟨a, 0⟩ : SRS)).2.f3), .row 8025 []]) (t := 36) rfl rfl (by exact lt_ok rfl) (by kernel_rfl) (show Env.ev E (.tmp 13) = _ from g13.trans rfl) b13 rfl rfl)) ?_
    refine .cons (fun E hA_ => by have g12 : E.get 12 = (.one (.ptr 21 0)) := (hA_.get 12 (by kernel_rfl)).trans (by kernel_rfl); exact OpStep.plain rfl (Step.move (p := (.one (.ptr 21 0))) (t := 37) rfl rfl (by exact lt_ok rfl) (show Env.ev E (.tmp 12) = _ from g12.trans rfl))) ?_
    refine .cons (fun E hA_ => by have g37 : E.get 37 = (.one (.ptr 21 0)) := (hA_.get 37 (by kernel_rfl)).trans (by kernel_rfl); exact OpStep.plain rfl (Step.nilCheck (t := 38) rfl rfl (by exact lt_ok rfl) (show Env.ev E (.tmp 37) = _ from g37.trans rfl))) ?_
    refine .cons (fun E hA_ => by have g38 : E.get 38 = (.one (.ptr 21 0)) := (hA_.get 38 (by kernel_rfl)).trans (by kernel_rfl); exact OpStep.plain rfl (Step.fieldAddr (q := 0) (off := 1) (n := 1) (one := true) (t := 39) rfl rfl (by exact lt_ok rfl) (by kernel_rfl) (Nat.succ_ne_zero _) (show Env.ev E (.tmp 38) = _ from g38.trans rfl))) ?_
    refine .cons (fun E hA_ => by have g39 : E.get 39 = (.one (.ptr 21 1)) := (hA_.get 39 (by kernel_rfl)).trans (by kernel_rfl); have b21 : E.box 21 = some (184, [.d (.ints .u8 b), .d (.int .i64 (rdVote l b (⟨a, 0⟩ : SRS)).1.f0), .d (.int .i64 (rdVote l b (⟨a, 0⟩ : SRS)).1.f1)]) := (hA_.box 21 (by kernel_rfl)).trans (by kernel_rfl); exact OpStep.plain rfl (Step.load_box (c := .d (.int .i64 (rdVote l b (⟨a, 0⟩ : SRS)).1.f0)) (t := 40) rfl rfl (by exact lt_ok rfl) (by kernel_rfl) (show Env.ev E (.tmp 39) = _ from g39.trans rfl) b21 rfl)) ?_
    refine .cons (fun E hA_ => by have g8 : E.get 8 = (.one (.ptr 8 0)) := (hA_.get 8 (by kernel_rfl)).trans (by kernel_rfl); have g36 : E.get 36 = (.agg [.d (.int .i64 (rdVote l b (⟨a, 0⟩ : SRS)).2.f0), .d (.int .i64 (rdVote l b (⟨a, 0⟩ : SRS)).2.f1), .row 6025 [], .d (.int .i64 (rdVote l b (⟨a, 0⟩ : SRS)).2.f3), .row 8025 []]) := (hA_.get 36 (by kernel_rfl)).trans (by kernel_rfl); have q6025 : E.row 6025 = some (5, (.ints .u8 (rdVote l b (⟨a, 0⟩ : SRS)).2.f2)) := (hA_.row 6025 (by kernel_rfl)).trans (by kernel_rfl); have q8025 : E.row 8025 = some (5, (.ints .u8 (rdVote l b (⟨a, 0⟩ : SRS)).2.f4)) := (hA_.row 8025 (by kernel_rfl)).trans (by kernel_rfl); have b8 : E.box 8 = some (64, [.d (.int .i64 0), .d (.int .i64 0), .nil, .d (.int .i64 0), .nil]) := (hA_.box 8 (by kernel_rfl)).trans (by kernel_rfl); exact OpStep.plain rfl (Step.store_box (n := 5) (p := (.agg [.d (.int .i64 (rdVote l b (⟨a, 0⟩ : SRS)).2.f0), .d (.int .i64 (rdVote l b (⟨a, 0⟩ : SRS)).2.f1), .row 6025 [], .d (.int .i64 (rdVote l b (⟨a, 0⟩ : SRS)).2.f3), .row 8025 []])) (qs := [.d (.int .i64 (rdVote l b (⟨a, 0⟩ : SRS)).2.f0), .d (.int .i64 (rdVote l b (⟨a, 0⟩ : SRS)).2.f1), .row 6025 [], .d (.int .i64 (rdVote l b (⟨a, 0⟩ : SRS)).2.f3), .row 8025 []]) (ps' := [.d (.int .i64 (rdVote l b (⟨a, 0⟩ : SRS)).2.f0), .d (.int .i64 (rdVote l b (⟨a, 0⟩ : SRS)).2.f1), .row 6025 [], .d (.int .i64 (rdVote l b (⟨a, 0⟩ : SRS)).2.f3), .row 8025 []]) rfl rfl (by kernel_rfl) (show Env.ev E (.tmp 8) = _ from g8.trans rfl) b8 (show Env.ev E (.tmp 36) = _ from g36.trans rfl) rfl rfl (by simp only [List.all_cons, List.all_nil, List.flatten_cons, List.flatten_nil, List.append_nil, List.cons_append, List.nil_append, Env.fine, q6025, q8025]; rfl) (le_ok rfl) rfl)) ?_
    refine .cons (fun E hA_ => by have g40 : E.get 40 = (.one (.d (.int .i64 (rdVote l b (⟨a, 0⟩ : SRS)).1.f0))) := (hA_.get 40 (by kernel_rfl)).trans (by kernel_rfl); exact OpStep.plain rfl (Step.assign (p := (.one (.d (.int .i64 (rdVote l b (⟨a, 0⟩ : SRS)).1.f0)))) (t := 9) rfl rfl (by exact lt_ok rfl) (show Env.ev E (.tmp 40) = _ from g40.trans rfl))) ?_
    refine .cons (fun E hA_ => by exact OpStep.plain rfl (Step.assign (p := (.one (.d (.int .i64 0)))) (t := 10) rfl rfl (by exact lt_ok rfl) rfl)) ?_
    exact .nil _ _
   refine TL.weaken (E' := { tm := [(0, (.agg [.d (.int .i64 l.f0), .d (.int .i64 l.f1), .d (.int .i64 l.f2), .d (.int .i64 l.f3), .d (.int .i64 l.f4)])), (1, (.one (.d (.ints .u8 b)))), (2, (.one (.d (.int .i64 a)))), (3, (.one (.d (.fn 125)))), (4, (.one (.ptr 4 0))), (8, (.one (.ptr 8 0))), (9, (.one (.d (.int .i64 (rdVote l b (⟨a, 0⟩ : SRS)).1.f0)))), (10, (.one (.d (.int .i64 0)))), (11, (.one (.ptr 11 0))), (14, (.agg [.d (.int .i64 l.f0), .d (.int .i64 l.f1), .d (.int .i64 l.f2), .d (.int .i64 l.f3), .d (.int .i64 l.f4)])), (15, (.one (.d (.bool (limOk l))))), (16, (.one (.d (.bool (!(limOk l)))))), (18, (.one (.d (.ints .u8 b)))), (19, (.one (.d (.int .i64 a)))), (20, (.agg [.d (.ints .u8 b), .d (.int .i64 a), .d (.int .i64 0)])), (21, (.one (.ptr 21 0))), (12, (.one (.ptr 21 0))), (22, (.one (.d (.fn 125)))), (23, (.agg [.d (.int .i64 l.f0), .d (.int .i64 l.f1), .d (.int .i64 l.f2), .d (.int .i64 l.f3), .d (.int .i64 l.f4)])), (24, (.one (.ptr 21 0))), (25, (.agg [.d (.int .i64 (rdVote l b (⟨a, 0⟩ : SRS)).2.f0), .d (.int .i64 (rdVote l b (⟨a, 0⟩ : SRS)).2.f1), .row 6025 [], .d (.int .i64 (rdVote l b (⟨a, 0⟩ : SRS)).2.f3), .row 8025 []])), (13, (.one (.ptr 13 0))), (26, (.one (.ptr 21 0))), (27, (.one (.ptr 21 0))), (28, (.one (.ptr 21 2))), (29, (.one (.d (.int .i64 (rdVote l b (⟨a, 0⟩ : SRS)).1.f1)))), (30, (.one (.d (.bool (decide ((rdVote l b (⟨a, 0⟩ : SRS)).1.f1 ≠ 0)))))), (36, (.agg [.d (.int .i64 (rdVote l b (⟨a, 0⟩ : SRS)).2.f0), .d (.int .i64 (rdVote l b (⟨a, 0⟩ : SRS)).2.f1), .row 6025 [], .d (.int .i64 (rdVote l b (⟨a, 0⟩ : SRS)).2.f3), .row 8025 []])), (37, (.one (.ptr 21 0))), (38, (.one (.ptr 21 0))), (39, (.one (.ptr 21 1))), (40, (.one (.d (.int .i64 (rdVote l b (⟨a, 0⟩ : SRS)).1.f0))))], rows := [(6025, (5, (.ints .u8 (rdVote l b (⟨a, 0⟩ : SRS)).2.f2))), (8025, (5, (.ints .u8 (rdVote l b (⟨a, 0⟩ : SRS)).2.f4)))], boxes := [(4, (44, [.d (.int .i64 l.f0), .d (.int .i64 l.f1), .d (.int .i64 l.f2), .d (.int .i64 l.f3), .d (.int .i64 l.f4)])), (8, (64, [.d (.int .i64 (rdVote l b (⟨a, 0⟩ : SRS)).2.f0), .d (.int .i64 (rdVote l b (⟨a, 0⟩ : SRS)).2.f1), .row 6025 [], .d (.int .i64 (rdVote l b (⟨a, 0⟩ : SRS)).2.f3), .row 8025 []])), (11, (64, [.d (.int .i64 0), .d (.int .i64 0), .nil, .d (.int .i64 0), .nil])), (21, (184, [.d (.ints .u8 b), .d (.int .i64 (rdVote l b (⟨a, 0⟩ : SRS)).1.f0), .d (.int .i64 (rdVote l b (⟨a, 0⟩ : SRS)).1.f1)])), (13, (64, [.d (.int .i64 (rdVote l b (⟨a, 0⟩ : SRS)).2.f0), .d (.int .i64 (rdVote l b (⟨a, 0⟩ : SRS)).2.f1), .row 6025 [], .d (.int .i64 (rdVote l b (⟨a, 0⟩ : SRS)).2.f3), .row 8025 []]))] }) (Env.le_mk ⟨by kernel_rfl, by kernel_rfl, by kernel_rfl, by kernel_rfl, by kernel_rfl, by kernel_rfl, by kernel_rfl, by kernel_rfl, by kernel_rfl, by kernel_rfl, by kernel_rfl, by kernel_rfl, by kernel_rfl, by kernel_rfl, by kernel_rfl, by kernel_rfl, by kernel_rfl, by kernel_rfl, by kernel_rfl, by kernel_rfl, by kernel_rfl, by kernel_rfl, by kernel_rfl, by kernel_rfl, by kernel_rfl, by kernel_rfl, by kernel_rfl, by kernel_rfl, by kernel_rfl, by kernel_rfl, by kernel_rfl, by kernel_rfl, trivial⟩ ⟨by kernel_rfl, by kernel_rfl, trivial⟩ ⟨by kernel_rfl, by kernel_rfl, by kernel_rfl, by kernel_rfl, by kernel_rfl, trivial⟩) ?_
   refine TL.nil ?_
   refine T.ret ?_
   exact ⟨[(true, [.d (.int .i64 (rdVote l b (⟨a, 0⟩ : SRS)).2.f0), .d (.int .i64 (rdVote l b (⟨a, 0⟩ : SRS)).2.f1), .row 6025 [], .d (.int .i64 (rdVote l b (⟨a, 0⟩ : SRS)).2.f3), .row 8025 []]), (false, [.d (.int .i64 (rdVote l b (⟨a, 0⟩ : SRS)).1.f0)]), (false, [.d (.int .i64 0)])], (.cons rfl (.cons rfl (.cons rfl .nil))), rfl, [6025, 8025], (RetC.rd' (by first | rfl | (congr 1; unfold getVote; first | (rw [getOut_yes (by assumption)]; first | done | rfl) | (rw [getOut_no (by assumption)]; first | done | rfl) | (rw [rs0_ok (by assumption), getOut_yes (by assumption)]; first | done | rfl) | (rw [rs0_ok (by assumption), getOut_no (by assumption)]; first | done | rfl) | (rw [rs0_no (by assumption), getOut_nr (rdVote_er (show ¬ ((5 : Int) = 0) by decide)) rfl]; first | done | rfl)) | (simp only [D.size, List.length_map]; unfold getVote; first | (rw [getOut_yes (by assumption)]; first | done | rfl) | (rw [getOut_no (by assumption)]; first | done | rfl) | (rw [rs0_ok (by assumption), getOut_yes (by assumption)]; first | done | rfl) | (rw [rs0_ok (by assumption), getOut_no (by assumption)]; first | done | rfl) | (rw [rs0_no (by assumption), getOut_nr (rdVote_er (show ¬ ((5 : Int) = 0) by decide)) rfl]; first | done | rfl))) (RetC.rd' (by first | rfl | (congr 1; unfold getVote; first | (rw [getOut_yes (by assumption)]; first | done | rfl) | (rw [getOut_no (by assumption)]; first | done | rfl) | (rw [rs0_ok (by assumption), getOut_yes (by assumption)]; first | done | rfl) | (rw [rs0_ok (by assumption), getOut_no (by assumption)]; first | done | rfl) | (rw [rs0_no (by assumption), getOut_nr (rdVote_er (show ¬ ((5 : Int) = 0) by decide)) rfl]; first | done | rfl)) | (simp only [D.size, List.length_map]; unfold getVote; first | (rw [getOut_yes (by assumption)]; first | done | rfl) | (rw [getOut_no (by assumption)]; first | done | rfl) | (rw [rs0_ok (by assumption), getOut_yes (by assumption)]; first | done | rfl) | (rw [rs0_ok (by assumption), getOut_no (by assumption)]; first | done | rfl) | (rw [rs0_no (by assumption), getOut_nr (rdVote_er (show ¬ ((5 : Int) = 0) by decide)) rfl]; first | done | rfl))) (RetC.own' rfl (by first | rfl | (congr 1; unfold getVote; first | (rw [getOut_yes (by assumption)]; first | done | rfl) | (rw [getOut_no (by assumption)]; first | done | rfl) | (rw [rs0_ok (by assumption), getOut_yes (by assumption)]; first | done | rfl) | (rw [rs0_ok (by assumption), getOut_no (by assumption)]; first | done | rfl) | (rw [rs0_no (by assumption), getOut_nr (rdVote_er (show ¬ ((5 : Int) = 0) by decide)) rfl]; first | done | rfl)) | (simp only [D.size, List.length_map]; unfold getVote; first | (rw [getOut_yes (by assumption)]; first | done | rfl) | (rw [getOut_no (by assumption)]; first | done | rfl) | (rw [rs0_ok (by assumption), getOut_yes (by assumption)]; first | done | rfl) | (rw [rs0_ok (by assumption), getOut_no (by assumption)]; first | done | rfl) | (rw [rs0_no (by assumption), getOut_nr (rdVote_er (show ¬ ((5 : Int) = 0) by decide)) rfl]; first | done | rfl))) rfl (RetC.rd' (by first | rfl | (congr 1; unfold getVote; first | (rw [getOut_yes (by assumption)]; first | done | rfl) | (rw [getOut_no (by assumption)]; first | done | rfl) | (rw [rs0_ok (by assumption), getOut_yes (by assumption)]; first | done | rfl) | (rw [rs0_ok (by assumption), getOut_no (by assumption)]; first | done | rfl) | (rw [rs0_no (by assumption), getOut_nr (rdVote_er (show ¬ ((5 : Int) = 0) by decide)) rfl]; first | done | rfl)) | (simp only [D.size, List.length_map]; unfold getVote; first | (rw [getOut_yes (by assumption)]; first | done | rfl) | (rw [getOut_no (by assumption)]; first | done | rfl) | (rw [rs0_ok (by assumption), getOut_yes (by assumption)]; first | done | rfl) | (rw [rs0_ok (by assumption), getOut_no (by assumption)]; first | done | rfl) | (rw [rs0_no (by assumption), getOut_nr (rdVote_er (show ¬ ((5 : Int) = 0) by decide)) rfl]; first | done | rfl))) (RetC.own' rfl (by first | rfl | (congr 1; unfold getVote; first | (rw [getOut_yes (by assumption)]; first | done | rfl) | (rw [getOut_no (by assumption)]; first | done | rfl) | (rw [rs0_ok (by assumption), getOut_yes (by assumption)]; first | done | rfl) | (rw [rs0_ok (by assumption), getOut_no (by assumption)]; first | done | rfl) | (rw [rs0_no (by assumption), getOut_nr (rdVote_er (show ¬ ((5 : Int) = 0) by decide)) rfl]; first | done | rfl)) | (simp only [D.size, List.length_map]; unfold getVote; first | (rw [getOut_yes (by assumption)]; first | done | rfl) | (rw [getOut_no (by assumption)]; first | done | rfl) | (rw [rs0_ok (by assumption), getOut_yes (by assumption)]; first | done | rfl) | (rw [rs0_ok (by assumption), getOut_no (by assumption)]; first | done | rfl) | (rw [rs0_no (by assumption), getOut_nr (rdVote_er (show ¬ ((5 : Int) = 0) by decide)) rfl]; first | done | rfl))) rfl (RetC.rd' (by first | rfl | (congr 1; unfold getVote; first | (rw [getOut_yes (by assumption)]; first | done | rfl) | (rw [getOut_no (by assumption)]; first | done | rfl) | (rw [rs0_ok (by assumption), getOut_yes (by assumption)]; first | done | rfl) | (rw [rs0_ok (by assumption), getOut_no (by assumption)]; first | done | rfl) | (rw [rs0_no (by assumption), getOut_nr (rdVote_er (show ¬ ((5 : Int) = 0) by decide)) rfl]; first | done | rfl)) | (simp only [D.size, List.length_map]; unfold getVote; first | (rw [getOut_yes (by assumption)]; first | done | rfl) | (rw [getOut_no (by assumption)]; first | done | rfl) | (rw [rs0_ok (by assumption), getOut_yes (by assumption)]; first | done | rfl) | (rw [rs0_ok (by assumption), getOut_no (by assumption)]; first | done | rfl) | (rw [rs0_no (by assumption), getOut_nr (rdVote_er (show ¬ ((5 : Int) = 0) by decide)) rfl]; first | done | rfl))) (RetC.rd' (by first | rfl | (congr 1; unfold getVote; first | (rw [getOut_yes (by assumption)]; first | done | rfl) | (rw [getOut_no (by assumption)]; first | done | rfl) | (rw [rs0_ok (by assumption), getOut_yes (by assumption)]; first | done | rfl) | (rw [rs0_ok (by assumption), getOut_no (by assumption)]; first | done | rfl) | (rw [rs0_no (by assumption), getOut_nr (rdVote_er (show ¬ ((5 : Int) = 0) by decide)) rfl]; first | done | rfl)) | (simp only [D.size, List.length_map]; unfold getVote; first | (rw [getOut_yes (by assumption)]; first | done | rfl) | (rw [getOut_no (by assumption)]; first | done | rfl) | (rw [rs0_ok (by assumption), getOut_yes (by assumption)]; first | done | rfl) | (rw [rs0_ok (by assumption), getOut_no (by assumption)]; first | done | rfl) | (rw [rs0_no (by assumption), getOut_nr (rdVote_er (show ¬ ((5 : Int) = 0) by decide)) rfl]; first | done | rfl))) .nil)))))))⟩
theorem ok_impl_GetVote (l : SLimits) (b : List Int) (a : Int) (h0_ : U8s b) (h1_ : b.length ≤ 1048576) : RO Try.prog 68 [.agg l.cells, .one (.ints .u8 b), .one (.int .i64 a)] [(true, [.rd (.int .i64 (getVote l b a).1.f0), .rd (.int .i64 (getVote l b a).1.f1), .own 5 (.ints .u8 (getVote l b a).1.f2), .rd (.int .i64 (getVote l b a).1.f3), .own 5 (.ints .u8 (getVote l b a).1.f4)]), (false, [.rd (.int .i64 (getVote l b a).2.1)]), (false, [.rd (.int .i64 (getVote l b a).2.2)])] := by
 refine RO.intro Try.func68 rfl 16 rfl (le_ok rfl) fun w Z => ?_
 refine T.bnd 1 0 rfl rfl fun hb_1_0 => ?_
 simp only [D.size, List.length_map] at hb_1_0
 refine T.seq ?_
 refine T.region ?_
 refine TL.cons rfl (Step.box (p := (.agg [.d (.int .i64 l.f0), .d (.int .i64 l.f1), .d (.int .i64 l.f2), .d (.int .i64 l.f3), .d (.int .i64 l.f4)])) (ps := [.d (.int .i64 l.f0), .d (.int .i64 l.f1), .d (.int .i64 l.f2), .d (.int .i64 l.f3), .d (.int .i64 l.f4)]) rfl rfl (lt_ok rfl) rfl rfl rfl rfl rfl) ?_
 refine TL.cons rfl (Step.alloc (cs := [.int .i64 0, .int .i64 0, .slice none 0 0, .int .i64 0, .slice none 0 0]) (ps := [.d (.int .i64 0), .d (.int .i64 0), .nil, .d (.int .i64 0), .nil]) rfl rfl (lt_ok rfl) (by kernel_rfl) rfl rfl rfl rfl) ?_
 refine TL.cons rfl (Step.assign (p := (.one (.d (.int .i64 0)))) rfl rfl (lt_ok rfl) rfl) ?_
 refine TL.cons rfl (Step.assign (p := (.one (.d (.int .i64 0)))) rfl rfl (lt_ok rfl) rfl) ?_
 refine TL.nil ?_
 refine T.seq ?_
 refine T.region ?_
 refine TL.cons rfl (Step.load_box_agg (n := 5) (qs := [.d (.int .i64 l.f0), .d (.int .i64 l.f1), .d (.int .i64 l.f2), .d (.int .i64 l.f3), .d (.int .i64 l.f4)]) rfl rfl (lt_ok rfl) (by kernel_rfl) rfl rfl rfl rfl) ?_
 refine TL.cons rfl (Step.move (p := (.one (.d (.ints .u8 b)))) rfl rfl (lt_ok rfl) rfl) ?_
 refine TL.cons rfl (Step.move (p := (.one (.d (.int .i64 a)))) rfl rfl (lt_ok rfl) rfl) ?_
 have nn1 := @getVote_sm l b a (by first | assumption | omega)
 refine TL.cons rfl (Step.call (f := 124) (xs := [.tmp 9, .tmp 10, .tmp 11, .func 125]) (ps := [(.agg [.d (.int .i64 l.f0), .d (.int .i64 l.f1), .d (.int .i64 l.f2), .d (.int .i64 l.f3), .d (.int .i64 l.f4)]), (.one (.d (.ints .u8 b))), (.one (.d (.int .i64 a))), (.one (.d (.fn 125)))]) false (g := .func 124) rfl rfl (lt_ok rfl) rfl (by kernel_rfl) rfl (.cons (.agg (.cons (.d _) (.cons (.d _) (.cons (.d _) (.cons (.d _) (.cons (.d _) .nil)))))) (.cons (.one (.d _)) (.cons (.one (.d _)) (.cons (.one (.d _)) .nil)))) (ok_impl_Vote_ l b a (by assumption) (by first | omega | assumption | (simp only [List.length_append] at *; omega))) (.inr rfl) rfl (by simp) rfl) ?_
 refine TL.cons rfl (Step.extract (p := (.agg [.d (.int .i64 (getVote l b a).1.f0), .d (.int .i64 (getVote l b a).1.f1), .row 3012 [], .d (.int .i64 (getVote l b a).1.f3), .row 5012 []])) rfl rfl (lt_ok rfl) rfl rfl) ?_
 refine TL.cons rfl (Step.extract (p := (.one (.d (.int .i64 (getVote l b a).2.1)))) rfl rfl (lt_ok rfl) rfl rfl) ?_
 refine TL.cons rfl (Step.extract (p := (.one (.d (.int .i64 (getVote l b a).2.2)))) rfl rfl (lt_ok rfl) rfl rfl) ?_
 refine TL.cons rfl (Step.store_box (n := 5) (p := (.agg [.d (.int .i64 (getVote l b a).1.f0), .d (.int .i64 (getVote l b a).1.f1), .row 3012 [], .d (.int .i64 (getVote l b a).1.f3), .row 5012 []])) (qs := [.d (.int .i64 (getVote l b a).1.f0), .d (.int .i64 (getVote l b a).1.f1), .row 3012 [], .d (.int .i64 (getVote l b a).1.f3), .row 5012 []]) (ps' := [.d (.int .i64 (getVote l b a).1.f0), .d (.int .i64 (getVote l b a).1.f1), .row 3012 [], .d (.int .i64 (getVote l b a).1.f3), .row 5012 []]) rfl rfl (by kernel_rfl) rfl rfl rfl rfl rfl rfl (le_ok rfl) rfl) ?_
 refine TL.cons rfl (Step.assign (p := (.one (.d (.int .i64 (getVote l b a).2.1)))) rfl rfl (lt_ok rfl) rfl) ?_
 refine TL.cons rfl (Step.assign (p := (.one (.d (.int .i64 (getVote l b a).2.2)))) rfl rfl (lt_ok rfl) rfl) ?_
 refine TL.nil ?_
 refine T.ret ?_
 exact ⟨[(true, [.d (.int .i64 (getVote l b a).1.f0), .d (.int .i64 (getVote l b a).1.f1), .row 3012 [], .d (.int .i64 (getVote l b a).1.f3), .row 5012 []]), (false, [.d (.int .i64 (getVote l b a).2.1)]), (false, [.d (.int .i64 (getVote l b a).2.2)])], (.cons rfl (.cons rfl (.cons rfl .nil))), rfl, [3012, 5012], (RetC.rd' (by rfl) (RetC.rd' (by rfl) (RetC.own' rfl (by rfl) rfl (RetC.rd' (by rfl) (RetC.own' rfl (by rfl) rfl (RetC.rd' (by rfl) (RetC.rd' (by rfl) .nil)))))))⟩
theorem ok_laws_heldByteS (a : List Int) (b : List Int) (k : Int) (h0_ : 0 ≤ k) (h1_ : k + (a.length : Int) ≤ 4611686018427387904) (h2_ : b = mkB a k) : RO Try.prog 33 [.one (.ints .u8 b), .one (.int .i64 k)] [(false, [.rd (.int .i64 (k + (a.length : Int)))])] := by
 refine RO.intro Try.func33 rfl 22 rfl (le_ok rfl) fun w Z => ?_
 refine T.bnd 0 0 rfl rfl fun hb_0_0 => ?_
 simp only [D.size, List.length_map] at hb_0_0
 have hl_ : b.length = a.length := by rw [h2_, mkL_length]
 have hg_ : ∀ i, i < a.length → b.getD i 0 = (k + (i : Int)) % 256 := fun i hi => by rw [h2_, mkL_getD _ _ _ _ hi]; simp only [cntL_one_take a i (by omega)]
 refine T.seq ?_
 refine T.region ?_
 refine TL.cons rfl (Step.assign (p := (.one (.d (.int .i64 0)))) rfl rfl (lt_ok rfl) rfl) ?_
 refine TL.nil ?_
 refine T.seq ?_
 refine T.seq ?_
 refine T.region ?_
 refine TL.cons rfl (Step.assign (p := (.one (.d (.int .i64 0)))) rfl rfl (lt_ok rfl) rfl) ?_
 refine TL.nil ?_
 refine T.block ?_
 refine T.loop (ι := Nat) (fun xx_ => { tm := [(0, (.one (.d (.ints .u8 b)))), (5, (.one (.d (.int .i64 (xx_ : Int))))), (1, (.one (.d (.int .i64 (k + (xx_ : Int))))))], rows := [], boxes := [] }) (fun xx_ => xx_ ≤ a.length) (fun xx_ => a.length - xx_) 0 ?_ ?_ ?_
 · exact Env.le_mk ⟨rfl, by first | rfl | (refine congrArg (fun n => PV.one (.d (.int .i64 n))) ?_; first | omega | (simp; done) | (simp [cntL]; done)), by first | rfl | (refine congrArg (fun n => PV.one (.d (.int .i64 n))) ?_; first | omega | (simp; done) | (simp [cntL]; done)), trivial⟩ trivial trivial
 · exact Nat.zero_le _
 ·
  intro i hx
  try dsimp only at hx ⊢
  refine T.seq ?_
  refine T.seq ?_
  refine T.region ?_
  refine TL.cons rfl (Step.move (p := (.one (.d (.int .i64 (i : Int))))) rfl rfl (lt_ok rfl) rfl) ?_
  refine TL.cons rfl (Step.move (p := (.one (.d (.ints .u8 b)))) rfl rfl (lt_ok rfl) rfl) ?_
  refine TL.cons rfl (Step.len (e := 5) (z := 1) (d := (.ints .u8 b)) rfl rfl (lt_ok rfl) (by kernel_rfl) rfl rfl) ?_
  refine TL.cons rfl (Step.bin rfl rfl (lt_ok rfl) rfl rfl (Bin.lss (k := .i64) (a := (i : Int)) (b := (b.length : Int)))) ?_
  refine TL.nil ?_
  refine T.cond (b := decide ((i : Int) < (b.length : Int))) rfl (fun h1 => ?_) (fun h1 => ?_)
  ·
   replace h1 := of_decide_eq_true h1
   refine T.skip ?_
   refine T.seq ?_
   refine T.block ?_
   refine T.seq ?_
   refine T.seq ?_
   refine T.region ?_
   refine TL.cons rfl (Step.move (p := (.one (.d (.ints .u8 b)))) rfl rfl (lt_ok rfl) rfl) ?_
   refine TL.cons rfl (Step.move (p := (.one (.d (.int .i64 (i : Int))))) rfl rfl (lt_ok rfl) rfl) ?_
   refine TL.cons rfl (Step.index (e := 5) (z := 1) (i := (i : Int)) rfl rfl (lt_ok rfl) (by kernel_rfl) rfl rfl rfl (lt_ok rfl) rfl (by first | omega | (simp; omega)) (by simp only [D.size]; first | omega | (simp; omega))) ?_
   refine TL.cons rfl (Step.load (e := (.int .u8 (b.getD i 0))) rfl rfl (lt_ok rfl) (by kernel_rfl) rfl rfl) ?_
   refine TL.cons rfl (Step.move (p := (.one (.d (.int .i64 (k + (i : Int)))))) rfl rfl (lt_ok rfl) rfl) ?_
   refine TL.cons rfl (Step.conv (c := ((k + (i : Int)) % 256)) rfl rfl (lt_ok rfl) (by kernel_rfl) (by kernel_rfl) rfl (wrap_byte _)) ?_
   refine TL.cons rfl (Step.bin rfl rfl (lt_ok rfl) rfl rfl (Bin.neq (k := .u8) (a := (b.getD i 0)) (b := ((k + (i : Int)) % 256)))) ?_
   refine TL.nil ?_
   refine T.cond (b := decide ((b.getD i 0) ≠ ((k + (i : Int)) % 256))) rfl (fun h2 => ?_) (fun h2 => ?_)
   ·
    replace h2 := of_decide_eq_true h2
    refine T.seq ?_
    refine T.region ?_
    refine TL.cons rfl (Step.assign (p := (.one (.d (.int .i64 (-1))))) rfl rfl (lt_ok rfl) rfl) ?_
    refine TL.nil ?_
    refine T.ret ?_
    exact ⟨[(false, [.d (.int .i64 (-1))])], (.cons rfl .nil), rfl, [], (RetC.rd' (by first | (congr 1; omega) | (exfalso; have := hg_ i (by omega); omega)) .nil)⟩
   ·
    replace h2 := of_decide_eq_false h2
    refine T.skip ?_
    refine T.region ?_
    refine TL.cons rfl (Step.move (p := (.one (.d (.int .i64 (k + (i : Int)))))) rfl rfl (lt_ok rfl) rfl) ?_
    refine TL.cons rfl (Step.bin (r := .int .i64 ((k + (i : Int)) + 1)) rfl rfl (lt_ok rfl) rfl rfl (Bin.add (a := (k + (i : Int))) (b := 1) (by first | exact wrap_ok (by first | omega | (simp; omega)) (by first | omega | (simp; omega)) | rfl))) ?_
    refine TL.cons rfl (Step.assign (p := (.one (.d (.int .i64 ((k + (i : Int)) + 1))))) rfl rfl (lt_ok rfl) rfl) ?_
    refine TL.nil ?_
    refine T.region ?_
    refine TL.cons rfl (Step.move (p := (.one (.d (.int .i64 (i : Int))))) rfl rfl (lt_ok rfl) rfl) ?_
    refine TL.cons rfl (Step.bin (r := .int .i64 ((i : Int) + 1)) rfl rfl (lt_ok rfl) rfl rfl (Bin.add (a := (i : Int)) (b := 1) (by first | exact wrap_ok (by first | omega | (simp; omega)) (by first | omega | (simp; omega)) | rfl))) ?_
    refine TL.cons rfl (Step.assign (p := (.one (.d (.int .i64 ((i : Int) + 1))))) rfl rfl (lt_ok rfl) rfl) ?_
    refine TL.nil ?_
    exact ⟨i + 1, by omega, by first | omega | (dsimp only; omega), Env.le_mk ⟨rfl, by first | rfl | (refine congrArg (fun n => PV.one (.d (.int .i64 n))) ?_; first | omega | (simp; done) | (simp [cntL]; done)), by first | rfl | (refine congrArg (fun n => PV.one (.d (.int .i64 n))) ?_; first | omega | (simp; done) | (simp [cntL]; done)), trivial⟩ trivial trivial⟩
  ·
   replace h1 := of_decide_eq_false h1
   refine T.exit ?_
   refine T.seq ?_
   refine T.region ?_
   refine TL.cons rfl (Step.move (p := (.one (.d (.int .i64 (k + (i : Int)))))) rfl rfl (lt_ok rfl) rfl) ?_
   refine TL.cons rfl (Step.assign (p := (.one (.d (.int .i64 (k + (i : Int)))))) rfl rfl (lt_ok rfl) rfl) ?_
   refine TL.nil ?_
   refine T.ret ?_
   exact ⟨[(false, [.d (.int .i64 (k + (i : Int)))])], (.cons rfl .nil), rfl, [], (RetC.rd' (by first | (congr 1; omega) | (exfalso; have := hg_ i (by omega); omega)) .nil)⟩
theorem ok_laws_heldVote (a : SVote) (b : SVote) (k : Int) (h0_ : 0 ≤ k) (h1_ : k + a.cm ≤ 4611686018427387904) (h2_ : SVote.hm a b k) : RO Try.prog 69 [.agg b.cells, .one (.int .i64 k)] [(false, [.rd (.int .i64 (k + a.cm))])] := by
 refine RO.intro Try.func69 rfl 18 rfl (le_ok rfl) fun w Z => ?_
 obtain ⟨p2, p4⟩ := h2_
 simp only [SVote.cm] at h1_
 refine T.seq ?_
 refine T.region ?_
 refine TL.cons rfl (Step.box (p := (.agg [.d (.int .i64 b.f0), .d (.int .i64 b.f1), .d (.ints .u8 b.f2), .d (.int .i64 b.f3), .d (.ints .u8 b.f4)])) (ps := [.d (.int .i64 b.f0), .d (.int .i64 b.f1), .d (.ints .u8 b.f2), .d (.int .i64 b.f3), .d (.ints .u8 b.f4)]) rfl rfl (lt_ok rfl) rfl rfl rfl rfl rfl) ?_
 refine TL.cons rfl (Step.assign (p := (.one (.d (.int .i64 0)))) rfl rfl (lt_ok rfl) rfl) ?_
 refine TL.nil ?_
 refine T.seq ?_
 refine T.region ?_
 refine TL.cons rfl (Step.fieldAddr (q := 0) (off := 2) (n := 1) (one := true) rfl rfl (lt_ok rfl) (by kernel_rfl) (Nat.succ_ne_zero _) rfl) ?_
 refine TL.cons rfl (Step.load_box (c := .d (.ints .u8 b.f2)) rfl rfl (lt_ok rfl) (by kernel_rfl) rfl rfl rfl) ?_
 refine TL.cons rfl (Step.move (p := (.one (.d (.int .i64 k)))) rfl rfl (lt_ok rfl) rfl) ?_
 refine TL.cons rfl (Step.call (f := 33) (xs := [.tmp 6, .tmp 7]) (ps := [(.one (.d (.ints .u8 b.f2))), (.one (.d (.int .i64 k)))]) false (g := .func 33) rfl rfl (lt_ok rfl) rfl (by kernel_rfl) rfl (.cons (.one (.d _)) (.cons (.one (.d _)) .nil)) (ok_laws_heldByteS a.f2 b.f2 k (by omega) (by first | omega | (have := (by assumption); omega)) (by first | rfl | assumption | (repeat' (first | rfl | apply And.intro)))) (.inr rfl) rfl (by simp) rfl) ?_
 refine TL.cons rfl (Step.assign (p := (.one (.d (.int .i64 (k + (a.f2.length : Int)))))) rfl rfl (lt_ok rfl) rfl) ?_
 refine TL.nil ?_
 refine T.seq ?_
 refine T.seq ?_
 refine T.region ?_
 refine TL.cons rfl (Step.move (p := (.one (.d (.int .i64 (k + (a.f2.length : Int)))))) rfl rfl (lt_ok rfl) rfl) ?_
 refine TL.cons rfl (Step.bin rfl rfl (lt_ok rfl) rfl rfl (Bin.lss (k := .i64) (a := (k + (a.f2.length : Int))) (b := 0))) ?_
 refine TL.known 10 (c := false) (decide_eq_false (by omega)) rfl ?_
 refine TL.nil ?_
 refine T.cond (b := false) rfl (fun h1_ => absurd h1_ (by simp)) (fun h1_ => ?_)
 refine T.skip ?_
 refine T.seq ?_
 refine T.region ?_
 refine TL.cons rfl (Step.fieldAddr (q := 0) (off := 4) (n := 1) (one := true) rfl rfl (lt_ok rfl) (by kernel_rfl) (Nat.succ_ne_zero _) rfl) ?_
 refine TL.cons rfl (Step.load_box (c := .d (.ints .u8 b.f4)) rfl rfl (lt_ok rfl) (by kernel_rfl) rfl rfl rfl) ?_
 refine TL.cons rfl (Step.move (p := (.one (.d (.int .i64 (k + (a.f2.length : Int)))))) rfl rfl (lt_ok rfl) rfl) ?_
 refine TL.cons rfl (Step.call (f := 33) (xs := [.tmp 12, .tmp 13]) (ps := [(.one (.d (.ints .u8 b.f4))), (.one (.d (.int .i64 (k + (a.f2.length : Int)))))]) false (g := .func 33) rfl rfl (lt_ok rfl) rfl (by kernel_rfl) rfl (.cons (.one (.d _)) (.cons (.one (.d _)) .nil)) (ok_laws_heldByteS a.f4 b.f4 (k + (a.f2.length : Int)) (by omega) (by first | omega | (have := (by assumption); omega)) (by first | rfl | assumption | (repeat' (first | rfl | apply And.intro)))) (.inr rfl) rfl (by simp) rfl) ?_
 refine TL.cons rfl (Step.assign (p := (.one (.d (.int .i64 ((k + (a.f2.length : Int)) + (a.f4.length : Int)))))) rfl rfl (lt_ok rfl) rfl) ?_
 refine TL.nil ?_
 refine T.seq ?_
 refine T.seq ?_
 refine T.region ?_
 refine TL.cons rfl (Step.move (p := (.one (.d (.int .i64 ((k + (a.f2.length : Int)) + (a.f4.length : Int)))))) rfl rfl (lt_ok rfl) rfl) ?_
 refine TL.cons rfl (Step.bin rfl rfl (lt_ok rfl) rfl rfl (Bin.lss (k := .i64) (a := ((k + (a.f2.length : Int)) + (a.f4.length : Int))) (b := 0))) ?_
 refine TL.known 16 (c := false) (decide_eq_false (by omega)) rfl ?_
 refine TL.nil ?_
 refine T.cond (b := false) rfl (fun h2_ => absurd h2_ (by simp)) (fun h2_ => ?_)
 refine T.skip ?_
 refine T.seq ?_
 refine T.region ?_
 refine TL.cons rfl (Step.move (p := (.one (.d (.int .i64 ((k + (a.f2.length : Int)) + (a.f4.length : Int)))))) rfl rfl (lt_ok rfl) rfl) ?_
 refine TL.cons rfl (Step.assign (p := (.one (.d (.int .i64 ((k + (a.f2.length : Int)) + (a.f4.length : Int)))))) rfl rfl (lt_ok rfl) rfl) ?_
 refine TL.nil ?_
 refine T.ret ?_
 exact ⟨[(false, [.d (.int .i64 ((k + (a.f2.length : Int)) + (a.f4.length : Int)))])], (.cons rfl .nil), rfl, [], (RetC.rd' (by first | rfl | (congr 1; simp only [SVote.cm]; omega)) .nil)⟩
theorem ok_laws_FnExactGetVote (aL : SLimits) (aB : List Int) (aAt : Int) (h0_ : aL.ok) (h1_ : U8s aB) (h2_ : I64 aAt) : RO Try.prog 12 [.agg aL.cells, .one (.ints .u8 aB), .one (.int .i64 aAt)] [(false, [.rd (.bool true)])] := by
 refine RO.intro Try.func12 rfl 127 rfl (le_ok rfl) fun w Z => ?_
 refine T.bnd 1 0 rfl rfl fun hb_1_0 => ?_
 simp only [D.size, List.length_map] at hb_1_0
 refine T.seq ?_
 refine T.region ?_
 refine TL.cons rfl (Step.box (p := (.agg [.d (.int .i64 aL.f0), .d (.int .i64 aL.f1), .d (.int .i64 aL.f2), .d (.int .i64 aL.f3), .d (.int .i64 aL.f4)])) (ps := [.d (.int .i64 aL.f0), .d (.int .i64 aL.f1), .d (.int .i64 aL.f2), .d (.int .i64 aL.f3), .d (.int .i64 aL.f4)]) rfl rfl (lt_ok rfl) rfl rfl rfl rfl rfl) ?_
 refine TL.cons rfl (Step.assign (p := (.one (.d (.bool false)))) rfl rfl (lt_ok rfl) rfl) ?_
 refine TL.nil ?_
 refine T.seq ?_
 refine T.seq ?_
 refine T.region ?_
 refine TL.cons rfl (Step.move (p := (.one (.d (.ints .u8 aB)))) rfl rfl (lt_ok rfl) rfl) ?_
 refine TL.cons rfl (Step.len (e := 5) (z := 1) (d := (.ints .u8 aB)) rfl rfl (lt_ok rfl) (by kernel_rfl) rfl rfl) ?_
 refine TL.cons rfl (Step.bin rfl rfl (lt_ok rfl) rfl rfl (Bin.gtr (k := .i64) (a := (aB.length : Int)) (b := 1048576))) ?_
 refine TL.nil ?_
 refine T.cond (b := decide (1048576 < (aB.length : Int))) rfl (fun h1 => ?_) (fun h1 => ?_)
 ·
  replace h1 := of_decide_eq_true h1
  refine T.seq ?_
  refine T.region ?_
  refine TL.cons rfl (Step.assign (p := (.one (.d (.bool true)))) rfl rfl (lt_ok rfl) rfl) ?_
  refine TL.nil ?_
  refine T.ret ?_
  exact ⟨[(false, [.d (.bool true)])], (.cons rfl .nil), rfl, [], (RetC.rd' (by rfl) .nil)⟩
 ·
  replace h1 := of_decide_eq_false h1
  refine T.skip ?_
  refine T.seq ?_
  refine T.region ?_
  refine TL.cons rfl (Step.load_box_agg (n := 5) (qs := [.d (.int .i64 aL.f0), .d (.int .i64 aL.f1), .d (.int .i64 aL.f2), .d (.int .i64 aL.f3), .d (.int .i64 aL.f4)]) rfl rfl (lt_ok rfl) (by kernel_rfl) rfl rfl rfl rfl) ?_
  refine TL.cons rfl (Step.call (f := 26) (xs := [.tmp 24]) (ps := [(.agg [.d (.int .i64 aL.f0), .d (.int .i64 aL.f1), .d (.int .i64 aL.f2), .d (.int .i64 aL.f3), .d (.int .i64 aL.f4)])]) false (g := .func 26) rfl rfl (lt_ok rfl) rfl (by kernel_rfl) rfl (.cons (.agg (.cons (.d _) (.cons (.d _) (.cons (.d _) (.cons (.d _) (.cons (.d _) .nil)))))) .nil) (ok_laws_toLimits aL) (.inr rfl) rfl (by simp) rfl) ?_
  refine TL.cons rfl (Step.move (p := (.one (.d (.ints .u8 aB)))) rfl rfl (lt_ok rfl) rfl) ?_
  refine TL.cons rfl (Step.call (f := 49) (xs := [.tmp 26]) (ps := [(.one (.d (.ints .u8 aB)))]) false (g := .func 49) rfl rfl (lt_ok rfl) rfl (by kernel_rfl) rfl (.cons (.one (.d _)) .nil) (ok_laws_toByteS aB (by first | omega | assumption | exact mem_getD h0_.2 (by omega))) (.inr rfl) rfl (by simp) rfl) ?_
  refine TL.cons rfl (Step.move (p := (.one (.d (.int .i64 aAt)))) rfl rfl (lt_ok rfl) rfl) ?_
  have nn2 := @getVote_sm aL aB aAt (by first | assumption | omega)
  refine TL.cons rfl (Step.call (f := 67) (xs := [.tmp 25, .tmp 27, .tmp 28]) (ps := [(.agg [.d (.int .i64 aL.f0), .d (.int .i64 aL.f1), .d (.int .i64 aL.f2), .d (.int .i64 aL.f3), .d (.int .i64 aL.f4)]), (.one (.row 1027 [])), (.one (.d (.int .i64 aAt)))]) false (g := .func 67) rfl rfl (lt_ok rfl) rfl (by kernel_rfl) rfl (.cons (.agg (.cons (.d _) (.cons (.d _) (.cons (.d _) (.cons (.d _) (.cons (.d _) .nil)))))) (.cons (.one (.row rfl rfl rfl rfl)) (.cons (.one (.d _)) .nil))) (ok_spec_GetVote aL aB aAt (by assumption) (by first | omega | assumption | (simp only [List.length_append] at *; omega))) (.inr rfl) rfl (by simp) rfl) ?_
  refine TL.cons rfl (Step.move (p := (.tup [(true, [.d (.int .i64 (getVote aL aB aAt).1.f0), .d (.int .i64 (getVote aL aB aAt).1.f1), .row 3029 [], .d (.int .i64 (getVote aL aB aAt).1.f3), .row 5029 []]), (false, [.d (.int .i64 (getVote aL aB aAt).2.1)]), (false, [.d (.int .i64 (getVote aL aB aAt).2.2)])])) rfl rfl (lt_ok rfl) rfl) ?_
  refine TL.cons rfl (Step.extract (p := (.agg [.d (.int .i64 (getVote aL aB aAt).1.f0), .d (.int .i64 (getVote aL aB aAt).1.f1), .row 3029 [], .d (.int .i64 (getVote aL aB aAt).1.f3), .row 5029 []])) rfl rfl (lt_ok rfl) rfl rfl) ?_
  refine TL.cons rfl (Step.extract (p := (.one (.d (.int .i64 (getVote aL aB aAt).2.1)))) rfl rfl (lt_ok rfl) rfl rfl) ?_
  refine TL.cons rfl (Step.extract (p := (.one (.d (.int .i64 (getVote aL aB aAt).2.2)))) rfl rfl (lt_ok rfl) rfl rfl) ?_
  refine TL.cons rfl (Step.alloc (cs := [.int .i64 0, .int .i64 0, .slice none 0 0, .int .i64 0, .slice none 0 0]) (ps := [.d (.int .i64 0), .d (.int .i64 0), .nil, .d (.int .i64 0), .nil]) rfl rfl (lt_ok rfl) (by kernel_rfl) rfl rfl rfl rfl) ?_
  refine TL.cons rfl (Step.store_box (n := 5) (p := (.agg [.d (.int .i64 (getVote aL aB aAt).1.f0), .d (.int .i64 (getVote aL aB aAt).1.f1), .row 3029 [], .d (.int .i64 (getVote aL aB aAt).1.f3), .row 5029 []])) (qs := [.d (.int .i64 (getVote aL aB aAt).1.f0), .d (.int .i64 (getVote aL aB aAt).1.f1), .row 3029 [], .d (.int .i64 (getVote aL aB aAt).1.f3), .row 5029 []]) (ps' := [.d (.int .i64 (getVote aL aB aAt).1.f0), .d (.int .i64 (getVote aL aB aAt).1.f1), .row 3029 [], .d (.int .i64 (getVote aL aB aAt).1.f3), .row 5029 []]) rfl rfl (by kernel_rfl) rfl rfl rfl rfl rfl rfl (le_ok rfl) rfl) ?_
  refine TL.cons rfl (Step.assign (p := (.one (.d (.int .i64 (getVote aL aB aAt).2.1)))) rfl rfl (lt_ok rfl) rfl) ?_
  refine TL.cons rfl (Step.assign (p := (.one (.d (.int .i64 (getVote aL aB aAt).2.2)))) rfl rfl (lt_ok rfl) rfl) ?_
  refine TL.nil ?_
  refine T.seq ?_
  refine T.region ?_
  refine TL.cons rfl (Step.move (p := (.one (.d (.ints .u8 aB)))) rfl rfl (lt_ok rfl) rfl) ?_
  refine TL.cons rfl (Step.call (f := 49) (xs := [.tmp 33]) (ps := [(.one (.d (.ints .u8 aB)))]) false (g := .func 49) rfl rfl (lt_ok rfl) rfl (by kernel_rfl) rfl (.cons (.one (.d _)) .nil) (ok_laws_toByteS aB (by first | omega | assumption | exact mem_getD h0_.2 (by omega))) (.inr rfl) rfl (by simp) rfl) ?_
  refine TL.cons rfl (Step.assign (p := (.one (.row 1034 []))) rfl rfl (lt_ok rfl) rfl) ?_
  refine TL.nil ?_
  refine T.seq ?_
  refine T.region ?_
  refine TL.cons rfl (Step.load_box_agg (n := 5) (qs := [.d (.int .i64 aL.f0), .d (.int .i64 aL.f1), .d (.int .i64 aL.f2), .d (.int .i64 aL.f3), .d (.int .i64 aL.f4)]) rfl rfl (lt_ok rfl) (by kernel_rfl) rfl rfl rfl rfl) ?_
  refine TL.cons rfl (Step.call (f := 26) (xs := [.tmp 36]) (ps := [(.agg [.d (.int .i64 aL.f0), .d (.int .i64 aL.f1), .d (.int .i64 aL.f2), .d (.int .i64 aL.f3), .d (.int .i64 aL.f4)])]) false (g := .func 26) rfl rfl (lt_ok rfl) rfl (by kernel_rfl) rfl (.cons (.agg (.cons (.d _) (.cons (.d _) (.cons (.d _) (.cons (.d _) (.cons (.d _) .nil)))))) .nil) (ok_laws_toLimits aL) (.inr rfl) rfl (by simp) rfl) ?_
  refine TL.cons rfl (Step.move (p := (.one (.row 1034 []))) rfl rfl (lt_ok rfl) rfl) ?_
  refine TL.cons rfl (Step.move (p := (.one (.d (.int .i64 aAt)))) rfl rfl (lt_ok rfl) rfl) ?_
  have nn3 := @getVote_sm aL aB aAt (by first | assumption | omega)
  refine TL.cons rfl (Step.call (f := 68) (xs := [.tmp 37, .tmp 38, .tmp 39]) (ps := [(.agg [.d (.int .i64 aL.f0), .d (.int .i64 aL.f1), .d (.int .i64 aL.f2), .d (.int .i64 aL.f3), .d (.int .i64 aL.f4)]), (.one (.row 1034 [])), (.one (.d (.int .i64 aAt)))]) false (g := .func 68) rfl rfl (lt_ok rfl) rfl (by kernel_rfl) rfl (.cons (.agg (.cons (.d _) (.cons (.d _) (.cons (.d _) (.cons (.d _) (.cons (.d _) .nil)))))) (.cons (.one (.row rfl rfl rfl rfl)) (.cons (.one (.d _)) .nil))) (ok_impl_GetVote aL aB aAt (by assumption) (by first | omega | assumption | (simp only [List.length_append] at *; omega))) (.inr rfl) rfl (by simp) rfl) ?_
  refine TL.cons rfl (Step.move (p := (.tup [(true, [.d (.int .i64 (getVote aL aB aAt).1.f0), .d (.int .i64 (getVote aL aB aAt).1.f1), .row 3040 [], .d (.int .i64 (getVote aL aB aAt).1.f3), .row 5040 []]), (false, [.d (.int .i64 (getVote aL aB aAt).2.1)]), (false, [.d (.int .i64 (getVote aL aB aAt).2.2)])])) rfl rfl (lt_ok rfl) rfl) ?_
  refine TL.cons rfl (Step.extract (p := (.agg [.d (.int .i64 (getVote aL aB aAt).1.f0), .d (.int .i64 (getVote aL aB aAt).1.f1), .row 3040 [], .d (.int .i64 (getVote aL aB aAt).1.f3), .row 5040 []])) rfl rfl (lt_ok rfl) rfl rfl) ?_
  refine TL.cons rfl (Step.extract (p := (.one (.d (.int .i64 (getVote aL aB aAt).2.1)))) rfl rfl (lt_ok rfl) rfl rfl) ?_
  refine TL.cons rfl (Step.extract (p := (.one (.d (.int .i64 (getVote aL aB aAt).2.2)))) rfl rfl (lt_ok rfl) rfl rfl) ?_
  refine TL.cons rfl (Step.alloc (cs := [.int .i64 0, .int .i64 0, .slice none 0 0, .int .i64 0, .slice none 0 0]) (ps := [.d (.int .i64 0), .d (.int .i64 0), .nil, .d (.int .i64 0), .nil]) rfl rfl (lt_ok rfl) (by kernel_rfl) rfl rfl rfl rfl) ?_
  refine TL.cons rfl (Step.store_box (n := 5) (p := (.agg [.d (.int .i64 (getVote aL aB aAt).1.f0), .d (.int .i64 (getVote aL aB aAt).1.f1), .row 3040 [], .d (.int .i64 (getVote aL aB aAt).1.f3), .row 5040 []])) (qs := [.d (.int .i64 (getVote aL aB aAt).1.f0), .d (.int .i64 (getVote aL aB aAt).1.f1), .row 3040 [], .d (.int .i64 (getVote aL aB aAt).1.f3), .row 5040 []]) (ps' := [.d (.int .i64 (getVote aL aB aAt).1.f0), .d (.int .i64 (getVote aL aB aAt).1.f1), .row 3040 [], .d (.int .i64 (getVote aL aB aAt).1.f3), .row 5040 []]) rfl rfl (by kernel_rfl) rfl rfl rfl rfl rfl rfl (le_ok rfl) rfl) ?_
  refine TL.cons rfl (Step.assign (p := (.one (.d (.int .i64 (getVote aL aB aAt).2.1)))) rfl rfl (lt_ok rfl) rfl) ?_
  refine TL.cons rfl (Step.assign (p := (.one (.d (.int .i64 (getVote aL aB aAt).2.2)))) rfl rfl (lt_ok rfl) rfl) ?_
  refine TL.nil ?_
  refine T.weaken (E' := { tm := [(1, (.one (.d (.ints .u8 aB)))), (2, (.one (.d (.int .i64 aAt)))), (3, (.one (.ptr 3 0))), (6, (.one (.d (.bool false)))), (7, (.one (.ptr 7 0))), (8, (.one (.d (.int .i64 (getVote aL aB aAt).2.1)))), (9, (.one (.d (.int .i64 (getVote aL aB aAt).2.2)))), (10, (.one (.row 1034 []))), (11, (.one (.ptr 11 0))), (12, (.one (.d (.int .i64 (getVote aL aB aAt).2.1)))), (13, (.one (.d (.int .i64 (getVote aL aB aAt).2.2))))], rows := [(3029, (5, (.ints .u8 (getVote aL aB aAt).1.f2))), (5029, (5, (.ints .u8 (getVote aL aB aAt).1.f4))), (1034, (5, (.ints .u8 aB))), (3040, (5, (.ints .u8 (getVote aL aB aAt).1.f2))), (5040, (5, (.ints .u8 (getVote aL aB aAt).1.f4)))], boxes := [(3, (37, [.d (.int .i64 aL.f0), .d (.int .i64 aL.f1), .d (.int .i64 aL.f2), .d (.int .i64 aL.f3), .d (.int .i64 aL.f4)])), (11, (64, [.d (.int .i64 (getVote aL aB aAt).1.f0), .d (.int .i64 (getVote aL aB aAt).1.f1), .row 3040 [], .d (.int .i64 (getVote aL aB aAt).1.f3), .row 5040 []])), (7, (64, [.d (.int .i64 (getVote aL aB aAt).1.f0), .d (.int .i64 (getVote aL aB aAt).1.f1), .row 3029 [], .d (.int .i64 (getVote aL aB aAt).1.f3), .row 5029 []]))] }) (Env.le_mk ⟨by kernel_rfl, by kernel_rfl, by kernel_rfl, by kernel_rfl, by kernel_rfl, by kernel_rfl, by kernel_rfl, by kernel_rfl, by kernel_rfl, by kernel_rfl, by kernel_rfl, trivial⟩ ⟨by kernel_rfl, by kernel_rfl, by kernel_rfl, by kernel_rfl, by kernel_rfl, trivial⟩ ⟨by kernel_rfl, by kernel_rfl, by kernel_rfl, trivial⟩) ?_
  refine T.seq ?_
  refine T.seq ?_
  refine T.region ?_
  refine TL.cons rfl (Step.load_box_agg (n := 5) (qs := [.d (.int .i64 (getVote aL aB aAt).1.f0), .d (.int .i64 (getVote aL aB aAt).1.f1), .row 3040 [], .d (.int .i64 (getVote aL aB aAt).1.f3), .row 5040 []]) rfl rfl (lt_ok rfl) (by kernel_rfl) rfl rfl rfl rfl) ?_
  refine TL.cons rfl (Step.load_box_agg (n := 5) (qs := [.d (.int .i64 (getVote aL aB aAt).1.f0), .d (.int .i64 (getVote aL aB aAt).1.f1), .row 3029 [], .d (.int .i64 (getVote aL aB aAt).1.f3), .row 5029 []]) rfl rfl (lt_ok rfl) (by kernel_rfl) rfl rfl rfl rfl) ?_
  refine TL.cons rfl (Step.call (f := 44) (xs := [.tmp 44, .tmp 45]) (ps := [(.agg [.d (.int .i64 (getVote aL aB aAt).1.f0), .d (.int .i64 (getVote aL aB aAt).1.f1), .row 3040 [], .d (.int .i64 (getVote aL aB aAt).1.f3), .row 5040 []]), (.agg [.d (.int .i64 (getVote aL aB aAt).1.f0), .d (.int .i64 (getVote aL aB aAt).1.f1), .row 3029 [], .d (.int .i64 (getVote aL aB aAt).1.f3), .row 5029 []])]) false (g := .func 44) rfl rfl (lt_ok rfl) rfl (by kernel_rfl) rfl (.cons (.agg (.cons (.d _) (.cons (.d _) (.cons (.row rfl rfl rfl rfl) (.cons (.d _) (.cons (.row rfl rfl rfl rfl) .nil)))))) (.cons (.agg (.cons (.d _) (.cons (.d _) (.cons (.row rfl rfl rfl rfl) (.cons (.d _) (.cons (.row rfl rfl rfl rfl) .nil)))))) .nil)) (ok_laws_eqVote (getVote aL aB aAt).1 (getVote aL aB aAt).1) (.inr rfl) rfl (by simp) rfl) ?_
  refine TL.known 46 (c := true) (by simp) rfl ?_
  refine TL.cons rfl (Step.not (b := true) rfl rfl (lt_ok rfl) rfl) ?_
  refine TL.cons rfl (Step.move (p := (.one (.d (.bool false)))) rfl rfl (lt_ok rfl) rfl) ?_
  refine TL.gyes 48 rfl rfl (lt_ok rfl) rfl (Step.move (p := (.one (.d (.int .i64 (getVote aL aB aAt).2.1)))) rfl rfl (lt_ok rfl) rfl) ?_
  refine TL.gyes 48 rfl rfl (lt_ok rfl) rfl (Step.move (p := (.one (.d (.int .i64 (getVote aL aB aAt).2.1)))) rfl rfl (lt_ok rfl) rfl) ?_
  refine TL.gyes 48 rfl rfl (lt_ok rfl) rfl (Step.bin rfl rfl (lt_ok rfl) rfl rfl (Bin.neq (k := .i64) (a := (getVote aL aB aAt).2.1) (b := (getVote aL aB aAt).2.1))) ?_
  refine TL.known 51 (c := false) (by simp) rfl ?_
  refine TL.cons rfl (Step.pick (b := false) (p := (.one (.d (.bool false)))) rfl rfl (lt_ok rfl) rfl rfl) ?_
  refine TL.cons rfl (Step.move (p := (.one (.d (.bool false)))) rfl rfl (lt_ok rfl) rfl) ?_
  refine TL.gyes 53 rfl rfl (lt_ok rfl) rfl (Step.move (p := (.one (.d (.int .i64 (getVote aL aB aAt).2.2)))) rfl rfl (lt_ok rfl) rfl) ?_
  refine TL.gyes 53 rfl rfl (lt_ok rfl) rfl (Step.move (p := (.one (.d (.int .i64 (getVote aL aB aAt).2.2)))) rfl rfl (lt_ok rfl) rfl) ?_
  refine TL.gyes 53 rfl rfl (lt_ok rfl) rfl (Step.bin rfl rfl (lt_ok rfl) rfl rfl (Bin.neq (k := .i64) (a := (getVote aL aB aAt).2.2) (b := (getVote aL aB aAt).2.2))) ?_
  refine TL.known 56 (c := false) (by simp) rfl ?_
  refine TL.cons rfl (Step.pick (b := false) (p := (.one (.d (.bool false)))) rfl rfl (lt_ok rfl) rfl rfl) ?_
  refine TL.nil ?_
  refine T.cond (b := false) rfl (fun h4_ => absurd h4_ (by simp)) (fun h4_ => ?_)
  refine T.skip ?_
  refine T.seq ?_
  refine T.seq ?_
  refine T.region ?_
  refine TL.cons rfl (Step.move (p := (.one (.row 1034 []))) rfl rfl (lt_ok rfl) rfl) ?_
  refine TL.cons rfl (Step.move (p := (.one (.d (.ints .u8 aB)))) rfl rfl (lt_ok rfl) rfl) ?_
  refine TL.cons rfl (Step.call (f := 49) (xs := [.tmp 59]) (ps := [(.one (.d (.ints .u8 aB)))]) false (g := .func 49) rfl rfl (lt_ok rfl) rfl (by kernel_rfl) rfl (.cons (.one (.d _)) .nil) (ok_laws_toByteS aB (by first | omega | assumption | exact mem_getD h0_.2 (by omega))) (.inr rfl) rfl (by simp) rfl) ?_
  refine TL.cons rfl (Step.call (f := 29) (xs := [.tmp 58, .tmp 60]) (ps := [(.one (.row 1034 [])), (.one (.row 1060 []))]) false (g := .func 29) rfl rfl (lt_ok rfl) rfl (by kernel_rfl) rfl (.cons (.one (.row rfl rfl rfl rfl)) (.cons (.one (.row rfl rfl rfl rfl)) .nil)) (ok_laws_eqByteS aB aB) (.inr rfl) rfl (by simp) rfl) ?_
  refine TL.known 61 (c := true) (by simp) rfl ?_
  refine TL.cons rfl (Step.not (b := true) rfl rfl (lt_ok rfl) rfl) ?_
  refine TL.nil ?_
  refine T.cond (b := false) rfl (fun h5_ => absurd h5_ (by simp)) (fun h5_ => ?_)
  refine T.skip ?_
  refine T.seq ?_
  refine T.region ?_
  refine TL.cons rfl (Step.assign (p := (.one (.d (.int .i64 1)))) rfl rfl (lt_ok rfl) rfl) ?_
  refine TL.nil ?_
  refine T.seq ?_
  refine T.region ?_
  refine TL.cons rfl (Step.move (p := (.one (.row 1034 []))) rfl rfl (lt_ok rfl) rfl) ?_
  refine TL.cons rfl (Step.move (p := (.one (.d (.int .i64 1)))) rfl rfl (lt_ok rfl) rfl) ?_
  refine TL.cons rfl (Step.callM (f := 32) (xs := [.tmp 63, .tmp 64]) (ps := [(.one (.row 1034 [])), (.one (.d (.int .i64 1)))]) (args := [.one (.mk (.ints .u8 aB) (.ints .u8 (mkB aB 1))), .one (.rd (.int .i64 1))]) (js := [(1034, (.ints .u8 (mkB aB 1)))]) (x := (.int .i64 (1 + (aB.length : Int)))) (g := .func 32) rfl rfl (lt_ok rfl) rfl (by kernel_rfl) rfl rfl (.row (T := 5) (d := (.ints .u8 aB)) (e' := (.ints .u8 (mkB aB 1))) (d' := (.ints .u8 (mkB aB 1))) rfl rfl rfl rfl rfl (by simp [D.size, mkL_length]) rfl rfl (.d .nil)) (ok_laws_markByteS aB 1 (by omega) (by first | omega | (have := (by assumption); omega))) rfl) ?_
  refine TL.cons rfl (Step.assign (p := (.one (.d (.int .i64 (1 + (aB.length : Int)))))) rfl rfl (lt_ok rfl) rfl) ?_
  refine TL.nil ?_
  refine T.seq ?_
  refine T.seq ?_
  refine T.region ?_
  refine TL.cons rfl (Step.move (p := (.one (.d (.int .i64 (1 + (aB.length : Int)))))) rfl rfl (lt_ok rfl) rfl) ?_
  refine TL.cons rfl (Step.bin rfl rfl (lt_ok rfl) rfl rfl (Bin.lss (k := .i64) (a := (1 + (aB.length : Int))) (b := 0))) ?_
  refine TL.known 67 (c := false) (decide_eq_false (by omega)) rfl ?_
  refine TL.cons rfl (Step.move (p := (.one (.d (.bool false)))) rfl rfl (lt_ok rfl) rfl) ?_
  refine TL.gyes 68 rfl rfl (lt_ok rfl) rfl (Step.load_box_agg (n := 5) (qs := [.d (.int .i64 (getVote aL aB aAt).1.f0), .d (.int .i64 (getVote aL aB aAt).1.f1), .row 3040 [], .d (.int .i64 (getVote aL aB aAt).1.f3), .row 5040 []]) rfl rfl (lt_ok rfl) (by kernel_rfl) rfl rfl rfl rfl) ?_
  refine TL.gyes 68 rfl rfl (lt_ok rfl) rfl (Step.load_box_agg (n := 5) (qs := [.d (.int .i64 (getVote aL aB aAt).1.f0), .d (.int .i64 (getVote aL aB aAt).1.f1), .row 3029 [], .d (.int .i64 (getVote aL aB aAt).1.f3), .row 5029 []]) rfl rfl (lt_ok rfl) (by kernel_rfl) rfl rfl rfl rfl) ?_
  refine TL.gyes 68 rfl rfl (lt_ok rfl) rfl (Step.call (f := 44) (xs := [.tmp 69, .tmp 70]) (ps := [(.agg [.d (.int .i64 (getVote aL aB aAt).1.f0), .d (.int .i64 (getVote aL aB aAt).1.f1), .row 3040 [], .d (.int .i64 (getVote aL aB aAt).1.f3), .row 5040 []]), (.agg [.d (.int .i64 (getVote aL aB aAt).1.f0), .d (.int .i64 (getVote aL aB aAt).1.f1), .row 3029 [], .d (.int .i64 (getVote aL aB aAt).1.f3), .row 5029 []])]) false (g := .func 44) rfl rfl (lt_ok rfl) rfl (by kernel_rfl) rfl (.cons (.agg (.cons (.d _) (.cons (.d _) (.cons (.row rfl rfl rfl rfl) (.cons (.d _) (.cons (.row rfl rfl rfl rfl) .nil)))))) (.cons (.agg (.cons (.d _) (.cons (.d _) (.cons (.row rfl rfl rfl rfl) (.cons (.d _) (.cons (.row rfl rfl rfl rfl) .nil)))))) .nil)) (ok_laws_eqVote (getVote aL aB aAt).1 (getVote aL aB aAt).1) (.inr rfl) rfl (by simp) rfl) ?_
  refine TL.known 71 (c := true) (by simp) rfl ?_
  refine TL.gyes 68 rfl rfl (lt_ok rfl) rfl (Step.not (b := true) rfl rfl (lt_ok rfl) rfl) ?_
  refine TL.cons rfl (Step.pick (b := false) (p := (.one (.d (.bool false)))) rfl rfl (lt_ok rfl) rfl rfl) ?_
  refine TL.cons rfl (Step.move (p := (.one (.d (.bool false)))) rfl rfl (lt_ok rfl) rfl) ?_
  refine TL.gyes 74 rfl rfl (lt_ok rfl) rfl (Step.move (p := (.one (.d (.int .i64 (getVote aL aB aAt).2.1)))) rfl rfl (lt_ok rfl) rfl) ?_
  refine TL.gyes 74 rfl rfl (lt_ok rfl) rfl (Step.move (p := (.one (.d (.int .i64 (getVote aL aB aAt).2.1)))) rfl rfl (lt_ok rfl) rfl) ?_
  refine TL.gyes 74 rfl rfl (lt_ok rfl) rfl (Step.bin rfl rfl (lt_ok rfl) rfl rfl (Bin.neq (k := .i64) (a := (getVote aL aB aAt).2.1) (b := (getVote aL aB aAt).2.1))) ?_
  refine TL.known 77 (c := false) (by simp) rfl ?_
  refine TL.cons rfl (Step.pick (b := false) (p := (.one (.d (.bool false)))) rfl rfl (lt_ok rfl) rfl rfl) ?_
  refine TL.cons rfl (Step.move (p := (.one (.d (.bool false)))) rfl rfl (lt_ok rfl) rfl) ?_
  refine TL.gyes 79 rfl rfl (lt_ok rfl) rfl (Step.move (p := (.one (.d (.int .i64 (getVote aL aB aAt).2.2)))) rfl rfl (lt_ok rfl) rfl) ?_
  refine TL.gyes 79 rfl rfl (lt_ok rfl) rfl (Step.move (p := (.one (.d (.int .i64 (getVote aL aB aAt).2.2)))) rfl rfl (lt_ok rfl) rfl) ?_
  refine TL.gyes 79 rfl rfl (lt_ok rfl) rfl (Step.bin rfl rfl (lt_ok rfl) rfl rfl (Bin.neq (k := .i64) (a := (getVote aL aB aAt).2.2) (b := (getVote aL aB aAt).2.2))) ?_
  refine TL.known 82 (c := false) (by simp) rfl ?_
  refine TL.cons rfl (Step.pick (b := false) (p := (.one (.d (.bool false)))) rfl rfl (lt_ok rfl) rfl rfl) ?_
  refine TL.nil ?_
  refine T.cond (b := false) rfl (fun h6_ => absurd h6_ (by simp)) (fun h6_ => ?_)
  refine T.skip ?_
  refine T.weaken (E' := { tm := [(1, (.one (.d (.ints .u8 aB)))), (2, (.one (.d (.int .i64 aAt)))), (3, (.one (.ptr 3 0))), (6, (.one (.d (.bool false)))), (7, (.one (.ptr 7 0))), (8, (.one (.d (.int .i64 (getVote aL aB aAt).2.1)))), (9, (.one (.d (.int .i64 (getVote aL aB aAt).2.2)))), (11, (.one (.ptr 11 0)))], rows := [(3029, (5, (.ints .u8 (getVote aL aB aAt).1.f2))), (5029, (5, (.ints .u8 (getVote aL aB aAt).1.f4))), (3040, (5, (.ints .u8 (getVote aL aB aAt).1.f2))), (5040, (5, (.ints .u8 (getVote aL aB aAt).1.f4)))], boxes := [(3, (37, [.d (.int .i64 aL.f0), .d (.int .i64 aL.f1), .d (.int .i64 aL.f2), .d (.int .i64 aL.f3), .d (.int .i64 aL.f4)])), (11, (64, [.d (.int .i64 (getVote aL aB aAt).1.f0), .d (.int .i64 (getVote aL aB aAt).1.f1), .row 3040 [], .d (.int .i64 (getVote aL aB aAt).1.f3), .row 5040 []])), (7, (64, [.d (.int .i64 (getVote aL aB aAt).1.f0), .d (.int .i64 (getVote aL aB aAt).1.f1), .row 3029 [], .d (.int .i64 (getVote aL aB aAt).1.f3), .row 5029 []]))] }) (Env.le_mk ⟨by kernel_rfl, by kernel_rfl, by kernel_rfl, by kernel_rfl, by kernel_rfl, by kernel_rfl, by kernel_rfl, by kernel_rfl, trivial⟩ ⟨by kernel_rfl, by kernel_rfl, by kernel_rfl, by kernel_rfl, trivial⟩ ⟨by kernel_rfl, by kernel_rfl, by kernel_rfl, trivial⟩) ?_
  refine T.seq ?_
  refine T.region ?_
  refine TL.cons rfl (Step.assign (p := (.one (.d (.int .i64 1)))) rfl rfl (lt_ok rfl) rfl) ?_
  refine TL.nil ?_
  refine T.seq ?_
  refine T.region ?_
  refine TL.cons rfl (Step.load_box_agg (n := 5) (qs := [.d (.int .i64 (getVote aL aB aAt).1.f0), .d (.int .i64 (getVote aL aB aAt).1.f1), .row 3040 [], .d (.int .i64 (getVote aL aB aAt).1.f3), .row 5040 []]) rfl rfl (lt_ok rfl) (by kernel_rfl) rfl rfl rfl rfl) ?_
  refine TL.cons rfl (Step.move (p := (.one (.d (.int .i64 1)))) rfl rfl (lt_ok rfl) rfl) ?_
  have nn7 := SVote.cm_nn (getVote aL aB aAt).1
  refine TL.cons rfl (Step.callM (f := 45) (xs := [.tmp 84, .tmp 85]) (ps := [(.agg [.d (.int .i64 (getVote aL aB aAt).1.f0), .d (.int .i64 (getVote aL aB aAt).1.f1), .row 3040 [], .d (.int .i64 (getVote aL aB aAt).1.f3), .row 5040 []]), (.one (.d (.int .i64 1)))]) (args := [.agg [.rd (.int .i64 (getVote aL aB aAt).1.f0), .rd (.int .i64 (getVote aL aB aAt).1.f1), .mk (.ints .u8 (getVote aL aB aAt).1.f2) (.ints .u8 (mkB (getVote aL aB aAt).1.f2 1)), .rd (.int .i64 (getVote aL aB aAt).1.f3), .mk (.ints .u8 (getVote aL aB aAt).1.f4) (.ints .u8 (mkB (getVote aL aB aAt).1.f4 (1 + ((getVote aL aB aAt).1.f2.length : Int))))], .one (.rd (.int .i64 1))]) (js := [(3040, (.ints .u8 (mkB (getVote aL aB aAt).1.f2 1))), (5040, (.ints .u8 (mkB (getVote aL aB aAt).1.f4 (1 + ((getVote aL aB aAt).1.f2.length : Int)))))]) (x := (.int .i64 (1 + (getVote aL aB aAt).1.cm))) (g := .func 45) rfl rfl (lt_ok rfl) rfl (by kernel_rfl) rfl rfl (.d (.d (.row (T := 5) (d := (.ints .u8 (getVote aL aB aAt).1.f2)) (e' := (.ints .u8 (mkB (getVote aL aB aAt).1.f2 1))) (d' := (.ints .u8 (mkB (getVote aL aB aAt).1.f2 1))) rfl rfl rfl rfl rfl (by simp [D.size, mkL_length]) rfl rfl (.d (.row (T := 5) (d := (.ints .u8 (getVote aL aB aAt).1.f4)) (e' := (.ints .u8 (mkB (getVote aL aB aAt).1.f4 (1 + ((getVote aL aB aAt).1.f2.length : Int))))) (d' := (.ints .u8 (mkB (getVote aL aB aAt).1.f4 (1 + ((getVote aL aB aAt).1.f2.length : Int))))) rfl rfl rfl rfl rfl (by simp [D.size, mkL_length]) rfl rfl (.d .nil)))))) (ok_laws_markVote (getVote aL aB aAt).1 1 (by omega) (by first | omega | (have := SVote.cm_le (x := (getVote aL aB aAt).1) (by assumption); omega))) rfl) ?_
  refine TL.cons rfl (Step.assign (p := (.one (.d (.int .i64 (1 + (getVote aL aB aAt).1.cm))))) rfl rfl (lt_ok rfl) rfl) ?_
  refine TL.nil ?_
  refine T.seq ?_
  refine T.region ?_
  refine TL.cons rfl (Step.assign (p := (.one (.d (.int .i64 1)))) rfl rfl (lt_ok rfl) rfl) ?_
  refine TL.nil ?_
  refine T.seq ?_
  refine T.region ?_
  refine TL.cons rfl (Step.load_box_agg (n := 5) (qs := [.d (.int .i64 (getVote aL aB aAt).1.f0), .d (.int .i64 (getVote aL aB aAt).1.f1), .row 3040 [], .d (.int .i64 (getVote aL aB aAt).1.f3), .row 5040 []]) rfl rfl (lt_ok rfl) (by kernel_rfl) rfl rfl rfl rfl) ?_
  refine TL.cons rfl (Step.move (p := (.one (.d (.int .i64 1)))) rfl rfl (lt_ok rfl) rfl) ?_
  have nn8 := SVote.cm_nn (getVote aL aB aAt).1
  refine TL.cons rfl (Step.call (f := 69) (xs := [.tmp 87, .tmp 88]) (ps := [(.agg [.d (.int .i64 (getVote aL aB aAt).1.f0), .d (.int .i64 (getVote aL aB aAt).1.f1), .row 3040 [], .d (.int .i64 (getVote aL aB aAt).1.f3), .row 5040 []]), (.one (.d (.int .i64 1)))]) false (g := .func 69) rfl rfl (lt_ok rfl) rfl (by kernel_rfl) rfl (.cons (.agg (.cons (.d _) (.cons (.d _) (.cons (.row rfl rfl rfl rfl) (.cons (.d _) (.cons (.row rfl rfl rfl rfl) .nil)))))) (.cons (.one (.d _)) .nil)) (ok_laws_heldVote (getVote aL aB aAt).1 (⟨(getVote aL aB aAt).1.f0, (getVote aL aB aAt).1.f1, mkB (getVote aL aB aAt).1.f2 1, (getVote aL aB aAt).1.f3, mkB (getVote aL aB aAt).1.f4 (1 + ((getVote aL aB aAt).1.f2.length : Int))⟩ : SVote) 1 (by omega) (by first | omega | (have := SVote.cm_le (x := (getVote aL aB aAt).1) (by assumption); omega)) (by first | rfl | assumption | (repeat' (first | rfl | apply And.intro)))) (.inr rfl) rfl (by simp) rfl) ?_
  refine TL.cons rfl (Step.assign (p := (.one (.d (.int .i64 (1 + (getVote aL aB aAt).1.cm))))) rfl rfl (lt_ok rfl) rfl) ?_
  refine TL.nil ?_
  refine T.seq ?_
  refine T.seq ?_
  refine T.region ?_
  refine TL.cons rfl (Step.move (p := (.one (.d (.int .i64 (1 + (getVote aL aB aAt).1.cm))))) rfl rfl (lt_ok rfl) rfl) ?_
  refine TL.cons rfl (Step.bin rfl rfl (lt_ok rfl) rfl rfl (Bin.lss (k := .i64) (a := (1 + (getVote aL aB aAt).1.cm)) (b := 0))) ?_
  refine TL.known 91 (c := false) (decide_eq_false (by omega)) rfl ?_
  refine TL.nil ?_
  refine T.cond (b := false) rfl (fun h9_ => absurd h9_ (by simp)) (fun h9_ => ?_)
  refine T.skip ?_
  refine T.seq ?_
  refine T.seq ?_
  refine T.region ?_
  refine TL.cons rfl (Step.move (p := (.one (.d (.int .i64 (1 + (getVote aL aB aAt).1.cm))))) rfl rfl (lt_ok rfl) rfl) ?_
  refine TL.cons rfl (Step.move (p := (.one (.d (.int .i64 (1 + (getVote aL aB aAt).1.cm))))) rfl rfl (lt_ok rfl) rfl) ?_
  refine TL.cons rfl (Step.bin rfl rfl (lt_ok rfl) rfl rfl (Bin.neq (k := .i64) (a := (1 + (getVote aL aB aAt).1.cm)) (b := (1 + (getVote aL aB aAt).1.cm)))) ?_
  refine TL.known 94 (c := false) (by simp) rfl ?_
  refine TL.nil ?_
  refine T.cond (b := false) rfl (fun h10_ => absurd h10_ (by simp)) (fun h10_ => ?_)
  refine T.skip ?_
  refine T.seq ?_
  refine T.region ?_
  refine TL.cons rfl (Step.load_box_agg (n := 5) (qs := [.d (.int .i64 aL.f0), .d (.int .i64 aL.f1), .d (.int .i64 aL.f2), .d (.int .i64 aL.f3), .d (.int .i64 aL.f4)]) rfl rfl (lt_ok rfl) (by kernel_rfl) rfl rfl rfl rfl) ?_
  refine TL.cons rfl (Step.call (f := 26) (xs := [.tmp 96]) (ps := [(.agg [.d (.int .i64 aL.f0), .d (.int .i64 aL.f1), .d (.int .i64 aL.f2), .d (.int .i64 aL.f3), .d (.int .i64 aL.f4)])]) false (g := .func 26) rfl rfl (lt_ok rfl) rfl (by kernel_rfl) rfl (.cons (.agg (.cons (.d _) (.cons (.d _) (.cons (.d _) (.cons (.d _) (.cons (.d _) .nil)))))) .nil) (ok_laws_toLimits aL) (.inr rfl) rfl (by simp) rfl) ?_
  refine TL.cons rfl (Step.move (p := (.one (.d (.ints .u8 aB)))) rfl rfl (lt_ok rfl) rfl) ?_
  refine TL.cons rfl (Step.call (f := 49) (xs := [.tmp 98]) (ps := [(.one (.d (.ints .u8 aB)))]) false (g := .func 49) rfl rfl (lt_ok rfl) rfl (by kernel_rfl) rfl (.cons (.one (.d _)) .nil) (ok_laws_toByteS aB (by first | omega | assumption | exact mem_getD h0_.2 (by omega))) (.inr rfl) rfl (by simp) rfl) ?_
  refine TL.cons rfl (Step.move (p := (.one (.d (.int .i64 aAt)))) rfl rfl (lt_ok rfl) rfl) ?_
  have nn11 := @getVote_sm aL aB aAt (by first | assumption | omega)
  refine TL.cons rfl (Step.call (f := 68) (xs := [.tmp 97, .tmp 99, .tmp 100]) (ps := [(.agg [.d (.int .i64 aL.f0), .d (.int .i64 aL.f1), .d (.int .i64 aL.f2), .d (.int .i64 aL.f3), .d (.int .i64 aL.f4)]), (.one (.row 1099 [])), (.one (.d (.int .i64 aAt)))]) false (g := .func 68) rfl rfl (lt_ok rfl) rfl (by kernel_rfl) rfl (.cons (.agg (.cons (.d _) (.cons (.d _) (.cons (.d _) (.cons (.d _) (.cons (.d _) .nil)))))) (.cons (.one (.row rfl rfl rfl rfl)) (.cons (.one (.d _)) .nil))) (ok_impl_GetVote aL aB aAt (by assumption) (by first | omega | assumption | (simp only [List.length_append] at *; omega))) (.inr rfl) rfl (by simp) rfl) ?_
  refine TL.cons rfl (Step.move (p := (.tup [(true, [.d (.int .i64 (getVote aL aB aAt).1.f0), .d (.int .i64 (getVote aL aB aAt).1.f1), .row 3101 [], .d (.int .i64 (getVote aL aB aAt).1.f3), .row 5101 []]), (false, [.d (.int .i64 (getVote aL aB aAt).2.1)]), (false, [.d (.int .i64 (getVote aL aB aAt).2.2)])])) rfl rfl (lt_ok rfl) rfl) ?_
  refine TL.cons rfl (Step.extract (p := (.agg [.d (.int .i64 (getVote aL aB aAt).1.f0), .d (.int .i64 (getVote aL aB aAt).1.f1), .row 3101 [], .d (.int .i64 (getVote aL aB aAt).1.f3), .row 5101 []])) rfl rfl (lt_ok rfl) rfl rfl) ?_
  refine TL.cons rfl (Step.extract (p := (.one (.d (.int .i64 (getVote aL aB aAt).2.1)))) rfl rfl (lt_ok rfl) rfl rfl) ?_
  refine TL.cons rfl (Step.extract (p := (.one (.d (.int .i64 (getVote aL aB aAt).2.2)))) rfl rfl (lt_ok rfl) rfl rfl) ?_
  refine TL.cons rfl (Step.alloc (cs := [.int .i64 0, .int .i64 0, .slice none 0 0, .int .i64 0, .slice none 0 0]) (ps := [.d (.int .i64 0), .d (.int .i64 0), .nil, .d (.int .i64 0), .nil]) rfl rfl (lt_ok rfl) (by kernel_rfl) rfl rfl rfl rfl) ?_
  refine TL.cons rfl (Step.store_box (n := 5) (p := (.agg [.d (.int .i64 (getVote aL aB aAt).1.f0), .d (.int .i64 (getVote aL aB aAt).1.f1), .row 3101 [], .d (.int .i64 (getVote aL aB aAt).1.f3), .row 5101 []])) (qs := [.d (.int .i64 (getVote aL aB aAt).1.f0), .d (.int .i64 (getVote aL aB aAt).1.f1), .row 3101 [], .d (.int .i64 (getVote aL aB aAt).1.f3), .row 5101 []]) (ps' := [.d (.int .i64 (getVote aL aB aAt).1.f0), .d (.int .i64 (getVote aL aB aAt).1.f1), .row 3101 [], .d (.int .i64 (getVote aL aB aAt).1.f3), .row 5101 []]) rfl rfl (by kernel_rfl) rfl rfl rfl rfl rfl rfl (le_ok rfl) rfl) ?_
  refine TL.cons rfl (Step.assign (p := (.one (.d (.int .i64 (getVote aL aB aAt).2.1)))) rfl rfl (lt_ok rfl) rfl) ?_
  refine TL.cons rfl (Step.assign (p := (.one (.d (.int .i64 (getVote aL aB aAt).2.2)))) rfl rfl (lt_ok rfl) rfl) ?_
  refine TL.nil ?_
  refine T.seq ?_
  refine T.seq ?_
  refine T.region ?_
  refine TL.cons rfl (Step.load_box_agg (n := 5) (qs := [.d (.int .i64 (getVote aL aB aAt).1.f0), .d (.int .i64 (getVote aL aB aAt).1.f1), .row 3101 [], .d (.int .i64 (getVote aL aB aAt).1.f3), .row 5101 []]) rfl rfl (lt_ok rfl) (by kernel_rfl) rfl rfl rfl rfl) ?_
  refine TL.cons rfl (Step.load_box_agg (n := 5) (qs := [.d (.int .i64 (getVote aL aB aAt).1.f0), .d (.int .i64 (getVote aL aB aAt).1.f1), .row 3029 [], .d (.int .i64 (getVote aL aB aAt).1.f3), .row 5029 []]) rfl rfl (lt_ok rfl) (by kernel_rfl) rfl rfl rfl rfl) ?_
  refine TL.cons rfl (Step.call (f := 44) (xs := [.tmp 105, .tmp 106]) (ps := [(.agg [.d (.int .i64 (getVote aL aB aAt).1.f0), .d (.int .i64 (getVote aL aB aAt).1.f1), .row 3101 [], .d (.int .i64 (getVote aL aB aAt).1.f3), .row 5101 []]), (.agg [.d (.int .i64 (getVote aL aB aAt).1.f0), .d (.int .i64 (getVote aL aB aAt).1.f1), .row 3029 [], .d (.int .i64 (getVote aL aB aAt).1.f3), .row 5029 []])]) false (g := .func 44) rfl rfl (lt_ok rfl) rfl (by kernel_rfl) rfl (.cons (.agg (.cons (.d _) (.cons (.d _) (.cons (.row rfl rfl rfl rfl) (.cons (.d _) (.cons (.row rfl rfl rfl rfl) .nil)))))) (.cons (.agg (.cons (.d _) (.cons (.d _) (.cons (.row rfl rfl rfl rfl) (.cons (.d _) (.cons (.row rfl rfl rfl rfl) .nil)))))) .nil)) (ok_laws_eqVote (getVote aL aB aAt).1 (getVote aL aB aAt).1) (.inr rfl) rfl (by simp) rfl) ?_
  refine TL.known 107 (c := true) (by simp) rfl ?_
  refine TL.cons rfl (Step.not (b := true) rfl rfl (lt_ok rfl) rfl) ?_
  refine TL.cons rfl (Step.move (p := (.one (.d (.bool false)))) rfl rfl (lt_ok rfl) rfl) ?_
  refine TL.gyes 109 rfl rfl (lt_ok rfl) rfl (Step.move (p := (.one (.d (.int .i64 (getVote aL aB aAt).2.1)))) rfl rfl (lt_ok rfl) rfl) ?_
  refine TL.gyes 109 rfl rfl (lt_ok rfl) rfl (Step.move (p := (.one (.d (.int .i64 (getVote aL aB aAt).2.1)))) rfl rfl (lt_ok rfl) rfl) ?_
  refine TL.gyes 109 rfl rfl (lt_ok rfl) rfl (Step.bin rfl rfl (lt_ok rfl) rfl rfl (Bin.neq (k := .i64) (a := (getVote aL aB aAt).2.1) (b := (getVote aL aB aAt).2.1))) ?_
  refine TL.known 112 (c := false) (by simp) rfl ?_
  refine TL.cons rfl (Step.pick (b := false) (p := (.one (.d (.bool false)))) rfl rfl (lt_ok rfl) rfl rfl) ?_
  refine TL.cons rfl (Step.move (p := (.one (.d (.bool false)))) rfl rfl (lt_ok rfl) rfl) ?_
  refine TL.gyes 114 rfl rfl (lt_ok rfl) rfl (Step.move (p := (.one (.d (.int .i64 (getVote aL aB aAt).2.2)))) rfl rfl (lt_ok rfl) rfl) ?_
  refine TL.gyes 114 rfl rfl (lt_ok rfl) rfl (Step.move (p := (.one (.d (.int .i64 (getVote aL aB aAt).2.2)))) rfl rfl (lt_ok rfl) rfl) ?_
  refine TL.gyes 114 rfl rfl (lt_ok rfl) rfl (Step.bin rfl rfl (lt_ok rfl) rfl rfl (Bin.neq (k := .i64) (a := (getVote aL aB aAt).2.2) (b := (getVote aL aB aAt).2.2))) ?_
  refine TL.known 117 (c := false) (by simp) rfl ?_
  refine TL.cons rfl (Step.pick (b := false) (p := (.one (.d (.bool false)))) rfl rfl (lt_ok rfl) rfl rfl) ?_
  refine TL.nil ?_
  refine T.weaken (E' := { tm := [(6, (.one (.d (.bool false)))), (11, (.one (.ptr 11 0))), (15, (.one (.d (.int .i64 (1 + (getVote aL aB aAt).1.cm))))), (16, (.one (.d (.int .i64 (1 + (getVote aL aB aAt).1.cm))))), (118, (.one (.d (.bool false))))], rows := [(3040, (5, (.ints .u8 (mkB (getVote aL aB aAt).1.f2 1)))), (5040, (5, (.ints .u8 (mkB (getVote aL aB aAt).1.f4 (1 + ((getVote aL aB aAt).1.f2.length : Int))))))], boxes := [(11, (64, [.d (.int .i64 (getVote aL aB aAt).1.f0), .d (.int .i64 (getVote aL aB aAt).1.f1), .row 3040 [], .d (.int .i64 (getVote aL aB aAt).1.f3), .row 5040 []]))] }) (Env.le_mk ⟨by kernel_rfl, by kernel_rfl, by kernel_rfl, by kernel_rfl, by kernel_rfl, trivial⟩ ⟨by kernel_rfl, by kernel_rfl, trivial⟩ ⟨by kernel_rfl, trivial⟩) ?_
  refine T.cond (b := false) rfl (fun h12_ => absurd h12_ (by simp)) (fun h12_ => ?_)
  refine T.skip ?_
  refine T.seq ?_
  refine T.region ?_
  refine TL.cons rfl (Step.assign (p := (.one (.d (.int .i64 1)))) rfl rfl (lt_ok rfl) rfl) ?_
  refine TL.nil ?_
  refine T.seq ?_
  refine T.region ?_
  refine TL.cons rfl (Step.load_box_agg (n := 5) (qs := [.d (.int .i64 (getVote aL aB aAt).1.f0), .d (.int .i64 (getVote aL aB aAt).1.f1), .row 3040 [], .d (.int .i64 (getVote aL aB aAt).1.f3), .row 5040 []]) rfl rfl (lt_ok rfl) (by kernel_rfl) rfl rfl rfl rfl) ?_
  refine TL.cons rfl (Step.move (p := (.one (.d (.int .i64 1)))) rfl rfl (lt_ok rfl) rfl) ?_
  have nn13 := SVote.cm_nn (getVote aL aB aAt).1
  refine TL.cons rfl (Step.call (f := 69) (xs := [.tmp 119, .tmp 120]) (ps := [(.agg [.d (.int .i64 (getVote aL aB aAt).1.f0), .d (.int .i64 (getVote aL aB aAt).1.f1), .row 3040 [], .d (.int .i64 (getVote aL aB aAt).1.f3), .row 5040 []]), (.one (.d (.int .i64 1)))]) false (g := .func 69) rfl rfl (lt_ok rfl) rfl (by kernel_rfl) rfl (.cons (.agg (.cons (.d _) (.cons (.d _) (.cons (.row rfl rfl rfl rfl) (.cons (.d _) (.cons (.row rfl rfl rfl rfl) .nil)))))) (.cons (.one (.d _)) .nil)) (ok_laws_heldVote (getVote aL aB aAt).1 (⟨(getVote aL aB aAt).1.f0, (getVote aL aB aAt).1.f1, mkB (getVote aL aB aAt).1.f2 1, (getVote aL aB aAt).1.f3, mkB (getVote aL aB aAt).1.f4 (1 + ((getVote aL aB aAt).1.f2.length : Int))⟩ : SVote) 1 (by omega) (by first | omega | (have := SVote.cm_le (x := (getVote aL aB aAt).1) (by assumption); omega)) (by first | rfl | assumption | (repeat' (first | rfl | apply And.intro)))) (.inr rfl) rfl (by simp) rfl) ?_
  refine TL.cons rfl (Step.assign (p := (.one (.d (.int .i64 (1 + (getVote aL aB aAt).1.cm))))) rfl rfl (lt_ok rfl) rfl) ?_
  refine TL.nil ?_
  refine T.seq ?_
  refine T.seq ?_
  refine T.region ?_
  refine TL.cons rfl (Step.move (p := (.one (.d (.int .i64 (1 + (getVote aL aB aAt).1.cm))))) rfl rfl (lt_ok rfl) rfl) ?_
  refine TL.cons rfl (Step.bin rfl rfl (lt_ok rfl) rfl rfl (Bin.lss (k := .i64) (a := (1 + (getVote aL aB aAt).1.cm)) (b := 0))) ?_
  refine TL.known 123 (c := false) (decide_eq_false (by omega)) rfl ?_
  refine TL.nil ?_
  refine T.cond (b := false) rfl (fun h14_ => absurd h14_ (by simp)) (fun h14_ => ?_)
  refine T.skip ?_
  refine T.seq ?_
  refine T.seq ?_
  refine T.region ?_
  refine TL.cons rfl (Step.move (p := (.one (.d (.int .i64 (1 + (getVote aL aB aAt).1.cm))))) rfl rfl (lt_ok rfl) rfl) ?_
  refine TL.cons rfl (Step.move (p := (.one (.d (.int .i64 (1 + (getVote aL aB aAt).1.cm))))) rfl rfl (lt_ok rfl) rfl) ?_
  refine TL.cons rfl (Step.bin rfl rfl (lt_ok rfl) rfl rfl (Bin.neq (k := .i64) (a := (1 + (getVote aL aB aAt).1.cm)) (b := (1 + (getVote aL aB aAt).1.cm)))) ?_
  refine TL.known 126 (c := false) (by simp) rfl ?_
  refine TL.nil ?_
  refine T.cond (b := false) rfl (fun h15_ => absurd h15_ (by simp)) (fun h15_ => ?_)
  refine T.skip ?_
  refine T.seq ?_
  refine T.region ?_
  refine TL.cons rfl (Step.assign (p := (.one (.d (.bool true)))) rfl rfl (lt_ok rfl) rfl) ?_
  refine TL.nil ?_
  refine T.ret ?_
  exact ⟨[(false, [.d (.bool true)])], (.cons rfl .nil), rfl, [], (RetC.rd' (by rfl) .nil)⟩
end Go.Proofs.Ythaagegnobegjaa.Rf
